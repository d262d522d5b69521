/- Models and contracts, printed by program. -/
import Derived.Test.YtdgkahieegcmeaaDoorTypes
set_option linter.unusedVariables false
set_option linter.unusedSimpArgs false
set_option linter.unusedSectionVars false
set_option maxHeartbeats 2000000
namespace Go.Proofs.YtdgkahieegcmeaaDoor.AWN
open Go Go.Proofs.Tryd

def eIntu8 (x : Int) : List D := [.int .u8 x]
@[simp] theorem eIntu8_len (x : Int) : (eIntu8 x).length = 1 := rfl
theorem eIntu8_flat (x : Int) : ∀ c ∈ eIntu8 x, c.flat := by simp [eIntu8, D.flat]
structure SL00Src where
  code : List Int
  at_ : Int
  seed : Int
deriving DecidableEq
structure SPhases where
  A : Cx
  B : Cx
  C : Cx
deriving DecidableEq
structure SBus where
  Parent : Int
  Own : Cx
  Shared : Cx
  Kind : Int
  Load : SPhases
  Customers : Int
deriving DecidableEq
def eSBus (x : SBus) : List D := [.int .i64 x.Parent, .cx .f32 x.Own.re x.Own.im, .cx .f32 x.Shared.re x.Shared.im, .int .i64 x.Kind, .cx .f32 x.Load.A.re x.Load.A.im, .cx .f32 x.Load.B.re x.Load.B.im, .cx .f32 x.Load.C.re x.Load.C.im, .int .i64 x.Customers]
@[simp] theorem eSBus_len (x : SBus) : (eSBus x).length = 8 := rfl
theorem eSBus_flat (x : SBus) : ∀ c ∈ eSBus x, c.flat := by simp [eSBus, D.flat]
def eInti64 (x : Int) : List D := [.int .i64 x]
@[simp] theorem eInti64_len (x : Int) : (eInti64 x).length = 1 := rfl
theorem eInti64_flat (x : Int) : ∀ c ∈ eInti64 x, c.flat := by simp [eInti64, D.flat]
structure SFeeder where
  Source : SPhases
  Buses : List SBus
deriving DecidableEq
structure STap where
  Bus : Int
  A : Int
  B : Int
  C : Int
  Each : Nat
deriving DecidableEq
structure SOutage where
  Bus : Int
  From : Int
  Until : Int
deriving DecidableEq
structure SDesk where
  Feeder : SFeeder
  Taps : List STap
  List : List SOutage
deriving DecidableEq
def eSTap (x : STap) : List D := [.int .i64 x.Bus, .int .i64 x.A, .int .i64 x.B, .int .i64 x.C, .fl .f32 x.Each]
@[simp] theorem eSTap_len (x : STap) : (eSTap x).length = 5 := rfl
theorem eSTap_flat (x : STap) : ∀ c ∈ eSTap x, c.flat := by simp [eSTap, D.flat]
def eSOutage (x : SOutage) : List D := [.int .i64 x.Bus, .int .i64 x.From, .int .i64 x.Until]
@[simp] theorem eSOutage_len (x : SOutage) : (eSOutage x).length = 3 := rfl
theorem eSOutage_flat (x : SOutage) : ∀ c ∈ eSOutage x, c.flat := by simp [eSOutage, D.flat]
def eStr (x : Str) : List D := [.str (bstr x)]
@[simp] theorem eStr_len (x : Str) : (eStr x).length = 1 := rfl
theorem eStr_flat (x : Str) : ∀ c ∈ eStr x, c.flat := by simp [eStr, D.flat]
def eCxf32 (x : Cx) : List D := [.cx .f32 x.re x.im]
@[simp] theorem eCxf32_len (x : Cx) : (eCxf32 x).length = 1 := rfl
theorem eCxf32_flat (x : Cx) : ∀ c ∈ eCxf32 x, c.flat := by simp [eCxf32, D.flat]

theorem ext60 {x : Int} (hx : x.toNat < 4294967296) : ExtDoes prog 60 [.d (.int .u32 x)] (.d (.fl .f32 (canon .f32 x.toNat))) := extDoes (e := Extern.MathFloatBits.float32frombits) func60 rfl rfl (by kernel_rfl) (by kernel_rfl) fun W hb H ok vals h => frombits_run (k := .f32) (fun _ => rfl) hx h
theorem ext62 {x : Nat} (hx : isnan .f32 x = false) : ExtDoes prog 62 [.d (.fl .f32 x)] (.d (.int .u32 x)) := extDoes (e := Extern.MathFloatBits.float32bits) func62 rfl rfl (by kernel_rfl) (by kernel_rfl) fun W hb H ok vals h => bits_run (fun _ => rfl) hx h
theorem ext99 {x : Int} (hx : x.toNat < 18446744073709551616) : ExtDoes prog 99 [.d (.int .u64 x)] (.d (.fl .f64 (canon .f64 x.toNat))) := extDoes (e := Extern.MathFloatBits.float64frombits) func99 rfl rfl (by kernel_rfl) (by kernel_rfl) fun W hb H ok vals h => frombits_run (k := .f64) (fun _ => rfl) hx h
theorem ext132 {s : Str} {c : Int} : ExtDoes prog 132 [.d (.str (bstr s)), .d (.int .u8 c)] (.d (.int .i64 (idxB s c))) := extDoes (e := Extern.BytealgIndexByte.indexByte) func132 rfl rfl (by kernel_rfl) (by kernel_rfl) fun W hb H ok vals h => idx_run h
def m_laws_b10Long (n : Nat) (code_ : List Int) (more_ : List Int) : Option Bool :=
  if (code_.length : Int) > (1048576 : Int) then
    some true
  else
    some (decide ((more_.length : Int) > (1048576 : Int)))
theorem laws_b10Long_ok_fr0 (fr : Bool) (n : Nat) (code_ : List Int) (more_ : List Int) {r : Bool} (h : m_laws_b10Long n code_ more_ = some r) : ACall prog fr 6 [.d (.sl false (code_.map eIntu8)), .d (.sl false (more_.map eIntu8))] [] (fun v o new => v = .d (.bool r) ∧ o = [] ∧ new = []) := by
  refine acall_of_aw hτ func6 rfl (by simp) (by simp) ?_
  unfold m_laws_b10Long at h
  refine aw_seq ?_
  refine aw_region ?_
  refine awl_val hτ rfl rfl rfl ?_
  refine awl_nil ?_
  refine aw_seq ?_
  refine aw_region ?_
  refine awl_val hτ rfl rfl rfl ?_
  refine awl_val hτ (v := .d (.int .i64 (code_.length : Int))) rfl rfl (Eq.trans rfl (or_len (f := eIntu8) code_)) ?_
  refine awl_val hτ rfl rfl rfl ?_
  refine awl_val hτ rfl rfl rfl ?_
  refine awl_split 8 rfl (fun hb3 => ?_) (fun hb3 => ?_)
  · have h := if_t h hb3
    refine awl_skip rfl rfl ?_
    refine awl_skip rfl rfl ?_
    refine awl_skip rfl rfl ?_
    refine awl_val hτ rfl rfl rfl ?_
    refine awl_val hτ rfl rfl rfl ?_
    refine awl_nil ?_
    refine aw_weak (weak_ofP [] (l := [(4, .d (.bool true))]) (objs := []) rfl (by simp) rfl (by repeat' first | exact trivial | refine ⟨?_, ?_⟩) ⟨rfl, trivial, trivial⟩) ?_
    refine aw_ret ?_
    have hr := Option.some.inj h
    subst hr
    exact ret_objs (.inr rfl) [] (objs' := []) (new := []) rfl (by simp) (by simp) rfl (by repeat' first | exact trivial | refine ⟨?_, ?_⟩) rfl rfl (by repeat' first | exact trivial | refine ⟨?_, ?_⟩) (fun _ => ⟨by simp [V.flat, V.flatA, V.flatC, D.flat], flat_nil⟩) ⟨rfl, rfl, rfl⟩
  · have h := if_f h hb3
    refine awl_val hτ rfl rfl rfl ?_
    refine awl_val hτ (v := .d (.int .i64 (more_.length : Int))) rfl rfl (Eq.trans rfl (or_len (f := eIntu8) more_)) ?_
    refine awl_val hτ rfl rfl rfl ?_
    refine awl_val hτ rfl rfl rfl ?_
    refine awl_val hτ rfl rfl rfl ?_
    refine awl_nil ?_
    refine aw_weak (weak_ofP [] (l := [(4, .d (.bool (decide ((more_.length : Int) > (1048576 : Int)))))]) (objs := []) rfl (by simp) rfl (by repeat' first | exact trivial | refine ⟨?_, ?_⟩) ⟨rfl, trivial, trivial⟩) ?_
    refine aw_ret ?_
    have hr := Option.some.inj h
    subst hr
    exact ret_objs (.inr rfl) [] (objs' := []) (new := []) rfl (by simp) (by simp) rfl (by repeat' first | exact trivial | refine ⟨?_, ?_⟩) rfl rfl (by repeat' first | exact trivial | refine ⟨?_, ?_⟩) (fun _ => ⟨by simp [V.flat, V.flatA, V.flatC, D.flat], flat_nil⟩) ⟨rfl, rfl, rfl⟩
theorem laws_b10Long_ok (n : Nat) (code_ : List Int) (more_ : List Int) {r : Bool} (h : m_laws_b10Long n code_ more_ = some r) : ACall prog false 6 [.d (.sl false (code_.map eIntu8)), .d (.sl false (more_.map eIntu8))] [] (fun v o new => v = .d (.bool r) ∧ o = [] ∧ new = []) := laws_b10Long_ok_fr0 false n code_ more_ h
theorem laws_b10Long_ok_fr (n : Nat) (code_ : List Int) (more_ : List Int) {r : Bool} (h : m_laws_b10Long n code_ more_ = some r) : ACall prog true 6 [.d (.sl false (code_.map eIntu8)), .d (.sl false (more_.map eIntu8))] [] (fun v o new => v = .d (.bool r) ∧ o = [] ∧ new = []) := laws_b10Long_ok_fr0 true n code_ more_ h

def m_spec_l00From (n : Nat) (code_ : List Int) : Option SL00Src :=
  some (SL00Src.mk code_ (0 : Int) (0 : Int))
theorem spec_l00From_ok (n : Nat) (code_ : List Int) {r : SL00Src} (h : m_spec_l00From n code_ = some r) : ACall prog false 43 [.d (.sl false (code_.map eIntu8))] [] (fun v o new => v = .ptr 0 0 ∧ o = [] ∧ new = [.box [.d (.sl false (r.code.map eIntu8)), .d (.int .i64 r.at_), .d (.int .u64 r.seed)]]) := by
  refine acall_of_aw hτ func43 rfl (by simp) (by simp) ?_
  unfold m_spec_l00From at h
  refine aw_seq ?_
  refine aw_region ?_
  refine awl_val hτ rfl rfl rfl ?_
  refine awl_nil ?_
  refine aw_seq ?_
  refine aw_region ?_
  refine awl_val hτ rfl rfl rfl ?_
  refine awl_val hτ rfl rfl rfl ?_
  refine awl_valH hτ rfl rfl rfl ?_
  refine awl_val hτ rfl rfl rfl ?_
  refine awl_nil ?_
  refine aw_weak (weak_ofP [0] (l := [(2, .ptr 0 0)]) (objs := [.box [.d (.sl false (code_.map eIntu8)), .d (.int .i64 (0 : Int)), .d (.int .u64 (0 : Int))]]) rfl (by simp) rfl (by repeat' first | exact trivial | refine ⟨?_, ?_⟩) ⟨rfl, trivial, trivial⟩) ?_
  refine aw_ret ?_
  have hr := Option.some.inj h
  subst hr
  exact ret_objs (.inr rfl) [0] (objs' := []) (new := [.box [.d (.sl false (code_.map eIntu8)), .d (.int .i64 (0 : Int)), .d (.int .u64 (0 : Int))]]) rfl (by simp) (by simp) rfl (by repeat' first | exact trivial | refine ⟨?_, ?_⟩) rfl rfl (by repeat' first | exact trivial | refine ⟨?_, ?_⟩) (fun h => nomatch h) ⟨rfl, rfl, rfl⟩

def m_spec_l00Src_next_j1 (n : Nat) (s_ : SL00Src) (v5 : Int) : Option (Int × SL00Src) :=
  if (w64 (s_.at_ + (1 : Int))) ≤ (s_.code.length : Int) then
    some (v5, (SL00Src.mk s_.code (w64 (s_.at_ + (1 : Int))) (IntKind.wrap .u64 ((IntKind.wrap .u64 ((IntKind.wrap .u64 (s_.seed * (6364136223846793005 : Int))) + (IntKind.wrap .u64 (v5)))) + (1442695040888963407 : Int)))))
  else
    some ((w64 ((ibits .and .u64 ((IntKind.wrap .u64 ((IntKind.wrap .u64 ((IntKind.wrap .u64 (s_.seed * (6364136223846793005 : Int))) + (IntKind.wrap .u64 (v5)))) + (1442695040888963407 : Int))).fdiv (2 ^ min (40 : Int).toNat (IntKind.bits .u64))) (255 : Int)))), (SL00Src.mk s_.code (w64 (s_.at_ + (1 : Int))) (IntKind.wrap .u64 ((IntKind.wrap .u64 ((IntKind.wrap .u64 (s_.seed * (6364136223846793005 : Int))) + (IntKind.wrap .u64 (v5)))) + (1442695040888963407 : Int)))))
def m_spec_l00Src_next (n : Nat) (s_ : SL00Src) : Option (Int × SL00Src) :=
  if s_.at_ < (s_.code.length : Int) then
    (getI s_.code s_.at_).bind fun x9 =>
    m_spec_l00Src_next_j1 n s_ (w64 (x9))
  else
    m_spec_l00Src_next_j1 n s_ (0 : Int)
theorem spec_l00Src_next_ok (n : Nat) (s_ : SL00Src) {r : Int × SL00Src} (h : m_spec_l00Src_next n s_ = some r) : ACall prog false 88 [.ptr 0 0] [.box [.d (.sl false (s_.code.map eIntu8)), .d (.int .i64 s_.at_), .d (.int .u64 s_.seed)]] (fun v o new => v = .d (.int .i64 r.1) ∧ o = [.box [.d (.sl false (r.2.code.map eIntu8)), .d (.int .i64 r.2.at_), .d (.int .u64 r.2.seed)]] ∧ new = []) := by
  refine acall_of_aw hτ func88 rfl (by simp) (by simp) ?_
  unfold m_spec_l00Src_next at h
  refine aw_seq ?_
  refine aw_region ?_
  refine awl_val hτ rfl rfl rfl ?_
  refine awl_nil ?_
  refine aw_seq ?_
  refine aw_region ?_
  refine awl_val hτ rfl rfl rfl ?_
  refine awl_nil ?_
  refine aw_hk1 (ι := Int) (fun v5 => St.of [(0, .ptr 0 0), (3, .d (.int .i64 v5))] [.box [.d (.sl false (s_.code.map eIntu8)), .d (.int .i64 s_.at_), .d (.int .u64 s_.seed)]] f88.ntmps 1) (fun v5 => m_spec_l00Src_next_j1 n s_ v5 = some r) ?_ (fun hk7 => ?_)
  · rintro v5 h
    replace h : m_spec_l00Src_next_j1 n s_ v5 = some r := h
    unfold m_spec_l00Src_next_j1 at h
    refine aw_seq ?_
    refine aw_region ?_
    refine awl_val hτ rfl rfl rfl ?_
    refine awl_val hτ rfl rfl rfl ?_
    refine awl_val hτ rfl rfl rfl ?_
    refine awl_val hτ rfl rfl rfl ?_
    refine awl_val hτ rfl rfl rfl ?_
    refine awl_val hτ rfl rfl rfl ?_
    refine awl_val hτ rfl rfl rfl ?_
    refine awl_valH hτ rfl rfl rfl ?_
    refine awl_nil ?_
    refine aw_seq ?_
    refine aw_weak (weak_ofP [0] (l := [(0, .ptr 0 0), (3, .d (.int .i64 v5))]) (objs := [.box [.d (.sl false (s_.code.map eIntu8)), .d (.int .i64 (w64 (s_.at_ + (1 : Int)))), .d (.int .u64 s_.seed)]]) rfl (by simp) rfl (by repeat' first | exact trivial | refine ⟨?_, ?_⟩) ⟨rfl, trivial, rfl, trivial, trivial⟩) ?_
    refine aw_region ?_
    refine awl_val hτ rfl rfl rfl ?_
    refine awl_val hτ rfl rfl rfl ?_
    refine awl_val hτ rfl rfl rfl ?_
    refine awl_val hτ rfl rfl rfl ?_
    refine awl_val hτ rfl rfl rfl ?_
    refine awl_val hτ rfl rfl rfl ?_
    refine awl_val hτ rfl rfl rfl ?_
    refine awl_val hτ rfl rfl rfl ?_
    refine awl_val hτ rfl rfl rfl ?_
    refine awl_val hτ rfl rfl rfl ?_
    refine awl_val hτ rfl rfl rfl ?_
    refine awl_val hτ rfl rfl rfl ?_
    refine awl_weak (weak_ofP [0] (l := [(0, .ptr 0 0), (3, .d (.int .i64 v5)), (41, .d (.int .u64 (IntKind.wrap .u64 ((IntKind.wrap .u64 ((IntKind.wrap .u64 (s_.seed * (6364136223846793005 : Int))) + (IntKind.wrap .u64 (v5)))) + (1442695040888963407 : Int))))), (43, .ptr 0 2)]) (objs := [.box [.d (.sl false (s_.code.map eIntu8)), .d (.int .i64 (w64 (s_.at_ + (1 : Int)))), .d (.int .u64 s_.seed)]]) rfl (by simp) rfl (by repeat' first | exact trivial | refine ⟨?_, ?_⟩) ⟨rfl, trivial, rfl, trivial, rfl, trivial, rfl, trivial, trivial⟩) ?_
    refine awl_valH hτ rfl rfl rfl ?_
    refine awl_nil ?_
    refine aw_seq ?_
    refine aw_seq ?_
    refine any_start ?_
    refine any_val hτ [] 0 rfl rfl rfl rfl rfl ?_
    refine any_val hτ [] 1 rfl rfl rfl rfl rfl ?_
    refine any_val hτ [0] 2 rfl rfl rfl rfl rfl ?_
    refine any_val hτ [0] 3 rfl rfl rfl rfl rfl ?_
    refine any_val hτ [] 4 rfl rfl rfl rfl rfl ?_
    refine any_val hτ [] 5 rfl rfl rfl rfl rfl ?_
    refine any_val hτ [0] 6 rfl rfl rfl rfl rfl ?_
    refine any_val hτ [0] 7 rfl rfl rfl rfl rfl ?_
    refine any_val hτ (v := .d (.int .i64 (s_.code.length : Int))) [] 8 rfl rfl rfl rfl (Eq.trans rfl (or_len (f := eIntu8) s_.code)) ?_
    refine any_val hτ [] 9 rfl rfl rfl rfl rfl ?_
    refine any_done mixed (by kernel_rfl) ?_
    refine aw_weak (weak_ofP [0] (l := [(0, .ptr 0 0), (3, .d (.int .i64 v5)), (53, .d (.bool (decide ((w64 (s_.at_ + (1 : Int))) ≤ (s_.code.length : Int)))))]) (objs := [.box [.d (.sl false (s_.code.map eIntu8)), .d (.int .i64 (w64 (s_.at_ + (1 : Int)))), .d (.int .u64 (IntKind.wrap .u64 ((IntKind.wrap .u64 ((IntKind.wrap .u64 (s_.seed * (6364136223846793005 : Int))) + (IntKind.wrap .u64 (v5)))) + (1442695040888963407 : Int))))]]) rfl (by simp) rfl (by repeat' first | exact trivial | refine ⟨?_, ?_⟩) ⟨rfl, trivial, rfl, trivial, rfl, trivial, trivial⟩) ?_
    refine aw_cond rfl (fun hc6 => ?_) (fun hc6 => ?_)
    · have h := if_t h hc6
      refine aw_seq ?_
      refine aw_region ?_
      refine awl_val hτ rfl rfl rfl ?_
      refine awl_val hτ rfl rfl rfl ?_
      refine awl_nil ?_
      refine aw_weak (weak_ofP [0] (l := [(2, .d (.int .i64 v5))]) (objs := [.box [.d (.sl false (s_.code.map eIntu8)), .d (.int .i64 (w64 (s_.at_ + (1 : Int)))), .d (.int .u64 (IntKind.wrap .u64 ((IntKind.wrap .u64 ((IntKind.wrap .u64 (s_.seed * (6364136223846793005 : Int))) + (IntKind.wrap .u64 (v5)))) + (1442695040888963407 : Int))))]]) rfl (by simp) rfl (by repeat' first | exact trivial | refine ⟨?_, ?_⟩) ⟨rfl, trivial, trivial⟩) ?_
      refine aw_ret ?_
      have hr := Option.some.inj h
      subst hr
      exact ret_objs (.inr rfl) [] (objs' := [.box [.d (.sl false (s_.code.map eIntu8)), .d (.int .i64 (w64 (s_.at_ + (1 : Int)))), .d (.int .u64 (IntKind.wrap .u64 ((IntKind.wrap .u64 ((IntKind.wrap .u64 (s_.seed * (6364136223846793005 : Int))) + (IntKind.wrap .u64 (v5)))) + (1442695040888963407 : Int))))]]) (new := []) rfl (by simp) (by simp) rfl (by repeat' first | exact trivial | refine ⟨?_, ?_⟩) rfl rfl (by repeat' first | exact trivial | refine ⟨?_, ?_⟩) (fun h => nomatch h) ⟨rfl, rfl, rfl⟩
    · have h := if_f h hc6
      refine aw_skip ?_
      refine aw_seq ?_
      refine aw_region ?_
      refine awl_val hτ rfl rfl rfl ?_
      refine awl_val hτ rfl rfl rfl ?_
      refine awl_val hτ rfl rfl rfl ?_
      refine awl_val hτ rfl rfl rfl ?_
      refine awl_need hτ rfl rfl rfl (by decide) ?_
      refine awl_val hτ rfl rfl rfl ?_
      refine awl_val hτ rfl rfl rfl ?_
      refine awl_val hτ rfl rfl rfl ?_
      refine awl_nil ?_
      refine aw_weak (weak_ofP [0] (l := [(2, .d (.int .i64 (w64 ((ibits .and .u64 ((IntKind.wrap .u64 ((IntKind.wrap .u64 ((IntKind.wrap .u64 (s_.seed * (6364136223846793005 : Int))) + (IntKind.wrap .u64 (v5)))) + (1442695040888963407 : Int))).fdiv (2 ^ min (40 : Int).toNat (IntKind.bits .u64))) (255 : Int))))))]) (objs := [.box [.d (.sl false (s_.code.map eIntu8)), .d (.int .i64 (w64 (s_.at_ + (1 : Int)))), .d (.int .u64 (IntKind.wrap .u64 ((IntKind.wrap .u64 ((IntKind.wrap .u64 (s_.seed * (6364136223846793005 : Int))) + (IntKind.wrap .u64 (v5)))) + (1442695040888963407 : Int))))]]) rfl (by simp) rfl (by repeat' first | exact trivial | refine ⟨?_, ?_⟩) ⟨rfl, trivial, trivial⟩) ?_
      refine aw_ret ?_
      have hr := Option.some.inj h
      subst hr
      exact ret_objs (.inr rfl) [] (objs' := [.box [.d (.sl false (s_.code.map eIntu8)), .d (.int .i64 (w64 (s_.at_ + (1 : Int)))), .d (.int .u64 (IntKind.wrap .u64 ((IntKind.wrap .u64 ((IntKind.wrap .u64 (s_.seed * (6364136223846793005 : Int))) + (IntKind.wrap .u64 (v5)))) + (1442695040888963407 : Int))))]]) (new := []) rfl (by simp) (by simp) rfl (by repeat' first | exact trivial | refine ⟨?_, ?_⟩) rfl rfl (by repeat' first | exact trivial | refine ⟨?_, ?_⟩) (fun h => nomatch h) ⟨rfl, rfl, rfl⟩
  · refine aw_seq ?_
    refine aw_seq ?_
    refine any_start ?_
    refine any_val hτ [] 0 rfl rfl rfl rfl rfl ?_
    refine any_val hτ [] 1 rfl rfl rfl rfl rfl ?_
    refine any_val hτ [0] 2 rfl rfl rfl rfl rfl ?_
    refine any_val hτ [0] 3 rfl rfl rfl rfl rfl ?_
    refine any_val hτ [] 4 rfl rfl rfl rfl rfl ?_
    refine any_val hτ [] 5 rfl rfl rfl rfl rfl ?_
    refine any_val hτ [0] 6 rfl rfl rfl rfl rfl ?_
    refine any_val hτ [0] 7 rfl rfl rfl rfl rfl ?_
    refine any_val hτ (v := .d (.int .i64 (s_.code.length : Int))) [] 8 rfl rfl rfl rfl (Eq.trans rfl (or_len (f := eIntu8) s_.code)) ?_
    refine any_val hτ [] 9 rfl rfl rfl rfl rfl ?_
    refine any_done mixed (by kernel_rfl) ?_
    refine aw_weak (weak_ofP [0] (l := [(0, .ptr 0 0), (3, .d (.int .i64 (0 : Int))), (13, .d (.bool (decide (s_.at_ < (s_.code.length : Int)))))]) (objs := [.box [.d (.sl false (s_.code.map eIntu8)), .d (.int .i64 s_.at_), .d (.int .u64 s_.seed)]]) rfl (by simp) rfl (by repeat' first | exact trivial | refine ⟨?_, ?_⟩) ⟨rfl, trivial, rfl, trivial, rfl, trivial, trivial⟩) ?_
    refine aw_cond rfl (fun hc8 => ?_) (fun hc8 => ?_)
    · have h := if_t h hc8
      refine any_start ?_
      refine any_val hτ [] 0 rfl rfl rfl rfl rfl ?_
      refine any_val hτ [] 1 rfl rfl rfl rfl rfl ?_
      refine any_val hτ [0] 2 rfl rfl rfl rfl rfl ?_
      refine any_val hτ [0] 3 rfl rfl rfl rfl rfl ?_
      refine any_val hτ [] 4 rfl rfl rfl rfl rfl ?_
      refine any_val hτ [] 5 rfl rfl rfl rfl rfl ?_
      refine any_val hτ [0] 6 rfl rfl rfl rfl rfl ?_
      refine any_val hτ [0] 7 rfl rfl rfl rfl rfl ?_
      refine bnd_elim h fun x9 hx9 h => ?_
      refine any_elem hτ [] 8 rfl rfl rfl rfl rfl (getI_some hx9).1 (map_getI hx9) rfl ?_
      refine any_val hτ [] 9 rfl rfl rfl rfl rfl ?_
      refine any_val hτ [] 10 rfl rfl rfl rfl rfl ?_
      refine any_val hτ [] 11 rfl rfl rfl rfl rfl ?_
      refine any_done mixed (by kernel_rfl) ?_
      refine aw_weak (weak_ofP [0] (l := [(0, .ptr 0 0), (3, .d (.int .i64 (w64 (x9))))]) (objs := [.box [.d (.sl false (s_.code.map eIntu8)), .d (.int .i64 s_.at_), .d (.int .u64 s_.seed)]]) rfl (by simp) rfl (by repeat' first | exact trivial | refine ⟨?_, ?_⟩) ⟨rfl, trivial, rfl, trivial, trivial⟩) ?_
      exact hk7 (w64 (x9)) h
    · have h := if_f h hc8
      refine aw_skip ?_
      refine aw_weak (weak_ofP [0] (l := [(0, .ptr 0 0), (3, .d (.int .i64 (0 : Int)))]) (objs := [.box [.d (.sl false (s_.code.map eIntu8)), .d (.int .i64 s_.at_), .d (.int .u64 s_.seed)]]) rfl (by simp) rfl (by repeat' first | exact trivial | refine ⟨?_, ?_⟩) ⟨rfl, trivial, rfl, trivial, trivial⟩) ?_
      exact hk7 (0 : Int) h

def m_spec_l00Src_pick_j1 (n : Nat) (n_ : Int) (v15 : List Int) (v16 : Int) (v17 : Int) (v18 : Int) : Option (Int × SL00Src) :=
  grd (n_ ≠ 0) <|
  some ((v18.tmod n_), (SL00Src.mk v15 v16 v17))
def m_spec_l00Src_pick (n : Nat) (s_ : SL00Src) (n_ : Int) : Option (Int × SL00Src) :=
  if n_ ≤ (1 : Int) then
    some ((0 : Int), s_)
  else
    (m_spec_l00Src_next n s_).bind fun x9 =>
    if n_ > (200 : Int) then
      (m_spec_l00Src_next n x9.2).bind fun x22 =>
      m_spec_l00Src_pick_j1 n n_ x22.2.code x22.2.at_ x22.2.seed (w64 ((w64 (x9.1 * (256 : Int))) + x22.1))
    else
      m_spec_l00Src_pick_j1 n n_ x9.2.code x9.2.at_ x9.2.seed x9.1
theorem spec_l00Src_pick_ok (n : Nat) (s_ : SL00Src) (n_ : Int) {r : Int × SL00Src} (h : m_spec_l00Src_pick n s_ n_ = some r) : ACall prog false 44 [.ptr 0 0, .d (.int .i64 n_)] [.box [.d (.sl false (s_.code.map eIntu8)), .d (.int .i64 s_.at_), .d (.int .u64 s_.seed)]] (fun v o new => v = .d (.int .i64 r.1) ∧ o = [.box [.d (.sl false (r.2.code.map eIntu8)), .d (.int .i64 r.2.at_), .d (.int .u64 r.2.seed)]] ∧ new = []) := by
  refine acall_of_aw hτ func44 rfl (by simp) (by simp) ?_
  unfold m_spec_l00Src_pick at h
  refine aw_seq ?_
  refine aw_region ?_
  refine awl_val hτ rfl rfl rfl ?_
  refine awl_nil ?_
  refine aw_seq ?_
  refine aw_seq ?_
  refine aw_region ?_
  refine awl_val hτ rfl rfl rfl ?_
  refine awl_val hτ rfl rfl rfl ?_
  refine awl_nil ?_
  refine aw_cond rfl (fun hc8 => ?_) (fun hc8 => ?_)
  · have h := if_t h hc8
    refine aw_seq ?_
    refine aw_region ?_
    refine awl_val hτ rfl rfl rfl ?_
    refine awl_nil ?_
    refine aw_weak (weak_ofP [0] (l := [(4, .d (.int .i64 (0 : Int)))]) (objs := [.box [.d (.sl false (s_.code.map eIntu8)), .d (.int .i64 s_.at_), .d (.int .u64 s_.seed)]]) rfl (by simp) rfl (by repeat' first | exact trivial | refine ⟨?_, ?_⟩) ⟨rfl, trivial, trivial⟩) ?_
    refine aw_ret ?_
    have hr := Option.some.inj h
    subst hr
    exact ret_objs (.inr rfl) [] (objs' := [.box [.d (.sl false (s_.code.map eIntu8)), .d (.int .i64 s_.at_), .d (.int .u64 s_.seed)]]) (new := []) rfl (by simp) (by simp) rfl (by repeat' first | exact trivial | refine ⟨?_, ?_⟩) rfl rfl (by repeat' first | exact trivial | refine ⟨?_, ?_⟩) (fun h => nomatch h) ⟨rfl, rfl, rfl⟩
  · have h := if_f h hc8
    refine aw_skip ?_
    refine aw_seq ?_
    refine aw_region ?_
    refine awl_val hτ rfl rfl rfl ?_
    refine bnd_elim h fun x9 hx9 h => ?_
    refine awl_callP hτ false [0] rfl rfl rfl (enterOk func88 rfl rfl) rfl rfl (by simp) ⟨trivial, trivial⟩ (by repeat' first | exact trivial | refine ⟨?_, ?_⟩) (spec_l00Src_next_ok n s_ hx9) ?_
    rintro r0 o0 n0 ⟨rfl, rfl, rfl⟩ -
    refine awl_val hτ rfl rfl rfl ?_
    refine awl_nil ?_
    refine aw_hk1 (ι := List Int × Int × Int × Int) (fun (v15, v16, v17, v18) => St.of [(1, .d (.int .i64 n_)), (5, .d (.int .i64 v18))] [.box [.d (.sl false (v15.map eIntu8)), .d (.int .i64 v16), .d (.int .u64 v17)]] f44.ntmps 1) (fun (v15, v16, v17, v18) => m_spec_l00Src_pick_j1 n n_ v15 v16 v17 v18 = some r) ?_ (fun hk20 => ?_)
    · rintro ⟨v15, v16, v17, v18⟩ h
      replace h : m_spec_l00Src_pick_j1 n n_ v15 v16 v17 v18 = some r := h
      unfold m_spec_l00Src_pick_j1 at h
      refine aw_seq ?_
      refine aw_region ?_
      refine awl_val hτ rfl rfl rfl ?_
      refine awl_val hτ rfl rfl rfl ?_
      refine grd_elim h fun hg19 h => ?_
      refine awl_need hτ rfl rfl rfl hg19 ?_
      refine awl_val hτ rfl rfl rfl ?_
      refine awl_nil ?_
      refine aw_weak (weak_ofP [0] (l := [(4, .d (.int .i64 (v18.tmod n_)))]) (objs := [.box [.d (.sl false (v15.map eIntu8)), .d (.int .i64 v16), .d (.int .u64 v17)]]) rfl (by simp) rfl (by repeat' first | exact trivial | refine ⟨?_, ?_⟩) ⟨rfl, trivial, trivial⟩) ?_
      refine aw_ret ?_
      have hr := Option.some.inj h
      subst hr
      exact ret_objs (.inr rfl) [] (objs' := [.box [.d (.sl false (v15.map eIntu8)), .d (.int .i64 v16), .d (.int .u64 v17)]]) (new := []) rfl (by simp) (by simp) rfl (by repeat' first | exact trivial | refine ⟨?_, ?_⟩) rfl rfl (by repeat' first | exact trivial | refine ⟨?_, ?_⟩) (fun h => nomatch h) ⟨rfl, rfl, rfl⟩
    · refine aw_seq ?_
      refine aw_seq ?_
      refine aw_weak (weak_ofP [0] (l := [(0, .ptr 0 0), (1, .d (.int .i64 n_)), (5, .d (.int .i64 x9.1))]) (objs := [.box [.d (.sl false (x9.2.code.map eIntu8)), .d (.int .i64 x9.2.at_), .d (.int .u64 x9.2.seed)]]) rfl (by simp) rfl (by repeat' first | exact trivial | refine ⟨?_, ?_⟩) ⟨rfl, trivial, rfl, trivial, rfl, trivial, trivial⟩) ?_
      refine aw_region ?_
      refine awl_val hτ rfl rfl rfl ?_
      refine awl_val hτ rfl rfl rfl ?_
      refine awl_nil ?_
      refine aw_cond rfl (fun hc21 => ?_) (fun hc21 => ?_)
      · have h := if_t h hc21
        refine aw_region ?_
        refine awl_val hτ rfl rfl rfl ?_
        refine awl_val hτ rfl rfl rfl ?_
        refine awl_val hτ rfl rfl rfl ?_
        refine bnd_elim h fun x22 hx22 h => ?_
        refine awl_callP hτ false [0] rfl rfl rfl (enterOk func88 rfl rfl) rfl rfl (by simp) ⟨trivial, trivial⟩ (by repeat' first | exact trivial | refine ⟨?_, ?_⟩) (spec_l00Src_next_ok n x9.2 hx22) ?_
        rintro r0 o0 n0 ⟨rfl, rfl, rfl⟩ -
        refine awl_val hτ rfl rfl rfl ?_
        refine awl_val hτ rfl rfl rfl ?_
        refine awl_nil ?_
        refine aw_weak (weak_ofP [0] (l := [(1, .d (.int .i64 n_)), (5, .d (.int .i64 (w64 ((w64 (x9.1 * (256 : Int))) + x22.1))))]) (objs := [.box [.d (.sl false (x22.2.code.map eIntu8)), .d (.int .i64 x22.2.at_), .d (.int .u64 x22.2.seed)]]) rfl (by simp) rfl (by repeat' first | exact trivial | refine ⟨?_, ?_⟩) ⟨rfl, trivial, rfl, trivial, trivial⟩) ?_
        exact hk20 (x22.2.code, x22.2.at_, x22.2.seed, (w64 ((w64 (x9.1 * (256 : Int))) + x22.1))) h
      · have h := if_f h hc21
        refine aw_skip ?_
        refine aw_weak (weak_ofP [0] (l := [(1, .d (.int .i64 n_)), (5, .d (.int .i64 x9.1))]) (objs := [.box [.d (.sl false (x9.2.code.map eIntu8)), .d (.int .i64 x9.2.at_), .d (.int .u64 x9.2.seed)]]) rfl (by simp) rfl (by repeat' first | exact trivial | refine ⟨?_, ?_⟩) ⟨rfl, trivial, rfl, trivial, trivial⟩) ?_
        exact hk20 (x9.2.code, x9.2.at_, x9.2.seed, x9.1) h

def m_spec_l01From (n : Nat) (n_ : Int) : Option Nat :=
  grd ((IntKind.wrap .u32 (n_)).toNat < 4294967296) <|
  some (canon .f32 (IntKind.wrap .u32 (n_)).toNat)
theorem spec_l01From_ok_fr0 (fr : Bool) (n : Nat) (n_ : Int) {r : Nat} (h : m_spec_l01From n n_ = some r) : ACall prog fr 57 [.d (.int .i64 n_)] [] (fun v o new => v = .d (.fl .f32 r) ∧ o = [] ∧ new = []) := by
  refine acall_of_aw hτ func57 rfl (by simp) (by simp) ?_
  unfold m_spec_l01From at h
  refine aw_seq ?_
  refine aw_region ?_
  refine awl_val hτ rfl rfl rfl ?_
  refine awl_nil ?_
  refine aw_seq ?_
  refine aw_region ?_
  refine awl_val hτ rfl rfl rfl ?_
  refine awl_val hτ rfl rfl rfl ?_
  refine grd_elim h fun hg2 h => ?_
  refine awl_ext hτ rfl rfl rfl (ext60 hg2) ?_
  refine awl_val hτ rfl rfl rfl ?_
  refine awl_nil ?_
  refine aw_weak (weak_ofP [] (l := [(2, .d (.fl .f32 (canon .f32 (IntKind.wrap .u32 (n_)).toNat)))]) (objs := []) rfl (by simp) rfl (by repeat' first | exact trivial | refine ⟨?_, ?_⟩) ⟨rfl, trivial, trivial⟩) ?_
  refine aw_ret ?_
  have hr := Option.some.inj h
  subst hr
  exact ret_objs (.inr rfl) [] (objs' := []) (new := []) rfl (by simp) (by simp) rfl (by repeat' first | exact trivial | refine ⟨?_, ?_⟩) rfl rfl (by repeat' first | exact trivial | refine ⟨?_, ?_⟩) (fun _ => ⟨by simp [V.flat, V.flatA, V.flatC, D.flat], flat_nil⟩) ⟨rfl, rfl, rfl⟩
theorem spec_l01From_ok (n : Nat) (n_ : Int) {r : Nat} (h : m_spec_l01From n n_ = some r) : ACall prog false 57 [.d (.int .i64 n_)] [] (fun v o new => v = .d (.fl .f32 r) ∧ o = [] ∧ new = []) := spec_l01From_ok_fr0 false n n_ h
theorem spec_l01From_ok_fr (n : Nat) (n_ : Int) {r : Nat} (h : m_spec_l01From n n_ = some r) : ACall prog true 57 [.d (.int .i64 n_)] [] (fun v o new => v = .d (.fl .f32 r) ∧ o = [] ∧ new = []) := spec_l01From_ok_fr0 true n n_ h

def m_math_NaN (n : Nat) : Option Nat :=
  grd ((9221120237041090561 : Int).toNat < 18446744073709551616) <|
  some (canon .f64 (9221120237041090561 : Int).toNat)
theorem math_NaN_ok_fr0 (fr : Bool) (n : Nat) {r : Nat} (h : m_math_NaN n = some r) : ACall prog fr 73 [] [] (fun v o new => v = .d (.fl .f64 r) ∧ o = [] ∧ new = []) := by
  refine acall_of_aw hτ func73 rfl (by simp) (by simp) ?_
  unfold m_math_NaN at h
  refine aw_seq ?_
  refine aw_region ?_
  refine awl_val hτ rfl rfl rfl ?_
  refine awl_nil ?_
  refine aw_seq ?_
  refine aw_region ?_
  refine grd_elim h fun hg2 h => ?_
  refine awl_ext hτ rfl rfl rfl (ext99 hg2) ?_
  refine awl_val hτ rfl rfl rfl ?_
  refine awl_nil ?_
  refine aw_weak (weak_ofP [] (l := [(0, .d (.fl .f64 (canon .f64 (9221120237041090561 : Int).toNat)))]) (objs := []) rfl (by simp) rfl (by repeat' first | exact trivial | refine ⟨?_, ?_⟩) ⟨rfl, trivial, trivial⟩) ?_
  refine aw_ret ?_
  have hr := Option.some.inj h
  subst hr
  exact ret_objs (.inr rfl) [] (objs' := []) (new := []) rfl (by simp) (by simp) rfl (by repeat' first | exact trivial | refine ⟨?_, ?_⟩) rfl rfl (by repeat' first | exact trivial | refine ⟨?_, ?_⟩) (fun _ => ⟨by simp [V.flat, V.flatA, V.flatC, D.flat], flat_nil⟩) ⟨rfl, rfl, rfl⟩
theorem math_NaN_ok (n : Nat) {r : Nat} (h : m_math_NaN n = some r) : ACall prog false 73 [] [] (fun v o new => v = .d (.fl .f64 r) ∧ o = [] ∧ new = []) := math_NaN_ok_fr0 false n h
theorem math_NaN_ok_fr (n : Nat) {r : Nat} (h : m_math_NaN n = some r) : ACall prog true 73 [] [] (fun v o new => v = .d (.fl .f64 r) ∧ o = [] ∧ new = []) := math_NaN_ok_fr0 true n h

def m_spec_l01SineWide_j5 (n : Nat) (v19 : Nat) (v23 : Nat) (v28 : Nat) : Option Nat :=
  if (fcmp .geq .f64 v19 (4602678819172646912 : Nat)) = true then
    some (fneg .f64 (farith .mul .f64 (farith .mul .f64 v23 (4618760256179416344 : Nat)) v28))
  else
    some (farith .mul .f64 (farith .mul .f64 v23 (4618760256179416344 : Nat)) v28)
def m_spec_l01SineWide_l6 (n : Nat) (v19 : Nat) (v23 : Nat) : Nat → Nat → Int → Option Nat
  | 0, _, _ => none
  | m35 + 1, v31, v32 =>
    if v32 ≥ (1 : Int) then
      (m_spec_l01SineWide_l6 n v19 v23 m35) (farith .sub .f64 (4607182418800017408 : Nat) (farith .quo .f64 (farith .mul .f64 (farith .mul .f64 (farith .mul .f64 v23 (4618760256179416344 : Nat)) (farith .mul .f64 v23 (4618760256179416344 : Nat))) v31) (FloatKind.nearest .f64 (w64 ((w64 ((2 : Int) * v32)) * (w64 ((w64 ((2 : Int) * v32)) + (1 : Int)))))))) (w64 (v32 - (1 : Int)))
    else
      m_spec_l01SineWide_j5 n v19 v23 v31
def m_spec_l01SineWide_j4 (n : Nat) (v19 : Nat) (v23 : Nat) : Option Nat :=
  m_spec_l01SineWide_l6 n v19 v23 n (4607182418800017408 : Nat) (8 : Int)
def m_spec_l01SineWide_j3 (n : Nat) (v19 : Nat) (v21 : Nat) : Option Nat :=
  if (fcmp .gtr .f64 v21 (4598175219545276416 : Nat)) = true then
    m_spec_l01SineWide_j4 n v19 (farith .sub .f64 (4602678819172646912 : Nat) v21)
  else
    m_spec_l01SineWide_j4 n v19 v21
def m_spec_l01SineWide_j2 (n : Nat) (v19 : Nat) : Option Nat :=
  if (fcmp .geq .f64 v19 (4602678819172646912 : Nat)) = true then
    m_spec_l01SineWide_j3 n v19 (farith .sub .f64 v19 (4602678819172646912 : Nat))
  else
    m_spec_l01SineWide_j3 n v19 v19
def m_spec_l01SineWide_j1 (n : Nat) (y_ : Nat) : Option Nat :=
  (f2i .f64 .i64 y_).bind fun x17 =>
  if (fcmp .lss .f64 (farith .sub .f64 y_ (FloatKind.nearest .f64 x17)) (0 : Nat)) = true then
    m_spec_l01SineWide_j2 n (farith .add .f64 (farith .sub .f64 y_ (FloatKind.nearest .f64 x17)) (4607182418800017408 : Nat))
  else
    m_spec_l01SineWide_j2 n (farith .sub .f64 y_ (FloatKind.nearest .f64 x17))
def m_spec_l01SineWide_j7 (n : Nat) (y_ : Nat) (v47 : Bool) : Option Nat :=
  if v47 = true then
    some (0 : Nat)
  else
    m_spec_l01SineWide_j1 n y_
def m_spec_l01SineWide (n : Nat) (y_ : Nat) : Option Nat :=
  if (fcmp .neq .f64 (farith .sub .f64 y_ y_) (0 : Nat)) = true then
    (m_math_NaN n).bind fun x14 =>
    some x14
  else
    if (fcmp .geq .f64 y_ (4841369599423283200 : Nat)) = true then
      m_spec_l01SineWide_j7 n y_ true
    else
      m_spec_l01SineWide_j7 n y_ (fcmp .leq .f64 y_ (14064741636278059008 : Nat))
theorem spec_l01SineWide_ok_fr0 (fr : Bool) (n : Nat) (y_ : Nat) {r : Nat} (h : m_spec_l01SineWide n y_ = some r) : ACall prog fr 155 [.d (.fl .f64 y_)] [] (fun v o new => v = .d (.fl .f64 r) ∧ o = [] ∧ new = []) := by
  refine acall_of_aw hτ func155 rfl (by simp) (by simp) ?_
  unfold m_spec_l01SineWide at h
  refine aw_seq ?_
  refine aw_region ?_
  refine awl_val hτ rfl rfl rfl ?_
  refine awl_nil ?_
  refine aw_seq ?_
  refine aw_seq ?_
  refine aw_region ?_
  refine awl_val hτ rfl rfl rfl ?_
  refine awl_val hτ rfl rfl rfl ?_
  refine awl_val hτ rfl rfl rfl ?_
  refine awl_val hτ rfl rfl rfl ?_
  refine awl_nil ?_
  refine aw_cond rfl (fun hc13 => ?_) (fun hc13 => ?_)
  · have h := if_bt h hc13
    refine aw_seq ?_
    refine aw_region ?_
    refine bnd_elim h fun x14 hx14 h => ?_
    refine awl_callP hτ false [] rfl rfl rfl (enterOk func73 rfl rfl) rfl rfl (by simp) trivial (by repeat' first | exact trivial | refine ⟨?_, ?_⟩) (math_NaN_ok n hx14) ?_
    rintro r0 o0 n0 ⟨rfl, rfl, rfl⟩ -
    refine awl_val hτ rfl rfl rfl ?_
    refine awl_nil ?_
    refine aw_weak (weak_ofP [] (l := [(2, .d (.fl .f64 x14))]) (objs := []) rfl (by simp) rfl (by repeat' first | exact trivial | refine ⟨?_, ?_⟩) ⟨rfl, trivial, trivial⟩) ?_
    refine aw_ret ?_
    have hr := Option.some.inj h
    subst hr
    exact ret_objs (.inr rfl) [] (objs' := []) (new := []) rfl (by simp) (by simp) rfl (by repeat' first | exact trivial | refine ⟨?_, ?_⟩) rfl rfl (by repeat' first | exact trivial | refine ⟨?_, ?_⟩) (fun _ => ⟨by simp [V.flat, V.flatA, V.flatC, D.flat], flat_nil⟩) ⟨rfl, rfl, rfl⟩
  · have h := if_bf h hc13
    refine aw_skip ?_
    refine aw_hk1 (ι := Unit) (fun _ => St.of [(0, .d (.fl .f64 y_))] [] f155.ntmps 0) (fun _ => m_spec_l01SineWide_j1 n y_ = some r) ?_ (fun hk44 => ?_)
    · rintro ⟨⟩ h
      replace h : m_spec_l01SineWide_j1 n y_ = some r := h
      unfold m_spec_l01SineWide_j1 at h
      refine aw_seq ?_
      refine aw_region ?_
      refine awl_val hτ rfl rfl rfl ?_
      refine awl_val hτ rfl rfl rfl ?_
      refine bnd_elim h fun x17 hx17 h => ?_
      refine awl_x rfl rfl (x_f2i hτ rfl rfl rfl rfl rfl rfl hx17) ?_
      refine awl_val hτ rfl rfl rfl ?_
      refine awl_val hτ rfl rfl rfl ?_
      refine awl_val hτ rfl rfl rfl ?_
      refine awl_nil ?_
      refine aw_hk1 (ι := Nat) (fun v19 => St.of [(3, .d (.fl .f64 v19))] [] f155.ntmps 0) (fun v19 => m_spec_l01SineWide_j2 n v19 = some r) ?_ (fun hk42 => ?_)
      · rintro v19 h
        replace h : m_spec_l01SineWide_j2 n v19 = some r := h
        unfold m_spec_l01SineWide_j2 at h
        refine aw_seq ?_
        refine aw_region ?_
        refine awl_val hτ rfl rfl rfl ?_
        refine awl_val hτ rfl rfl rfl ?_
        refine awl_val hτ rfl rfl rfl ?_
        refine awl_nil ?_
        refine aw_hk1 (ι := Nat) (fun v21 => St.of [(3, .d (.fl .f64 v21)), (4, .d (.bool (fcmp .geq .f64 v19 (4602678819172646912 : Nat))))] [] f155.ntmps 0) (fun v21 => m_spec_l01SineWide_j3 n v19 v21 = some r) ?_ (fun hk40 => ?_)
        · rintro v21 h
          replace h : m_spec_l01SineWide_j3 n v19 v21 = some r := h
          unfold m_spec_l01SineWide_j3 at h
          refine aw_hk1 (ι := Nat) (fun v23 => St.of [(3, .d (.fl .f64 v23)), (4, .d (.bool (fcmp .geq .f64 v19 (4602678819172646912 : Nat))))] [] f155.ntmps 0) (fun v23 => m_spec_l01SineWide_j4 n v19 v23 = some r) ?_ (fun hk38 => ?_)
          · rintro v23 h
            replace h : m_spec_l01SineWide_j4 n v19 v23 = some r := h
            unfold m_spec_l01SineWide_j4 at h
            refine aw_seq ?_
            refine aw_region ?_
            refine awl_val hτ rfl rfl rfl ?_
            refine awl_val hτ rfl rfl rfl ?_
            refine awl_val hτ rfl rfl rfl ?_
            refine awl_nil ?_
            refine aw_seq ?_
            refine aw_region ?_
            refine awl_val hτ rfl rfl rfl ?_
            refine awl_val hτ rfl rfl rfl ?_
            refine awl_val hτ rfl rfl rfl ?_
            refine awl_val hτ rfl rfl rfl ?_
            refine awl_nil ?_
            refine aw_seq ?_
            refine aw_weak (weak_ofP [] (l := [(4, .d (.bool (fcmp .geq .f64 v19 (4602678819172646912 : Nat)))), (5, .d (.fl .f64 (farith .mul .f64 v23 (4618760256179416344 : Nat)))), (6, .d (.fl .f64 (farith .mul .f64 (farith .mul .f64 v23 (4618760256179416344 : Nat)) (farith .mul .f64 v23 (4618760256179416344 : Nat)))))]) (objs := []) rfl (by simp) rfl (by repeat' first | exact trivial | refine ⟨?_, ?_⟩) ⟨rfl, trivial, rfl, trivial, rfl, trivial, trivial⟩) ?_
            refine aw_region ?_
            refine awl_val hτ rfl rfl rfl ?_
            refine awl_nil ?_
            refine aw_hk1 (ι := Nat) (fun v28 => St.of [(4, .d (.bool (fcmp .geq .f64 v19 (4602678819172646912 : Nat)))), (5, .d (.fl .f64 (farith .mul .f64 v23 (4618760256179416344 : Nat)))), (7, .d (.fl .f64 v28))] [] f155.ntmps 0) (fun v28 => m_spec_l01SineWide_j5 n v19 v23 v28 = some r) ?_ (fun hk30 => ?_)
            · rintro v28 h
              replace h : m_spec_l01SineWide_j5 n v19 v23 v28 = some r := h
              unfold m_spec_l01SineWide_j5 at h
              refine aw_seq ?_
              refine aw_seq ?_
              refine aw_region ?_
              refine awl_val hτ rfl rfl rfl ?_
              refine awl_nil ?_
              refine aw_cond rfl (fun hc29 => ?_) (fun hc29 => ?_)
              · have h := if_bt h hc29
                refine aw_seq ?_
                refine aw_region ?_
                refine awl_val hτ rfl rfl rfl ?_
                refine awl_val hτ rfl rfl rfl ?_
                refine awl_val hτ rfl rfl rfl ?_
                refine awl_val hτ rfl rfl rfl ?_
                refine awl_val hτ rfl rfl rfl ?_
                refine awl_nil ?_
                refine aw_weak (weak_ofP [] (l := [(2, .d (.fl .f64 (fneg .f64 (farith .mul .f64 (farith .mul .f64 v23 (4618760256179416344 : Nat)) v28))))]) (objs := []) rfl (by simp) rfl (by repeat' first | exact trivial | refine ⟨?_, ?_⟩) ⟨rfl, trivial, trivial⟩) ?_
                refine aw_ret ?_
                have hr := Option.some.inj h
                subst hr
                exact ret_objs (.inr rfl) [] (objs' := []) (new := []) rfl (by simp) (by simp) rfl (by repeat' first | exact trivial | refine ⟨?_, ?_⟩) rfl rfl (by repeat' first | exact trivial | refine ⟨?_, ?_⟩) (fun _ => ⟨by simp [V.flat, V.flatA, V.flatC, D.flat], flat_nil⟩) ⟨rfl, rfl, rfl⟩
              · have h := if_bf h hc29
                refine aw_skip ?_
                refine aw_seq ?_
                refine aw_region ?_
                refine awl_val hτ rfl rfl rfl ?_
                refine awl_val hτ rfl rfl rfl ?_
                refine awl_val hτ rfl rfl rfl ?_
                refine awl_val hτ rfl rfl rfl ?_
                refine awl_nil ?_
                refine aw_weak (weak_ofP [] (l := [(2, .d (.fl .f64 (farith .mul .f64 (farith .mul .f64 v23 (4618760256179416344 : Nat)) v28)))]) (objs := []) rfl (by simp) rfl (by repeat' first | exact trivial | refine ⟨?_, ?_⟩) ⟨rfl, trivial, trivial⟩) ?_
                refine aw_ret ?_
                have hr := Option.some.inj h
                subst hr
                exact ret_objs (.inr rfl) [] (objs' := []) (new := []) rfl (by simp) (by simp) rfl (by repeat' first | exact trivial | refine ⟨?_, ?_⟩) rfl rfl (by repeat' first | exact trivial | refine ⟨?_, ?_⟩) (fun _ => ⟨by simp [V.flat, V.flatA, V.flatC, D.flat], flat_nil⟩) ⟨rfl, rfl, rfl⟩
            · refine aw_seq ?_
              refine aw_seq ?_
              refine aw_region ?_
              refine awl_val hτ rfl rfl rfl ?_
              refine awl_nil ?_
              refine aw_block ?_
              refine aw_loop (ι := Nat × Nat × Int) (fun (m35, v31, v32) => St.of [(4, .d (.bool (fcmp .geq .f64 v19 (4602678819172646912 : Nat)))), (5, .d (.fl .f64 (farith .mul .f64 v23 (4618760256179416344 : Nat)))), (6, .d (.fl .f64 (farith .mul .f64 (farith .mul .f64 v23 (4618760256179416344 : Nat)) (farith .mul .f64 v23 (4618760256179416344 : Nat))))), (7, .d (.fl .f64 v31)), (8, .d (.int .i64 v32))] [] f155.ntmps 0) (fun (m35, v31, v32) => m_spec_l01SineWide_l6 n v19 v23 m35 v31 v32 = some r) (fun x => x.1) (n, (4607182418800017408 : Nat), (8 : Int)) h (weak_ofP [] (l := [(4, .d (.bool (fcmp .geq .f64 v19 (4602678819172646912 : Nat)))), (5, .d (.fl .f64 (farith .mul .f64 v23 (4618760256179416344 : Nat)))), (6, .d (.fl .f64 (farith .mul .f64 (farith .mul .f64 v23 (4618760256179416344 : Nat)) (farith .mul .f64 v23 (4618760256179416344 : Nat))))), (7, .d (.fl .f64 (4607182418800017408 : Nat))), (8, .d (.int .i64 (8 : Int)))]) (objs := []) rfl (by simp) rfl (by repeat' first | exact trivial | refine ⟨?_, ?_⟩) ⟨rfl, trivial, rfl, trivial, rfl, trivial, rfl, trivial, rfl, trivial, trivial⟩) ?_
              rintro ⟨m35, v31, v32⟩ h
              replace h : m_spec_l01SineWide_l6 n v19 v23 m35 v31 v32 = some r := h
              rcases m35 with _ | m35
              · rw [m_spec_l01SineWide_l6] at h; cases h
              rw [m_spec_l01SineWide_l6] at h
              refine aw_seq ?_
              refine aw_seq ?_
              refine aw_region ?_
              refine awl_val hτ rfl rfl rfl ?_
              refine awl_val hτ rfl rfl rfl ?_
              refine awl_nil ?_
              refine aw_cond rfl (fun hc37 => ?_) (fun hc37 => ?_)
              · have h := if_t h hc37
                refine aw_skip ?_
                refine aw_seq ?_
                refine aw_block ?_
                refine aw_region ?_
                refine awl_val hτ rfl rfl rfl ?_
                refine awl_val hτ rfl rfl rfl ?_
                refine awl_val hτ rfl rfl rfl ?_
                refine awl_val hτ rfl rfl rfl ?_
                refine awl_val hτ rfl rfl rfl ?_
                refine awl_val hτ rfl rfl rfl ?_
                refine awl_val hτ rfl rfl rfl ?_
                refine awl_val hτ rfl rfl rfl ?_
                refine awl_val hτ rfl rfl rfl ?_
                refine awl_val hτ rfl rfl rfl ?_
                refine awl_weak (weak_ofP [] (l := [(4, .d (.bool (fcmp .geq .f64 v19 (4602678819172646912 : Nat)))), (5, .d (.fl .f64 (farith .mul .f64 v23 (4618760256179416344 : Nat)))), (6, .d (.fl .f64 (farith .mul .f64 (farith .mul .f64 v23 (4618760256179416344 : Nat)) (farith .mul .f64 v23 (4618760256179416344 : Nat))))), (7, .d (.fl .f64 v31)), (8, .d (.int .i64 v32)), (49, .d (.fl .f64 (farith .mul .f64 (farith .mul .f64 (farith .mul .f64 v23 (4618760256179416344 : Nat)) (farith .mul .f64 v23 (4618760256179416344 : Nat))) v31))), (56, .d (.fl .f64 (FloatKind.nearest .f64 (w64 ((w64 ((2 : Int) * v32)) * (w64 ((w64 ((2 : Int) * v32)) + (1 : Int))))))))]) (objs := []) rfl (by simp) rfl (by repeat' first | exact trivial | refine ⟨?_, ?_⟩) ⟨rfl, trivial, rfl, trivial, rfl, trivial, rfl, trivial, rfl, trivial, rfl, trivial, rfl, trivial, trivial⟩) ?_
                refine awl_val hτ rfl rfl rfl ?_
                refine awl_val hτ rfl rfl rfl ?_
                refine awl_val hτ rfl rfl rfl ?_
                refine awl_nil ?_
                refine aw_region ?_
                refine awl_val hτ rfl rfl rfl ?_
                refine awl_val hτ rfl rfl rfl ?_
                refine awl_val hτ rfl rfl rfl ?_
                refine awl_nil ?_
                exact ⟨(m35, (farith .sub .f64 (4607182418800017408 : Nat) (farith .quo .f64 (farith .mul .f64 (farith .mul .f64 (farith .mul .f64 v23 (4618760256179416344 : Nat)) (farith .mul .f64 v23 (4618760256179416344 : Nat))) v31) (FloatKind.nearest .f64 (w64 ((w64 ((2 : Int) * v32)) * (w64 ((w64 ((2 : Int) * v32)) + (1 : Int)))))))), (w64 (v32 - (1 : Int)))), h, Nat.lt_succ_self m35, (weak_ofP [] (l := [(4, .d (.bool (fcmp .geq .f64 v19 (4602678819172646912 : Nat)))), (5, .d (.fl .f64 (farith .mul .f64 v23 (4618760256179416344 : Nat)))), (6, .d (.fl .f64 (farith .mul .f64 (farith .mul .f64 v23 (4618760256179416344 : Nat)) (farith .mul .f64 v23 (4618760256179416344 : Nat))))), (7, .d (.fl .f64 (farith .sub .f64 (4607182418800017408 : Nat) (farith .quo .f64 (farith .mul .f64 (farith .mul .f64 (farith .mul .f64 v23 (4618760256179416344 : Nat)) (farith .mul .f64 v23 (4618760256179416344 : Nat))) v31) (FloatKind.nearest .f64 (w64 ((w64 ((2 : Int) * v32)) * (w64 ((w64 ((2 : Int) * v32)) + (1 : Int)))))))))), (8, .d (.int .i64 (w64 (v32 - (1 : Int)))))]) (objs := []) rfl (by simp) rfl (by repeat' first | exact trivial | refine ⟨?_, ?_⟩) ⟨rfl, trivial, rfl, trivial, rfl, trivial, rfl, trivial, rfl, trivial, trivial⟩)⟩
              · have h := if_f h hc37
                refine aw_exit ?_
                refine aw_weak (weak_ofP [] (l := [(4, .d (.bool (fcmp .geq .f64 v19 (4602678819172646912 : Nat)))), (5, .d (.fl .f64 (farith .mul .f64 v23 (4618760256179416344 : Nat)))), (7, .d (.fl .f64 v31))]) (objs := []) rfl (by simp) rfl (by repeat' first | exact trivial | refine ⟨?_, ?_⟩) ⟨rfl, trivial, rfl, trivial, rfl, trivial, trivial⟩) ?_
                exact hk30 v31 h
          · refine aw_seq ?_
            refine aw_seq ?_
            refine aw_region ?_
            refine awl_val hτ rfl rfl rfl ?_
            refine awl_val hτ rfl rfl rfl ?_
            refine awl_nil ?_
            refine aw_cond rfl (fun hc39 => ?_) (fun hc39 => ?_)
            · have h := if_bt h hc39
              refine aw_region ?_
              refine awl_val hτ rfl rfl rfl ?_
              refine awl_val hτ rfl rfl rfl ?_
              refine awl_val hτ rfl rfl rfl ?_
              refine awl_nil ?_
              refine aw_weak (weak_ofP [] (l := [(3, .d (.fl .f64 (farith .sub .f64 (4602678819172646912 : Nat) v21))), (4, .d (.bool (fcmp .geq .f64 v19 (4602678819172646912 : Nat))))]) (objs := []) rfl (by simp) rfl (by repeat' first | exact trivial | refine ⟨?_, ?_⟩) ⟨rfl, trivial, rfl, trivial, trivial⟩) ?_
              exact hk38 (farith .sub .f64 (4602678819172646912 : Nat) v21) h
            · have h := if_bf h hc39
              refine aw_skip ?_
              refine aw_weak (weak_ofP [] (l := [(3, .d (.fl .f64 v21)), (4, .d (.bool (fcmp .geq .f64 v19 (4602678819172646912 : Nat))))]) (objs := []) rfl (by simp) rfl (by repeat' first | exact trivial | refine ⟨?_, ?_⟩) ⟨rfl, trivial, rfl, trivial, trivial⟩) ?_
              exact hk38 v21 h
        · refine aw_seq ?_
          refine aw_seq ?_
          refine aw_region ?_
          refine awl_val hτ rfl rfl rfl ?_
          refine awl_nil ?_
          refine aw_cond rfl (fun hc41 => ?_) (fun hc41 => ?_)
          · have h := if_bt h hc41
            refine aw_region ?_
            refine awl_val hτ rfl rfl rfl ?_
            refine awl_val hτ rfl rfl rfl ?_
            refine awl_val hτ rfl rfl rfl ?_
            refine awl_nil ?_
            refine aw_weak (weak_ofP [] (l := [(3, .d (.fl .f64 (farith .sub .f64 v19 (4602678819172646912 : Nat)))), (4, .d (.bool (fcmp .geq .f64 v19 (4602678819172646912 : Nat))))]) (objs := []) rfl (by simp) rfl (by repeat' first | exact trivial | refine ⟨?_, ?_⟩) ⟨rfl, trivial, rfl, trivial, trivial⟩) ?_
            exact hk40 (farith .sub .f64 v19 (4602678819172646912 : Nat)) h
          · have h := if_bf h hc41
            refine aw_skip ?_
            refine aw_weak (weak_ofP [] (l := [(3, .d (.fl .f64 v19)), (4, .d (.bool (fcmp .geq .f64 v19 (4602678819172646912 : Nat))))]) (objs := []) rfl (by simp) rfl (by repeat' first | exact trivial | refine ⟨?_, ?_⟩) ⟨rfl, trivial, rfl, trivial, trivial⟩) ?_
            exact hk40 v19 h
      · refine aw_seq ?_
        refine aw_seq ?_
        refine aw_weak (weak_ofP [] (l := [(3, .d (.fl .f64 (farith .sub .f64 y_ (FloatKind.nearest .f64 x17))))]) (objs := []) rfl (by simp) rfl (by repeat' first | exact trivial | refine ⟨?_, ?_⟩) ⟨rfl, trivial, trivial⟩) ?_
        refine aw_region ?_
        refine awl_val hτ rfl rfl rfl ?_
        refine awl_val hτ rfl rfl rfl ?_
        refine awl_nil ?_
        refine aw_cond rfl (fun hc43 => ?_) (fun hc43 => ?_)
        · have h := if_bt h hc43
          refine aw_region ?_
          refine awl_val hτ rfl rfl rfl ?_
          refine awl_val hτ rfl rfl rfl ?_
          refine awl_val hτ rfl rfl rfl ?_
          refine awl_nil ?_
          refine aw_weak (weak_ofP [] (l := [(3, .d (.fl .f64 (farith .add .f64 (farith .sub .f64 y_ (FloatKind.nearest .f64 x17)) (4607182418800017408 : Nat))))]) (objs := []) rfl (by simp) rfl (by repeat' first | exact trivial | refine ⟨?_, ?_⟩) ⟨rfl, trivial, trivial⟩) ?_
          exact hk42 (farith .add .f64 (farith .sub .f64 y_ (FloatKind.nearest .f64 x17)) (4607182418800017408 : Nat)) h
        · have h := if_bf h hc43
          refine aw_skip ?_
          refine aw_weak (weak_ofP [] (l := [(3, .d (.fl .f64 (farith .sub .f64 y_ (FloatKind.nearest .f64 x17))))]) (objs := []) rfl (by simp) rfl (by repeat' first | exact trivial | refine ⟨?_, ?_⟩) ⟨rfl, trivial, trivial⟩) ?_
          exact hk42 (farith .sub .f64 y_ (FloatKind.nearest .f64 x17)) h
    · refine aw_seq ?_
      refine aw_hk1 (ι := Bool) (fun v47 => St.of [(0, .d (.fl .f64 y_)), (19, .d (.bool v47))] [] f155.ntmps 0) (fun v47 => m_spec_l01SineWide_j7 n y_ v47 = some r) ?_ (fun hk49 => ?_)
      · rintro v47 h
        replace h : m_spec_l01SineWide_j7 n y_ v47 = some r := h
        unfold m_spec_l01SineWide_j7 at h
        refine aw_cond rfl (fun hc48 => ?_) (fun hc48 => ?_)
        · have h := if_bt h hc48
          refine aw_seq ?_
          refine aw_region ?_
          refine awl_val hτ rfl rfl rfl ?_
          refine awl_nil ?_
          refine aw_weak (weak_ofP [] (l := [(2, .d (.fl .f64 (0 : Nat)))]) (objs := []) rfl (by simp) rfl (by repeat' first | exact trivial | refine ⟨?_, ?_⟩) ⟨rfl, trivial, trivial⟩) ?_
          refine aw_ret ?_
          have hr := Option.some.inj h
          subst hr
          exact ret_objs (.inr rfl) [] (objs' := []) (new := []) rfl (by simp) (by simp) rfl (by repeat' first | exact trivial | refine ⟨?_, ?_⟩) rfl rfl (by repeat' first | exact trivial | refine ⟨?_, ?_⟩) (fun _ => ⟨by simp [V.flat, V.flatA, V.flatC, D.flat], flat_nil⟩) ⟨rfl, rfl, rfl⟩
        · have h := if_bf h hc48
          refine aw_skip ?_
          refine aw_weak (weak_ofP [] (l := [(0, .d (.fl .f64 y_))]) (objs := []) rfl (by simp) rfl (by repeat' first | exact trivial | refine ⟨?_, ?_⟩) ⟨rfl, trivial, trivial⟩) ?_
          exact hk44 () h
      · refine aw_seq ?_
        refine aw_region ?_
        refine awl_val hτ rfl rfl rfl ?_
        refine awl_val hτ rfl rfl rfl ?_
        refine awl_val hτ rfl rfl rfl ?_
        refine awl_split 16 rfl (fun hb50 => ?_) (fun hb50 => ?_)
        · have h := if_bt h hb50
          refine awl_skip rfl rfl ?_
          refine awl_skip rfl rfl ?_
          refine awl_val hτ rfl rfl rfl ?_
          refine awl_nil ?_
          refine aw_weak (weak_ofP [] (l := [(0, .d (.fl .f64 y_)), (19, .d (.bool true))]) (objs := []) rfl (by simp) rfl (by repeat' first | exact trivial | refine ⟨?_, ?_⟩) ⟨rfl, trivial, rfl, trivial, trivial⟩) ?_
          exact hk49 true h
        · have h := if_bf h hb50
          refine awl_val hτ rfl rfl rfl ?_
          refine awl_val hτ rfl rfl rfl ?_
          refine awl_val hτ rfl rfl rfl ?_
          refine awl_nil ?_
          refine aw_weak (weak_ofP [] (l := [(0, .d (.fl .f64 y_)), (19, .d (.bool (fcmp .leq .f64 y_ (14064741636278059008 : Nat))))]) (objs := []) rfl (by simp) rfl (by repeat' first | exact trivial | refine ⟨?_, ?_⟩) ⟨rfl, trivial, rfl, trivial, trivial⟩) ?_
          exact hk49 (fcmp .leq .f64 y_ (14064741636278059008 : Nat)) h
theorem spec_l01SineWide_ok (n : Nat) (y_ : Nat) {r : Nat} (h : m_spec_l01SineWide n y_ = some r) : ACall prog false 155 [.d (.fl .f64 y_)] [] (fun v o new => v = .d (.fl .f64 r) ∧ o = [] ∧ new = []) := spec_l01SineWide_ok_fr0 false n y_ h
theorem spec_l01SineWide_ok_fr (n : Nat) (y_ : Nat) {r : Nat} (h : m_spec_l01SineWide n y_ = some r) : ACall prog true 155 [.d (.fl .f64 y_)] [] (fun v o new => v = .d (.fl .f64 r) ∧ o = [] ∧ new = []) := spec_l01SineWide_ok_fr0 true n y_ h

def m_spec_l01Narrow (n : Nat) (x_ : Nat) : Option Nat :=
  (fconv .f64 .f32 x_).bind fun x2 =>
  some x2
theorem spec_l01Narrow_ok_fr0 (fr : Bool) (n : Nat) (x_ : Nat) {r : Nat} (h : m_spec_l01Narrow n x_ = some r) : ACall prog fr 91 [.d (.fl .f64 x_)] [] (fun v o new => v = .d (.fl .f32 r) ∧ o = [] ∧ new = []) := by
  refine acall_of_aw hτ func91 rfl (by simp) (by simp) ?_
  unfold m_spec_l01Narrow at h
  refine aw_seq ?_
  refine aw_region ?_
  refine awl_val hτ rfl rfl rfl ?_
  refine awl_nil ?_
  refine aw_seq ?_
  refine aw_region ?_
  refine awl_val hτ rfl rfl rfl ?_
  refine bnd_elim h fun x2 hx2 h => ?_
  refine awl_val hτ (v := .d (.fl .f32 x2)) rfl rfl (conv_val hx2) ?_
  refine awl_val hτ rfl rfl rfl ?_
  refine awl_nil ?_
  refine aw_weak (weak_ofP [] (l := [(2, .d (.fl .f32 x2))]) (objs := []) rfl (by simp) rfl (by repeat' first | exact trivial | refine ⟨?_, ?_⟩) ⟨rfl, trivial, trivial⟩) ?_
  refine aw_ret ?_
  have hr := Option.some.inj h
  subst hr
  exact ret_objs (.inr rfl) [] (objs' := []) (new := []) rfl (by simp) (by simp) rfl (by repeat' first | exact trivial | refine ⟨?_, ?_⟩) rfl rfl (by repeat' first | exact trivial | refine ⟨?_, ?_⟩) (fun _ => ⟨by simp [V.flat, V.flatA, V.flatC, D.flat], flat_nil⟩) ⟨rfl, rfl, rfl⟩
theorem spec_l01Narrow_ok (n : Nat) (x_ : Nat) {r : Nat} (h : m_spec_l01Narrow n x_ = some r) : ACall prog false 91 [.d (.fl .f64 x_)] [] (fun v o new => v = .d (.fl .f32 r) ∧ o = [] ∧ new = []) := spec_l01Narrow_ok_fr0 false n x_ h
theorem spec_l01Narrow_ok_fr (n : Nat) (x_ : Nat) {r : Nat} (h : m_spec_l01Narrow n x_ = some r) : ACall prog true 91 [.d (.fl .f64 x_)] [] (fun v o new => v = .d (.fl .f32 r) ∧ o = [] ∧ new = []) := spec_l01Narrow_ok_fr0 true n x_ h

def m_spec_l01Phasor_j3 (n : Nat) (v35 : Nat) (v36 : Int) : Option Cx :=
  (m_spec_l01SineWide n (farith .sub .f64 (4598175219545276416 : Nat) v35)).bind fun x37 =>
  (m_spec_l01SineWide n v35).bind fun x38 =>
  if v36 = (1 : Int) then
    (m_spec_l01Narrow n (farith .sub .f64 (0 : Nat) x38)).bind fun x46 =>
    (m_spec_l01Narrow n x37).bind fun x47 =>
    some (Cx.mk x46 x47)
  else
    if v36 = (2 : Int) then
      (m_spec_l01Narrow n (farith .sub .f64 (0 : Nat) x37)).bind fun x49 =>
      (m_spec_l01Narrow n (farith .sub .f64 (0 : Nat) x38)).bind fun x50 =>
      some (Cx.mk x49 x50)
    else
      if v36 = (3 : Int) then
        (m_spec_l01Narrow n x38).bind fun x52 =>
        (m_spec_l01Narrow n (farith .sub .f64 (0 : Nat) x37)).bind fun x53 =>
        some (Cx.mk x52 x53)
      else
        (m_spec_l01Narrow n x37).bind fun x54 =>
        (m_spec_l01Narrow n x38).bind fun x55 =>
        some (Cx.mk x54 x55)
def m_spec_l01Phasor_l4 (n : Nat) : Nat → Nat → Int → Option Cx
  | 0, _, _ => none
  | m61 + 1, v57, v58 =>
    if (fcmp .geq .f64 v57 (4598175219545276416 : Nat)) = true then
      (m_spec_l01Phasor_l4 n m61) (farith .sub .f64 v57 (4598175219545276416 : Nat)) (w64 (v58 + (1 : Int)))
    else
      m_spec_l01Phasor_j3 n v57 v58
def m_spec_l01Phasor_j2 (n : Nat) (v30 : Nat) : Option Cx :=
  m_spec_l01Phasor_l4 n n v30 (0 : Int)
def m_spec_l01Phasor_j1 (n : Nat) (turns_ : Nat) : Option Cx :=
  (f2i .f64 .i64 turns_).bind fun x28 =>
  if (fcmp .lss .f64 (farith .sub .f64 turns_ (FloatKind.nearest .f64 x28)) (0 : Nat)) = true then
    m_spec_l01Phasor_j2 n (farith .add .f64 (farith .sub .f64 turns_ (FloatKind.nearest .f64 x28)) (4607182418800017408 : Nat))
  else
    m_spec_l01Phasor_j2 n (farith .sub .f64 turns_ (FloatKind.nearest .f64 x28))
def m_spec_l01Phasor_j5 (n : Nat) (turns_ : Nat) (v69 : Bool) : Option Cx :=
  if v69 = true then
    some (Cx.mk (1065353216 : Nat) (0 : Nat))
  else
    m_spec_l01Phasor_j1 n turns_
def m_spec_l01Phasor (n : Nat) (turns_ : Nat) : Option Cx :=
  if (fcmp .neq .f64 (farith .sub .f64 turns_ turns_) (0 : Nat)) = true then
    (m_spec_l01From n (2143289344 : Int)).bind fun x24 =>
    (m_spec_l01From n (2143289344 : Int)).bind fun x25 =>
    some (Cx.mk x24 x25)
  else
    if (fcmp .geq .f64 turns_ (4841369599423283200 : Nat)) = true then
      m_spec_l01Phasor_j5 n turns_ true
    else
      m_spec_l01Phasor_j5 n turns_ (fcmp .leq .f64 turns_ (14064741636278059008 : Nat))
theorem spec_l01Phasor_ok_fr0 (fr : Bool) (n : Nat) (turns_ : Nat) {r : Cx} (h : m_spec_l01Phasor n turns_ = some r) : ACall prog fr 139 [.d (.fl .f64 turns_)] [] (fun v o new => v = .d (.cx .f32 r.re r.im) ∧ o = [] ∧ new = []) := by
  refine acall_of_aw hτ func139 rfl (by simp) (by simp) ?_
  unfold m_spec_l01Phasor at h
  refine aw_seq ?_
  refine aw_region ?_
  refine awl_val hτ rfl rfl rfl ?_
  refine awl_nil ?_
  refine aw_seq ?_
  refine aw_seq ?_
  refine aw_region ?_
  refine awl_val hτ rfl rfl rfl ?_
  refine awl_val hτ rfl rfl rfl ?_
  refine awl_val hτ rfl rfl rfl ?_
  refine awl_val hτ rfl rfl rfl ?_
  refine awl_nil ?_
  refine aw_cond rfl (fun hc23 => ?_) (fun hc23 => ?_)
  · have h := if_bt h hc23
    refine aw_seq ?_
    refine aw_region ?_
    refine bnd_elim h fun x24 hx24 h => ?_
    refine awl_callP hτ false [] rfl rfl rfl (enterOk func57 rfl rfl) rfl rfl (by simp) ⟨trivial, trivial⟩ (by repeat' first | exact trivial | refine ⟨?_, ?_⟩) (spec_l01From_ok n (2143289344 : Int) hx24) ?_
    rintro r0 o0 n0 ⟨rfl, rfl, rfl⟩ -
    refine bnd_elim h fun x25 hx25 h => ?_
    refine awl_callP hτ false [] rfl rfl rfl (enterOk func57 rfl rfl) rfl rfl (by simp) ⟨trivial, trivial⟩ (by repeat' first | exact trivial | refine ⟨?_, ?_⟩) (spec_l01From_ok n (2143289344 : Int) hx25) ?_
    rintro r0 o0 n0 ⟨rfl, rfl, rfl⟩ -
    refine awl_val hτ rfl rfl rfl ?_
    refine awl_val hτ rfl rfl rfl ?_
    refine awl_nil ?_
    refine aw_weak (weak_ofP [] (l := [(2, .d (.cx .f32 x24 x25))]) (objs := []) rfl (by simp) rfl (by repeat' first | exact trivial | refine ⟨?_, ?_⟩) ⟨rfl, trivial, trivial⟩) ?_
    refine aw_ret ?_
    have hr := Option.some.inj h
    subst hr
    exact ret_objs (.inr rfl) [] (objs' := []) (new := []) rfl (by simp) (by simp) rfl (by repeat' first | exact trivial | refine ⟨?_, ?_⟩) rfl rfl (by repeat' first | exact trivial | refine ⟨?_, ?_⟩) (fun _ => ⟨by simp [V.flat, V.flatA, V.flatC, D.flat], flat_nil⟩) ⟨rfl, rfl, rfl⟩
  · have h := if_bf h hc23
    refine aw_skip ?_
    refine aw_hk1 (ι := Unit) (fun _ => St.of [(0, .d (.fl .f64 turns_))] [] f139.ntmps 0) (fun _ => m_spec_l01Phasor_j1 n turns_ = some r) ?_ (fun hk66 => ?_)
    · rintro ⟨⟩ h
      replace h : m_spec_l01Phasor_j1 n turns_ = some r := h
      unfold m_spec_l01Phasor_j1 at h
      refine aw_seq ?_
      refine aw_region ?_
      refine awl_val hτ rfl rfl rfl ?_
      refine awl_val hτ rfl rfl rfl ?_
      refine bnd_elim h fun x28 hx28 h => ?_
      refine awl_x rfl rfl (x_f2i hτ rfl rfl rfl rfl rfl rfl hx28) ?_
      refine awl_val hτ rfl rfl rfl ?_
      refine awl_val hτ rfl rfl rfl ?_
      refine awl_val hτ rfl rfl rfl ?_
      refine awl_nil ?_
      refine aw_hk1 (ι := Nat) (fun v30 => St.of [(3, .d (.fl .f64 v30))] [] f139.ntmps 0) (fun v30 => m_spec_l01Phasor_j2 n v30 = some r) ?_ (fun hk64 => ?_)
      · rintro v30 h
        replace h : m_spec_l01Phasor_j2 n v30 = some r := h
        unfold m_spec_l01Phasor_j2 at h
        refine aw_seq ?_
        refine aw_region ?_
        refine awl_val hτ rfl rfl rfl ?_
        refine awl_nil ?_
        refine aw_hk1 (ι := Nat × Int) (fun (v35, v36) => St.of [(3, .d (.fl .f64 v35)), (4, .d (.int .i64 v36))] [] f139.ntmps 0) (fun (v35, v36) => m_spec_l01Phasor_j3 n v35 v36 = some r) ?_ (fun hk56 => ?_)
        · rintro ⟨v35, v36⟩ h
          replace h : m_spec_l01Phasor_j3 n v35 v36 = some r := h
          unfold m_spec_l01Phasor_j3 at h
          refine aw_seq ?_
          refine aw_region ?_
          refine awl_val hτ rfl rfl rfl ?_
          refine awl_val hτ rfl rfl rfl ?_
          refine bnd_elim h fun x37 hx37 h => ?_
          refine awl_callP hτ false [] rfl rfl rfl (enterOk func155 rfl rfl) rfl rfl (by simp) ⟨trivial, trivial⟩ (by repeat' first | exact trivial | refine ⟨?_, ?_⟩) (spec_l01SineWide_ok n (farith .sub .f64 (4598175219545276416 : Nat) v35) hx37) ?_
          rintro r0 o0 n0 ⟨rfl, rfl, rfl⟩ -
          refine awl_val hτ rfl rfl rfl ?_
          refine awl_nil ?_
          refine aw_seq ?_
          refine aw_region ?_
          refine awl_val hτ rfl rfl rfl ?_
          refine bnd_elim h fun x38 hx38 h => ?_
          refine awl_callP hτ false [] rfl rfl rfl (enterOk func155 rfl rfl) rfl rfl (by simp) ⟨trivial, trivial⟩ (by repeat' first | exact trivial | refine ⟨?_, ?_⟩) (spec_l01SineWide_ok n v35 hx38) ?_
          rintro r0 o0 n0 ⟨rfl, rfl, rfl⟩ -
          refine awl_val hτ rfl rfl rfl ?_
          refine awl_nil ?_
          refine aw_seq ?_
          refine aw_seq ?_
          refine aw_weak (weak_ofP [] (l := [(4, .d (.int .i64 v36)), (5, .d (.fl .f64 x37)), (6, .d (.fl .f64 x38))]) (objs := []) rfl (by simp) rfl (by repeat' first | exact trivial | refine ⟨?_, ?_⟩) ⟨rfl, trivial, rfl, trivial, rfl, trivial, trivial⟩) ?_
          refine aw_region ?_
          refine awl_val hτ rfl rfl rfl ?_
          refine awl_nil ?_
          refine aw_block ?_
          refine aw_seq ?_
          refine aw_region ?_
          refine awl_val hτ (v := .d (.bool (decide (v36 = (1 : Int))))) rfl rfl (or_ieq _ _) ?_
          refine awl_val hτ rfl rfl rfl ?_
          refine awl_nil ?_
          refine aw_cond rfl (fun hc45 => ?_) (fun hc45 => ?_)
          · have h := if_t h hc45
            refine aw_seq ?_
            refine aw_region ?_
            refine awl_val hτ rfl rfl rfl ?_
            refine awl_val hτ rfl rfl rfl ?_
            refine bnd_elim h fun x46 hx46 h => ?_
            refine awl_callP hτ false [] rfl rfl rfl (enterOk func91 rfl rfl) rfl rfl (by simp) ⟨trivial, trivial⟩ (by repeat' first | exact trivial | refine ⟨?_, ?_⟩) (spec_l01Narrow_ok n (farith .sub .f64 (0 : Nat) x38) hx46) ?_
            rintro r0 o0 n0 ⟨rfl, rfl, rfl⟩ -
            refine awl_val hτ rfl rfl rfl ?_
            refine bnd_elim h fun x47 hx47 h => ?_
            refine awl_callP hτ false [] rfl rfl rfl (enterOk func91 rfl rfl) rfl rfl (by simp) ⟨trivial, trivial⟩ (by repeat' first | exact trivial | refine ⟨?_, ?_⟩) (spec_l01Narrow_ok n x37 hx47) ?_
            rintro r0 o0 n0 ⟨rfl, rfl, rfl⟩ -
            refine awl_val hτ rfl rfl rfl ?_
            refine awl_val hτ rfl rfl rfl ?_
            refine awl_nil ?_
            refine aw_weak (weak_ofP [] (l := [(2, .d (.cx .f32 x46 x47))]) (objs := []) rfl (by simp) rfl (by repeat' first | exact trivial | refine ⟨?_, ?_⟩) ⟨rfl, trivial, trivial⟩) ?_
            refine aw_ret ?_
            have hr := Option.some.inj h
            subst hr
            exact ret_objs (.inr rfl) [] (objs' := []) (new := []) rfl (by simp) (by simp) rfl (by repeat' first | exact trivial | refine ⟨?_, ?_⟩) rfl rfl (by repeat' first | exact trivial | refine ⟨?_, ?_⟩) (fun _ => ⟨by simp [V.flat, V.flatA, V.flatC, D.flat], flat_nil⟩) ⟨rfl, rfl, rfl⟩
          · have h := if_f h hc45
            refine aw_seq ?_
            refine aw_region ?_
            refine awl_val hτ (v := .d (.bool (decide (v36 = (2 : Int))))) rfl rfl (or_ieq _ _) ?_
            refine awl_val hτ rfl rfl rfl ?_
            refine awl_nil ?_
            refine aw_cond rfl (fun hc48 => ?_) (fun hc48 => ?_)
            · have h := if_t h hc48
              refine aw_seq ?_
              refine aw_region ?_
              refine awl_val hτ rfl rfl rfl ?_
              refine awl_val hτ rfl rfl rfl ?_
              refine bnd_elim h fun x49 hx49 h => ?_
              refine awl_callP hτ false [] rfl rfl rfl (enterOk func91 rfl rfl) rfl rfl (by simp) ⟨trivial, trivial⟩ (by repeat' first | exact trivial | refine ⟨?_, ?_⟩) (spec_l01Narrow_ok n (farith .sub .f64 (0 : Nat) x37) hx49) ?_
              rintro r0 o0 n0 ⟨rfl, rfl, rfl⟩ -
              refine awl_val hτ rfl rfl rfl ?_
              refine awl_val hτ rfl rfl rfl ?_
              refine bnd_elim h fun x50 hx50 h => ?_
              refine awl_callP hτ false [] rfl rfl rfl (enterOk func91 rfl rfl) rfl rfl (by simp) ⟨trivial, trivial⟩ (by repeat' first | exact trivial | refine ⟨?_, ?_⟩) (spec_l01Narrow_ok n (farith .sub .f64 (0 : Nat) x38) hx50) ?_
              rintro r0 o0 n0 ⟨rfl, rfl, rfl⟩ -
              refine awl_val hτ rfl rfl rfl ?_
              refine awl_weak (weak_ofP [] (l := [(57, .d (.cx .f32 x49 x50))]) (objs := []) rfl (by simp) rfl (by repeat' first | exact trivial | refine ⟨?_, ?_⟩) ⟨rfl, trivial, trivial⟩) ?_
              refine awl_val hτ rfl rfl rfl ?_
              refine awl_nil ?_
              refine aw_weak (weak_ofP [] (l := [(2, .d (.cx .f32 x49 x50))]) (objs := []) rfl (by simp) rfl (by repeat' first | exact trivial | refine ⟨?_, ?_⟩) ⟨rfl, trivial, trivial⟩) ?_
              refine aw_ret ?_
              have hr := Option.some.inj h
              subst hr
              exact ret_objs (.inr rfl) [] (objs' := []) (new := []) rfl (by simp) (by simp) rfl (by repeat' first | exact trivial | refine ⟨?_, ?_⟩) rfl rfl (by repeat' first | exact trivial | refine ⟨?_, ?_⟩) (fun _ => ⟨by simp [V.flat, V.flatA, V.flatC, D.flat], flat_nil⟩) ⟨rfl, rfl, rfl⟩
            · have h := if_f h hc48
              refine aw_seq ?_
              refine aw_region ?_
              refine awl_val hτ (v := .d (.bool (decide (v36 = (3 : Int))))) rfl rfl (or_ieq _ _) ?_
              refine awl_val hτ rfl rfl rfl ?_
              refine awl_nil ?_
              refine aw_weak (weak_ofP [] (l := [(5, .d (.fl .f64 x37)), (6, .d (.fl .f64 x38)), (58, .d (.bool (decide (v36 = (3 : Int)))))]) (objs := []) rfl (by simp) rfl (by repeat' first | exact trivial | refine ⟨?_, ?_⟩) ⟨rfl, trivial, rfl, trivial, rfl, trivial, trivial⟩) ?_
              refine aw_cond rfl (fun hc51 => ?_) (fun hc51 => ?_)
              · have h := if_t h hc51
                refine aw_seq ?_
                refine aw_region ?_
                refine awl_val hτ rfl rfl rfl ?_
                refine bnd_elim h fun x52 hx52 h => ?_
                refine awl_callP hτ false [] rfl rfl rfl (enterOk func91 rfl rfl) rfl rfl (by simp) ⟨trivial, trivial⟩ (by repeat' first | exact trivial | refine ⟨?_, ?_⟩) (spec_l01Narrow_ok n x38 hx52) ?_
                rintro r0 o0 n0 ⟨rfl, rfl, rfl⟩ -
                refine awl_val hτ rfl rfl rfl ?_
                refine awl_val hτ rfl rfl rfl ?_
                refine bnd_elim h fun x53 hx53 h => ?_
                refine awl_callP hτ false [] rfl rfl rfl (enterOk func91 rfl rfl) rfl rfl (by simp) ⟨trivial, trivial⟩ (by repeat' first | exact trivial | refine ⟨?_, ?_⟩) (spec_l01Narrow_ok n (farith .sub .f64 (0 : Nat) x37) hx53) ?_
                rintro r0 o0 n0 ⟨rfl, rfl, rfl⟩ -
                refine awl_val hτ rfl rfl rfl ?_
                refine awl_val hτ rfl rfl rfl ?_
                refine awl_nil ?_
                refine aw_weak (weak_ofP [] (l := [(2, .d (.cx .f32 x52 x53))]) (objs := []) rfl (by simp) rfl (by repeat' first | exact trivial | refine ⟨?_, ?_⟩) ⟨rfl, trivial, trivial⟩) ?_
                refine aw_ret ?_
                have hr := Option.some.inj h
                subst hr
                exact ret_objs (.inr rfl) [] (objs' := []) (new := []) rfl (by simp) (by simp) rfl (by repeat' first | exact trivial | refine ⟨?_, ?_⟩) rfl rfl (by repeat' first | exact trivial | refine ⟨?_, ?_⟩) (fun _ => ⟨by simp [V.flat, V.flatA, V.flatC, D.flat], flat_nil⟩) ⟨rfl, rfl, rfl⟩
              · have h := if_f h hc51
                refine aw_skip ?_
                refine aw_seq ?_
                refine aw_region ?_
                refine awl_val hτ rfl rfl rfl ?_
                refine bnd_elim h fun x54 hx54 h => ?_
                refine awl_callP hτ false [] rfl rfl rfl (enterOk func91 rfl rfl) rfl rfl (by simp) ⟨trivial, trivial⟩ (by repeat' first | exact trivial | refine ⟨?_, ?_⟩) (spec_l01Narrow_ok n x37 hx54) ?_
                rintro r0 o0 n0 ⟨rfl, rfl, rfl⟩ -
                refine awl_val hτ rfl rfl rfl ?_
                refine bnd_elim h fun x55 hx55 h => ?_
                refine awl_callP hτ false [] rfl rfl rfl (enterOk func91 rfl rfl) rfl rfl (by simp) ⟨trivial, trivial⟩ (by repeat' first | exact trivial | refine ⟨?_, ?_⟩) (spec_l01Narrow_ok n x38 hx55) ?_
                rintro r0 o0 n0 ⟨rfl, rfl, rfl⟩ -
                refine awl_val hτ rfl rfl rfl ?_
                refine awl_val hτ rfl rfl rfl ?_
                refine awl_nil ?_
                refine aw_weak (weak_ofP [] (l := [(2, .d (.cx .f32 x54 x55))]) (objs := []) rfl (by simp) rfl (by repeat' first | exact trivial | refine ⟨?_, ?_⟩) ⟨rfl, trivial, trivial⟩) ?_
                refine aw_ret ?_
                have hr := Option.some.inj h
                subst hr
                exact ret_objs (.inr rfl) [] (objs' := []) (new := []) rfl (by simp) (by simp) rfl (by repeat' first | exact trivial | refine ⟨?_, ?_⟩) rfl rfl (by repeat' first | exact trivial | refine ⟨?_, ?_⟩) (fun _ => ⟨by simp [V.flat, V.flatA, V.flatC, D.flat], flat_nil⟩) ⟨rfl, rfl, rfl⟩
        · refine aw_seq ?_
          refine aw_block ?_
          refine aw_loop (ι := Nat × Nat × Int) (fun (m61, v57, v58) => St.of [(3, .d (.fl .f64 v57)), (4, .d (.int .i64 v58))] [] f139.ntmps 0) (fun (m61, v57, v58) => m_spec_l01Phasor_l4 n m61 v57 v58 = some r) (fun x => x.1) (n, v30, (0 : Int)) h (weak_ofP [] (l := [(3, .d (.fl .f64 v30)), (4, .d (.int .i64 (0 : Int)))]) (objs := []) rfl (by simp) rfl (by repeat' first | exact trivial | refine ⟨?_, ?_⟩) ⟨rfl, trivial, rfl, trivial, trivial⟩) ?_
          rintro ⟨m61, v57, v58⟩ h
          replace h : m_spec_l01Phasor_l4 n m61 v57 v58 = some r := h
          rcases m61 with _ | m61
          · rw [m_spec_l01Phasor_l4] at h; cases h
          rw [m_spec_l01Phasor_l4] at h
          refine aw_seq ?_
          refine aw_seq ?_
          refine aw_region ?_
          refine awl_val hτ rfl rfl rfl ?_
          refine awl_val hτ rfl rfl rfl ?_
          refine awl_nil ?_
          refine aw_cond rfl (fun hc63 => ?_) (fun hc63 => ?_)
          · have h := if_bt h hc63
            refine aw_skip ?_
            refine aw_block ?_
            refine aw_seq ?_
            refine aw_region ?_
            refine awl_val hτ rfl rfl rfl ?_
            refine awl_val hτ rfl rfl rfl ?_
            refine awl_val hτ rfl rfl rfl ?_
            refine awl_nil ?_
            refine aw_region ?_
            refine awl_val hτ rfl rfl rfl ?_
            refine awl_val hτ rfl rfl rfl ?_
            refine awl_val hτ rfl rfl rfl ?_
            refine awl_nil ?_
            exact ⟨(m61, (farith .sub .f64 v57 (4598175219545276416 : Nat)), (w64 (v58 + (1 : Int)))), h, Nat.lt_succ_self m61, (weak_ofP [] (l := [(3, .d (.fl .f64 (farith .sub .f64 v57 (4598175219545276416 : Nat)))), (4, .d (.int .i64 (w64 (v58 + (1 : Int)))))]) (objs := []) rfl (by simp) rfl (by repeat' first | exact trivial | refine ⟨?_, ?_⟩) ⟨rfl, trivial, rfl, trivial, trivial⟩)⟩
          · have h := if_bf h hc63
            refine aw_exit ?_
            refine aw_weak (weak_ofP [] (l := [(3, .d (.fl .f64 v57)), (4, .d (.int .i64 v58))]) (objs := []) rfl (by simp) rfl (by repeat' first | exact trivial | refine ⟨?_, ?_⟩) ⟨rfl, trivial, rfl, trivial, trivial⟩) ?_
            exact hk56 (v57, v58) h
      · refine aw_seq ?_
        refine aw_seq ?_
        refine aw_weak (weak_ofP [] (l := [(3, .d (.fl .f64 (farith .sub .f64 turns_ (FloatKind.nearest .f64 x28))))]) (objs := []) rfl (by simp) rfl (by repeat' first | exact trivial | refine ⟨?_, ?_⟩) ⟨rfl, trivial, trivial⟩) ?_
        refine aw_region ?_
        refine awl_val hτ rfl rfl rfl ?_
        refine awl_val hτ rfl rfl rfl ?_
        refine awl_nil ?_
        refine aw_cond rfl (fun hc65 => ?_) (fun hc65 => ?_)
        · have h := if_bt h hc65
          refine aw_region ?_
          refine awl_val hτ rfl rfl rfl ?_
          refine awl_val hτ rfl rfl rfl ?_
          refine awl_val hτ rfl rfl rfl ?_
          refine awl_nil ?_
          refine aw_weak (weak_ofP [] (l := [(3, .d (.fl .f64 (farith .add .f64 (farith .sub .f64 turns_ (FloatKind.nearest .f64 x28)) (4607182418800017408 : Nat))))]) (objs := []) rfl (by simp) rfl (by repeat' first | exact trivial | refine ⟨?_, ?_⟩) ⟨rfl, trivial, trivial⟩) ?_
          exact hk64 (farith .add .f64 (farith .sub .f64 turns_ (FloatKind.nearest .f64 x28)) (4607182418800017408 : Nat)) h
        · have h := if_bf h hc65
          refine aw_skip ?_
          refine aw_weak (weak_ofP [] (l := [(3, .d (.fl .f64 (farith .sub .f64 turns_ (FloatKind.nearest .f64 x28))))]) (objs := []) rfl (by simp) rfl (by repeat' first | exact trivial | refine ⟨?_, ?_⟩) ⟨rfl, trivial, trivial⟩) ?_
          exact hk64 (farith .sub .f64 turns_ (FloatKind.nearest .f64 x28)) h
    · refine aw_seq ?_
      refine aw_hk1 (ι := Bool) (fun v69 => St.of [(0, .d (.fl .f64 turns_)), (19, .d (.bool v69))] [] f139.ntmps 0) (fun v69 => m_spec_l01Phasor_j5 n turns_ v69 = some r) ?_ (fun hk71 => ?_)
      · rintro v69 h
        replace h : m_spec_l01Phasor_j5 n turns_ v69 = some r := h
        unfold m_spec_l01Phasor_j5 at h
        refine aw_cond rfl (fun hc70 => ?_) (fun hc70 => ?_)
        · have h := if_bt h hc70
          refine aw_seq ?_
          refine aw_region ?_
          refine awl_val hτ rfl rfl rfl ?_
          refine awl_nil ?_
          refine aw_weak (weak_ofP [] (l := [(2, .d (.cx .f32 (1065353216 : Nat) (0 : Nat)))]) (objs := []) rfl (by simp) rfl (by repeat' first | exact trivial | refine ⟨?_, ?_⟩) ⟨rfl, trivial, trivial⟩) ?_
          refine aw_ret ?_
          have hr := Option.some.inj h
          subst hr
          exact ret_objs (.inr rfl) [] (objs' := []) (new := []) rfl (by simp) (by simp) rfl (by repeat' first | exact trivial | refine ⟨?_, ?_⟩) rfl rfl (by repeat' first | exact trivial | refine ⟨?_, ?_⟩) (fun _ => ⟨by simp [V.flat, V.flatA, V.flatC, D.flat], flat_nil⟩) ⟨rfl, rfl, rfl⟩
        · have h := if_bf h hc70
          refine aw_skip ?_
          refine aw_weak (weak_ofP [] (l := [(0, .d (.fl .f64 turns_))]) (objs := []) rfl (by simp) rfl (by repeat' first | exact trivial | refine ⟨?_, ?_⟩) ⟨rfl, trivial, trivial⟩) ?_
          exact hk66 () h
      · refine aw_seq ?_
        refine aw_region ?_
        refine awl_val hτ rfl rfl rfl ?_
        refine awl_val hτ rfl rfl rfl ?_
        refine awl_val hτ rfl rfl rfl ?_
        refine awl_split 16 rfl (fun hb72 => ?_) (fun hb72 => ?_)
        · have h := if_bt h hb72
          refine awl_skip rfl rfl ?_
          refine awl_skip rfl rfl ?_
          refine awl_val hτ rfl rfl rfl ?_
          refine awl_nil ?_
          refine aw_weak (weak_ofP [] (l := [(0, .d (.fl .f64 turns_)), (19, .d (.bool true))]) (objs := []) rfl (by simp) rfl (by repeat' first | exact trivial | refine ⟨?_, ?_⟩) ⟨rfl, trivial, rfl, trivial, trivial⟩) ?_
          exact hk71 true h
        · have h := if_bf h hb72
          refine awl_val hτ rfl rfl rfl ?_
          refine awl_val hτ rfl rfl rfl ?_
          refine awl_val hτ rfl rfl rfl ?_
          refine awl_nil ?_
          refine aw_weak (weak_ofP [] (l := [(0, .d (.fl .f64 turns_)), (19, .d (.bool (fcmp .leq .f64 turns_ (14064741636278059008 : Nat))))]) (objs := []) rfl (by simp) rfl (by repeat' first | exact trivial | refine ⟨?_, ?_⟩) ⟨rfl, trivial, rfl, trivial, trivial⟩) ?_
          exact hk71 (fcmp .leq .f64 turns_ (14064741636278059008 : Nat)) h
theorem spec_l01Phasor_ok (n : Nat) (turns_ : Nat) {r : Cx} (h : m_spec_l01Phasor n turns_ = some r) : ACall prog false 139 [.d (.fl .f64 turns_)] [] (fun v o new => v = .d (.cx .f32 r.re r.im) ∧ o = [] ∧ new = []) := spec_l01Phasor_ok_fr0 false n turns_ h
theorem spec_l01Phasor_ok_fr (n : Nat) (turns_ : Nat) {r : Cx} (h : m_spec_l01Phasor n turns_ = some r) : ACall prog true 139 [.d (.fl .f64 turns_)] [] (fun v o new => v = .d (.cx .f32 r.re r.im) ∧ o = [] ∧ new = []) := spec_l01Phasor_ok_fr0 true n turns_ h

def m_spec_l01Wide (n : Nat) (x_ : Cx) : Option Cx :=
  (fconv .f32 .f64 x_.re).bind fun x3 =>
  (fconv .f32 .f64 x_.im).bind fun x4 =>
  some (Cx.mk x3 x4)
theorem spec_l01Wide_ok_fr0 (fr : Bool) (n : Nat) (x_ : Cx) {r : Cx} (h : m_spec_l01Wide n x_ = some r) : ACall prog fr 154 [.d (.cx .f32 x_.re x_.im)] [] (fun v o new => v = .d (.cx .f64 r.re r.im) ∧ o = [] ∧ new = []) := by
  refine acall_of_aw hτ func154 rfl (by simp) (by simp) ?_
  unfold m_spec_l01Wide at h
  refine aw_seq ?_
  refine aw_region ?_
  refine awl_val hτ rfl rfl rfl ?_
  refine awl_nil ?_
  refine aw_seq ?_
  refine aw_region ?_
  refine awl_val hτ rfl rfl rfl ?_
  refine awl_val hτ rfl rfl rfl ?_
  refine bnd_elim h fun x3 hx3 h => ?_
  refine awl_val hτ (v := .d (.fl .f64 x3)) rfl rfl (conv_val hx3) ?_
  refine awl_val hτ rfl rfl rfl ?_
  refine awl_val hτ rfl rfl rfl ?_
  refine bnd_elim h fun x4 hx4 h => ?_
  refine awl_val hτ (v := .d (.fl .f64 x4)) rfl rfl (conv_val hx4) ?_
  refine awl_val hτ rfl rfl rfl ?_
  refine awl_val hτ rfl rfl rfl ?_
  refine awl_nil ?_
  refine aw_weak (weak_ofP [] (l := [(2, .d (.cx .f64 x3 x4))]) (objs := []) rfl (by simp) rfl (by repeat' first | exact trivial | refine ⟨?_, ?_⟩) ⟨rfl, trivial, trivial⟩) ?_
  refine aw_ret ?_
  have hr := Option.some.inj h
  subst hr
  exact ret_objs (.inr rfl) [] (objs' := []) (new := []) rfl (by simp) (by simp) rfl (by repeat' first | exact trivial | refine ⟨?_, ?_⟩) rfl rfl (by repeat' first | exact trivial | refine ⟨?_, ?_⟩) (fun _ => ⟨by simp [V.flat, V.flatA, V.flatC, D.flat], flat_nil⟩) ⟨rfl, rfl, rfl⟩
theorem spec_l01Wide_ok (n : Nat) (x_ : Cx) {r : Cx} (h : m_spec_l01Wide n x_ = some r) : ACall prog false 154 [.d (.cx .f32 x_.re x_.im)] [] (fun v o new => v = .d (.cx .f64 r.re r.im) ∧ o = [] ∧ new = []) := spec_l01Wide_ok_fr0 false n x_ h
theorem spec_l01Wide_ok_fr (n : Nat) (x_ : Cx) {r : Cx} (h : m_spec_l01Wide n x_ = some r) : ACall prog true 154 [.d (.cx .f32 x_.re x_.im)] [] (fun v o new => v = .d (.cx .f64 r.re r.im) ∧ o = [] ∧ new = []) := spec_l01Wide_ok_fr0 true n x_ h

def m_spec_l01WideMul (n : Nat) (x_ : Cx) (y_ : Cx) : Option Cx :=
  some (Cx.mk (farith .sub .f64 (farith .mul .f64 x_.re y_.re) (farith .mul .f64 x_.im y_.im)) (farith .add .f64 (farith .mul .f64 x_.re y_.im) (farith .mul .f64 x_.im y_.re)))
theorem spec_l01WideMul_ok_fr0 (fr : Bool) (n : Nat) (x_ : Cx) (y_ : Cx) {r : Cx} (h : m_spec_l01WideMul n x_ y_ = some r) : ACall prog fr 153 [.d (.cx .f64 x_.re x_.im), .d (.cx .f64 y_.re y_.im)] [] (fun v o new => v = .d (.cx .f64 r.re r.im) ∧ o = [] ∧ new = []) := by
  refine acall_of_aw hτ func153 rfl (by simp) (by simp) ?_
  unfold m_spec_l01WideMul at h
  refine aw_seq ?_
  refine aw_region ?_
  refine awl_val hτ rfl rfl rfl ?_
  refine awl_nil ?_
  refine aw_seq ?_
  refine aw_region ?_
  refine awl_val hτ rfl rfl rfl ?_
  refine awl_val hτ rfl rfl rfl ?_
  refine awl_val hτ rfl rfl rfl ?_
  refine awl_val hτ rfl rfl rfl ?_
  refine awl_val hτ rfl rfl rfl ?_
  refine awl_val hτ rfl rfl rfl ?_
  refine awl_val hτ rfl rfl rfl ?_
  refine awl_val hτ rfl rfl rfl ?_
  refine awl_val hτ rfl rfl rfl ?_
  refine awl_val hτ rfl rfl rfl ?_
  refine awl_val hτ rfl rfl rfl ?_
  refine awl_weak (weak_ofP [] (l := [(0, .d (.cx .f64 x_.re x_.im)), (1, .d (.cx .f64 y_.re y_.im)), (17, .d (.fl .f64 (farith .sub .f64 (farith .mul .f64 x_.re y_.re) (farith .mul .f64 x_.im y_.im))))]) (objs := []) rfl (by simp) rfl (by repeat' first | exact trivial | refine ⟨?_, ?_⟩) ⟨rfl, trivial, rfl, trivial, rfl, trivial, trivial⟩) ?_
  refine awl_val hτ rfl rfl rfl ?_
  refine awl_nil ?_
  refine aw_seq ?_
  refine aw_region ?_
  refine awl_val hτ rfl rfl rfl ?_
  refine awl_val hτ rfl rfl rfl ?_
  refine awl_val hτ rfl rfl rfl ?_
  refine awl_val hτ rfl rfl rfl ?_
  refine awl_val hτ rfl rfl rfl ?_
  refine awl_val hτ rfl rfl rfl ?_
  refine awl_val hτ rfl rfl rfl ?_
  refine awl_val hτ rfl rfl rfl ?_
  refine awl_val hτ rfl rfl rfl ?_
  refine awl_val hτ rfl rfl rfl ?_
  refine awl_val hτ rfl rfl rfl ?_
  refine awl_weak (weak_ofP [] (l := [(5, .d (.fl .f64 (farith .sub .f64 (farith .mul .f64 x_.re y_.re) (farith .mul .f64 x_.im y_.im)))), (28, .d (.fl .f64 (farith .add .f64 (farith .mul .f64 x_.re y_.im) (farith .mul .f64 x_.im y_.re))))]) (objs := []) rfl (by simp) rfl (by repeat' first | exact trivial | refine ⟨?_, ?_⟩) ⟨rfl, trivial, rfl, trivial, trivial⟩) ?_
  refine awl_val hτ rfl rfl rfl ?_
  refine awl_nil ?_
  refine aw_seq ?_
  refine aw_region ?_
  refine awl_val hτ rfl rfl rfl ?_
  refine awl_val hτ rfl rfl rfl ?_
  refine awl_val hτ rfl rfl rfl ?_
  refine awl_val hτ rfl rfl rfl ?_
  refine awl_nil ?_
  refine aw_weak (weak_ofP [] (l := [(4, .d (.cx .f64 (farith .sub .f64 (farith .mul .f64 x_.re y_.re) (farith .mul .f64 x_.im y_.im)) (farith .add .f64 (farith .mul .f64 x_.re y_.im) (farith .mul .f64 x_.im y_.re))))]) (objs := []) rfl (by simp) rfl (by repeat' first | exact trivial | refine ⟨?_, ?_⟩) ⟨rfl, trivial, trivial⟩) ?_
  refine aw_ret ?_
  have hr := Option.some.inj h
  subst hr
  exact ret_objs (.inr rfl) [] (objs' := []) (new := []) rfl (by simp) (by simp) rfl (by repeat' first | exact trivial | refine ⟨?_, ?_⟩) rfl rfl (by repeat' first | exact trivial | refine ⟨?_, ?_⟩) (fun _ => ⟨by simp [V.flat, V.flatA, V.flatC, D.flat], flat_nil⟩) ⟨rfl, rfl, rfl⟩
theorem spec_l01WideMul_ok (n : Nat) (x_ : Cx) (y_ : Cx) {r : Cx} (h : m_spec_l01WideMul n x_ y_ = some r) : ACall prog false 153 [.d (.cx .f64 x_.re x_.im), .d (.cx .f64 y_.re y_.im)] [] (fun v o new => v = .d (.cx .f64 r.re r.im) ∧ o = [] ∧ new = []) := spec_l01WideMul_ok_fr0 false n x_ y_ h
theorem spec_l01WideMul_ok_fr (n : Nat) (x_ : Cx) (y_ : Cx) {r : Cx} (h : m_spec_l01WideMul n x_ y_ = some r) : ACall prog true 153 [.d (.cx .f64 x_.re x_.im), .d (.cx .f64 y_.re y_.im)] [] (fun v o new => v = .d (.cx .f64 r.re r.im) ∧ o = [] ∧ new = []) := spec_l01WideMul_ok_fr0 true n x_ y_ h

def m_spec_l01CNarrow (n : Nat) (x_ : Cx) : Option Cx :=
  (m_spec_l01Narrow n x_.re).bind fun x3 =>
  (m_spec_l01Narrow n x_.im).bind fun x4 =>
  some (Cx.mk x3 x4)
theorem spec_l01CNarrow_ok_fr0 (fr : Bool) (n : Nat) (x_ : Cx) {r : Cx} (h : m_spec_l01CNarrow n x_ = some r) : ACall prog fr 152 [.d (.cx .f64 x_.re x_.im)] [] (fun v o new => v = .d (.cx .f32 r.re r.im) ∧ o = [] ∧ new = []) := by
  refine acall_of_aw hτ func152 rfl (by simp) (by simp) ?_
  unfold m_spec_l01CNarrow at h
  refine aw_seq ?_
  refine aw_region ?_
  refine awl_val hτ rfl rfl rfl ?_
  refine awl_nil ?_
  refine aw_seq ?_
  refine aw_region ?_
  refine awl_val hτ rfl rfl rfl ?_
  refine awl_val hτ rfl rfl rfl ?_
  refine bnd_elim h fun x3 hx3 h => ?_
  refine awl_callP hτ false [] rfl rfl rfl (enterOk func91 rfl rfl) rfl rfl (by simp) ⟨trivial, trivial⟩ (by repeat' first | exact trivial | refine ⟨?_, ?_⟩) (spec_l01Narrow_ok n x_.re hx3) ?_
  rintro r0 o0 n0 ⟨rfl, rfl, rfl⟩ -
  refine awl_val hτ rfl rfl rfl ?_
  refine awl_val hτ rfl rfl rfl ?_
  refine bnd_elim h fun x4 hx4 h => ?_
  refine awl_callP hτ false [] rfl rfl rfl (enterOk func91 rfl rfl) rfl rfl (by simp) ⟨trivial, trivial⟩ (by repeat' first | exact trivial | refine ⟨?_, ?_⟩) (spec_l01Narrow_ok n x_.im hx4) ?_
  rintro r0 o0 n0 ⟨rfl, rfl, rfl⟩ -
  refine awl_val hτ rfl rfl rfl ?_
  refine awl_val hτ rfl rfl rfl ?_
  refine awl_nil ?_
  refine aw_weak (weak_ofP [] (l := [(2, .d (.cx .f32 x3 x4))]) (objs := []) rfl (by simp) rfl (by repeat' first | exact trivial | refine ⟨?_, ?_⟩) ⟨rfl, trivial, trivial⟩) ?_
  refine aw_ret ?_
  have hr := Option.some.inj h
  subst hr
  exact ret_objs (.inr rfl) [] (objs' := []) (new := []) rfl (by simp) (by simp) rfl (by repeat' first | exact trivial | refine ⟨?_, ?_⟩) rfl rfl (by repeat' first | exact trivial | refine ⟨?_, ?_⟩) (fun _ => ⟨by simp [V.flat, V.flatA, V.flatC, D.flat], flat_nil⟩) ⟨rfl, rfl, rfl⟩
theorem spec_l01CNarrow_ok (n : Nat) (x_ : Cx) {r : Cx} (h : m_spec_l01CNarrow n x_ = some r) : ACall prog false 152 [.d (.cx .f64 x_.re x_.im)] [] (fun v o new => v = .d (.cx .f32 r.re r.im) ∧ o = [] ∧ new = []) := spec_l01CNarrow_ok_fr0 false n x_ h
theorem spec_l01CNarrow_ok_fr (n : Nat) (x_ : Cx) {r : Cx} (h : m_spec_l01CNarrow n x_ = some r) : ACall prog true 152 [.d (.cx .f64 x_.re x_.im)] [] (fun v o new => v = .d (.cx .f32 r.re r.im) ∧ o = [] ∧ new = []) := spec_l01CNarrow_ok_fr0 true n x_ h

def m_spec_l01Mul (n : Nat) (x_ : Cx) (y_ : Cx) : Option Cx :=
  (m_spec_l01Wide n x_).bind fun x5 =>
  (m_spec_l01Wide n y_).bind fun x6 =>
  (m_spec_l01WideMul n x5 x6).bind fun x7 =>
  (m_spec_l01CNarrow n x7).bind fun x8 =>
  some x8
theorem spec_l01Mul_ok_fr0 (fr : Bool) (n : Nat) (x_ : Cx) (y_ : Cx) {r : Cx} (h : m_spec_l01Mul n x_ y_ = some r) : ACall prog fr 138 [.d (.cx .f32 x_.re x_.im), .d (.cx .f32 y_.re y_.im)] [] (fun v o new => v = .d (.cx .f32 r.re r.im) ∧ o = [] ∧ new = []) := by
  refine acall_of_aw hτ func138 rfl (by simp) (by simp) ?_
  unfold m_spec_l01Mul at h
  refine aw_seq ?_
  refine aw_region ?_
  refine awl_val hτ rfl rfl rfl ?_
  refine awl_nil ?_
  refine aw_seq ?_
  refine aw_region ?_
  refine awl_val hτ rfl rfl rfl ?_
  refine bnd_elim h fun x5 hx5 h => ?_
  refine awl_callP hτ false [] rfl rfl rfl (enterOk func154 rfl rfl) rfl rfl (by simp) ⟨trivial, trivial⟩ (by repeat' first | exact trivial | refine ⟨?_, ?_⟩) (spec_l01Wide_ok n x_ hx5) ?_
  rintro r0 o0 n0 ⟨rfl, rfl, rfl⟩ -
  refine awl_val hτ rfl rfl rfl ?_
  refine bnd_elim h fun x6 hx6 h => ?_
  refine awl_callP hτ false [] rfl rfl rfl (enterOk func154 rfl rfl) rfl rfl (by simp) ⟨trivial, trivial⟩ (by repeat' first | exact trivial | refine ⟨?_, ?_⟩) (spec_l01Wide_ok n y_ hx6) ?_
  rintro r0 o0 n0 ⟨rfl, rfl, rfl⟩ -
  refine bnd_elim h fun x7 hx7 h => ?_
  refine awl_callP hτ false [] rfl rfl rfl (enterOk func153 rfl rfl) rfl rfl (by simp) ⟨trivial, trivial, trivial⟩ (by repeat' first | exact trivial | refine ⟨?_, ?_⟩) (spec_l01WideMul_ok n x5 x6 hx7) ?_
  rintro r0 o0 n0 ⟨rfl, rfl, rfl⟩ -
  refine bnd_elim h fun x8 hx8 h => ?_
  refine awl_callP hτ false [] rfl rfl rfl (enterOk func152 rfl rfl) rfl rfl (by simp) ⟨trivial, trivial⟩ (by repeat' first | exact trivial | refine ⟨?_, ?_⟩) (spec_l01CNarrow_ok n x7 hx8) ?_
  rintro r0 o0 n0 ⟨rfl, rfl, rfl⟩ -
  refine awl_val hτ rfl rfl rfl ?_
  refine awl_nil ?_
  refine aw_weak (weak_ofP [] (l := [(4, .d (.cx .f32 x8.re x8.im))]) (objs := []) rfl (by simp) rfl (by repeat' first | exact trivial | refine ⟨?_, ?_⟩) ⟨rfl, trivial, trivial⟩) ?_
  refine aw_ret ?_
  have hr := Option.some.inj h
  subst hr
  exact ret_objs (.inr rfl) [] (objs' := []) (new := []) rfl (by simp) (by simp) rfl (by repeat' first | exact trivial | refine ⟨?_, ?_⟩) rfl rfl (by repeat' first | exact trivial | refine ⟨?_, ?_⟩) (fun _ => ⟨by simp [V.flat, V.flatA, V.flatC, D.flat], flat_nil⟩) ⟨rfl, rfl, rfl⟩
theorem spec_l01Mul_ok (n : Nat) (x_ : Cx) (y_ : Cx) {r : Cx} (h : m_spec_l01Mul n x_ y_ = some r) : ACall prog false 138 [.d (.cx .f32 x_.re x_.im), .d (.cx .f32 y_.re y_.im)] [] (fun v o new => v = .d (.cx .f32 r.re r.im) ∧ o = [] ∧ new = []) := spec_l01Mul_ok_fr0 false n x_ y_ h
theorem spec_l01Mul_ok_fr (n : Nat) (x_ : Cx) (y_ : Cx) {r : Cx} (h : m_spec_l01Mul n x_ y_ = some r) : ACall prog true 138 [.d (.cx .f32 x_.re x_.im), .d (.cx .f32 y_.re y_.im)] [] (fun v o new => v = .d (.cx .f32 r.re r.im) ∧ o = [] ∧ new = []) := spec_l01Mul_ok_fr0 true n x_ y_ h

def m_spec_l02Even (n : Nat) (x_ : Cx) : Option SPhases :=
  (m_spec_l01Phasor n (fneg .f64 (4599676419421066581 : Nat))).bind fun x5 =>
  (m_spec_l01Mul n x_ x5).bind fun x6 =>
  (m_spec_l01Phasor n (4599676419421066581 : Nat)).bind fun x7 =>
  (m_spec_l01Mul n x_ x7).bind fun x8 =>
  some (SPhases.mk x_ x6 x8)
theorem spec_l02Even_ok_fr0 (fr : Bool) (n : Nat) (x_ : Cx) {r : SPhases} (h : m_spec_l02Even n x_ = some r) : ACall prog fr 124 [.d (.cx .f32 x_.re x_.im)] [] (fun v o new => v = .agg [.d (.cx .f32 r.A.re r.A.im), .d (.cx .f32 r.B.re r.B.im), .d (.cx .f32 r.C.re r.C.im)] ∧ o = [] ∧ new = []) := by
  refine acall_of_aw hτ func124 rfl (by simp) (by simp) ?_
  unfold m_spec_l02Even at h
  refine aw_seq ?_
  refine aw_region ?_
  refine awl_valH hτ rfl rfl rfl ?_
  refine awl_nil ?_
  refine aw_seq ?_
  refine aw_region ?_
  refine awl_val hτ rfl rfl rfl ?_
  refine awl_nil ?_
  refine aw_seq ?_
  refine aw_region ?_
  refine awl_val hτ rfl rfl rfl ?_
  refine awl_val hτ rfl rfl rfl ?_
  refine awl_val hτ rfl rfl rfl ?_
  refine awl_val hτ rfl rfl rfl ?_
  refine bnd_elim h fun x5 hx5 h => ?_
  refine awl_callP hτ false [] rfl rfl rfl (enterOk func139 rfl rfl) rfl rfl (by simp) ⟨trivial, trivial⟩ (by repeat' first | exact trivial | refine ⟨?_, ?_⟩) (spec_l01Phasor_ok n (fneg .f64 (4599676419421066581 : Nat)) hx5) ?_
  rintro r0 o0 n0 ⟨rfl, rfl, rfl⟩ -
  refine bnd_elim h fun x6 hx6 h => ?_
  refine awl_callP hτ false [] rfl rfl rfl (enterOk func138 rfl rfl) rfl rfl (by simp) ⟨trivial, trivial, trivial⟩ (by repeat' first | exact trivial | refine ⟨?_, ?_⟩) (spec_l01Mul_ok n x_ x5 hx6) ?_
  rintro r0 o0 n0 ⟨rfl, rfl, rfl⟩ -
  refine awl_val hτ rfl rfl rfl ?_
  refine awl_val hτ rfl rfl rfl ?_
  refine bnd_elim h fun x7 hx7 h => ?_
  refine awl_callP hτ false [] rfl rfl rfl (enterOk func139 rfl rfl) rfl rfl (by simp) ⟨trivial, trivial⟩ (by repeat' first | exact trivial | refine ⟨?_, ?_⟩) (spec_l01Phasor_ok n (4599676419421066581 : Nat) hx7) ?_
  rintro r0 o0 n0 ⟨rfl, rfl, rfl⟩ -
  refine bnd_elim h fun x8 hx8 h => ?_
  refine awl_callP hτ false [] rfl rfl rfl (enterOk func138 rfl rfl) rfl rfl (by simp) ⟨trivial, trivial, trivial⟩ (by repeat' first | exact trivial | refine ⟨?_, ?_⟩) (spec_l01Mul_ok n x_ x7 hx8) ?_
  rintro r0 o0 n0 ⟨rfl, rfl, rfl⟩ -
  refine awl_weak (weak_ofP [0] (l := [(2, .ptr 0 0), (4, .d (.cx .f32 x_.re x_.im)), (9, .d (.cx .f32 x6.re x6.im)), (13, .d (.cx .f32 x8.re x8.im))]) (objs := [.box [.d (.cx .f32 (0 : Nat) (0 : Nat)), .d (.cx .f32 (0 : Nat) (0 : Nat)), .d (.cx .f32 (0 : Nat) (0 : Nat))]]) rfl (by simp) rfl (by repeat' first | exact trivial | refine ⟨?_, ?_⟩) ⟨rfl, trivial, rfl, trivial, rfl, trivial, rfl, trivial, trivial⟩) ?_
  refine awl_val hτ rfl rfl rfl ?_
  refine awl_valH hτ rfl rfl rfl ?_
  refine awl_nil ?_
  refine aw_weak (weak_ofP [0] (l := [(2, .ptr 0 0)]) (objs := [.box [.d (.cx .f32 x_.re x_.im), .d (.cx .f32 x6.re x6.im), .d (.cx .f32 x8.re x8.im)]]) rfl (by simp) rfl (by repeat' first | exact trivial | refine ⟨?_, ?_⟩) ⟨rfl, trivial, trivial⟩) ?_
  refine aw_ret ?_
  have hr := Option.some.inj h
  subst hr
  exact ret_objs (.inr rfl) [] (objs' := []) (new := []) rfl (by simp) (by simp) rfl (by repeat' first | exact trivial | refine ⟨?_, ?_⟩) rfl rfl (by repeat' first | exact trivial | refine ⟨?_, ?_⟩) (fun _ => ⟨by simp [V.flat, V.flatA, V.flatC, D.flat], flat_nil⟩) ⟨rfl, rfl, rfl⟩
theorem spec_l02Even_ok (n : Nat) (x_ : Cx) {r : SPhases} (h : m_spec_l02Even n x_ = some r) : ACall prog false 124 [.d (.cx .f32 x_.re x_.im)] [] (fun v o new => v = .agg [.d (.cx .f32 r.A.re r.A.im), .d (.cx .f32 r.B.re r.B.im), .d (.cx .f32 r.C.re r.C.im)] ∧ o = [] ∧ new = []) := spec_l02Even_ok_fr0 false n x_ h
theorem spec_l02Even_ok_fr (n : Nat) (x_ : Cx) {r : SPhases} (h : m_spec_l02Even n x_ = some r) : ACall prog true 124 [.d (.cx .f32 x_.re x_.im)] [] (fun v o new => v = .agg [.d (.cx .f32 r.A.re r.A.im), .d (.cx .f32 r.B.re r.B.im), .d (.cx .f32 r.C.re r.C.im)] ∧ o = [] ∧ new = []) := spec_l02Even_ok_fr0 true n x_ h

def m_spec_l00Src_one (n : Nat) (s_ : SL00Src) (n_ : Int) : Option (Bool × SL00Src) :=
  (m_spec_l00Src_pick n s_ n_).bind fun x2 =>
  some ((decide (x2.1 = (0 : Int))), x2.2)
theorem spec_l00Src_one_ok (n : Nat) (s_ : SL00Src) (n_ : Int) {r : Bool × SL00Src} (h : m_spec_l00Src_one n s_ n_ = some r) : ACall prog false 56 [.ptr 0 0, .d (.int .i64 n_)] [.box [.d (.sl false (s_.code.map eIntu8)), .d (.int .i64 s_.at_), .d (.int .u64 s_.seed)]] (fun v o new => v = .d (.bool r.1) ∧ o = [.box [.d (.sl false (r.2.code.map eIntu8)), .d (.int .i64 r.2.at_), .d (.int .u64 r.2.seed)]] ∧ new = []) := by
  refine acall_of_aw hτ func56 rfl (by simp) (by simp) ?_
  unfold m_spec_l00Src_one at h
  refine aw_seq ?_
  refine aw_region ?_
  refine awl_val hτ rfl rfl rfl ?_
  refine awl_nil ?_
  refine aw_seq ?_
  refine aw_region ?_
  refine awl_val hτ rfl rfl rfl ?_
  refine awl_val hτ rfl rfl rfl ?_
  refine bnd_elim h fun x2 hx2 h => ?_
  refine awl_callP hτ false [0] rfl rfl rfl (enterOk func44 rfl rfl) rfl rfl (by simp) ⟨trivial, trivial, trivial⟩ (by repeat' first | exact trivial | refine ⟨?_, ?_⟩) (spec_l00Src_pick_ok n s_ n_ hx2) ?_
  rintro r0 o0 n0 ⟨rfl, rfl, rfl⟩ -
  refine awl_val hτ (v := .d (.bool (decide (x2.1 = (0 : Int))))) rfl rfl (or_ieq _ _) ?_
  refine awl_val hτ rfl rfl rfl ?_
  refine awl_nil ?_
  refine aw_weak (weak_ofP [0] (l := [(4, .d (.bool (decide (x2.1 = (0 : Int)))))]) (objs := [.box [.d (.sl false (x2.2.code.map eIntu8)), .d (.int .i64 x2.2.at_), .d (.int .u64 x2.2.seed)]]) rfl (by simp) rfl (by repeat' first | exact trivial | refine ⟨?_, ?_⟩) ⟨rfl, trivial, trivial⟩) ?_
  refine aw_ret ?_
  have hr := Option.some.inj h
  subst hr
  exact ret_objs (.inr rfl) [] (objs' := [.box [.d (.sl false (x2.2.code.map eIntu8)), .d (.int .i64 x2.2.at_), .d (.int .u64 x2.2.seed)]]) (new := []) rfl (by simp) (by simp) rfl (by repeat' first | exact trivial | refine ⟨?_, ?_⟩) rfl rfl (by repeat' first | exact trivial | refine ⟨?_, ?_⟩) (fun h => nomatch h) ⟨rfl, rfl, rfl⟩

def m_spec_l01DrawPlain (n : Nat) (s_ : SL00Src) : Option (Nat × SL00Src) :=
  (m_spec_l00Src_pick n s_ (129 : Int)).bind fun x3 =>
  (m_spec_l00Src_one n x3.2 (4 : Int)).bind fun x5 =>
  if x5.1 = true then
    some ((farith .quo .f32 (FloatKind.nearest .f32 (w64 (x3.1 - (64 : Int)))) (1088421888 : Nat)), x5.2)
  else
    some ((farith .quo .f32 (FloatKind.nearest .f32 (w64 (x3.1 - (64 : Int)))) (1098907648 : Nat)), x5.2)
theorem spec_l01DrawPlain_ok (n : Nat) (s_ : SL00Src) {r : Nat × SL00Src} (h : m_spec_l01DrawPlain n s_ = some r) : ACall prog false 94 [.ptr 0 0] [.box [.d (.sl false (s_.code.map eIntu8)), .d (.int .i64 s_.at_), .d (.int .u64 s_.seed)]] (fun v o new => v = .d (.fl .f32 r.1) ∧ o = [.box [.d (.sl false (r.2.code.map eIntu8)), .d (.int .i64 r.2.at_), .d (.int .u64 r.2.seed)]] ∧ new = []) := by
  refine acall_of_aw hτ func94 rfl (by simp) (by simp) ?_
  unfold m_spec_l01DrawPlain at h
  refine aw_seq ?_
  refine aw_region ?_
  refine awl_val hτ rfl rfl rfl ?_
  refine awl_nil ?_
  refine aw_seq ?_
  refine aw_region ?_
  refine awl_val hτ rfl rfl rfl ?_
  refine bnd_elim h fun x3 hx3 h => ?_
  refine awl_callP hτ false [0] rfl rfl rfl (enterOk func44 rfl rfl) rfl rfl (by simp) ⟨trivial, trivial, trivial⟩ (by repeat' first | exact trivial | refine ⟨?_, ?_⟩) (spec_l00Src_pick_ok n s_ (129 : Int) hx3) ?_
  rintro r0 o0 n0 ⟨rfl, rfl, rfl⟩ -
  refine awl_val hτ rfl rfl rfl ?_
  refine awl_val hτ rfl rfl rfl ?_
  refine awl_nil ?_
  refine aw_seq ?_
  refine aw_seq ?_
  refine aw_region ?_
  refine awl_val hτ rfl rfl rfl ?_
  refine bnd_elim h fun x5 hx5 h => ?_
  refine awl_callP hτ false [0] rfl rfl rfl (enterOk func56 rfl rfl) rfl rfl (by simp) ⟨trivial, trivial, trivial⟩ (by repeat' first | exact trivial | refine ⟨?_, ?_⟩) (spec_l00Src_one_ok n x3.2 (4 : Int) hx5) ?_
  rintro r0 o0 n0 ⟨rfl, rfl, rfl⟩ -
  refine awl_nil ?_
  refine aw_weak (weak_ofP [0] (l := [(3, .d (.int .i64 (w64 (x3.1 - (64 : Int))))), (8, .d (.bool x5.1))]) (objs := [.box [.d (.sl false (x5.2.code.map eIntu8)), .d (.int .i64 x5.2.at_), .d (.int .u64 x5.2.seed)]]) rfl (by simp) rfl (by repeat' first | exact trivial | refine ⟨?_, ?_⟩) ⟨rfl, trivial, rfl, trivial, trivial⟩) ?_
  refine aw_cond rfl (fun hc6 => ?_) (fun hc6 => ?_)
  · have h := if_bt h hc6
    refine aw_seq ?_
    refine aw_region ?_
    refine awl_val hτ rfl rfl rfl ?_
    refine awl_val hτ rfl rfl rfl ?_
    refine awl_val hτ rfl rfl rfl ?_
    refine awl_val hτ rfl rfl rfl ?_
    refine awl_nil ?_
    refine aw_weak (weak_ofP [0] (l := [(2, .d (.fl .f32 (farith .quo .f32 (FloatKind.nearest .f32 (w64 (x3.1 - (64 : Int)))) (1088421888 : Nat))))]) (objs := [.box [.d (.sl false (x5.2.code.map eIntu8)), .d (.int .i64 x5.2.at_), .d (.int .u64 x5.2.seed)]]) rfl (by simp) rfl (by repeat' first | exact trivial | refine ⟨?_, ?_⟩) ⟨rfl, trivial, trivial⟩) ?_
    refine aw_ret ?_
    have hr := Option.some.inj h
    subst hr
    exact ret_objs (.inr rfl) [] (objs' := [.box [.d (.sl false (x5.2.code.map eIntu8)), .d (.int .i64 x5.2.at_), .d (.int .u64 x5.2.seed)]]) (new := []) rfl (by simp) (by simp) rfl (by repeat' first | exact trivial | refine ⟨?_, ?_⟩) rfl rfl (by repeat' first | exact trivial | refine ⟨?_, ?_⟩) (fun h => nomatch h) ⟨rfl, rfl, rfl⟩
  · have h := if_bf h hc6
    refine aw_skip ?_
    refine aw_seq ?_
    refine aw_region ?_
    refine awl_val hτ rfl rfl rfl ?_
    refine awl_val hτ rfl rfl rfl ?_
    refine awl_val hτ rfl rfl rfl ?_
    refine awl_val hτ rfl rfl rfl ?_
    refine awl_nil ?_
    refine aw_weak (weak_ofP [0] (l := [(2, .d (.fl .f32 (farith .quo .f32 (FloatKind.nearest .f32 (w64 (x3.1 - (64 : Int)))) (1098907648 : Nat))))]) (objs := [.box [.d (.sl false (x5.2.code.map eIntu8)), .d (.int .i64 x5.2.at_), .d (.int .u64 x5.2.seed)]]) rfl (by simp) rfl (by repeat' first | exact trivial | refine ⟨?_, ?_⟩) ⟨rfl, trivial, trivial⟩) ?_
    refine aw_ret ?_
    have hr := Option.some.inj h
    subst hr
    exact ret_objs (.inr rfl) [] (objs' := [.box [.d (.sl false (x5.2.code.map eIntu8)), .d (.int .i64 x5.2.at_), .d (.int .u64 x5.2.seed)]]) (new := []) rfl (by simp) (by simp) rfl (by repeat' first | exact trivial | refine ⟨?_, ?_⟩) rfl rfl (by repeat' first | exact trivial | refine ⟨?_, ?_⟩) (fun h => nomatch h) ⟨rfl, rfl, rfl⟩

def m_spec_l00Src_among (n : Nat) (s_ : SL00Src) (list_ : List Int) : Option (Int × SL00Src) :=
  (m_spec_l00Src_pick n s_ (list_.length : Int)).bind fun x3 =>
  (getI list_ x3.1).bind fun x4 =>
  some (x4, x3.2)
theorem spec_l00Src_among_ok (n : Nat) (s_ : SL00Src) (list_ : List Int) {r : Int × SL00Src} (h : m_spec_l00Src_among n s_ list_ = some r) : ACall prog false 95 [.ptr 0 0, .d (.sl false (list_.map eInti64))] [.box [.d (.sl false (s_.code.map eIntu8)), .d (.int .i64 s_.at_), .d (.int .u64 s_.seed)]] (fun v o new => v = .d (.int .i64 r.1) ∧ o = [.box [.d (.sl false (r.2.code.map eIntu8)), .d (.int .i64 r.2.at_), .d (.int .u64 r.2.seed)]] ∧ new = []) := by
  refine acall_of_aw hτ func95 rfl (by simp) (by simp) ?_
  unfold m_spec_l00Src_among at h
  refine aw_seq ?_
  refine aw_region ?_
  refine awl_val hτ rfl rfl rfl ?_
  refine awl_nil ?_
  refine aw_seq ?_
  refine aw_region ?_
  refine awl_val hτ rfl rfl rfl ?_
  refine awl_val hτ rfl rfl rfl ?_
  refine awl_val hτ rfl rfl rfl ?_
  refine awl_val hτ (v := .d (.int .i64 (list_.length : Int))) rfl rfl (Eq.trans rfl (or_len (f := eInti64) list_)) ?_
  refine bnd_elim h fun x3 hx3 h => ?_
  refine awl_callP hτ false [0] rfl rfl rfl (enterOk func44 rfl rfl) rfl rfl (by simp) ⟨trivial, trivial, trivial⟩ (by repeat' first | exact trivial | refine ⟨?_, ?_⟩) (spec_l00Src_pick_ok n s_ (list_.length : Int) hx3) ?_
  rintro r0 o0 n0 ⟨rfl, rfl, rfl⟩ -
  refine bnd_elim h fun x4 hx4 h => ?_
  refine awl_elem hτ rfl rfl rfl (getI_some hx4).1 (map_getI hx4) rfl ?_
  refine awl_val hτ rfl rfl rfl ?_
  refine awl_val hτ rfl rfl rfl ?_
  refine awl_nil ?_
  refine aw_weak (weak_ofP [0] (l := [(4, .d (.int .i64 x4))]) (objs := [.box [.d (.sl false (x3.2.code.map eIntu8)), .d (.int .i64 x3.2.at_), .d (.int .u64 x3.2.seed)]]) rfl (by simp) rfl (by repeat' first | exact trivial | refine ⟨?_, ?_⟩) ⟨rfl, trivial, trivial⟩) ?_
  refine aw_ret ?_
  have hr := Option.some.inj h
  subst hr
  exact ret_objs (.inr rfl) [] (objs' := [.box [.d (.sl false (x3.2.code.map eIntu8)), .d (.int .i64 x3.2.at_), .d (.int .u64 x3.2.seed)]]) (new := []) rfl (by simp) (by simp) rfl (by repeat' first | exact trivial | refine ⟨?_, ?_⟩) rfl rfl (by repeat' first | exact trivial | refine ⟨?_, ?_⟩) (fun h => nomatch h) ⟨rfl, rfl, rfl⟩

def m_spec_l01DrawFloat (n : Nat) (s_ : SL00Src) : Option (Nat × SL00Src) :=
  (m_spec_l00Src_one n s_ (12 : Int)).bind fun x16 =>
  if x16.1 = true then
    (m_spec_l00Src_pick n x16.2 (4 : Int)).bind fun x27 =>
    if x27.1 = (0 : Int) then
      (m_spec_l00Src_among n x27.2 [(0 : Int), (2147483648 : Int), (2139095040 : Int), (4286578688 : Int), (2143289344 : Int), (1 : Int), (2139095039 : Int), (8388608 : Int), (8388607 : Int), (2147483649 : Int)]).bind fun x29 =>
      (m_spec_l01From n x29.1).bind fun x30 =>
      some (x30, x29.2)
    else
      if x27.1 = (1 : Int) then
        (m_spec_l00Src_pick n x27.2 (65536 : Int)).bind fun x32 =>
        (m_spec_l00Src_pick n x32.2 (65536 : Int)).bind fun x33 =>
        (m_spec_l01From n (w64 ((w64 (x32.1 * (65536 : Int))) + x33.1))).bind fun x34 =>
        some (x34, x33.2)
      else
        if x27.1 = (2 : Int) then
          (m_spec_l00Src_pick n x27.2 (65536 : Int)).bind fun x36 =>
          (m_spec_l01From n (w64 (x36.1 * (65536 : Int)))).bind fun x37 =>
          some (x37, x36.2)
        else
          (m_spec_l01DrawPlain n x27.2).bind fun x38 =>
          (m_spec_l00Src_among n x38.2 [(8388608 : Int), (2130706432 : Int), (1610612736 : Int), (536870912 : Int)]).bind fun x39 =>
          (m_spec_l01From n x39.1).bind fun x40 =>
          some ((farith .mul .f32 x38.1 x40), x39.2)
  else
    (m_spec_l01DrawPlain n x16.2).bind fun x18 =>
    some (x18.1, x18.2)
theorem spec_l01DrawFloat_ok (n : Nat) (s_ : SL00Src) {r : Nat × SL00Src} (h : m_spec_l01DrawFloat n s_ = some r) : ACall prog false 58 [.ptr 0 0] [.box [.d (.sl false (s_.code.map eIntu8)), .d (.int .i64 s_.at_), .d (.int .u64 s_.seed)]] (fun v o new => v = .d (.fl .f32 r.1) ∧ o = [.box [.d (.sl false (r.2.code.map eIntu8)), .d (.int .i64 r.2.at_), .d (.int .u64 r.2.seed)]] ∧ new = []) := by
  refine acall_of_aw hτ func58 rfl (by simp) (by simp) ?_
  unfold m_spec_l01DrawFloat at h
  refine aw_seq ?_
  refine aw_region ?_
  refine awl_val hτ rfl rfl rfl ?_
  refine awl_nil ?_
  refine aw_seq ?_
  refine aw_seq ?_
  refine aw_region ?_
  refine awl_val hτ rfl rfl rfl ?_
  refine bnd_elim h fun x16 hx16 h => ?_
  refine awl_callP hτ false [0] rfl rfl rfl (enterOk func56 rfl rfl) rfl rfl (by simp) ⟨trivial, trivial, trivial⟩ (by repeat' first | exact trivial | refine ⟨?_, ?_⟩) (spec_l00Src_one_ok n s_ (12 : Int) hx16) ?_
  rintro r0 o0 n0 ⟨rfl, rfl, rfl⟩ -
  refine awl_val hτ rfl rfl rfl ?_
  refine awl_nil ?_
  refine aw_cond rfl (fun hc17 => ?_) (fun hc17 => ?_)
  · have hc17 := not_t hc17
    have h := if_bf h hc17
    refine aw_seq ?_
    refine aw_region ?_
    refine awl_val hτ rfl rfl rfl ?_
    refine bnd_elim h fun x18 hx18 h => ?_
    refine awl_callP hτ false [0] rfl rfl rfl (enterOk func94 rfl rfl) rfl rfl (by simp) ⟨trivial, trivial⟩ (by repeat' first | exact trivial | refine ⟨?_, ?_⟩) (spec_l01DrawPlain_ok n x16.2 hx18) ?_
    rintro r0 o0 n0 ⟨rfl, rfl, rfl⟩ -
    refine awl_val hτ rfl rfl rfl ?_
    refine awl_nil ?_
    refine aw_weak (weak_ofP [0] (l := [(2, .d (.fl .f32 x18.1))]) (objs := [.box [.d (.sl false (x18.2.code.map eIntu8)), .d (.int .i64 x18.2.at_), .d (.int .u64 x18.2.seed)]]) rfl (by simp) rfl (by repeat' first | exact trivial | refine ⟨?_, ?_⟩) ⟨rfl, trivial, trivial⟩) ?_
    refine aw_ret ?_
    have hr := Option.some.inj h
    subst hr
    exact ret_objs (.inr rfl) [] (objs' := [.box [.d (.sl false (x18.2.code.map eIntu8)), .d (.int .i64 x18.2.at_), .d (.int .u64 x18.2.seed)]]) (new := []) rfl (by simp) (by simp) rfl (by repeat' first | exact trivial | refine ⟨?_, ?_⟩) rfl rfl (by repeat' first | exact trivial | refine ⟨?_, ?_⟩) (fun h => nomatch h) ⟨rfl, rfl, rfl⟩
  · have hc17 := not_f hc17
    have h := if_bt h hc17
    refine aw_skip ?_
    refine aw_seq ?_
    refine aw_seq ?_
    refine aw_region ?_
    refine awl_val hτ rfl rfl rfl ?_
    refine bnd_elim h fun x27 hx27 h => ?_
    refine awl_callP hτ false [0] rfl rfl rfl (enterOk func44 rfl rfl) rfl rfl (by simp) ⟨trivial, trivial, trivial⟩ (by repeat' first | exact trivial | refine ⟨?_, ?_⟩) (spec_l00Src_pick_ok n x16.2 (4 : Int) hx27) ?_
    rintro r0 o0 n0 ⟨rfl, rfl, rfl⟩ -
    refine awl_nil ?_
    refine aw_block ?_
    refine aw_seq ?_
    refine aw_weak (weak_ofP [0] (l := [(0, .ptr 0 0), (10, .d (.int .i64 x27.1))]) (objs := [.box [.d (.sl false (x27.2.code.map eIntu8)), .d (.int .i64 x27.2.at_), .d (.int .u64 x27.2.seed)]]) rfl (by simp) rfl (by repeat' first | exact trivial | refine ⟨?_, ?_⟩) ⟨rfl, trivial, rfl, trivial, trivial⟩) ?_
    refine aw_region ?_
    refine awl_val hτ (v := .d (.bool (decide (x27.1 = (0 : Int))))) rfl rfl (or_ieq _ _) ?_
    refine awl_val hτ rfl rfl rfl ?_
    refine awl_nil ?_
    refine aw_cond rfl (fun hc28 => ?_) (fun hc28 => ?_)
    · have h := if_t h hc28
      refine aw_seq ?_
      refine aw_region ?_
      refine awl_val hτ rfl rfl rfl ?_
      refine awl_valH hτ rfl rfl rfl ?_
      refine awl_weak (weak_ofP [0] (l := [(13, .ptr 0 0), (14, .d (.sl false ([(0 : Int), (2147483648 : Int), (2139095040 : Int), (4286578688 : Int), (2143289344 : Int), (1 : Int), (2139095039 : Int), (8388608 : Int), (8388607 : Int), (2147483649 : Int)].map eInti64)))]) (objs := [.box [.d (.sl false (x27.2.code.map eIntu8)), .d (.int .i64 x27.2.at_), .d (.int .u64 x27.2.seed)]]) rfl (by simp) rfl (by repeat' first | exact trivial | refine ⟨?_, ?_⟩) ⟨rfl, trivial, (exV_view (f := eInti64) [(0 : Int), (2147483648 : Int), (2139095040 : Int), (4286578688 : Int), (2143289344 : Int), (1 : Int), (2139095039 : Int), (8388608 : Int), (8388607 : Int), (2147483649 : Int)] rfl rfl rfl), (exVP_view (f := eInti64) [(0 : Int), (2147483648 : Int), (2139095040 : Int), (4286578688 : Int), (2143289344 : Int), (1 : Int), (2139095039 : Int), (8388608 : Int), (8388607 : Int), (2147483649 : Int)] rfl rfl rfl), trivial⟩) ?_
      refine bnd_elim h fun x29 hx29 h => ?_
      refine awl_callP hτ false [0] rfl rfl rfl (enterOk func95 rfl rfl) rfl rfl (by simp) ⟨trivial, trivial, trivial⟩ (by repeat' first | exact trivial | refine ⟨?_, ?_⟩) (spec_l00Src_among_ok n x27.2 [(0 : Int), (2147483648 : Int), (2139095040 : Int), (4286578688 : Int), (2143289344 : Int), (1 : Int), (2139095039 : Int), (8388608 : Int), (8388607 : Int), (2147483649 : Int)] hx29) ?_
      rintro r0 o0 n0 ⟨rfl, rfl, rfl⟩ -
      refine bnd_elim h fun x30 hx30 h => ?_
      refine awl_callP hτ false [] rfl rfl rfl (enterOk func57 rfl rfl) rfl rfl (by simp) ⟨trivial, trivial⟩ (by repeat' first | exact trivial | refine ⟨?_, ?_⟩) (spec_l01From_ok n x29.1 hx30) ?_
      rintro r0 o0 n0 ⟨rfl, rfl, rfl⟩ -
      refine awl_val hτ rfl rfl rfl ?_
      refine awl_nil ?_
      refine aw_weak (weak_ofP [0] (l := [(2, .d (.fl .f32 x30))]) (objs := [.box [.d (.sl false (x29.2.code.map eIntu8)), .d (.int .i64 x29.2.at_), .d (.int .u64 x29.2.seed)]]) rfl (by simp) rfl (by repeat' first | exact trivial | refine ⟨?_, ?_⟩) ⟨rfl, trivial, trivial⟩) ?_
      refine aw_ret ?_
      have hr := Option.some.inj h
      subst hr
      exact ret_objs (.inr rfl) [] (objs' := [.box [.d (.sl false (x29.2.code.map eIntu8)), .d (.int .i64 x29.2.at_), .d (.int .u64 x29.2.seed)]]) (new := []) rfl (by simp) (by simp) rfl (by repeat' first | exact trivial | refine ⟨?_, ?_⟩) rfl rfl (by repeat' first | exact trivial | refine ⟨?_, ?_⟩) (fun h => nomatch h) ⟨rfl, rfl, rfl⟩
    · have h := if_f h hc28
      refine aw_seq ?_
      refine aw_region ?_
      refine awl_val hτ (v := .d (.bool (decide (x27.1 = (1 : Int))))) rfl rfl (or_ieq _ _) ?_
      refine awl_val hτ rfl rfl rfl ?_
      refine awl_nil ?_
      refine aw_cond rfl (fun hc31 => ?_) (fun hc31 => ?_)
      · have h := if_t h hc31
        refine aw_seq ?_
        refine aw_region ?_
        refine awl_val hτ rfl rfl rfl ?_
        refine bnd_elim h fun x32 hx32 h => ?_
        refine awl_callP hτ false [0] rfl rfl rfl (enterOk func44 rfl rfl) rfl rfl (by simp) ⟨trivial, trivial, trivial⟩ (by repeat' first | exact trivial | refine ⟨?_, ?_⟩) (spec_l00Src_pick_ok n x27.2 (65536 : Int) hx32) ?_
        rintro r0 o0 n0 ⟨rfl, rfl, rfl⟩ -
        refine awl_val hτ rfl rfl rfl ?_
        refine awl_val hτ rfl rfl rfl ?_
        refine awl_nil ?_
        refine aw_seq ?_
        refine aw_weak (weak_ofP [0] (l := [(0, .ptr 0 0), (3, .d (.int .i64 (w64 (x32.1 * (65536 : Int)))))]) (objs := [.box [.d (.sl false (x32.2.code.map eIntu8)), .d (.int .i64 x32.2.at_), .d (.int .u64 x32.2.seed)]]) rfl (by simp) rfl (by repeat' first | exact trivial | refine ⟨?_, ?_⟩) ⟨rfl, trivial, rfl, trivial, trivial⟩) ?_
        refine aw_region ?_
        refine awl_val hτ rfl rfl rfl ?_
        refine awl_val hτ rfl rfl rfl ?_
        refine bnd_elim h fun x33 hx33 h => ?_
        refine awl_callP hτ false [0] rfl rfl rfl (enterOk func44 rfl rfl) rfl rfl (by simp) ⟨trivial, trivial, trivial⟩ (by repeat' first | exact trivial | refine ⟨?_, ?_⟩) (spec_l00Src_pick_ok n x32.2 (65536 : Int) hx33) ?_
        rintro r0 o0 n0 ⟨rfl, rfl, rfl⟩ -
        refine awl_val hτ rfl rfl rfl ?_
        refine bnd_elim h fun x34 hx34 h => ?_
        refine awl_callP hτ false [] rfl rfl rfl (enterOk func57 rfl rfl) rfl rfl (by simp) ⟨trivial, trivial⟩ (by repeat' first | exact trivial | refine ⟨?_, ?_⟩) (spec_l01From_ok n (w64 ((w64 (x32.1 * (65536 : Int))) + x33.1)) hx34) ?_
        rintro r0 o0 n0 ⟨rfl, rfl, rfl⟩ -
        refine awl_val hτ rfl rfl rfl ?_
        refine awl_nil ?_
        refine aw_weak (weak_ofP [0] (l := [(2, .d (.fl .f32 x34))]) (objs := [.box [.d (.sl false (x33.2.code.map eIntu8)), .d (.int .i64 x33.2.at_), .d (.int .u64 x33.2.seed)]]) rfl (by simp) rfl (by repeat' first | exact trivial | refine ⟨?_, ?_⟩) ⟨rfl, trivial, trivial⟩) ?_
        refine aw_ret ?_
        have hr := Option.some.inj h
        subst hr
        exact ret_objs (.inr rfl) [] (objs' := [.box [.d (.sl false (x33.2.code.map eIntu8)), .d (.int .i64 x33.2.at_), .d (.int .u64 x33.2.seed)]]) (new := []) rfl (by simp) (by simp) rfl (by repeat' first | exact trivial | refine ⟨?_, ?_⟩) rfl rfl (by repeat' first | exact trivial | refine ⟨?_, ?_⟩) (fun h => nomatch h) ⟨rfl, rfl, rfl⟩
      · have h := if_f h hc31
        refine aw_seq ?_
        refine aw_region ?_
        refine awl_val hτ (v := .d (.bool (decide (x27.1 = (2 : Int))))) rfl rfl (or_ieq _ _) ?_
        refine awl_val hτ rfl rfl rfl ?_
        refine awl_nil ?_
        refine aw_weak (weak_ofP [0] (l := [(0, .ptr 0 0), (27, .d (.bool (decide (x27.1 = (2 : Int)))))]) (objs := [.box [.d (.sl false (x27.2.code.map eIntu8)), .d (.int .i64 x27.2.at_), .d (.int .u64 x27.2.seed)]]) rfl (by simp) rfl (by repeat' first | exact trivial | refine ⟨?_, ?_⟩) ⟨rfl, trivial, rfl, trivial, trivial⟩) ?_
        refine aw_cond rfl (fun hc35 => ?_) (fun hc35 => ?_)
        · have h := if_t h hc35
          refine aw_seq ?_
          refine aw_region ?_
          refine awl_val hτ rfl rfl rfl ?_
          refine bnd_elim h fun x36 hx36 h => ?_
          refine awl_callP hτ false [0] rfl rfl rfl (enterOk func44 rfl rfl) rfl rfl (by simp) ⟨trivial, trivial, trivial⟩ (by repeat' first | exact trivial | refine ⟨?_, ?_⟩) (spec_l00Src_pick_ok n x27.2 (65536 : Int) hx36) ?_
          rintro r0 o0 n0 ⟨rfl, rfl, rfl⟩ -
          refine awl_val hτ rfl rfl rfl ?_
          refine bnd_elim h fun x37 hx37 h => ?_
          refine awl_callP hτ false [] rfl rfl rfl (enterOk func57 rfl rfl) rfl rfl (by simp) ⟨trivial, trivial⟩ (by repeat' first | exact trivial | refine ⟨?_, ?_⟩) (spec_l01From_ok n (w64 (x36.1 * (65536 : Int))) hx37) ?_
          rintro r0 o0 n0 ⟨rfl, rfl, rfl⟩ -
          refine awl_val hτ rfl rfl rfl ?_
          refine awl_nil ?_
          refine aw_weak (weak_ofP [0] (l := [(2, .d (.fl .f32 x37))]) (objs := [.box [.d (.sl false (x36.2.code.map eIntu8)), .d (.int .i64 x36.2.at_), .d (.int .u64 x36.2.seed)]]) rfl (by simp) rfl (by repeat' first | exact trivial | refine ⟨?_, ?_⟩) ⟨rfl, trivial, trivial⟩) ?_
          refine aw_ret ?_
          have hr := Option.some.inj h
          subst hr
          exact ret_objs (.inr rfl) [] (objs' := [.box [.d (.sl false (x36.2.code.map eIntu8)), .d (.int .i64 x36.2.at_), .d (.int .u64 x36.2.seed)]]) (new := []) rfl (by simp) (by simp) rfl (by repeat' first | exact trivial | refine ⟨?_, ?_⟩) rfl rfl (by repeat' first | exact trivial | refine ⟨?_, ?_⟩) (fun h => nomatch h) ⟨rfl, rfl, rfl⟩
        · have h := if_f h hc35
          refine aw_skip ?_
          refine aw_seq ?_
          refine aw_region ?_
          refine awl_val hτ rfl rfl rfl ?_
          refine bnd_elim h fun x38 hx38 h => ?_
          refine awl_callP hτ false [0] rfl rfl rfl (enterOk func94 rfl rfl) rfl rfl (by simp) ⟨trivial, trivial⟩ (by repeat' first | exact trivial | refine ⟨?_, ?_⟩) (spec_l01DrawPlain_ok n x27.2 hx38) ?_
          rintro r0 o0 n0 ⟨rfl, rfl, rfl⟩ -
          refine awl_val hτ rfl rfl rfl ?_
          refine awl_valH hτ rfl rfl rfl ?_
          refine awl_weak (weak_ofP [0] (l := [(34, .d (.fl .f32 x38.1)), (35, .ptr 0 0), (36, .d (.sl false ([(8388608 : Int), (2130706432 : Int), (1610612736 : Int), (536870912 : Int)].map eInti64)))]) (objs := [.box [.d (.sl false (x38.2.code.map eIntu8)), .d (.int .i64 x38.2.at_), .d (.int .u64 x38.2.seed)]]) rfl (by simp) rfl (by repeat' first | exact trivial | refine ⟨?_, ?_⟩) ⟨rfl, trivial, rfl, trivial, (exV_view (f := eInti64) [(8388608 : Int), (2130706432 : Int), (1610612736 : Int), (536870912 : Int)] rfl rfl rfl), (exVP_view (f := eInti64) [(8388608 : Int), (2130706432 : Int), (1610612736 : Int), (536870912 : Int)] rfl rfl rfl), trivial⟩) ?_
          refine bnd_elim h fun x39 hx39 h => ?_
          refine awl_callP hτ false [0] rfl rfl rfl (enterOk func95 rfl rfl) rfl rfl (by simp) ⟨trivial, trivial, trivial⟩ (by repeat' first | exact trivial | refine ⟨?_, ?_⟩) (spec_l00Src_among_ok n x38.2 [(8388608 : Int), (2130706432 : Int), (1610612736 : Int), (536870912 : Int)] hx39) ?_
          rintro r0 o0 n0 ⟨rfl, rfl, rfl⟩ -
          refine bnd_elim h fun x40 hx40 h => ?_
          refine awl_callP hτ false [] rfl rfl rfl (enterOk func57 rfl rfl) rfl rfl (by simp) ⟨trivial, trivial⟩ (by repeat' first | exact trivial | refine ⟨?_, ?_⟩) (spec_l01From_ok n x39.1 hx40) ?_
          rintro r0 o0 n0 ⟨rfl, rfl, rfl⟩ -
          refine awl_val hτ rfl rfl rfl ?_
          refine awl_val hτ rfl rfl rfl ?_
          refine awl_nil ?_
          refine aw_weak (weak_ofP [0] (l := [(2, .d (.fl .f32 (farith .mul .f32 x38.1 x40)))]) (objs := [.box [.d (.sl false (x39.2.code.map eIntu8)), .d (.int .i64 x39.2.at_), .d (.int .u64 x39.2.seed)]]) rfl (by simp) rfl (by repeat' first | exact trivial | refine ⟨?_, ?_⟩) ⟨rfl, trivial, trivial⟩) ?_
          refine aw_ret ?_
          have hr := Option.some.inj h
          subst hr
          exact ret_objs (.inr rfl) [] (objs' := [.box [.d (.sl false (x39.2.code.map eIntu8)), .d (.int .i64 x39.2.at_), .d (.int .u64 x39.2.seed)]]) (new := []) rfl (by simp) (by simp) rfl (by repeat' first | exact trivial | refine ⟨?_, ?_⟩) rfl rfl (by repeat' first | exact trivial | refine ⟨?_, ?_⟩) (fun h => nomatch h) ⟨rfl, rfl, rfl⟩

def m_spec_l02DrawNumber (n : Nat) (s_ : SL00Src) (most_ : Int) : Option (Cx × SL00Src) :=
  (m_spec_l00Src_one n s_ (24 : Int)).bind fun x9 =>
  if x9.1 = true then
    (m_spec_l01DrawFloat n x9.2).bind fun x11 =>
    (m_spec_l01DrawFloat n x11.2).bind fun x12 =>
    some ((Cx.mk x11.1 x12.1), x12.2)
  else
    (m_spec_l00Src_pick n x9.2 (w64 ((w64 ((2 : Int) * most_)) + (1 : Int)))).bind fun x13 =>
    (m_spec_l00Src_pick n x13.2 (w64 ((w64 ((2 : Int) * most_)) + (1 : Int)))).bind fun x14 =>
    some ((Cx.mk (farith .quo .f32 (FloatKind.nearest .f32 (w64 (x13.1 - most_))) (1098907648 : Nat)) (farith .quo .f32 (FloatKind.nearest .f32 (w64 (x14.1 - most_))) (1098907648 : Nat))), x14.2)
theorem spec_l02DrawNumber_ok (n : Nat) (s_ : SL00Src) (most_ : Int) {r : Cx × SL00Src} (h : m_spec_l02DrawNumber n s_ most_ = some r) : ACall prog false 122 [.ptr 0 0, .d (.int .i64 most_)] [.box [.d (.sl false (s_.code.map eIntu8)), .d (.int .i64 s_.at_), .d (.int .u64 s_.seed)]] (fun v o new => v = .d (.cx .f32 r.1.re r.1.im) ∧ o = [.box [.d (.sl false (r.2.code.map eIntu8)), .d (.int .i64 r.2.at_), .d (.int .u64 r.2.seed)]] ∧ new = []) := by
  refine acall_of_aw hτ func122 rfl (by simp) (by simp) ?_
  unfold m_spec_l02DrawNumber at h
  refine aw_seq ?_
  refine aw_region ?_
  refine awl_val hτ rfl rfl rfl ?_
  refine awl_nil ?_
  refine aw_seq ?_
  refine aw_seq ?_
  refine aw_region ?_
  refine awl_val hτ rfl rfl rfl ?_
  refine bnd_elim h fun x9 hx9 h => ?_
  refine awl_callP hτ false [0] rfl rfl rfl (enterOk func56 rfl rfl) rfl rfl (by simp) ⟨trivial, trivial, trivial⟩ (by repeat' first | exact trivial | refine ⟨?_, ?_⟩) (spec_l00Src_one_ok n s_ (24 : Int) hx9) ?_
  rintro r0 o0 n0 ⟨rfl, rfl, rfl⟩ -
  refine awl_nil ?_
  refine aw_cond rfl (fun hc10 => ?_) (fun hc10 => ?_)
  · have h := if_bt h hc10
    refine aw_seq ?_
    refine aw_region ?_
    refine awl_val hτ rfl rfl rfl ?_
    refine bnd_elim h fun x11 hx11 h => ?_
    refine awl_callP hτ false [0] rfl rfl rfl (enterOk func58 rfl rfl) rfl rfl (by simp) ⟨trivial, trivial⟩ (by repeat' first | exact trivial | refine ⟨?_, ?_⟩) (spec_l01DrawFloat_ok n x9.2 hx11) ?_
    rintro r0 o0 n0 ⟨rfl, rfl, rfl⟩ -
    refine awl_val hτ rfl rfl rfl ?_
    refine awl_nil ?_
    refine aw_seq ?_
    refine aw_weak (weak_ofP [0] (l := [(0, .ptr 0 0), (5, .d (.fl .f32 x11.1))]) (objs := [.box [.d (.sl false (x11.2.code.map eIntu8)), .d (.int .i64 x11.2.at_), .d (.int .u64 x11.2.seed)]]) rfl (by simp) rfl (by repeat' first | exact trivial | refine ⟨?_, ?_⟩) ⟨rfl, trivial, rfl, trivial, trivial⟩) ?_
    refine aw_region ?_
    refine awl_val hτ rfl rfl rfl ?_
    refine awl_val hτ rfl rfl rfl ?_
    refine bnd_elim h fun x12 hx12 h => ?_
    refine awl_callP hτ false [0] rfl rfl rfl (enterOk func58 rfl rfl) rfl rfl (by simp) ⟨trivial, trivial⟩ (by repeat' first | exact trivial | refine ⟨?_, ?_⟩) (spec_l01DrawFloat_ok n x11.2 hx12) ?_
    rintro r0 o0 n0 ⟨rfl, rfl, rfl⟩ -
    refine awl_val hτ rfl rfl rfl ?_
    refine awl_val hτ rfl rfl rfl ?_
    refine awl_nil ?_
    refine aw_weak (weak_ofP [0] (l := [(4, .d (.cx .f32 x11.1 x12.1))]) (objs := [.box [.d (.sl false (x12.2.code.map eIntu8)), .d (.int .i64 x12.2.at_), .d (.int .u64 x12.2.seed)]]) rfl (by simp) rfl (by repeat' first | exact trivial | refine ⟨?_, ?_⟩) ⟨rfl, trivial, trivial⟩) ?_
    refine aw_ret ?_
    have hr := Option.some.inj h
    subst hr
    exact ret_objs (.inr rfl) [] (objs' := [.box [.d (.sl false (x12.2.code.map eIntu8)), .d (.int .i64 x12.2.at_), .d (.int .u64 x12.2.seed)]]) (new := []) rfl (by simp) (by simp) rfl (by repeat' first | exact trivial | refine ⟨?_, ?_⟩) rfl rfl (by repeat' first | exact trivial | refine ⟨?_, ?_⟩) (fun h => nomatch h) ⟨rfl, rfl, rfl⟩
  · have h := if_bf h hc10
    refine aw_skip ?_
    refine aw_seq ?_
    refine aw_region ?_
    refine awl_val hτ rfl rfl rfl ?_
    refine awl_val hτ rfl rfl rfl ?_
    refine awl_val hτ rfl rfl rfl ?_
    refine awl_val hτ rfl rfl rfl ?_
    refine bnd_elim h fun x13 hx13 h => ?_
    refine awl_callP hτ false [0] rfl rfl rfl (enterOk func44 rfl rfl) rfl rfl (by simp) ⟨trivial, trivial, trivial⟩ (by repeat' first | exact trivial | refine ⟨?_, ?_⟩) (spec_l00Src_pick_ok n x9.2 (w64 ((w64 ((2 : Int) * most_)) + (1 : Int))) hx13) ?_
    rintro r0 o0 n0 ⟨rfl, rfl, rfl⟩ -
    refine awl_val hτ rfl rfl rfl ?_
    refine awl_val hτ rfl rfl rfl ?_
    refine awl_val hτ rfl rfl rfl ?_
    refine awl_val hτ rfl rfl rfl ?_
    refine awl_weak (weak_ofP [0] (l := [(0, .ptr 0 0), (1, .d (.int .i64 most_)), (23, .d (.fl .f32 (farith .quo .f32 (FloatKind.nearest .f32 (w64 (x13.1 - most_))) (1098907648 : Nat))))]) (objs := [.box [.d (.sl false (x13.2.code.map eIntu8)), .d (.int .i64 x13.2.at_), .d (.int .u64 x13.2.seed)]]) rfl (by simp) rfl (by repeat' first | exact trivial | refine ⟨?_, ?_⟩) ⟨rfl, trivial, rfl, trivial, rfl, trivial, trivial⟩) ?_
    refine awl_val hτ rfl rfl rfl ?_
    refine awl_nil ?_
    refine aw_seq ?_
    refine aw_region ?_
    refine awl_val hτ rfl rfl rfl ?_
    refine awl_val hτ rfl rfl rfl ?_
    refine awl_val hτ rfl rfl rfl ?_
    refine awl_val hτ rfl rfl rfl ?_
    refine awl_val hτ rfl rfl rfl ?_
    refine bnd_elim h fun x14 hx14 h => ?_
    refine awl_callP hτ false [0] rfl rfl rfl (enterOk func44 rfl rfl) rfl rfl (by simp) ⟨trivial, trivial, trivial⟩ (by repeat' first | exact trivial | refine ⟨?_, ?_⟩) (spec_l00Src_pick_ok n x13.2 (w64 ((w64 ((2 : Int) * most_)) + (1 : Int))) hx14) ?_
    rintro r0 o0 n0 ⟨rfl, rfl, rfl⟩ -
    refine awl_val hτ rfl rfl rfl ?_
    refine awl_val hτ rfl rfl rfl ?_
    refine awl_val hτ rfl rfl rfl ?_
    refine awl_val hτ rfl rfl rfl ?_
    refine awl_val hτ rfl rfl rfl ?_
    refine awl_weak (weak_ofP [0] (l := [(34, .d (.cx .f32 (farith .quo .f32 (FloatKind.nearest .f32 (w64 (x13.1 - most_))) (1098907648 : Nat)) (farith .quo .f32 (FloatKind.nearest .f32 (w64 (x14.1 - most_))) (1098907648 : Nat))))]) (objs := [.box [.d (.sl false (x14.2.code.map eIntu8)), .d (.int .i64 x14.2.at_), .d (.int .u64 x14.2.seed)]]) rfl (by simp) rfl (by repeat' first | exact trivial | refine ⟨?_, ?_⟩) ⟨rfl, trivial, trivial⟩) ?_
    refine awl_val hτ rfl rfl rfl ?_
    refine awl_nil ?_
    refine aw_weak (weak_ofP [0] (l := [(4, .d (.cx .f32 (farith .quo .f32 (FloatKind.nearest .f32 (w64 (x13.1 - most_))) (1098907648 : Nat)) (farith .quo .f32 (FloatKind.nearest .f32 (w64 (x14.1 - most_))) (1098907648 : Nat))))]) (objs := [.box [.d (.sl false (x14.2.code.map eIntu8)), .d (.int .i64 x14.2.at_), .d (.int .u64 x14.2.seed)]]) rfl (by simp) rfl (by repeat' first | exact trivial | refine ⟨?_, ?_⟩) ⟨rfl, trivial, trivial⟩) ?_
    refine aw_ret ?_
    have hr := Option.some.inj h
    subst hr
    exact ret_objs (.inr rfl) [] (objs' := [.box [.d (.sl false (x14.2.code.map eIntu8)), .d (.int .i64 x14.2.at_), .d (.int .u64 x14.2.seed)]]) (new := []) rfl (by simp) (by simp) rfl (by repeat' first | exact trivial | refine ⟨?_, ?_⟩) rfl rfl (by repeat' first | exact trivial | refine ⟨?_, ?_⟩) (fun h => nomatch h) ⟨rfl, rfl, rfl⟩

def m_spec_l02DrawPhases (n : Nat) (s_ : SL00Src) (most_ : Int) : Option (SPhases × SL00Src) :=
  (m_spec_l02DrawNumber n s_ most_).bind fun x4 =>
  (m_spec_l02DrawNumber n x4.2 most_).bind fun x5 =>
  (m_spec_l02DrawNumber n x5.2 most_).bind fun x6 =>
  some ((SPhases.mk x4.1 x5.1 x6.1), x6.2)
theorem spec_l02DrawPhases_ok (n : Nat) (s_ : SL00Src) (most_ : Int) {r : SPhases × SL00Src} (h : m_spec_l02DrawPhases n s_ most_ = some r) : ACall prog false 104 [.ptr 0 0, .d (.int .i64 most_)] [.box [.d (.sl false (s_.code.map eIntu8)), .d (.int .i64 s_.at_), .d (.int .u64 s_.seed)]] (fun v o new => v = .agg [.d (.cx .f32 r.1.A.re r.1.A.im), .d (.cx .f32 r.1.B.re r.1.B.im), .d (.cx .f32 r.1.C.re r.1.C.im)] ∧ o = [.box [.d (.sl false (r.2.code.map eIntu8)), .d (.int .i64 r.2.at_), .d (.int .u64 r.2.seed)]] ∧ new = []) := by
  refine acall_of_aw hτ func104 rfl (by simp) (by simp) ?_
  unfold m_spec_l02DrawPhases at h
  refine aw_seq ?_
  refine aw_region ?_
  refine awl_valH hτ rfl rfl rfl ?_
  refine awl_nil ?_
  refine aw_seq ?_
  refine aw_region ?_
  refine awl_val hτ rfl rfl rfl ?_
  refine awl_val hτ rfl rfl rfl ?_
  refine bnd_elim h fun x4 hx4 h => ?_
  refine awl_callP hτ false [0] rfl rfl rfl (enterOk func122 rfl rfl) rfl rfl (by simp) ⟨trivial, trivial, trivial⟩ (by repeat' first | exact trivial | refine ⟨?_, ?_⟩) (spec_l02DrawNumber_ok n s_ most_ hx4) ?_
  rintro r0 o0 n0 ⟨rfl, rfl, rfl⟩ -
  refine awl_val hτ rfl rfl rfl ?_
  refine awl_valH hτ rfl rfl rfl ?_
  refine awl_valH hτ rfl rfl rfl ?_
  refine awl_nil ?_
  refine aw_seq ?_
  refine aw_weak (weak_ofP [0, 1, 2] (l := [(0, .ptr 0 0), (1, .d (.int .i64 most_)), (4, .ptr 1 0), (5, .ptr 2 0)]) (objs := [.box [.d (.sl false (x4.2.code.map eIntu8)), .d (.int .i64 x4.2.at_), .d (.int .u64 x4.2.seed)], .box [.d (.cx .f32 (0 : Nat) (0 : Nat)), .d (.cx .f32 (0 : Nat) (0 : Nat)), .d (.cx .f32 (0 : Nat) (0 : Nat))], .box [.d (.cx .f32 x4.1.re x4.1.im), .d (.cx .f32 (0 : Nat) (0 : Nat)), .d (.cx .f32 (0 : Nat) (0 : Nat))]]) rfl (by simp) rfl (by repeat' first | exact trivial | refine ⟨?_, ?_⟩) ⟨rfl, trivial, rfl, trivial, rfl, trivial, rfl, trivial, trivial⟩) ?_
  refine aw_region ?_
  refine awl_val hτ rfl rfl rfl ?_
  refine awl_val hτ rfl rfl rfl ?_
  refine bnd_elim h fun x5 hx5 h => ?_
  refine awl_callP hτ false [0] rfl rfl rfl (enterOk func122 rfl rfl) rfl rfl (by simp) ⟨trivial, trivial, trivial⟩ (by repeat' first | exact trivial | refine ⟨?_, ?_⟩) (spec_l02DrawNumber_ok n x4.2 most_ hx5) ?_
  rintro r0 o0 n0 ⟨rfl, rfl, rfl⟩ -
  refine awl_val hτ rfl rfl rfl ?_
  refine awl_valH hτ rfl rfl rfl ?_
  refine awl_nil ?_
  refine aw_seq ?_
  refine aw_region ?_
  refine awl_val hτ rfl rfl rfl ?_
  refine awl_val hτ rfl rfl rfl ?_
  refine bnd_elim h fun x6 hx6 h => ?_
  refine awl_callP hτ false [0] rfl rfl rfl (enterOk func122 rfl rfl) rfl rfl (by simp) ⟨trivial, trivial, trivial⟩ (by repeat' first | exact trivial | refine ⟨?_, ?_⟩) (spec_l02DrawNumber_ok n x5.2 most_ hx6) ?_
  rintro r0 o0 n0 ⟨rfl, rfl, rfl⟩ -
  refine awl_val hτ rfl rfl rfl ?_
  refine awl_valH hτ rfl rfl rfl ?_
  refine awl_nil ?_
  refine aw_seq ?_
  refine aw_weak (weak_ofP [0, 1, 2] (l := [(4, .ptr 1 0), (5, .ptr 2 0)]) (objs := [.box [.d (.sl false (x6.2.code.map eIntu8)), .d (.int .i64 x6.2.at_), .d (.int .u64 x6.2.seed)], .box [.d (.cx .f32 (0 : Nat) (0 : Nat)), .d (.cx .f32 (0 : Nat) (0 : Nat)), .d (.cx .f32 (0 : Nat) (0 : Nat))], .box [.d (.cx .f32 x4.1.re x4.1.im), .d (.cx .f32 x5.1.re x5.1.im), .d (.cx .f32 x6.1.re x6.1.im)]]) rfl (by simp) rfl (by repeat' first | exact trivial | refine ⟨?_, ?_⟩) ⟨rfl, trivial, rfl, trivial, trivial⟩) ?_
  refine aw_region ?_
  refine awl_val hτ rfl rfl rfl ?_
  refine awl_valH hτ rfl rfl rfl ?_
  refine awl_nil ?_
  refine aw_weak (weak_ofP [0, 1] (l := [(4, .ptr 1 0)]) (objs := [.box [.d (.sl false (x6.2.code.map eIntu8)), .d (.int .i64 x6.2.at_), .d (.int .u64 x6.2.seed)], .box [.d (.cx .f32 x4.1.re x4.1.im), .d (.cx .f32 x5.1.re x5.1.im), .d (.cx .f32 x6.1.re x6.1.im)]]) rfl (by simp) rfl (by repeat' first | exact trivial | refine ⟨?_, ?_⟩) ⟨rfl, trivial, trivial⟩) ?_
  refine aw_ret ?_
  have hr := Option.some.inj h
  subst hr
  exact ret_objs (.inr rfl) [] (objs' := [.box [.d (.sl false (x6.2.code.map eIntu8)), .d (.int .i64 x6.2.at_), .d (.int .u64 x6.2.seed)]]) (new := []) rfl (by simp) (by simp) rfl (by repeat' first | exact trivial | refine ⟨?_, ?_⟩) rfl rfl (by repeat' first | exact trivial | refine ⟨?_, ?_⟩) (fun h => nomatch h) ⟨rfl, rfl, rfl⟩

def m_spec_l02DrawOk_j2 (n : Nat) (v87 : Cx) (v88 : Cx) (v89 : Cx) (v153 : List Int) (v154 : Int) (v155 : Int) (v156 : List SBus) : Option (SFeeder × SL00Src) :=
  some ((SFeeder.mk (SPhases.mk v87 v88 v89) v156), (SL00Src.mk v153 v154 v155))
def m_spec_l02DrawOk_j4 (n : Nat) (k221 : List Int → Int → Int → List SBus → Int → Option (SFeeder × SL00Src)) (v188 : Int) (v249 : List Int) (v250 : Int) (v251 : Int) (v252 : List SBus) : Option (SFeeder × SL00Src) :=
  k221 v249 v250 v251 v252 (w64 (v188 + (1 : Int)))
def m_spec_l02DrawOk_j6 (n : Nat) (k221 : List Int → Int → Int → List SBus → Int → Option (SFeeder × SL00Src)) (v187 : List SBus) (v188 : Int) (v272 : Int) (v273 : Cx) (v274 : Cx) (x275 : Int × SL00Src) (v284 : List Int) (v285 : Int) (v286 : Int) (v287 : Cx) (v288 : Cx) (v289 : Cx) : Option (SFeeder × SL00Src) :=
  (m_spec_l00Src_pick n (SL00Src.mk v284 v285 v286) (30 : Int)).bind fun x290 =>
  grd (room (v187.length + 1) 64) <|
  m_spec_l02DrawOk_j4 n k221 v188 x290.2.code x290.2.at_ x290.2.seed (v187 ++ [(SBus.mk v272 v273 v274 x275.1 (SPhases.mk v287 v288 v289) x290.1)])
def m_spec_l02DrawOk_j5 (n : Nat) (k221 : List Int → Int → Int → List SBus → Int → Option (SFeeder × SL00Src)) (v187 : List SBus) (v188 : Int) (v269 : List Int) (v270 : Int) (v271 : Int) (v272 : Int) (v273 : Cx) (v274 : Cx) : Option (SFeeder × SL00Src) :=
  (m_spec_l00Src_pick n (SL00Src.mk v269 v270 v271) (3 : Int)).bind fun x275 =>
  (m_spec_l00Src_one n x275.2 (3 : Int)).bind fun x293 =>
  if x293.1 = true then
    m_spec_l02DrawOk_j6 n k221 v187 v188 v272 v273 v274 x275 x293.2.code x293.2.at_ x293.2.seed (Cx.mk (0 : Nat) (0 : Nat)) (Cx.mk (0 : Nat) (0 : Nat)) (Cx.mk (0 : Nat) (0 : Nat))
  else
    (m_spec_l02DrawPhases n x293.2 (24 : Int)).bind fun x295 =>
    m_spec_l02DrawOk_j6 n k221 v187 v188 v272 v273 v274 x275 x295.2.code x295.2.at_ x295.2.seed x295.1.A x295.1.B x295.1.C
def m_spec_l02DrawOk_j7 (n : Nat) (k221 : List Int → Int → Int → List SBus → Int → Option (SFeeder × SL00Src)) (v187 : List SBus) (v188 : Int) (v304 : List Int) (v305 : Int) (v306 : Int) (v307 : Int) : Option (SFeeder × SL00Src) :=
  (m_spec_l00Src_pick n (SL00Src.mk v304 v305 v306) (5 : Int)).bind fun x308 =>
  (m_spec_l00Src_pick n x308.2 (5 : Int)).bind fun x309 =>
  (m_spec_l00Src_pick n x309.2 (3 : Int)).bind fun x310 =>
  m_spec_l02DrawOk_j5 n k221 v187 v188 x310.2.code x310.2.at_ x310.2.seed v307 (Cx.mk (farith .quo .f32 (FloatKind.nearest .f32 x308.1) (1098907648 : Nat)) (farith .quo .f32 (FloatKind.nearest .f32 x309.1) (1098907648 : Nat))) (Cx.mk (0 : Nat) (farith .quo .f32 (FloatKind.nearest .f32 x310.1) (1098907648 : Nat)))
def m_spec_l02DrawOk_l3 (n : Nat) (v87 : Cx) (v88 : Cx) (v89 : Cx) (x90 : Int × SL00Src) : Nat → List Int → Int → Int → List SBus → Int → Option (SFeeder × SL00Src)
  | 0, _, _, _, _, _ => none
  | m220 + 1, v184, v185, v186, v187, v188 =>
    if v188 < (w64 ((1 : Int) + x90.1)) then
      if v188 > (0 : Int) then
        (m_spec_l00Src_one n (SL00Src.mk v184 v185 v186) (2 : Int)).bind fun x312 =>
        if x312.1 = true then
          (m_spec_l00Src_pick n x312.2 v188).bind fun x314 =>
          m_spec_l02DrawOk_j7 n (m_spec_l02DrawOk_l3 n v87 v88 v89 x90 m220) v187 v188 x314.2.code x314.2.at_ x314.2.seed x314.1
        else
          m_spec_l02DrawOk_j7 n (m_spec_l02DrawOk_l3 n v87 v88 v89 x90 m220) v187 v188 x312.2.code x312.2.at_ x312.2.seed (w64 (v188 - (1 : Int)))
      else
        m_spec_l02DrawOk_j5 n (m_spec_l02DrawOk_l3 n v87 v88 v89 x90 m220) v187 v188 v184 v185 v186 (w64 (v188 - (1 : Int))) (Cx.mk (0 : Nat) (0 : Nat)) (Cx.mk (0 : Nat) (0 : Nat))
    else
      m_spec_l02DrawOk_j2 n v87 v88 v89 v184 v185 v186 v187
def m_spec_l02DrawOk_j1 (n : Nat) (v84 : List Int) (v85 : Int) (v86 : Int) (v87 : Cx) (v88 : Cx) (v89 : Cx) : Option (SFeeder × SL00Src) :=
  (m_spec_l00Src_pick n (SL00Src.mk v84 v85 v86) (6 : Int)).bind fun x90 =>
  m_spec_l02DrawOk_l3 n v87 v88 v89 x90 n x90.2.code x90.2.at_ x90.2.seed ([] : List SBus) (0 : Int)
def m_spec_l02DrawOk (n : Nat) (s_ : SL00Src) : Option (SFeeder × SL00Src) :=
  (m_spec_l00Src_pick n s_ (8 : Int)).bind fun x74 =>
  (m_spec_l02Even n (Cx.mk (FloatKind.nearest .f32 (w64 ((8 : Int) + x74.1))) (0 : Nat))).bind fun x75 =>
  (m_spec_l00Src_one n x74.2 (5 : Int)).bind fun x316 =>
  if x316.1 = true then
    (m_spec_l02DrawPhases n x316.2 (40 : Int)).bind fun x318 =>
    m_spec_l02DrawOk_j1 n x318.2.code x318.2.at_ x318.2.seed x318.1.A x318.1.B x318.1.C
  else
    m_spec_l02DrawOk_j1 n x316.2.code x316.2.at_ x316.2.seed x75.A x75.B x75.C
theorem spec_l02DrawOk_ok (n : Nat) (s_ : SL00Src) {r : SFeeder × SL00Src} (h : m_spec_l02DrawOk n s_ = some r) : ACall prog false 108 [.ptr 0 0] [.box [.d (.sl false (s_.code.map eIntu8)), .d (.int .i64 s_.at_), .d (.int .u64 s_.seed)]] (fun v o new => v = .agg [.d (.cx .f32 r.1.Source.A.re r.1.Source.A.im), .d (.cx .f32 r.1.Source.B.re r.1.Source.B.im), .d (.cx .f32 r.1.Source.C.re r.1.Source.C.im), .row 1 r.1.Buses.length 0 r.1.Buses.length] ∧ o = [.box [.d (.sl false (r.2.code.map eIntu8)), .d (.int .i64 r.2.at_), .d (.int .u64 r.2.seed)]] ∧ new = [.row 8 (r.1.Buses.map eSBus)]) := by
  refine acall_of_aw hτ func108 rfl (by simp) (by simp) ?_
  unfold m_spec_l02DrawOk at h
  refine aw_seq ?_
  refine aw_region ?_
  refine awl_valH hτ rfl rfl rfl ?_
  refine awl_nil ?_
  refine aw_seq ?_
  refine aw_region ?_
  refine awl_val hτ rfl rfl rfl ?_
  refine bnd_elim h fun x74 hx74 h => ?_
  refine awl_callP hτ false [0] rfl rfl rfl (enterOk func44 rfl rfl) rfl rfl (by simp) ⟨trivial, trivial, trivial⟩ (by repeat' first | exact trivial | refine ⟨?_, ?_⟩) (spec_l00Src_pick_ok n s_ (8 : Int) hx74) ?_
  rintro r0 o0 n0 ⟨rfl, rfl, rfl⟩ -
  refine awl_val hτ rfl rfl rfl ?_
  refine awl_val hτ rfl rfl rfl ?_
  refine awl_val hτ rfl rfl rfl ?_
  refine bnd_elim h fun x75 hx75 h => ?_
  refine awl_callP hτ false [] rfl rfl rfl (enterOk func124 rfl rfl) rfl rfl (by simp) ⟨trivial, trivial⟩ (by repeat' first | exact trivial | refine ⟨?_, ?_⟩) (spec_l02Even_ok n (Cx.mk (FloatKind.nearest .f32 (w64 ((8 : Int) + x74.1))) (0 : Nat)) hx75) ?_
  rintro r0 o0 n0 ⟨rfl, rfl, rfl⟩ -
  refine awl_valH hτ rfl rfl rfl ?_
  refine awl_val hτ rfl rfl rfl ?_
  refine awl_valH hτ rfl rfl rfl ?_
  refine awl_valH hτ rfl rfl rfl ?_
  refine awl_nil ?_
  refine aw_hk1 (ι := List Int × Int × Int × Cx × Cx × Cx) (fun (v84, v85, v86, v87, v88, v89) => St.of [(0, .ptr 0 0), (2, .ptr 1 0), (3, .ptr 2 0)] [.box [.d (.sl false (v84.map eIntu8)), .d (.int .i64 v85), .d (.int .u64 v86)], .box [.d (.cx .f32 (0 : Nat) (0 : Nat)), .d (.cx .f32 (0 : Nat) (0 : Nat)), .d (.cx .f32 (0 : Nat) (0 : Nat)), .d (.nils)], .box [.d (.cx .f32 v87.re v87.im), .d (.cx .f32 v88.re v88.im), .d (.cx .f32 v89.re v89.im), .row 3 (([] : List SBus).length) 0 (([] : List SBus).length)], .row 8 (([] : List SBus).map eSBus)] f108.ntmps 1) (fun (v84, v85, v86, v87, v88, v89) => m_spec_l02DrawOk_j1 n v84 v85 v86 v87 v88 v89 = some r) ?_ (fun hk315 => ?_)
  · rintro ⟨v84, v85, v86, v87, v88, v89⟩ h
    replace h : m_spec_l02DrawOk_j1 n v84 v85 v86 v87 v88 v89 = some r := h
    unfold m_spec_l02DrawOk_j1 at h
    refine aw_seq ?_
    refine aw_region ?_
    refine awl_val hτ rfl rfl rfl ?_
    refine bnd_elim h fun x90 hx90 h => ?_
    refine awl_callP hτ false [0] rfl rfl rfl (enterOk func44 rfl rfl) rfl rfl (by simp) ⟨trivial, trivial, trivial⟩ (by repeat' first | exact trivial | refine ⟨?_, ?_⟩) (spec_l00Src_pick_ok n (SL00Src.mk v84 v85 v86) (6 : Int) hx90) ?_
    rintro r0 o0 n0 ⟨rfl, rfl, rfl⟩ -
    refine awl_val hτ rfl rfl rfl ?_
    refine awl_val hτ rfl rfl rfl ?_
    refine awl_nil ?_
    refine aw_hk1 (ι := List Int × Int × Int × List SBus) (fun (v153, v154, v155, v156) => St.of [(2, .ptr 1 0), (3, .ptr 2 0)] [.box [.d (.sl false (v153.map eIntu8)), .d (.int .i64 v154), .d (.int .u64 v155)], .box [.d (.cx .f32 (0 : Nat) (0 : Nat)), .d (.cx .f32 (0 : Nat) (0 : Nat)), .d (.cx .f32 (0 : Nat) (0 : Nat)), .d (.nils)], .box [.d (.cx .f32 v87.re v87.im), .d (.cx .f32 v88.re v88.im), .d (.cx .f32 v89.re v89.im), .row 3 v156.length 0 v156.length], .row 8 (v156.map eSBus)] f108.ntmps 1) (fun (v153, v154, v155, v156) => m_spec_l02DrawOk_j2 n v87 v88 v89 v153 v154 v155 v156 = some r) ?_ (fun hk157 => ?_)
    · rintro ⟨v153, v154, v155, v156⟩ h
      replace h : m_spec_l02DrawOk_j2 n v87 v88 v89 v153 v154 v155 v156 = some r := h
      unfold m_spec_l02DrawOk_j2 at h
      refine aw_seq ?_
      refine aw_region ?_
      refine awl_val hτ rfl rfl rfl ?_
      refine awl_valH hτ rfl rfl rfl ?_
      refine awl_nil ?_
      refine aw_weak (weak_ofP [0, 1, 3] (l := [(2, .ptr 1 0)]) (objs := [.box [.d (.sl false (v153.map eIntu8)), .d (.int .i64 v154), .d (.int .u64 v155)], .box [.d (.cx .f32 v87.re v87.im), .d (.cx .f32 v88.re v88.im), .d (.cx .f32 v89.re v89.im), .row 2 v156.length 0 v156.length], .row 8 (v156.map eSBus)]) rfl (by simp) rfl (by repeat' first | exact trivial | refine ⟨?_, ?_⟩) ⟨rfl, trivial, trivial⟩) ?_
      refine aw_ret ?_
      have hr := Option.some.inj h
      subst hr
      exact ret_objs (.inr rfl) [2] (objs' := [.box [.d (.sl false (v153.map eIntu8)), .d (.int .i64 v154), .d (.int .u64 v155)]]) (new := [.row 8 (v156.map eSBus)]) rfl (by simp) (by simp) rfl (by repeat' first | exact trivial | refine ⟨?_, ?_⟩) rfl rfl (by repeat' first | exact trivial | refine ⟨?_, ?_⟩) (fun h => nomatch h) ⟨rfl, rfl, rfl⟩
    · refine aw_seq ?_
      refine aw_seq ?_
      refine aw_region ?_
      refine awl_val hτ rfl rfl rfl ?_
      refine awl_nil ?_
      refine aw_block ?_
      refine aw_loop (ι := Nat × List Int × Int × Int × List SBus × Int) (fun (m220, v184, v185, v186, v187, v188) => St.of [(0, .ptr 0 0), (2, .ptr 1 0), (3, .ptr 2 0), (4, .d (.int .i64 (w64 ((1 : Int) + x90.1)))), (5, .d (.int .i64 v188))] [.box [.d (.sl false (v184.map eIntu8)), .d (.int .i64 v185), .d (.int .u64 v186)], .box [.d (.cx .f32 (0 : Nat) (0 : Nat)), .d (.cx .f32 (0 : Nat) (0 : Nat)), .d (.cx .f32 (0 : Nat) (0 : Nat)), .d (.nils)], .box [.d (.cx .f32 v87.re v87.im), .d (.cx .f32 v88.re v88.im), .d (.cx .f32 v89.re v89.im), .row 3 v187.length 0 v187.length], .row 8 (v187.map eSBus)] f108.ntmps 1) (fun (m220, v184, v185, v186, v187, v188) => m_spec_l02DrawOk_l3 n v87 v88 v89 x90 m220 v184 v185 v186 v187 v188 = some r) (fun x => x.1) (n, x90.2.code, x90.2.at_, x90.2.seed, ([] : List SBus), (0 : Int)) h (weak_ofP [0, 1, 2, 3] (l := [(0, .ptr 0 0), (2, .ptr 1 0), (3, .ptr 2 0), (4, .d (.int .i64 (w64 ((1 : Int) + x90.1)))), (5, .d (.int .i64 (0 : Int)))]) (objs := [.box [.d (.sl false (x90.2.code.map eIntu8)), .d (.int .i64 x90.2.at_), .d (.int .u64 x90.2.seed)], .box [.d (.cx .f32 (0 : Nat) (0 : Nat)), .d (.cx .f32 (0 : Nat) (0 : Nat)), .d (.cx .f32 (0 : Nat) (0 : Nat)), .d (.nils)], .box [.d (.cx .f32 v87.re v87.im), .d (.cx .f32 v88.re v88.im), .d (.cx .f32 v89.re v89.im), .row 3 (([] : List SBus).length) 0 (([] : List SBus).length)], .row 8 (([] : List SBus).map eSBus)]) rfl (by simp) rfl (by repeat' first | exact trivial | refine ⟨?_, ?_⟩) ⟨rfl, trivial, rfl, trivial, rfl, trivial, rfl, trivial, rfl, trivial, trivial⟩) ?_
      rintro ⟨m220, v184, v185, v186, v187, v188⟩ h
      replace h : m_spec_l02DrawOk_l3 n v87 v88 v89 x90 m220 v184 v185 v186 v187 v188 = some r := h
      rcases m220 with _ | m220
      · rw [m_spec_l02DrawOk_l3] at h; cases h
      rw [m_spec_l02DrawOk_l3] at h
      refine aw_seq ?_
      refine aw_seq ?_
      refine aw_region ?_
      refine awl_val hτ rfl rfl rfl ?_
      refine awl_val hτ rfl rfl rfl ?_
      refine awl_val hτ rfl rfl rfl ?_
      refine awl_nil ?_
      refine aw_cond rfl (fun hc222 => ?_) (fun hc222 => ?_)
      · have h := if_t h hc222
        refine aw_skip ?_
        refine aw_hk1 (ι := List Int × Int × Int × List SBus) (fun (v249, v250, v251, v252) => St.of [(0, .ptr 0 0), (2, .ptr 1 0), (3, .ptr 2 0), (4, .d (.int .i64 (w64 ((1 : Int) + x90.1)))), (5, .d (.int .i64 v188))] [.box [.d (.sl false (v249.map eIntu8)), .d (.int .i64 v250), .d (.int .u64 v251)], .box [.d (.cx .f32 (0 : Nat) (0 : Nat)), .d (.cx .f32 (0 : Nat) (0 : Nat)), .d (.cx .f32 (0 : Nat) (0 : Nat)), .d (.nils)], .box [.d (.cx .f32 v87.re v87.im), .d (.cx .f32 v88.re v88.im), .d (.cx .f32 v89.re v89.im), .row 3 v252.length 0 v252.length], .row 8 (v252.map eSBus)] f108.ntmps 1) (fun (v249, v250, v251, v252) => m_spec_l02DrawOk_j4 n (m_spec_l02DrawOk_l3 n v87 v88 v89 x90 m220) v188 v249 v250 v251 v252 = some r) ?_ (fun hk253 => ?_)
        · rintro ⟨v249, v250, v251, v252⟩ h
          replace h : m_spec_l02DrawOk_j4 n (m_spec_l02DrawOk_l3 n v87 v88 v89 x90 m220) v188 v249 v250 v251 v252 = some r := h
          unfold m_spec_l02DrawOk_j4 at h
          refine aw_region ?_
          refine awl_val hτ rfl rfl rfl ?_
          refine awl_val hτ rfl rfl rfl ?_
          refine awl_val hτ rfl rfl rfl ?_
          refine awl_nil ?_
          exact ⟨(m220, v249, v250, v251, v252, (w64 (v188 + (1 : Int)))), h, Nat.lt_succ_self m220, (weak_ofP [0, 1, 2, 3] (l := [(0, .ptr 0 0), (2, .ptr 1 0), (3, .ptr 2 0), (4, .d (.int .i64 (w64 ((1 : Int) + x90.1)))), (5, .d (.int .i64 (w64 (v188 + (1 : Int)))))]) (objs := [.box [.d (.sl false (v249.map eIntu8)), .d (.int .i64 v250), .d (.int .u64 v251)], .box [.d (.cx .f32 (0 : Nat) (0 : Nat)), .d (.cx .f32 (0 : Nat) (0 : Nat)), .d (.cx .f32 (0 : Nat) (0 : Nat)), .d (.nils)], .box [.d (.cx .f32 v87.re v87.im), .d (.cx .f32 v88.re v88.im), .d (.cx .f32 v89.re v89.im), .row 3 v252.length 0 v252.length], .row 8 (v252.map eSBus)]) rfl (by simp) rfl (by repeat' first | exact trivial | refine ⟨?_, ?_⟩) ⟨rfl, trivial, rfl, trivial, rfl, trivial, rfl, trivial, rfl, trivial, trivial⟩)⟩
        · refine aw_seq ?_
          refine aw_block ?_
          refine aw_seq ?_
          refine aw_region ?_
          refine awl_val hτ rfl rfl rfl ?_
          refine awl_val hτ rfl rfl rfl ?_
          refine awl_val hτ rfl rfl rfl ?_
          refine awl_valH hτ rfl rfl rfl ?_
          refine awl_valH hτ rfl rfl rfl ?_
          refine awl_nil ?_
          refine aw_hk1 (ι := List Int × Int × Int × Int × Cx × Cx) (fun (v269, v270, v271, v272, v273, v274) => St.of [(0, .ptr 0 0), (2, .ptr 1 0), (3, .ptr 2 0), (4, .d (.int .i64 (w64 ((1 : Int) + x90.1)))), (5, .d (.int .i64 v188)), (6, .ptr 4 0)] [.box [.d (.sl false (v269.map eIntu8)), .d (.int .i64 v270), .d (.int .u64 v271)], .box [.d (.cx .f32 (0 : Nat) (0 : Nat)), .d (.cx .f32 (0 : Nat) (0 : Nat)), .d (.cx .f32 (0 : Nat) (0 : Nat)), .d (.nils)], .box [.d (.cx .f32 v87.re v87.im), .d (.cx .f32 v88.re v88.im), .d (.cx .f32 v89.re v89.im), .row 3 v187.length 0 v187.length], .row 8 (v187.map eSBus), .box [.d (.int .i64 v272), .d (.cx .f32 v273.re v273.im), .d (.cx .f32 v274.re v274.im), .d (.int .i64 (0 : Int)), .d (.cx .f32 (0 : Nat) (0 : Nat)), .d (.cx .f32 (0 : Nat) (0 : Nat)), .d (.cx .f32 (0 : Nat) (0 : Nat)), .d (.int .i64 (0 : Int))]] f108.ntmps 1) (fun (v269, v270, v271, v272, v273, v274) => m_spec_l02DrawOk_j5 n (m_spec_l02DrawOk_l3 n v87 v88 v89 x90 m220) v187 v188 v269 v270 v271 v272 v273 v274 = some r) ?_ (fun hk296 => ?_)
          · rintro ⟨v269, v270, v271, v272, v273, v274⟩ h
            replace h : m_spec_l02DrawOk_j5 n (m_spec_l02DrawOk_l3 n v87 v88 v89 x90 m220) v187 v188 v269 v270 v271 v272 v273 v274 = some r := h
            unfold m_spec_l02DrawOk_j5 at h
            refine aw_seq ?_
            refine aw_region ?_
            refine awl_val hτ rfl rfl rfl ?_
            refine bnd_elim h fun x275 hx275 h => ?_
            refine awl_callP hτ false [0] rfl rfl rfl (enterOk func44 rfl rfl) rfl rfl (by simp) ⟨trivial, trivial, trivial⟩ (by repeat' first | exact trivial | refine ⟨?_, ?_⟩) (spec_l00Src_pick_ok n (SL00Src.mk v269 v270 v271) (3 : Int) hx275) ?_
            rintro r0 o0 n0 ⟨rfl, rfl, rfl⟩ -
            refine awl_val hτ rfl rfl rfl ?_
            refine awl_valH hτ rfl rfl rfl ?_
            refine awl_nil ?_
            refine aw_hk1 (ι := List Int × Int × Int × Cx × Cx × Cx) (fun (v284, v285, v286, v287, v288, v289) => St.of [(0, .ptr 0 0), (2, .ptr 1 0), (3, .ptr 2 0), (4, .d (.int .i64 (w64 ((1 : Int) + x90.1)))), (5, .d (.int .i64 v188)), (6, .ptr 4 0)] [.box [.d (.sl false (v284.map eIntu8)), .d (.int .i64 v285), .d (.int .u64 v286)], .box [.d (.cx .f32 (0 : Nat) (0 : Nat)), .d (.cx .f32 (0 : Nat) (0 : Nat)), .d (.cx .f32 (0 : Nat) (0 : Nat)), .d (.nils)], .box [.d (.cx .f32 v87.re v87.im), .d (.cx .f32 v88.re v88.im), .d (.cx .f32 v89.re v89.im), .row 3 v187.length 0 v187.length], .row 8 (v187.map eSBus), .box [.d (.int .i64 v272), .d (.cx .f32 v273.re v273.im), .d (.cx .f32 v274.re v274.im), .d (.int .i64 x275.1), .d (.cx .f32 v287.re v287.im), .d (.cx .f32 v288.re v288.im), .d (.cx .f32 v289.re v289.im), .d (.int .i64 (0 : Int))]] f108.ntmps 1) (fun (v284, v285, v286, v287, v288, v289) => m_spec_l02DrawOk_j6 n (m_spec_l02DrawOk_l3 n v87 v88 v89 x90 m220) v187 v188 v272 v273 v274 x275 v284 v285 v286 v287 v288 v289 = some r) ?_ (fun hk292 => ?_)
            · rintro ⟨v284, v285, v286, v287, v288, v289⟩ h
              replace h : m_spec_l02DrawOk_j6 n (m_spec_l02DrawOk_l3 n v87 v88 v89 x90 m220) v187 v188 v272 v273 v274 x275 v284 v285 v286 v287 v288 v289 = some r := h
              unfold m_spec_l02DrawOk_j6 at h
              refine aw_seq ?_
              refine aw_region ?_
              refine awl_val hτ rfl rfl rfl ?_
              refine bnd_elim h fun x290 hx290 h => ?_
              refine awl_callP hτ false [0] rfl rfl rfl (enterOk func44 rfl rfl) rfl rfl (by simp) ⟨trivial, trivial, trivial⟩ (by repeat' first | exact trivial | refine ⟨?_, ?_⟩) (spec_l00Src_pick_ok n (SL00Src.mk v284 v285 v286) (30 : Int) hx290) ?_
              rintro r0 o0 n0 ⟨rfl, rfl, rfl⟩ -
              refine awl_val hτ rfl rfl rfl ?_
              refine awl_valH hτ rfl rfl rfl ?_
              refine awl_nil ?_
              refine aw_region ?_
              refine awl_val hτ rfl rfl rfl ?_
              refine awl_val hτ rfl rfl rfl ?_
              refine awl_val hτ rfl rfl rfl ?_
              refine awl_valH hτ rfl rfl rfl ?_
              refine grd_elim h fun hg291 h => ?_
              refine awl_needH hτ rfl rfl (Eq.trans rfl (or_append (f := eSBus) v187 [(SBus.mk v272 v273 v274 x275.1 (SPhases.mk v287 v288 v289) x290.1)] rfl)) ⟨⟨rfl, Nat.le_of_ble_eq_true rfl⟩, len_map _, rfl, rfl, hg291, by decide, (all1 rfl)⟩ ?_
              refine awl_val hτ rfl rfl rfl ?_
              refine awl_valH hτ rfl rfl rfl ?_
              refine awl_nil ?_
              refine aw_weak (weak_ofP [0, 1, 2, 3] (l := [(0, .ptr 0 0), (2, .ptr 1 0), (3, .ptr 2 0), (4, .d (.int .i64 (w64 ((1 : Int) + x90.1)))), (5, .d (.int .i64 v188))]) (objs := [.box [.d (.sl false (x290.2.code.map eIntu8)), .d (.int .i64 x290.2.at_), .d (.int .u64 x290.2.seed)], .box [.d (.cx .f32 (0 : Nat) (0 : Nat)), .d (.cx .f32 (0 : Nat) (0 : Nat)), .d (.cx .f32 (0 : Nat) (0 : Nat)), .d (.nils)], .box [.d (.cx .f32 v87.re v87.im), .d (.cx .f32 v88.re v88.im), .d (.cx .f32 v89.re v89.im), .row 3 ((v187 ++ [(SBus.mk v272 v273 v274 x275.1 (SPhases.mk v287 v288 v289) x290.1)]).length) 0 ((v187 ++ [(SBus.mk v272 v273 v274 x275.1 (SPhases.mk v287 v288 v289) x290.1)]).length)], .row 8 ((v187 ++ [(SBus.mk v272 v273 v274 x275.1 (SPhases.mk v287 v288 v289) x290.1)]).map eSBus)]) rfl (by simp) rfl (by repeat' first | exact trivial | refine ⟨?_, ?_⟩) ⟨rfl, trivial, rfl, trivial, rfl, trivial, rfl, trivial, rfl, trivial, trivial⟩) ?_
              exact hk253 (x290.2.code, x290.2.at_, x290.2.seed, (v187 ++ [(SBus.mk v272 v273 v274 x275.1 (SPhases.mk v287 v288 v289) x290.1)])) h
            · refine aw_seq ?_
              refine aw_seq ?_
              refine aw_region ?_
              refine awl_val hτ rfl rfl rfl ?_
              refine bnd_elim h fun x293 hx293 h => ?_
              refine awl_callP hτ false [0] rfl rfl rfl (enterOk func56 rfl rfl) rfl rfl (by simp) ⟨trivial, trivial, trivial⟩ (by repeat' first | exact trivial | refine ⟨?_, ?_⟩) (spec_l00Src_one_ok n x275.2 (3 : Int) hx293) ?_
              rintro r0 o0 n0 ⟨rfl, rfl, rfl⟩ -
              refine awl_val hτ rfl rfl rfl ?_
              refine awl_nil ?_
              refine aw_weak (weak_ofP [0, 1, 2, 3, 4] (l := [(0, .ptr 0 0), (2, .ptr 1 0), (3, .ptr 2 0), (4, .d (.int .i64 (w64 ((1 : Int) + x90.1)))), (5, .d (.int .i64 v188)), (6, .ptr 4 0), (62, .d (.bool (!x293.1)))]) (objs := [.box [.d (.sl false (x293.2.code.map eIntu8)), .d (.int .i64 x293.2.at_), .d (.int .u64 x293.2.seed)], .box [.d (.cx .f32 (0 : Nat) (0 : Nat)), .d (.cx .f32 (0 : Nat) (0 : Nat)), .d (.cx .f32 (0 : Nat) (0 : Nat)), .d (.nils)], .box [.d (.cx .f32 v87.re v87.im), .d (.cx .f32 v88.re v88.im), .d (.cx .f32 v89.re v89.im), .row 3 v187.length 0 v187.length], .row 8 (v187.map eSBus), .box [.d (.int .i64 v272), .d (.cx .f32 v273.re v273.im), .d (.cx .f32 v274.re v274.im), .d (.int .i64 x275.1), .d (.cx .f32 (0 : Nat) (0 : Nat)), .d (.cx .f32 (0 : Nat) (0 : Nat)), .d (.cx .f32 (0 : Nat) (0 : Nat)), .d (.int .i64 (0 : Int))]]) rfl (by simp) rfl (by repeat' first | exact trivial | refine ⟨?_, ?_⟩) ⟨rfl, trivial, rfl, trivial, rfl, trivial, rfl, trivial, rfl, trivial, rfl, trivial, rfl, trivial, trivial⟩) ?_
              refine aw_cond rfl (fun hc294 => ?_) (fun hc294 => ?_)
              · have hc294 := not_t hc294
                have h := if_bf h hc294
                refine aw_region ?_
                refine awl_val hτ rfl rfl rfl ?_
                refine bnd_elim h fun x295 hx295 h => ?_
                refine awl_callP hτ false [0] rfl rfl rfl (enterOk func104 rfl rfl) rfl rfl (by simp) ⟨trivial, trivial, trivial⟩ (by repeat' first | exact trivial | refine ⟨?_, ?_⟩) (spec_l02DrawPhases_ok n x293.2 (24 : Int) hx295) ?_
                rintro r0 o0 n0 ⟨rfl, rfl, rfl⟩ -
                refine awl_val hτ rfl rfl rfl ?_
                refine awl_valH hτ rfl rfl rfl ?_
                refine awl_nil ?_
                refine aw_weak (weak_ofP [0, 1, 2, 3, 4] (l := [(0, .ptr 0 0), (2, .ptr 1 0), (3, .ptr 2 0), (4, .d (.int .i64 (w64 ((1 : Int) + x90.1)))), (5, .d (.int .i64 v188)), (6, .ptr 4 0)]) (objs := [.box [.d (.sl false (x295.2.code.map eIntu8)), .d (.int .i64 x295.2.at_), .d (.int .u64 x295.2.seed)], .box [.d (.cx .f32 (0 : Nat) (0 : Nat)), .d (.cx .f32 (0 : Nat) (0 : Nat)), .d (.cx .f32 (0 : Nat) (0 : Nat)), .d (.nils)], .box [.d (.cx .f32 v87.re v87.im), .d (.cx .f32 v88.re v88.im), .d (.cx .f32 v89.re v89.im), .row 3 v187.length 0 v187.length], .row 8 (v187.map eSBus), .box [.d (.int .i64 v272), .d (.cx .f32 v273.re v273.im), .d (.cx .f32 v274.re v274.im), .d (.int .i64 x275.1), .d (.cx .f32 x295.1.A.re x295.1.A.im), .d (.cx .f32 x295.1.B.re x295.1.B.im), .d (.cx .f32 x295.1.C.re x295.1.C.im), .d (.int .i64 (0 : Int))]]) rfl (by simp) rfl (by repeat' first | exact trivial | refine ⟨?_, ?_⟩) ⟨rfl, trivial, rfl, trivial, rfl, trivial, rfl, trivial, rfl, trivial, rfl, trivial, trivial⟩) ?_
                exact hk292 (x295.2.code, x295.2.at_, x295.2.seed, x295.1.A, x295.1.B, x295.1.C) h
              · have hc294 := not_f hc294
                have h := if_bt h hc294
                refine aw_skip ?_
                refine aw_weak (weak_ofP [0, 1, 2, 3, 4] (l := [(0, .ptr 0 0), (2, .ptr 1 0), (3, .ptr 2 0), (4, .d (.int .i64 (w64 ((1 : Int) + x90.1)))), (5, .d (.int .i64 v188)), (6, .ptr 4 0)]) (objs := [.box [.d (.sl false (x293.2.code.map eIntu8)), .d (.int .i64 x293.2.at_), .d (.int .u64 x293.2.seed)], .box [.d (.cx .f32 (0 : Nat) (0 : Nat)), .d (.cx .f32 (0 : Nat) (0 : Nat)), .d (.cx .f32 (0 : Nat) (0 : Nat)), .d (.nils)], .box [.d (.cx .f32 v87.re v87.im), .d (.cx .f32 v88.re v88.im), .d (.cx .f32 v89.re v89.im), .row 3 v187.length 0 v187.length], .row 8 (v187.map eSBus), .box [.d (.int .i64 v272), .d (.cx .f32 v273.re v273.im), .d (.cx .f32 v274.re v274.im), .d (.int .i64 x275.1), .d (.cx .f32 (0 : Nat) (0 : Nat)), .d (.cx .f32 (0 : Nat) (0 : Nat)), .d (.cx .f32 (0 : Nat) (0 : Nat)), .d (.int .i64 (0 : Int))]]) rfl (by simp) rfl (by repeat' first | exact trivial | refine ⟨?_, ?_⟩) ⟨rfl, trivial, rfl, trivial, rfl, trivial, rfl, trivial, rfl, trivial, rfl, trivial, trivial⟩) ?_
                exact hk292 (x293.2.code, x293.2.at_, x293.2.seed, (Cx.mk (0 : Nat) (0 : Nat)), (Cx.mk (0 : Nat) (0 : Nat)), (Cx.mk (0 : Nat) (0 : Nat))) h
          · refine aw_seq ?_
            refine aw_seq ?_
            refine aw_weak (weak_ofP [0, 1, 2, 3, 4] (l := [(0, .ptr 0 0), (2, .ptr 1 0), (3, .ptr 2 0), (4, .d (.int .i64 (w64 ((1 : Int) + x90.1)))), (5, .d (.int .i64 v188)), (6, .ptr 4 0)]) (objs := [.box [.d (.sl false (v184.map eIntu8)), .d (.int .i64 v185), .d (.int .u64 v186)], .box [.d (.cx .f32 (0 : Nat) (0 : Nat)), .d (.cx .f32 (0 : Nat) (0 : Nat)), .d (.cx .f32 (0 : Nat) (0 : Nat)), .d (.nils)], .box [.d (.cx .f32 v87.re v87.im), .d (.cx .f32 v88.re v88.im), .d (.cx .f32 v89.re v89.im), .row 3 v187.length 0 v187.length], .row 8 (v187.map eSBus), .box [.d (.int .i64 (w64 (v188 - (1 : Int)))), .d (.cx .f32 (0 : Nat) (0 : Nat)), .d (.cx .f32 (0 : Nat) (0 : Nat)), .d (.int .i64 (0 : Int)), .d (.cx .f32 (0 : Nat) (0 : Nat)), .d (.cx .f32 (0 : Nat) (0 : Nat)), .d (.cx .f32 (0 : Nat) (0 : Nat)), .d (.int .i64 (0 : Int))]]) rfl (by simp) rfl (by repeat' first | exact trivial | refine ⟨?_, ?_⟩) ⟨rfl, trivial, rfl, trivial, rfl, trivial, rfl, trivial, rfl, trivial, rfl, trivial, trivial⟩) ?_
            refine aw_region ?_
            refine awl_val hτ rfl rfl rfl ?_
            refine awl_val hτ rfl rfl rfl ?_
            refine awl_nil ?_
            refine aw_cond rfl (fun hc297 => ?_) (fun hc297 => ?_)
            · have h := if_t h hc297
              refine aw_hk1 (ι := List Int × Int × Int × Int) (fun (v304, v305, v306, v307) => St.of [(0, .ptr 0 0), (2, .ptr 1 0), (3, .ptr 2 0), (4, .d (.int .i64 (w64 ((1 : Int) + x90.1)))), (5, .d (.int .i64 v188)), (6, .ptr 4 0)] [.box [.d (.sl false (v304.map eIntu8)), .d (.int .i64 v305), .d (.int .u64 v306)], .box [.d (.cx .f32 (0 : Nat) (0 : Nat)), .d (.cx .f32 (0 : Nat) (0 : Nat)), .d (.cx .f32 (0 : Nat) (0 : Nat)), .d (.nils)], .box [.d (.cx .f32 v87.re v87.im), .d (.cx .f32 v88.re v88.im), .d (.cx .f32 v89.re v89.im), .row 3 v187.length 0 v187.length], .row 8 (v187.map eSBus), .box [.d (.int .i64 v307), .d (.cx .f32 (0 : Nat) (0 : Nat)), .d (.cx .f32 (0 : Nat) (0 : Nat)), .d (.int .i64 (0 : Int)), .d (.cx .f32 (0 : Nat) (0 : Nat)), .d (.cx .f32 (0 : Nat) (0 : Nat)), .d (.cx .f32 (0 : Nat) (0 : Nat)), .d (.int .i64 (0 : Int))]] f108.ntmps 1) (fun (v304, v305, v306, v307) => m_spec_l02DrawOk_j7 n (m_spec_l02DrawOk_l3 n v87 v88 v89 x90 m220) v187 v188 v304 v305 v306 v307 = some r) ?_ (fun hk311 => ?_)
              · rintro ⟨v304, v305, v306, v307⟩ h
                replace h : m_spec_l02DrawOk_j7 n (m_spec_l02DrawOk_l3 n v87 v88 v89 x90 m220) v187 v188 v304 v305 v306 v307 = some r := h
                unfold m_spec_l02DrawOk_j7 at h
                refine aw_seq ?_
                refine aw_region ?_
                refine awl_val hτ rfl rfl rfl ?_
                refine bnd_elim h fun x308 hx308 h => ?_
                refine awl_callP hτ false [0] rfl rfl rfl (enterOk func44 rfl rfl) rfl rfl (by simp) ⟨trivial, trivial, trivial⟩ (by repeat' first | exact trivial | refine ⟨?_, ?_⟩) (spec_l00Src_pick_ok n (SL00Src.mk v304 v305 v306) (5 : Int) hx308) ?_
                rintro r0 o0 n0 ⟨rfl, rfl, rfl⟩ -
                refine awl_val hτ rfl rfl rfl ?_
                refine awl_val hτ rfl rfl rfl ?_
                refine awl_val hτ rfl rfl rfl ?_
                refine awl_nil ?_
                refine aw_seq ?_
                refine aw_region ?_
                refine awl_val hτ rfl rfl rfl ?_
                refine awl_val hτ rfl rfl rfl ?_
                refine bnd_elim h fun x309 hx309 h => ?_
                refine awl_callP hτ false [0] rfl rfl rfl (enterOk func44 rfl rfl) rfl rfl (by simp) ⟨trivial, trivial, trivial⟩ (by repeat' first | exact trivial | refine ⟨?_, ?_⟩) (spec_l00Src_pick_ok n x308.2 (5 : Int) hx309) ?_
                rintro r0 o0 n0 ⟨rfl, rfl, rfl⟩ -
                refine awl_val hτ rfl rfl rfl ?_
                refine awl_val hτ rfl rfl rfl ?_
                refine awl_val hτ rfl rfl rfl ?_
                refine awl_val hτ rfl rfl rfl ?_
                refine awl_weak (weak_ofP [0, 1, 2, 3, 4] (l := [(0, .ptr 0 0), (2, .ptr 1 0), (3, .ptr 2 0), (4, .d (.int .i64 (w64 ((1 : Int) + x90.1)))), (5, .d (.int .i64 v188)), (6, .ptr 4 0), (49, .d (.cx .f32 (farith .quo .f32 (FloatKind.nearest .f32 x308.1) (1098907648 : Nat)) (farith .quo .f32 (FloatKind.nearest .f32 x309.1) (1098907648 : Nat)))), (50, .ptr 4 1)]) (objs := [.box [.d (.sl false (x309.2.code.map eIntu8)), .d (.int .i64 x309.2.at_), .d (.int .u64 x309.2.seed)], .box [.d (.cx .f32 (0 : Nat) (0 : Nat)), .d (.cx .f32 (0 : Nat) (0 : Nat)), .d (.cx .f32 (0 : Nat) (0 : Nat)), .d (.nils)], .box [.d (.cx .f32 v87.re v87.im), .d (.cx .f32 v88.re v88.im), .d (.cx .f32 v89.re v89.im), .row 3 v187.length 0 v187.length], .row 8 (v187.map eSBus), .box [.d (.int .i64 v307), .d (.cx .f32 (0 : Nat) (0 : Nat)), .d (.cx .f32 (0 : Nat) (0 : Nat)), .d (.int .i64 (0 : Int)), .d (.cx .f32 (0 : Nat) (0 : Nat)), .d (.cx .f32 (0 : Nat) (0 : Nat)), .d (.cx .f32 (0 : Nat) (0 : Nat)), .d (.int .i64 (0 : Int))]]) rfl (by simp) rfl (by repeat' first | exact trivial | refine ⟨?_, ?_⟩) ⟨rfl, trivial, rfl, trivial, rfl, trivial, rfl, trivial, rfl, trivial, rfl, trivial, rfl, trivial, rfl, trivial, trivial⟩) ?_
                refine awl_valH hτ rfl rfl rfl ?_
                refine awl_nil ?_
                refine aw_region ?_
                refine awl_val hτ rfl rfl rfl ?_
                refine bnd_elim h fun x310 hx310 h => ?_
                refine awl_callP hτ false [0] rfl rfl rfl (enterOk func44 rfl rfl) rfl rfl (by simp) ⟨trivial, trivial, trivial⟩ (by repeat' first | exact trivial | refine ⟨?_, ?_⟩) (spec_l00Src_pick_ok n x309.2 (3 : Int) hx310) ?_
                rintro r0 o0 n0 ⟨rfl, rfl, rfl⟩ -
                refine awl_val hτ rfl rfl rfl ?_
                refine awl_val hτ rfl rfl rfl ?_
                refine awl_val hτ rfl rfl rfl ?_
                refine awl_val hτ rfl rfl rfl ?_
                refine awl_valH hτ rfl rfl rfl ?_
                refine awl_nil ?_
                refine aw_weak (weak_ofP [0, 1, 2, 3, 4] (l := [(0, .ptr 0 0), (2, .ptr 1 0), (3, .ptr 2 0), (4, .d (.int .i64 (w64 ((1 : Int) + x90.1)))), (5, .d (.int .i64 v188)), (6, .ptr 4 0)]) (objs := [.box [.d (.sl false (x310.2.code.map eIntu8)), .d (.int .i64 x310.2.at_), .d (.int .u64 x310.2.seed)], .box [.d (.cx .f32 (0 : Nat) (0 : Nat)), .d (.cx .f32 (0 : Nat) (0 : Nat)), .d (.cx .f32 (0 : Nat) (0 : Nat)), .d (.nils)], .box [.d (.cx .f32 v87.re v87.im), .d (.cx .f32 v88.re v88.im), .d (.cx .f32 v89.re v89.im), .row 3 v187.length 0 v187.length], .row 8 (v187.map eSBus), .box [.d (.int .i64 v307), .d (.cx .f32 (farith .quo .f32 (FloatKind.nearest .f32 x308.1) (1098907648 : Nat)) (farith .quo .f32 (FloatKind.nearest .f32 x309.1) (1098907648 : Nat))), .d (.cx .f32 (0 : Nat) (farith .quo .f32 (FloatKind.nearest .f32 x310.1) (1098907648 : Nat))), .d (.int .i64 (0 : Int)), .d (.cx .f32 (0 : Nat) (0 : Nat)), .d (.cx .f32 (0 : Nat) (0 : Nat)), .d (.cx .f32 (0 : Nat) (0 : Nat)), .d (.int .i64 (0 : Int))]]) rfl (by simp) rfl (by repeat' first | exact trivial | refine ⟨?_, ?_⟩) ⟨rfl, trivial, rfl, trivial, rfl, trivial, rfl, trivial, rfl, trivial, rfl, trivial, trivial⟩) ?_
                exact hk296 (x310.2.code, x310.2.at_, x310.2.seed, v307, (Cx.mk (farith .quo .f32 (FloatKind.nearest .f32 x308.1) (1098907648 : Nat)) (farith .quo .f32 (FloatKind.nearest .f32 x309.1) (1098907648 : Nat))), (Cx.mk (0 : Nat) (farith .quo .f32 (FloatKind.nearest .f32 x310.1) (1098907648 : Nat)))) h
              · refine aw_seq ?_
                refine aw_seq ?_
                refine aw_region ?_
                refine awl_val hτ rfl rfl rfl ?_
                refine bnd_elim h fun x312 hx312 h => ?_
                refine awl_callP hτ false [0] rfl rfl rfl (enterOk func56 rfl rfl) rfl rfl (by simp) ⟨trivial, trivial, trivial⟩ (by repeat' first | exact trivial | refine ⟨?_, ?_⟩) (spec_l00Src_one_ok n (SL00Src.mk v184 v185 v186) (2 : Int) hx312) ?_
                rintro r0 o0 n0 ⟨rfl, rfl, rfl⟩ -
                refine awl_nil ?_
                refine aw_cond rfl (fun hc313 => ?_) (fun hc313 => ?_)
                · have h := if_bt h hc313
                  refine aw_region ?_
                  refine awl_val hτ rfl rfl rfl ?_
                  refine awl_val hτ rfl rfl rfl ?_
                  refine bnd_elim h fun x314 hx314 h => ?_
                  refine awl_callP hτ false [0] rfl rfl rfl (enterOk func44 rfl rfl) rfl rfl (by simp) ⟨trivial, trivial, trivial⟩ (by repeat' first | exact trivial | refine ⟨?_, ?_⟩) (spec_l00Src_pick_ok n x312.2 v188 hx314) ?_
                  rintro r0 o0 n0 ⟨rfl, rfl, rfl⟩ -
                  refine awl_val hτ rfl rfl rfl ?_
                  refine awl_valH hτ rfl rfl rfl ?_
                  refine awl_nil ?_
                  refine aw_weak (weak_ofP [0, 1, 2, 3, 4] (l := [(0, .ptr 0 0), (2, .ptr 1 0), (3, .ptr 2 0), (4, .d (.int .i64 (w64 ((1 : Int) + x90.1)))), (5, .d (.int .i64 v188)), (6, .ptr 4 0)]) (objs := [.box [.d (.sl false (x314.2.code.map eIntu8)), .d (.int .i64 x314.2.at_), .d (.int .u64 x314.2.seed)], .box [.d (.cx .f32 (0 : Nat) (0 : Nat)), .d (.cx .f32 (0 : Nat) (0 : Nat)), .d (.cx .f32 (0 : Nat) (0 : Nat)), .d (.nils)], .box [.d (.cx .f32 v87.re v87.im), .d (.cx .f32 v88.re v88.im), .d (.cx .f32 v89.re v89.im), .row 3 v187.length 0 v187.length], .row 8 (v187.map eSBus), .box [.d (.int .i64 x314.1), .d (.cx .f32 (0 : Nat) (0 : Nat)), .d (.cx .f32 (0 : Nat) (0 : Nat)), .d (.int .i64 (0 : Int)), .d (.cx .f32 (0 : Nat) (0 : Nat)), .d (.cx .f32 (0 : Nat) (0 : Nat)), .d (.cx .f32 (0 : Nat) (0 : Nat)), .d (.int .i64 (0 : Int))]]) rfl (by simp) rfl (by repeat' first | exact trivial | refine ⟨?_, ?_⟩) ⟨rfl, trivial, rfl, trivial, rfl, trivial, rfl, trivial, rfl, trivial, rfl, trivial, trivial⟩) ?_
                  exact hk311 (x314.2.code, x314.2.at_, x314.2.seed, x314.1) h
                · have h := if_bf h hc313
                  refine aw_skip ?_
                  refine aw_weak (weak_ofP [0, 1, 2, 3, 4] (l := [(0, .ptr 0 0), (2, .ptr 1 0), (3, .ptr 2 0), (4, .d (.int .i64 (w64 ((1 : Int) + x90.1)))), (5, .d (.int .i64 v188)), (6, .ptr 4 0)]) (objs := [.box [.d (.sl false (x312.2.code.map eIntu8)), .d (.int .i64 x312.2.at_), .d (.int .u64 x312.2.seed)], .box [.d (.cx .f32 (0 : Nat) (0 : Nat)), .d (.cx .f32 (0 : Nat) (0 : Nat)), .d (.cx .f32 (0 : Nat) (0 : Nat)), .d (.nils)], .box [.d (.cx .f32 v87.re v87.im), .d (.cx .f32 v88.re v88.im), .d (.cx .f32 v89.re v89.im), .row 3 v187.length 0 v187.length], .row 8 (v187.map eSBus), .box [.d (.int .i64 (w64 (v188 - (1 : Int)))), .d (.cx .f32 (0 : Nat) (0 : Nat)), .d (.cx .f32 (0 : Nat) (0 : Nat)), .d (.int .i64 (0 : Int)), .d (.cx .f32 (0 : Nat) (0 : Nat)), .d (.cx .f32 (0 : Nat) (0 : Nat)), .d (.cx .f32 (0 : Nat) (0 : Nat)), .d (.int .i64 (0 : Int))]]) rfl (by simp) rfl (by repeat' first | exact trivial | refine ⟨?_, ?_⟩) ⟨rfl, trivial, rfl, trivial, rfl, trivial, rfl, trivial, rfl, trivial, rfl, trivial, trivial⟩) ?_
                  exact hk311 (x312.2.code, x312.2.at_, x312.2.seed, (w64 (v188 - (1 : Int)))) h
            · have h := if_f h hc297
              refine aw_skip ?_
              refine aw_weak (weak_ofP [0, 1, 2, 3, 4] (l := [(0, .ptr 0 0), (2, .ptr 1 0), (3, .ptr 2 0), (4, .d (.int .i64 (w64 ((1 : Int) + x90.1)))), (5, .d (.int .i64 v188)), (6, .ptr 4 0)]) (objs := [.box [.d (.sl false (v184.map eIntu8)), .d (.int .i64 v185), .d (.int .u64 v186)], .box [.d (.cx .f32 (0 : Nat) (0 : Nat)), .d (.cx .f32 (0 : Nat) (0 : Nat)), .d (.cx .f32 (0 : Nat) (0 : Nat)), .d (.nils)], .box [.d (.cx .f32 v87.re v87.im), .d (.cx .f32 v88.re v88.im), .d (.cx .f32 v89.re v89.im), .row 3 v187.length 0 v187.length], .row 8 (v187.map eSBus), .box [.d (.int .i64 (w64 (v188 - (1 : Int)))), .d (.cx .f32 (0 : Nat) (0 : Nat)), .d (.cx .f32 (0 : Nat) (0 : Nat)), .d (.int .i64 (0 : Int)), .d (.cx .f32 (0 : Nat) (0 : Nat)), .d (.cx .f32 (0 : Nat) (0 : Nat)), .d (.cx .f32 (0 : Nat) (0 : Nat)), .d (.int .i64 (0 : Int))]]) rfl (by simp) rfl (by repeat' first | exact trivial | refine ⟨?_, ?_⟩) ⟨rfl, trivial, rfl, trivial, rfl, trivial, rfl, trivial, rfl, trivial, rfl, trivial, trivial⟩) ?_
              exact hk296 (v184, v185, v186, (w64 (v188 - (1 : Int))), (Cx.mk (0 : Nat) (0 : Nat)), (Cx.mk (0 : Nat) (0 : Nat))) h
      · have h := if_f h hc222
        refine aw_exit ?_
        refine aw_weak (weak_ofP [0, 1, 2, 3] (l := [(2, .ptr 1 0), (3, .ptr 2 0)]) (objs := [.box [.d (.sl false (v184.map eIntu8)), .d (.int .i64 v185), .d (.int .u64 v186)], .box [.d (.cx .f32 (0 : Nat) (0 : Nat)), .d (.cx .f32 (0 : Nat) (0 : Nat)), .d (.cx .f32 (0 : Nat) (0 : Nat)), .d (.nils)], .box [.d (.cx .f32 v87.re v87.im), .d (.cx .f32 v88.re v88.im), .d (.cx .f32 v89.re v89.im), .row 3 v187.length 0 v187.length], .row 8 (v187.map eSBus)]) rfl (by simp) rfl (by repeat' first | exact trivial | refine ⟨?_, ?_⟩) ⟨rfl, trivial, rfl, trivial, trivial⟩) ?_
        exact hk157 (v184, v185, v186, v187) h
  · refine aw_seq ?_
    refine aw_seq ?_
    refine aw_weak (weak_ofP [0, 1, 3, 2] (l := [(0, .ptr 0 0), (2, .ptr 1 0), (3, .ptr 2 0)]) (objs := [.box [.d (.sl false (x74.2.code.map eIntu8)), .d (.int .i64 x74.2.at_), .d (.int .u64 x74.2.seed)], .box [.d (.cx .f32 (0 : Nat) (0 : Nat)), .d (.cx .f32 (0 : Nat) (0 : Nat)), .d (.cx .f32 (0 : Nat) (0 : Nat)), .d (.nils)], .box [.d (.cx .f32 x75.A.re x75.A.im), .d (.cx .f32 x75.B.re x75.B.im), .d (.cx .f32 x75.C.re x75.C.im), .row 3 (([] : List SBus).length) 0 (([] : List SBus).length)], .row 8 (([] : List SBus).map eSBus)]) rfl (by simp) rfl (by repeat' first | exact trivial | refine ⟨?_, ?_⟩) ⟨rfl, trivial, rfl, trivial, rfl, trivial, trivial⟩) ?_
    refine aw_region ?_
    refine awl_val hτ rfl rfl rfl ?_
    refine bnd_elim h fun x316 hx316 h => ?_
    refine awl_callP hτ false [0] rfl rfl rfl (enterOk func56 rfl rfl) rfl rfl (by simp) ⟨trivial, trivial, trivial⟩ (by repeat' first | exact trivial | refine ⟨?_, ?_⟩) (spec_l00Src_one_ok n x74.2 (5 : Int) hx316) ?_
    rintro r0 o0 n0 ⟨rfl, rfl, rfl⟩ -
    refine awl_nil ?_
    refine aw_cond rfl (fun hc317 => ?_) (fun hc317 => ?_)
    · have h := if_bt h hc317
      refine aw_region ?_
      refine awl_val hτ rfl rfl rfl ?_
      refine bnd_elim h fun x318 hx318 h => ?_
      refine awl_callP hτ false [0] rfl rfl rfl (enterOk func104 rfl rfl) rfl rfl (by simp) ⟨trivial, trivial, trivial⟩ (by repeat' first | exact trivial | refine ⟨?_, ?_⟩) (spec_l02DrawPhases_ok n x316.2 (40 : Int) hx318) ?_
      rintro r0 o0 n0 ⟨rfl, rfl, rfl⟩ -
      refine awl_val hτ rfl rfl rfl ?_
      refine awl_valH hτ rfl rfl rfl ?_
      refine awl_nil ?_
      refine aw_weak (weak_ofP [0, 1, 2, 3] (l := [(0, .ptr 0 0), (2, .ptr 1 0), (3, .ptr 2 0)]) (objs := [.box [.d (.sl false (x318.2.code.map eIntu8)), .d (.int .i64 x318.2.at_), .d (.int .u64 x318.2.seed)], .box [.d (.cx .f32 (0 : Nat) (0 : Nat)), .d (.cx .f32 (0 : Nat) (0 : Nat)), .d (.cx .f32 (0 : Nat) (0 : Nat)), .d (.nils)], .box [.d (.cx .f32 x318.1.A.re x318.1.A.im), .d (.cx .f32 x318.1.B.re x318.1.B.im), .d (.cx .f32 x318.1.C.re x318.1.C.im), .row 3 (([] : List SBus).length) 0 (([] : List SBus).length)], .row 8 (([] : List SBus).map eSBus)]) rfl (by simp) rfl (by repeat' first | exact trivial | refine ⟨?_, ?_⟩) ⟨rfl, trivial, rfl, trivial, rfl, trivial, trivial⟩) ?_
      exact hk315 (x318.2.code, x318.2.at_, x318.2.seed, x318.1.A, x318.1.B, x318.1.C) h
    · have h := if_bf h hc317
      refine aw_skip ?_
      refine aw_weak (weak_ofP [0, 1, 2, 3] (l := [(0, .ptr 0 0), (2, .ptr 1 0), (3, .ptr 2 0)]) (objs := [.box [.d (.sl false (x316.2.code.map eIntu8)), .d (.int .i64 x316.2.at_), .d (.int .u64 x316.2.seed)], .box [.d (.cx .f32 (0 : Nat) (0 : Nat)), .d (.cx .f32 (0 : Nat) (0 : Nat)), .d (.cx .f32 (0 : Nat) (0 : Nat)), .d (.nils)], .box [.d (.cx .f32 x75.A.re x75.A.im), .d (.cx .f32 x75.B.re x75.B.im), .d (.cx .f32 x75.C.re x75.C.im), .row 3 (([] : List SBus).length) 0 (([] : List SBus).length)], .row 8 (([] : List SBus).map eSBus)]) rfl (by simp) rfl (by repeat' first | exact trivial | refine ⟨?_, ?_⟩) ⟨rfl, trivial, rfl, trivial, rfl, trivial, trivial⟩) ?_
      exact hk315 (x316.2.code, x316.2.at_, x316.2.seed, x75.A, x75.B, x75.C) h

def m_spec_l00Min (n : Nat) (a_ : Int) (b_ : Int) : Option Int :=
  if a_ < b_ then
    some a_
  else
    some b_
theorem spec_l00Min_ok_fr0 (fr : Bool) (n : Nat) (a_ : Int) (b_ : Int) {r : Int} (h : m_spec_l00Min n a_ b_ = some r) : ACall prog fr 125 [.d (.int .i64 a_), .d (.int .i64 b_)] [] (fun v o new => v = .d (.int .i64 r) ∧ o = [] ∧ new = []) := by
  refine acall_of_aw hτ func125 rfl (by simp) (by simp) ?_
  unfold m_spec_l00Min at h
  refine aw_seq ?_
  refine aw_region ?_
  refine awl_val hτ rfl rfl rfl ?_
  refine awl_nil ?_
  refine aw_seq ?_
  refine aw_seq ?_
  refine aw_region ?_
  refine awl_val hτ rfl rfl rfl ?_
  refine awl_val hτ rfl rfl rfl ?_
  refine awl_val hτ rfl rfl rfl ?_
  refine awl_nil ?_
  refine aw_cond rfl (fun hc1 => ?_) (fun hc1 => ?_)
  · have h := if_t h hc1
    refine aw_seq ?_
    refine aw_region ?_
    refine awl_val hτ rfl rfl rfl ?_
    refine awl_val hτ rfl rfl rfl ?_
    refine awl_nil ?_
    refine aw_weak (weak_ofP [] (l := [(4, .d (.int .i64 a_))]) (objs := []) rfl (by simp) rfl (by repeat' first | exact trivial | refine ⟨?_, ?_⟩) ⟨rfl, trivial, trivial⟩) ?_
    refine aw_ret ?_
    have hr := Option.some.inj h
    subst hr
    exact ret_objs (.inr rfl) [] (objs' := []) (new := []) rfl (by simp) (by simp) rfl (by repeat' first | exact trivial | refine ⟨?_, ?_⟩) rfl rfl (by repeat' first | exact trivial | refine ⟨?_, ?_⟩) (fun _ => ⟨by simp [V.flat, V.flatA, V.flatC, D.flat], flat_nil⟩) ⟨rfl, rfl, rfl⟩
  · have h := if_f h hc1
    refine aw_skip ?_
    refine aw_seq ?_
    refine aw_region ?_
    refine awl_val hτ rfl rfl rfl ?_
    refine awl_val hτ rfl rfl rfl ?_
    refine awl_nil ?_
    refine aw_weak (weak_ofP [] (l := [(4, .d (.int .i64 b_))]) (objs := []) rfl (by simp) rfl (by repeat' first | exact trivial | refine ⟨?_, ?_⟩) ⟨rfl, trivial, trivial⟩) ?_
    refine aw_ret ?_
    have hr := Option.some.inj h
    subst hr
    exact ret_objs (.inr rfl) [] (objs' := []) (new := []) rfl (by simp) (by simp) rfl (by repeat' first | exact trivial | refine ⟨?_, ?_⟩) rfl rfl (by repeat' first | exact trivial | refine ⟨?_, ?_⟩) (fun _ => ⟨by simp [V.flat, V.flatA, V.flatC, D.flat], flat_nil⟩) ⟨rfl, rfl, rfl⟩
theorem spec_l00Min_ok (n : Nat) (a_ : Int) (b_ : Int) {r : Int} (h : m_spec_l00Min n a_ b_ = some r) : ACall prog false 125 [.d (.int .i64 a_), .d (.int .i64 b_)] [] (fun v o new => v = .d (.int .i64 r) ∧ o = [] ∧ new = []) := spec_l00Min_ok_fr0 false n a_ b_ h
theorem spec_l00Min_ok_fr (n : Nat) (a_ : Int) (b_ : Int) {r : Int} (h : m_spec_l00Min n a_ b_ = some r) : ACall prog true 125 [.d (.int .i64 a_), .d (.int .i64 b_)] [] (fun v o new => v = .d (.int .i64 r) ∧ o = [] ∧ new = []) := spec_l00Min_ok_fr0 true n a_ b_ h

def m_spec_l05DrawTap_j1 (n : Nat) (bus_ : Int) (x18 : Int × SL00Src) (x19 : Int × SL00Src) (v33 : List Int) (v34 : Int) (v35 : Int) (v36 : Int) (v37 : Nat) : Option (STap × SL00Src) :=
  some ((STap.mk bus_ v36 (w64 (x18.1 - (3 : Int))) (w64 (x19.1 - (3 : Int))) v37), (SL00Src.mk v33 v34 v35))
def m_spec_l05DrawTap (n : Nat) (s_ : SL00Src) (bus_ : Int) : Option (STap × SL00Src) :=
  (m_spec_l00Src_pick n s_ (7 : Int)).bind fun x17 =>
  (m_spec_l00Src_pick n x17.2 (7 : Int)).bind fun x18 =>
  (m_spec_l00Src_pick n x18.2 (7 : Int)).bind fun x19 =>
  (m_spec_l00Src_pick n x19.2 (5 : Int)).bind fun x20 =>
  (m_spec_l00Src_pick n x20.2 (40 : Int)).bind fun x39 =>
  if x39.1 = (0 : Int) then
    (m_spec_l00Src_among n x39.2 [(-16 : Int), (16 : Int), (17 : Int), (-17 : Int), (9223372036854775807 : Int)]).bind fun x41 =>
    m_spec_l05DrawTap_j1 n bus_ x18 x19 x41.2.code x41.2.at_ x41.2.seed x41.1 (farith .quo .f32 (FloatKind.nearest .f32 x20.1) (1115684864 : Nat))
  else
    if x39.1 = (1 : Int) then
      (m_spec_l01DrawFloat n x39.2).bind fun x43 =>
      m_spec_l05DrawTap_j1 n bus_ x18 x19 x43.2.code x43.2.at_ x43.2.seed (w64 (x17.1 - (3 : Int))) x43.1
    else
      m_spec_l05DrawTap_j1 n bus_ x18 x19 x39.2.code x39.2.at_ x39.2.seed (w64 (x17.1 - (3 : Int))) (farith .quo .f32 (FloatKind.nearest .f32 x20.1) (1115684864 : Nat))
theorem spec_l05DrawTap_ok (n : Nat) (s_ : SL00Src) (bus_ : Int) {r : STap × SL00Src} (h : m_spec_l05DrawTap n s_ bus_ = some r) : ACall prog false 126 [.ptr 0 0, .d (.int .i64 bus_)] [.box [.d (.sl false (s_.code.map eIntu8)), .d (.int .i64 s_.at_), .d (.int .u64 s_.seed)]] (fun v o new => v = .agg [.d (.int .i64 r.1.Bus), .d (.int .i64 r.1.A), .d (.int .i64 r.1.B), .d (.int .i64 r.1.C), .d (.fl .f32 r.1.Each)] ∧ o = [.box [.d (.sl false (r.2.code.map eIntu8)), .d (.int .i64 r.2.at_), .d (.int .u64 r.2.seed)]] ∧ new = []) := by
  refine acall_of_aw hτ func126 rfl (by simp) (by simp) ?_
  unfold m_spec_l05DrawTap at h
  refine aw_seq ?_
  refine aw_region ?_
  refine awl_valH hτ rfl rfl rfl ?_
  refine awl_nil ?_
  refine aw_seq ?_
  refine aw_region ?_
  refine awl_val hτ rfl rfl rfl ?_
  refine awl_val hτ rfl rfl rfl ?_
  refine bnd_elim h fun x17 hx17 h => ?_
  refine awl_callP hτ false [0] rfl rfl rfl (enterOk func44 rfl rfl) rfl rfl (by simp) ⟨trivial, trivial, trivial⟩ (by repeat' first | exact trivial | refine ⟨?_, ?_⟩) (spec_l00Src_pick_ok n s_ (7 : Int) hx17) ?_
  rintro r0 o0 n0 ⟨rfl, rfl, rfl⟩ -
  refine awl_val hτ rfl rfl rfl ?_
  refine awl_val hτ rfl rfl rfl ?_
  refine awl_valH hτ rfl rfl rfl ?_
  refine awl_valH hτ rfl rfl rfl ?_
  refine awl_nil ?_
  refine aw_seq ?_
  refine aw_weak (weak_ofP [0, 1, 2] (l := [(0, .ptr 0 0), (4, .ptr 1 0), (5, .ptr 2 0)]) (objs := [.box [.d (.sl false (x17.2.code.map eIntu8)), .d (.int .i64 x17.2.at_), .d (.int .u64 x17.2.seed)], .box [.d (.int .i64 (0 : Int)), .d (.int .i64 (0 : Int)), .d (.int .i64 (0 : Int)), .d (.int .i64 (0 : Int)), .d (.fl .f32 (0 : Nat))], .box [.d (.int .i64 bus_), .d (.int .i64 (w64 (x17.1 - (3 : Int)))), .d (.int .i64 (0 : Int)), .d (.int .i64 (0 : Int)), .d (.fl .f32 (0 : Nat))]]) rfl (by simp) rfl (by repeat' first | exact trivial | refine ⟨?_, ?_⟩) ⟨rfl, trivial, rfl, trivial, rfl, trivial, trivial⟩) ?_
  refine aw_region ?_
  refine awl_val hτ rfl rfl rfl ?_
  refine bnd_elim h fun x18 hx18 h => ?_
  refine awl_callP hτ false [0] rfl rfl rfl (enterOk func44 rfl rfl) rfl rfl (by simp) ⟨trivial, trivial, trivial⟩ (by repeat' first | exact trivial | refine ⟨?_, ?_⟩) (spec_l00Src_pick_ok n x17.2 (7 : Int) hx18) ?_
  rintro r0 o0 n0 ⟨rfl, rfl, rfl⟩ -
  refine awl_val hτ rfl rfl rfl ?_
  refine awl_val hτ rfl rfl rfl ?_
  refine awl_valH hτ rfl rfl rfl ?_
  refine awl_nil ?_
  refine aw_seq ?_
  refine aw_region ?_
  refine awl_val hτ rfl rfl rfl ?_
  refine bnd_elim h fun x19 hx19 h => ?_
  refine awl_callP hτ false [0] rfl rfl rfl (enterOk func44 rfl rfl) rfl rfl (by simp) ⟨trivial, trivial, trivial⟩ (by repeat' first | exact trivial | refine ⟨?_, ?_⟩) (spec_l00Src_pick_ok n x18.2 (7 : Int) hx19) ?_
  rintro r0 o0 n0 ⟨rfl, rfl, rfl⟩ -
  refine awl_val hτ rfl rfl rfl ?_
  refine awl_val hτ rfl rfl rfl ?_
  refine awl_valH hτ rfl rfl rfl ?_
  refine awl_nil ?_
  refine aw_seq ?_
  refine aw_weak (weak_ofP [0, 1, 2] (l := [(0, .ptr 0 0), (4, .ptr 1 0), (5, .ptr 2 0)]) (objs := [.box [.d (.sl false (x19.2.code.map eIntu8)), .d (.int .i64 x19.2.at_), .d (.int .u64 x19.2.seed)], .box [.d (.int .i64 (0 : Int)), .d (.int .i64 (0 : Int)), .d (.int .i64 (0 : Int)), .d (.int .i64 (0 : Int)), .d (.fl .f32 (0 : Nat))], .box [.d (.int .i64 bus_), .d (.int .i64 (w64 (x17.1 - (3 : Int)))), .d (.int .i64 (w64 (x18.1 - (3 : Int)))), .d (.int .i64 (w64 (x19.1 - (3 : Int)))), .d (.fl .f32 (0 : Nat))]]) rfl (by simp) rfl (by repeat' first | exact trivial | refine ⟨?_, ?_⟩) ⟨rfl, trivial, rfl, trivial, rfl, trivial, trivial⟩) ?_
  refine aw_region ?_
  refine awl_val hτ rfl rfl rfl ?_
  refine bnd_elim h fun x20 hx20 h => ?_
  refine awl_callP hτ false [0] rfl rfl rfl (enterOk func44 rfl rfl) rfl rfl (by simp) ⟨trivial, trivial, trivial⟩ (by repeat' first | exact trivial | refine ⟨?_, ?_⟩) (spec_l00Src_pick_ok n x19.2 (5 : Int) hx20) ?_
  rintro r0 o0 n0 ⟨rfl, rfl, rfl⟩ -
  refine awl_val hτ rfl rfl rfl ?_
  refine awl_val hτ rfl rfl rfl ?_
  refine awl_val hτ rfl rfl rfl ?_
  refine awl_valH hτ rfl rfl rfl ?_
  refine awl_nil ?_
  refine aw_hk1 (ι := List Int × Int × Int × Int × Nat) (fun (v33, v34, v35, v36, v37) => St.of [(4, .ptr 1 0), (5, .ptr 2 0)] [.box [.d (.sl false (v33.map eIntu8)), .d (.int .i64 v34), .d (.int .u64 v35)], .box [.d (.int .i64 (0 : Int)), .d (.int .i64 (0 : Int)), .d (.int .i64 (0 : Int)), .d (.int .i64 (0 : Int)), .d (.fl .f32 (0 : Nat))], .box [.d (.int .i64 bus_), .d (.int .i64 v36), .d (.int .i64 (w64 (x18.1 - (3 : Int)))), .d (.int .i64 (w64 (x19.1 - (3 : Int)))), .d (.fl .f32 v37)]] f126.ntmps 1) (fun (v33, v34, v35, v36, v37) => m_spec_l05DrawTap_j1 n bus_ x18 x19 v33 v34 v35 v36 v37 = some r) ?_ (fun hk38 => ?_)
  · rintro ⟨v33, v34, v35, v36, v37⟩ h
    replace h : m_spec_l05DrawTap_j1 n bus_ x18 x19 v33 v34 v35 v36 v37 = some r := h
    unfold m_spec_l05DrawTap_j1 at h
    refine aw_seq ?_
    refine aw_region ?_
    refine awl_val hτ rfl rfl rfl ?_
    refine awl_valH hτ rfl rfl rfl ?_
    refine awl_nil ?_
    refine aw_weak (weak_ofP [0, 1] (l := [(4, .ptr 1 0)]) (objs := [.box [.d (.sl false (v33.map eIntu8)), .d (.int .i64 v34), .d (.int .u64 v35)], .box [.d (.int .i64 bus_), .d (.int .i64 v36), .d (.int .i64 (w64 (x18.1 - (3 : Int)))), .d (.int .i64 (w64 (x19.1 - (3 : Int)))), .d (.fl .f32 v37)]]) rfl (by simp) rfl (by repeat' first | exact trivial | refine ⟨?_, ?_⟩) ⟨rfl, trivial, trivial⟩) ?_
    refine aw_ret ?_
    have hr := Option.some.inj h
    subst hr
    exact ret_objs (.inr rfl) [] (objs' := [.box [.d (.sl false (v33.map eIntu8)), .d (.int .i64 v34), .d (.int .u64 v35)]]) (new := []) rfl (by simp) (by simp) rfl (by repeat' first | exact trivial | refine ⟨?_, ?_⟩) rfl rfl (by repeat' first | exact trivial | refine ⟨?_, ?_⟩) (fun h => nomatch h) ⟨rfl, rfl, rfl⟩
  · refine aw_seq ?_
    refine aw_seq ?_
    refine aw_weak (weak_ofP [0, 1, 2] (l := [(0, .ptr 0 0), (4, .ptr 1 0), (5, .ptr 2 0)]) (objs := [.box [.d (.sl false (x20.2.code.map eIntu8)), .d (.int .i64 x20.2.at_), .d (.int .u64 x20.2.seed)], .box [.d (.int .i64 (0 : Int)), .d (.int .i64 (0 : Int)), .d (.int .i64 (0 : Int)), .d (.int .i64 (0 : Int)), .d (.fl .f32 (0 : Nat))], .box [.d (.int .i64 bus_), .d (.int .i64 (w64 (x17.1 - (3 : Int)))), .d (.int .i64 (w64 (x18.1 - (3 : Int)))), .d (.int .i64 (w64 (x19.1 - (3 : Int)))), .d (.fl .f32 (farith .quo .f32 (FloatKind.nearest .f32 x20.1) (1115684864 : Nat)))]]) rfl (by simp) rfl (by repeat' first | exact trivial | refine ⟨?_, ?_⟩) ⟨rfl, trivial, rfl, trivial, rfl, trivial, trivial⟩) ?_
    refine aw_region ?_
    refine awl_val hτ rfl rfl rfl ?_
    refine bnd_elim h fun x39 hx39 h => ?_
    refine awl_callP hτ false [0] rfl rfl rfl (enterOk func44 rfl rfl) rfl rfl (by simp) ⟨trivial, trivial, trivial⟩ (by repeat' first | exact trivial | refine ⟨?_, ?_⟩) (spec_l00Src_pick_ok n x20.2 (40 : Int) hx39) ?_
    rintro r0 o0 n0 ⟨rfl, rfl, rfl⟩ -
    refine awl_nil ?_
    refine aw_block ?_
    refine aw_seq ?_
    refine aw_region ?_
    refine awl_val hτ (v := .d (.bool (decide (x39.1 = (0 : Int))))) rfl rfl (or_ieq _ _) ?_
    refine awl_val hτ rfl rfl rfl ?_
    refine awl_nil ?_
    refine aw_cond rfl (fun hc40 => ?_) (fun hc40 => ?_)
    · have h := if_t h hc40
      refine aw_region ?_
      refine awl_val hτ rfl rfl rfl ?_
      refine awl_valH hτ rfl rfl rfl ?_
      refine awl_weak (weak_ofP [0, 1, 2] (l := [(4, .ptr 1 0), (5, .ptr 2 0), (28, .ptr 0 0), (29, .d (.sl false ([(-16 : Int), (16 : Int), (17 : Int), (-17 : Int), (9223372036854775807 : Int)].map eInti64)))]) (objs := [.box [.d (.sl false (x39.2.code.map eIntu8)), .d (.int .i64 x39.2.at_), .d (.int .u64 x39.2.seed)], .box [.d (.int .i64 (0 : Int)), .d (.int .i64 (0 : Int)), .d (.int .i64 (0 : Int)), .d (.int .i64 (0 : Int)), .d (.fl .f32 (0 : Nat))], .box [.d (.int .i64 bus_), .d (.int .i64 (w64 (x17.1 - (3 : Int)))), .d (.int .i64 (w64 (x18.1 - (3 : Int)))), .d (.int .i64 (w64 (x19.1 - (3 : Int)))), .d (.fl .f32 (farith .quo .f32 (FloatKind.nearest .f32 x20.1) (1115684864 : Nat)))]]) rfl (by simp) rfl (by repeat' first | exact trivial | refine ⟨?_, ?_⟩) ⟨rfl, trivial, rfl, trivial, rfl, trivial, (exV_view (f := eInti64) [(-16 : Int), (16 : Int), (17 : Int), (-17 : Int), (9223372036854775807 : Int)] rfl rfl rfl), (exVP_view (f := eInti64) [(-16 : Int), (16 : Int), (17 : Int), (-17 : Int), (9223372036854775807 : Int)] rfl rfl rfl), trivial⟩) ?_
      refine bnd_elim h fun x41 hx41 h => ?_
      refine awl_callP hτ false [0] rfl rfl rfl (enterOk func95 rfl rfl) rfl rfl (by simp) ⟨trivial, trivial, trivial⟩ (by repeat' first | exact trivial | refine ⟨?_, ?_⟩) (spec_l00Src_among_ok n x39.2 [(-16 : Int), (16 : Int), (17 : Int), (-17 : Int), (9223372036854775807 : Int)] hx41) ?_
      rintro r0 o0 n0 ⟨rfl, rfl, rfl⟩ -
      refine awl_val hτ rfl rfl rfl ?_
      refine awl_valH hτ rfl rfl rfl ?_
      refine awl_nil ?_
      refine aw_weak (weak_ofP [0, 1, 2] (l := [(4, .ptr 1 0), (5, .ptr 2 0)]) (objs := [.box [.d (.sl false (x41.2.code.map eIntu8)), .d (.int .i64 x41.2.at_), .d (.int .u64 x41.2.seed)], .box [.d (.int .i64 (0 : Int)), .d (.int .i64 (0 : Int)), .d (.int .i64 (0 : Int)), .d (.int .i64 (0 : Int)), .d (.fl .f32 (0 : Nat))], .box [.d (.int .i64 bus_), .d (.int .i64 x41.1), .d (.int .i64 (w64 (x18.1 - (3 : Int)))), .d (.int .i64 (w64 (x19.1 - (3 : Int)))), .d (.fl .f32 (farith .quo .f32 (FloatKind.nearest .f32 x20.1) (1115684864 : Nat)))]]) rfl (by simp) rfl (by repeat' first | exact trivial | refine ⟨?_, ?_⟩) ⟨rfl, trivial, rfl, trivial, trivial⟩) ?_
      exact hk38 (x41.2.code, x41.2.at_, x41.2.seed, x41.1, (farith .quo .f32 (FloatKind.nearest .f32 x20.1) (1115684864 : Nat))) h
    · have h := if_f h hc40
      refine aw_seq ?_
      refine aw_region ?_
      refine awl_val hτ (v := .d (.bool (decide (x39.1 = (1 : Int))))) rfl rfl (or_ieq _ _) ?_
      refine awl_val hτ rfl rfl rfl ?_
      refine awl_nil ?_
      refine aw_weak (weak_ofP [0, 1, 2] (l := [(0, .ptr 0 0), (4, .ptr 1 0), (5, .ptr 2 0), (32, .d (.bool (decide (x39.1 = (1 : Int)))))]) (objs := [.box [.d (.sl false (x39.2.code.map eIntu8)), .d (.int .i64 x39.2.at_), .d (.int .u64 x39.2.seed)], .box [.d (.int .i64 (0 : Int)), .d (.int .i64 (0 : Int)), .d (.int .i64 (0 : Int)), .d (.int .i64 (0 : Int)), .d (.fl .f32 (0 : Nat))], .box [.d (.int .i64 bus_), .d (.int .i64 (w64 (x17.1 - (3 : Int)))), .d (.int .i64 (w64 (x18.1 - (3 : Int)))), .d (.int .i64 (w64 (x19.1 - (3 : Int)))), .d (.fl .f32 (farith .quo .f32 (FloatKind.nearest .f32 x20.1) (1115684864 : Nat)))]]) rfl (by simp) rfl (by repeat' first | exact trivial | refine ⟨?_, ?_⟩) ⟨rfl, trivial, rfl, trivial, rfl, trivial, rfl, trivial, trivial⟩) ?_
      refine aw_cond rfl (fun hc42 => ?_) (fun hc42 => ?_)
      · have h := if_t h hc42
        refine aw_region ?_
        refine awl_val hτ rfl rfl rfl ?_
        refine bnd_elim h fun x43 hx43 h => ?_
        refine awl_callP hτ false [0] rfl rfl rfl (enterOk func58 rfl rfl) rfl rfl (by simp) ⟨trivial, trivial⟩ (by repeat' first | exact trivial | refine ⟨?_, ?_⟩) (spec_l01DrawFloat_ok n x39.2 hx43) ?_
        rintro r0 o0 n0 ⟨rfl, rfl, rfl⟩ -
        refine awl_val hτ rfl rfl rfl ?_
        refine awl_valH hτ rfl rfl rfl ?_
        refine awl_nil ?_
        refine aw_weak (weak_ofP [0, 1, 2] (l := [(4, .ptr 1 0), (5, .ptr 2 0)]) (objs := [.box [.d (.sl false (x43.2.code.map eIntu8)), .d (.int .i64 x43.2.at_), .d (.int .u64 x43.2.seed)], .box [.d (.int .i64 (0 : Int)), .d (.int .i64 (0 : Int)), .d (.int .i64 (0 : Int)), .d (.int .i64 (0 : Int)), .d (.fl .f32 (0 : Nat))], .box [.d (.int .i64 bus_), .d (.int .i64 (w64 (x17.1 - (3 : Int)))), .d (.int .i64 (w64 (x18.1 - (3 : Int)))), .d (.int .i64 (w64 (x19.1 - (3 : Int)))), .d (.fl .f32 x43.1)]]) rfl (by simp) rfl (by repeat' first | exact trivial | refine ⟨?_, ?_⟩) ⟨rfl, trivial, rfl, trivial, trivial⟩) ?_
        exact hk38 (x43.2.code, x43.2.at_, x43.2.seed, (w64 (x17.1 - (3 : Int))), x43.1) h
      · have h := if_f h hc42
        refine aw_skip ?_
        refine aw_weak (weak_ofP [0, 1, 2] (l := [(4, .ptr 1 0), (5, .ptr 2 0)]) (objs := [.box [.d (.sl false (x39.2.code.map eIntu8)), .d (.int .i64 x39.2.at_), .d (.int .u64 x39.2.seed)], .box [.d (.int .i64 (0 : Int)), .d (.int .i64 (0 : Int)), .d (.int .i64 (0 : Int)), .d (.int .i64 (0 : Int)), .d (.fl .f32 (0 : Nat))], .box [.d (.int .i64 bus_), .d (.int .i64 (w64 (x17.1 - (3 : Int)))), .d (.int .i64 (w64 (x18.1 - (3 : Int)))), .d (.int .i64 (w64 (x19.1 - (3 : Int)))), .d (.fl .f32 (farith .quo .f32 (FloatKind.nearest .f32 x20.1) (1115684864 : Nat)))]]) rfl (by simp) rfl (by repeat' first | exact trivial | refine ⟨?_, ?_⟩) ⟨rfl, trivial, rfl, trivial, trivial⟩) ?_
        exact hk38 (x39.2.code, x39.2.at_, x39.2.seed, (w64 (x17.1 - (3 : Int))), (farith .quo .f32 (FloatKind.nearest .f32 x20.1) (1115684864 : Nat))) h

def m_spec_l05DrawTaps_j1 (n : Nat) (v61 : List Int) (v62 : Int) (v63 : Int) (v64 : List STap) : Option (List STap × SL00Src) :=
  (m_spec_l00Src_one n (SL00Src.mk v61 v62 v63) (30 : Int)).bind fun x65 =>
  if x65.1 = true then
    (m_spec_l00Src_among n x65.2 [(0 : Int), (1 : Int), (16 : Int), (-1 : Int)]).bind fun x67 =>
    (m_spec_l05DrawTap n x67.2 x67.1).bind fun x68 =>
    grd (room (v64.length + 1) 40) <|
    some ((v64 ++ [x68.1]), x68.2)
  else
    some (v64, x65.2)
def m_spec_l05DrawTaps_j3 (n : Nat) (k98 : List Int → Int → Int → List STap → Int → Option (List STap × SL00Src)) (v83 : Int) (v109 : List Int) (v110 : Int) (v111 : Int) (v112 : List STap) : Option (List STap × SL00Src) :=
  k98 v109 v110 v111 v112 (w64 (v83 + (1 : Int)))
def m_spec_l05DrawTaps_l2 (n : Nat) (f_ : SDesk) : Nat → List Int → Int → Int → List STap → Int → Option (List STap × SL00Src)
  | 0, _, _, _, _, _ => none
  | m97 + 1, v79, v80, v81, v82, v83 =>
    (m_spec_l00Min n (17 : Int) (f_.Feeder.Buses.length : Int)).bind fun x100 =>
    if v83 < x100 then
      (m_spec_l00Src_one n (SL00Src.mk v79 v80 v81) (3 : Int)).bind fun x114 =>
      if x114.1 = true then
        (m_spec_l05DrawTap n x114.2 v83).bind fun x116 =>
        grd (room (v82.length + 1) 40) <|
        m_spec_l05DrawTaps_j3 n (m_spec_l05DrawTaps_l2 n f_ m97) v83 x116.2.code x116.2.at_ x116.2.seed (v82 ++ [x116.1])
      else
        m_spec_l05DrawTaps_j3 n (m_spec_l05DrawTaps_l2 n f_ m97) v83 x114.2.code x114.2.at_ x114.2.seed v82
    else
      m_spec_l05DrawTaps_j1 n v79 v80 v81 v82
def m_spec_l05DrawTaps (n : Nat) (s_ : SL00Src) (f_ : SDesk) : Option (List STap × SL00Src) :=
  m_spec_l05DrawTaps_l2 n f_ n s_.code s_.at_ s_.seed ([] : List STap) (1 : Int)
theorem spec_l05DrawTaps_ok (n : Nat) (s_ : SL00Src) (f_ : SDesk) {r : List STap × SL00Src} (h : m_spec_l05DrawTaps n s_ f_ = some r) : ACall prog false 109 [.ptr 0 0, .ptr 1 0] [.box [.d (.sl false (s_.code.map eIntu8)), .d (.int .i64 s_.at_), .d (.int .u64 s_.seed)], .box [.d (.cx .f32 f_.Feeder.Source.A.re f_.Feeder.Source.A.im), .d (.cx .f32 f_.Feeder.Source.B.re f_.Feeder.Source.B.im), .d (.cx .f32 f_.Feeder.Source.C.re f_.Feeder.Source.C.im), .row 2 f_.Feeder.Buses.length 0 f_.Feeder.Buses.length, .row 3 f_.Taps.length 0 f_.Taps.length, .row 4 f_.List.length 0 f_.List.length], .row 8 (f_.Feeder.Buses.map eSBus), .row 5 (f_.Taps.map eSTap), .row 3 (f_.List.map eSOutage)] (fun v o new => v = .row 5 r.1.length 0 r.1.length ∧ o = [.box [.d (.sl false (r.2.code.map eIntu8)), .d (.int .i64 r.2.at_), .d (.int .u64 r.2.seed)], .box [.d (.cx .f32 f_.Feeder.Source.A.re f_.Feeder.Source.A.im), .d (.cx .f32 f_.Feeder.Source.B.re f_.Feeder.Source.B.im), .d (.cx .f32 f_.Feeder.Source.C.re f_.Feeder.Source.C.im), .row 2 f_.Feeder.Buses.length 0 f_.Feeder.Buses.length, .row 3 f_.Taps.length 0 f_.Taps.length, .row 4 f_.List.length 0 f_.List.length], .row 8 (f_.Feeder.Buses.map eSBus), .row 5 (f_.Taps.map eSTap), .row 3 (f_.List.map eSOutage)] ∧ new = [.row 5 (r.1.map eSTap)]) := by
  refine acall_of_aw hτ func109 rfl (by simp) (by simp) ?_
  unfold m_spec_l05DrawTaps at h
  refine aw_seq ?_
  refine aw_region ?_
  refine awl_val hτ rfl rfl rfl ?_
  refine awl_nil ?_
  refine aw_seq ?_
  refine aw_region ?_
  refine awl_valH hτ rfl rfl rfl ?_
  refine awl_val hτ rfl rfl rfl ?_
  refine awl_nil ?_
  refine aw_hk1 (ι := List Int × Int × Int × List STap) (fun (v61, v62, v63, v64) => St.of [(0, .ptr 0 0), (5, .row 5 v64.length 0 v64.length)] [.box [.d (.sl false (v61.map eIntu8)), .d (.int .i64 v62), .d (.int .u64 v63)], .box [.d (.cx .f32 f_.Feeder.Source.A.re f_.Feeder.Source.A.im), .d (.cx .f32 f_.Feeder.Source.B.re f_.Feeder.Source.B.im), .d (.cx .f32 f_.Feeder.Source.C.re f_.Feeder.Source.C.im), .row 2 f_.Feeder.Buses.length 0 f_.Feeder.Buses.length, .row 3 f_.Taps.length 0 f_.Taps.length, .row 4 f_.List.length 0 f_.List.length], .row 8 (f_.Feeder.Buses.map eSBus), .row 5 (f_.Taps.map eSTap), .row 3 (f_.List.map eSOutage), .row 5 (v64.map eSTap)] f109.ntmps 5) (fun (v61, v62, v63, v64) => m_spec_l05DrawTaps_j1 n v61 v62 v63 v64 = some r) ?_ (fun hk70 => ?_)
  · rintro ⟨v61, v62, v63, v64⟩ h
    replace h : m_spec_l05DrawTaps_j1 n v61 v62 v63 v64 = some r := h
    unfold m_spec_l05DrawTaps_j1 at h
    refine aw_seq ?_
    refine aw_seq ?_
    refine aw_region ?_
    refine awl_val hτ rfl rfl rfl ?_
    refine bnd_elim h fun x65 hx65 h => ?_
    refine awl_callP hτ false [0] rfl rfl rfl (enterOk func56 rfl rfl) rfl rfl (by simp) ⟨trivial, trivial, trivial⟩ (by repeat' first | exact trivial | refine ⟨?_, ?_⟩) (spec_l00Src_one_ok n (SL00Src.mk v61 v62 v63) (30 : Int) hx65) ?_
    rintro r0 o0 n0 ⟨rfl, rfl, rfl⟩ -
    refine awl_nil ?_
    refine aw_cond rfl (fun hc66 => ?_) (fun hc66 => ?_)
    · have h := if_bt h hc66
      refine aw_region ?_
      refine awl_val hτ rfl rfl rfl ?_
      refine awl_val hτ rfl rfl rfl ?_
      refine awl_val hτ rfl rfl rfl ?_
      refine awl_valH hτ rfl rfl rfl ?_
      refine awl_weak (weak_ofP [0, 1, 2, 3, 4, 5] (l := [(5, .row 5 v64.length 0 v64.length), (28, .row 5 v64.length 0 v64.length), (29, .ptr 0 0), (30, .ptr 0 0), (31, .d (.sl false ([(0 : Int), (1 : Int), (16 : Int), (-1 : Int)].map eInti64)))]) (objs := [.box [.d (.sl false (x65.2.code.map eIntu8)), .d (.int .i64 x65.2.at_), .d (.int .u64 x65.2.seed)], .box [.d (.cx .f32 f_.Feeder.Source.A.re f_.Feeder.Source.A.im), .d (.cx .f32 f_.Feeder.Source.B.re f_.Feeder.Source.B.im), .d (.cx .f32 f_.Feeder.Source.C.re f_.Feeder.Source.C.im), .row 2 f_.Feeder.Buses.length 0 f_.Feeder.Buses.length, .row 3 f_.Taps.length 0 f_.Taps.length, .row 4 f_.List.length 0 f_.List.length], .row 8 (f_.Feeder.Buses.map eSBus), .row 5 (f_.Taps.map eSTap), .row 3 (f_.List.map eSOutage), .row 5 (v64.map eSTap)]) rfl (by simp) rfl (by repeat' first | exact trivial | refine ⟨?_, ?_⟩) ⟨rfl, trivial, rfl, trivial, rfl, trivial, rfl, trivial, (exV_view (f := eInti64) [(0 : Int), (1 : Int), (16 : Int), (-1 : Int)] rfl rfl rfl), (exVP_view (f := eInti64) [(0 : Int), (1 : Int), (16 : Int), (-1 : Int)] rfl rfl rfl), trivial⟩) ?_
      refine bnd_elim h fun x67 hx67 h => ?_
      refine awl_callP hτ false [0] rfl rfl rfl (enterOk func95 rfl rfl) rfl rfl (by simp) ⟨trivial, trivial, trivial⟩ (by repeat' first | exact trivial | refine ⟨?_, ?_⟩) (spec_l00Src_among_ok n x65.2 [(0 : Int), (1 : Int), (16 : Int), (-1 : Int)] hx67) ?_
      rintro r0 o0 n0 ⟨rfl, rfl, rfl⟩ -
      refine bnd_elim h fun x68 hx68 h => ?_
      refine awl_callP hτ false [0] rfl rfl rfl (enterOk func126 rfl rfl) rfl rfl (by simp) ⟨trivial, trivial, trivial⟩ (by repeat' first | exact trivial | refine ⟨?_, ?_⟩) (spec_l05DrawTap_ok n x67.2 x67.1 hx68) ?_
      rintro r0 o0 n0 ⟨rfl, rfl, rfl⟩ -
      refine awl_valH hτ rfl rfl rfl ?_
      refine grd_elim h fun hg69 h => ?_
      refine awl_needH hτ rfl rfl (Eq.trans rfl (or_append (f := eSTap) v64 [x68.1] rfl)) ⟨⟨rfl, Nat.le_of_ble_eq_true rfl⟩, len_map _, rfl, rfl, hg69, by decide, (all1 rfl)⟩ ?_
      refine awl_val hτ rfl rfl rfl ?_
      refine awl_nil ?_
      refine aw_seq ?_
      refine aw_region ?_
      refine awl_val hτ rfl rfl rfl ?_
      refine awl_val hτ rfl rfl rfl ?_
      refine awl_nil ?_
      refine aw_weak (weak_ofP [0, 1, 2, 3, 4, 5] (l := [(4, .row 5 ((v64 ++ [x68.1]).length) 0 ((v64 ++ [x68.1]).length))]) (objs := [.box [.d (.sl false (x68.2.code.map eIntu8)), .d (.int .i64 x68.2.at_), .d (.int .u64 x68.2.seed)], .box [.d (.cx .f32 f_.Feeder.Source.A.re f_.Feeder.Source.A.im), .d (.cx .f32 f_.Feeder.Source.B.re f_.Feeder.Source.B.im), .d (.cx .f32 f_.Feeder.Source.C.re f_.Feeder.Source.C.im), .row 2 f_.Feeder.Buses.length 0 f_.Feeder.Buses.length, .row 3 f_.Taps.length 0 f_.Taps.length, .row 4 f_.List.length 0 f_.List.length], .row 8 (f_.Feeder.Buses.map eSBus), .row 5 (f_.Taps.map eSTap), .row 3 (f_.List.map eSOutage), .row 5 ((v64 ++ [x68.1]).map eSTap)]) rfl (by simp) rfl (by repeat' first | exact trivial | refine ⟨?_, ?_⟩) ⟨rfl, trivial, trivial⟩) ?_
      refine aw_ret ?_
      have hr := Option.some.inj h
      subst hr
      exact ret_objs (.inr rfl) [5] (objs' := [.box [.d (.sl false (x68.2.code.map eIntu8)), .d (.int .i64 x68.2.at_), .d (.int .u64 x68.2.seed)], .box [.d (.cx .f32 f_.Feeder.Source.A.re f_.Feeder.Source.A.im), .d (.cx .f32 f_.Feeder.Source.B.re f_.Feeder.Source.B.im), .d (.cx .f32 f_.Feeder.Source.C.re f_.Feeder.Source.C.im), .row 2 f_.Feeder.Buses.length 0 f_.Feeder.Buses.length, .row 3 f_.Taps.length 0 f_.Taps.length, .row 4 f_.List.length 0 f_.List.length], .row 8 (f_.Feeder.Buses.map eSBus), .row 5 (f_.Taps.map eSTap), .row 3 (f_.List.map eSOutage)]) (new := [.row 5 ((v64 ++ [x68.1]).map eSTap)]) rfl (by simp) (by simp) rfl (by repeat' first | exact trivial | refine ⟨?_, ?_⟩) rfl rfl (by repeat' first | exact trivial | refine ⟨?_, ?_⟩) (fun h => nomatch h) ⟨rfl, rfl, rfl⟩
    · have h := if_bf h hc66
      refine aw_skip ?_
      refine aw_seq ?_
      refine aw_region ?_
      refine awl_val hτ rfl rfl rfl ?_
      refine awl_val hτ rfl rfl rfl ?_
      refine awl_nil ?_
      refine aw_weak (weak_ofP [0, 1, 2, 3, 4, 5] (l := [(4, .row 5 v64.length 0 v64.length)]) (objs := [.box [.d (.sl false (x65.2.code.map eIntu8)), .d (.int .i64 x65.2.at_), .d (.int .u64 x65.2.seed)], .box [.d (.cx .f32 f_.Feeder.Source.A.re f_.Feeder.Source.A.im), .d (.cx .f32 f_.Feeder.Source.B.re f_.Feeder.Source.B.im), .d (.cx .f32 f_.Feeder.Source.C.re f_.Feeder.Source.C.im), .row 2 f_.Feeder.Buses.length 0 f_.Feeder.Buses.length, .row 3 f_.Taps.length 0 f_.Taps.length, .row 4 f_.List.length 0 f_.List.length], .row 8 (f_.Feeder.Buses.map eSBus), .row 5 (f_.Taps.map eSTap), .row 3 (f_.List.map eSOutage), .row 5 (v64.map eSTap)]) rfl (by simp) rfl (by repeat' first | exact trivial | refine ⟨?_, ?_⟩) ⟨rfl, trivial, trivial⟩) ?_
      refine aw_ret ?_
      have hr := Option.some.inj h
      subst hr
      exact ret_objs (.inr rfl) [5] (objs' := [.box [.d (.sl false (x65.2.code.map eIntu8)), .d (.int .i64 x65.2.at_), .d (.int .u64 x65.2.seed)], .box [.d (.cx .f32 f_.Feeder.Source.A.re f_.Feeder.Source.A.im), .d (.cx .f32 f_.Feeder.Source.B.re f_.Feeder.Source.B.im), .d (.cx .f32 f_.Feeder.Source.C.re f_.Feeder.Source.C.im), .row 2 f_.Feeder.Buses.length 0 f_.Feeder.Buses.length, .row 3 f_.Taps.length 0 f_.Taps.length, .row 4 f_.List.length 0 f_.List.length], .row 8 (f_.Feeder.Buses.map eSBus), .row 5 (f_.Taps.map eSTap), .row 3 (f_.List.map eSOutage)]) (new := [.row 5 (v64.map eSTap)]) rfl (by simp) (by simp) rfl (by repeat' first | exact trivial | refine ⟨?_, ?_⟩) rfl rfl (by repeat' first | exact trivial | refine ⟨?_, ?_⟩) (fun h => nomatch h) ⟨rfl, rfl, rfl⟩
  · refine aw_seq ?_
    refine aw_seq ?_
    refine aw_region ?_
    refine awl_val hτ rfl rfl rfl ?_
    refine awl_nil ?_
    refine aw_block ?_
    refine aw_loop (ι := Nat × List Int × Int × Int × List STap × Int) (fun (m97, v79, v80, v81, v82, v83) => St.of [(0, .ptr 0 0), (1, .ptr 1 0), (5, .row 5 v82.length 0 v82.length), (6, .d (.int .i64 v83))] [.box [.d (.sl false (v79.map eIntu8)), .d (.int .i64 v80), .d (.int .u64 v81)], .box [.d (.cx .f32 f_.Feeder.Source.A.re f_.Feeder.Source.A.im), .d (.cx .f32 f_.Feeder.Source.B.re f_.Feeder.Source.B.im), .d (.cx .f32 f_.Feeder.Source.C.re f_.Feeder.Source.C.im), .row 2 f_.Feeder.Buses.length 0 f_.Feeder.Buses.length, .row 3 f_.Taps.length 0 f_.Taps.length, .row 4 f_.List.length 0 f_.List.length], .row 8 (f_.Feeder.Buses.map eSBus), .row 5 (f_.Taps.map eSTap), .row 3 (f_.List.map eSOutage), .row 5 (v82.map eSTap)] f109.ntmps 5) (fun (m97, v79, v80, v81, v82, v83) => m_spec_l05DrawTaps_l2 n f_ m97 v79 v80 v81 v82 v83 = some r) (fun x => x.1) (n, s_.code, s_.at_, s_.seed, ([] : List STap), (1 : Int)) h (weak_ofP [0, 1, 2, 3, 4, 5] (l := [(0, .ptr 0 0), (1, .ptr 1 0), (5, .row 5 (([] : List STap).length) 0 (([] : List STap).length)), (6, .d (.int .i64 (1 : Int)))]) (objs := [.box [.d (.sl false (s_.code.map eIntu8)), .d (.int .i64 s_.at_), .d (.int .u64 s_.seed)], .box [.d (.cx .f32 f_.Feeder.Source.A.re f_.Feeder.Source.A.im), .d (.cx .f32 f_.Feeder.Source.B.re f_.Feeder.Source.B.im), .d (.cx .f32 f_.Feeder.Source.C.re f_.Feeder.Source.C.im), .row 2 f_.Feeder.Buses.length 0 f_.Feeder.Buses.length, .row 3 f_.Taps.length 0 f_.Taps.length, .row 4 f_.List.length 0 f_.List.length], .row 8 (f_.Feeder.Buses.map eSBus), .row 5 (f_.Taps.map eSTap), .row 3 (f_.List.map eSOutage), .row 5 (([] : List STap).map eSTap)]) rfl (by simp) rfl (by repeat' first | exact trivial | refine ⟨?_, ?_⟩) ⟨rfl, trivial, rfl, trivial, rfl, trivial, rfl, trivial, trivial⟩) ?_
    rintro ⟨m97, v79, v80, v81, v82, v83⟩ h
    replace h : m_spec_l05DrawTaps_l2 n f_ m97 v79 v80 v81 v82 v83 = some r := h
    rcases m97 with _ | m97
    · rw [m_spec_l05DrawTaps_l2] at h; cases h
    rw [m_spec_l05DrawTaps_l2] at h
    refine aw_seq ?_
    refine aw_seq ?_
    refine aw_region ?_
    refine awl_val hτ rfl rfl rfl ?_
    refine awl_val hτ rfl rfl rfl ?_
    refine awl_val hτ rfl rfl rfl ?_
    refine awl_val hτ rfl rfl rfl ?_
    refine awl_val hτ rfl rfl rfl ?_
    refine awl_need hτ rfl rfl rfl (len_map _) ?_
    refine bnd_elim h fun x100 hx100 h => ?_
    refine awl_callP hτ false [] rfl rfl rfl (enterOk func125 rfl rfl) rfl rfl (by simp) ⟨trivial, trivial, trivial⟩ (by repeat' first | exact trivial | refine ⟨?_, ?_⟩) (spec_l00Min_ok n (17 : Int) (f_.Feeder.Buses.length : Int) hx100) ?_
    rintro r0 o0 n0 ⟨rfl, rfl, rfl⟩ -
    refine awl_val hτ rfl rfl rfl ?_
    refine awl_nil ?_
    refine aw_weak (weak_ofP [0, 1, 2, 3, 4, 5] (l := [(0, .ptr 0 0), (1, .ptr 1 0), (5, .row 5 v82.length 0 v82.length), (6, .d (.int .i64 v83)), (15, .d (.bool (decide (v83 < x100))))]) (objs := [.box [.d (.sl false (v79.map eIntu8)), .d (.int .i64 v80), .d (.int .u64 v81)], .box [.d (.cx .f32 f_.Feeder.Source.A.re f_.Feeder.Source.A.im), .d (.cx .f32 f_.Feeder.Source.B.re f_.Feeder.Source.B.im), .d (.cx .f32 f_.Feeder.Source.C.re f_.Feeder.Source.C.im), .row 2 f_.Feeder.Buses.length 0 f_.Feeder.Buses.length, .row 3 f_.Taps.length 0 f_.Taps.length, .row 4 f_.List.length 0 f_.List.length], .row 8 (f_.Feeder.Buses.map eSBus), .row 5 (f_.Taps.map eSTap), .row 3 (f_.List.map eSOutage), .row 5 (v82.map eSTap)]) rfl (by simp) rfl (by repeat' first | exact trivial | refine ⟨?_, ?_⟩) ⟨rfl, trivial, rfl, trivial, rfl, trivial, rfl, trivial, rfl, trivial, trivial⟩) ?_
    refine aw_cond rfl (fun hc101 => ?_) (fun hc101 => ?_)
    · have h := if_t h hc101
      refine aw_skip ?_
      refine aw_hk1 (ι := List Int × Int × Int × List STap) (fun (v109, v110, v111, v112) => St.of [(0, .ptr 0 0), (1, .ptr 1 0), (5, .row 5 v112.length 0 v112.length), (6, .d (.int .i64 v83))] [.box [.d (.sl false (v109.map eIntu8)), .d (.int .i64 v110), .d (.int .u64 v111)], .box [.d (.cx .f32 f_.Feeder.Source.A.re f_.Feeder.Source.A.im), .d (.cx .f32 f_.Feeder.Source.B.re f_.Feeder.Source.B.im), .d (.cx .f32 f_.Feeder.Source.C.re f_.Feeder.Source.C.im), .row 2 f_.Feeder.Buses.length 0 f_.Feeder.Buses.length, .row 3 f_.Taps.length 0 f_.Taps.length, .row 4 f_.List.length 0 f_.List.length], .row 8 (f_.Feeder.Buses.map eSBus), .row 5 (f_.Taps.map eSTap), .row 3 (f_.List.map eSOutage), .row 5 (v112.map eSTap)] f109.ntmps 5) (fun (v109, v110, v111, v112) => m_spec_l05DrawTaps_j3 n (m_spec_l05DrawTaps_l2 n f_ m97) v83 v109 v110 v111 v112 = some r) ?_ (fun hk113 => ?_)
      · rintro ⟨v109, v110, v111, v112⟩ h
        replace h : m_spec_l05DrawTaps_j3 n (m_spec_l05DrawTaps_l2 n f_ m97) v83 v109 v110 v111 v112 = some r := h
        unfold m_spec_l05DrawTaps_j3 at h
        refine aw_region ?_
        refine awl_val hτ rfl rfl rfl ?_
        refine awl_val hτ rfl rfl rfl ?_
        refine awl_val hτ rfl rfl rfl ?_
        refine awl_nil ?_
        exact ⟨(m97, v109, v110, v111, v112, (w64 (v83 + (1 : Int)))), h, Nat.lt_succ_self m97, (weak_ofP [0, 1, 2, 3, 4, 5] (l := [(0, .ptr 0 0), (1, .ptr 1 0), (5, .row 5 v112.length 0 v112.length), (6, .d (.int .i64 (w64 (v83 + (1 : Int)))))]) (objs := [.box [.d (.sl false (v109.map eIntu8)), .d (.int .i64 v110), .d (.int .u64 v111)], .box [.d (.cx .f32 f_.Feeder.Source.A.re f_.Feeder.Source.A.im), .d (.cx .f32 f_.Feeder.Source.B.re f_.Feeder.Source.B.im), .d (.cx .f32 f_.Feeder.Source.C.re f_.Feeder.Source.C.im), .row 2 f_.Feeder.Buses.length 0 f_.Feeder.Buses.length, .row 3 f_.Taps.length 0 f_.Taps.length, .row 4 f_.List.length 0 f_.List.length], .row 8 (f_.Feeder.Buses.map eSBus), .row 5 (f_.Taps.map eSTap), .row 3 (f_.List.map eSOutage), .row 5 (v112.map eSTap)]) rfl (by simp) rfl (by repeat' first | exact trivial | refine ⟨?_, ?_⟩) ⟨rfl, trivial, rfl, trivial, rfl, trivial, rfl, trivial, trivial⟩)⟩
      · refine aw_seq ?_
        refine aw_block ?_
        refine aw_seq ?_
        refine aw_region ?_
        refine awl_val hτ rfl rfl rfl ?_
        refine bnd_elim h fun x114 hx114 h => ?_
        refine awl_callP hτ false [0] rfl rfl rfl (enterOk func56 rfl rfl) rfl rfl (by simp) ⟨trivial, trivial, trivial⟩ (by repeat' first | exact trivial | refine ⟨?_, ?_⟩) (spec_l00Src_one_ok n (SL00Src.mk v79 v80 v81) (3 : Int) hx114) ?_
        rintro r0 o0 n0 ⟨rfl, rfl, rfl⟩ -
        refine awl_nil ?_
        refine aw_cond rfl (fun hc115 => ?_) (fun hc115 => ?_)
        · have h := if_bt h hc115
          refine aw_region ?_
          refine awl_val hτ rfl rfl rfl ?_
          refine awl_val hτ rfl rfl rfl ?_
          refine awl_val hτ rfl rfl rfl ?_
          refine bnd_elim h fun x116 hx116 h => ?_
          refine awl_callP hτ false [0] rfl rfl rfl (enterOk func126 rfl rfl) rfl rfl (by simp) ⟨trivial, trivial, trivial⟩ (by repeat' first | exact trivial | refine ⟨?_, ?_⟩) (spec_l05DrawTap_ok n x114.2 v83 hx116) ?_
          rintro r0 o0 n0 ⟨rfl, rfl, rfl⟩ -
          refine awl_valH hτ rfl rfl rfl ?_
          refine grd_elim h fun hg117 h => ?_
          refine awl_needH hτ rfl rfl (Eq.trans rfl (or_append (f := eSTap) v82 [x116.1] rfl)) ⟨⟨rfl, Nat.le_of_ble_eq_true rfl⟩, len_map _, rfl, rfl, hg117, by decide, (all1 rfl)⟩ ?_
          refine awl_val hτ rfl rfl rfl ?_
          refine awl_nil ?_
          refine aw_weak (weak_ofP [0, 1, 2, 3, 4, 5] (l := [(0, .ptr 0 0), (1, .ptr 1 0), (5, .row 5 ((v82 ++ [x116.1]).length) 0 ((v82 ++ [x116.1]).length)), (6, .d (.int .i64 v83))]) (objs := [.box [.d (.sl false (x116.2.code.map eIntu8)), .d (.int .i64 x116.2.at_), .d (.int .u64 x116.2.seed)], .box [.d (.cx .f32 f_.Feeder.Source.A.re f_.Feeder.Source.A.im), .d (.cx .f32 f_.Feeder.Source.B.re f_.Feeder.Source.B.im), .d (.cx .f32 f_.Feeder.Source.C.re f_.Feeder.Source.C.im), .row 2 f_.Feeder.Buses.length 0 f_.Feeder.Buses.length, .row 3 f_.Taps.length 0 f_.Taps.length, .row 4 f_.List.length 0 f_.List.length], .row 8 (f_.Feeder.Buses.map eSBus), .row 5 (f_.Taps.map eSTap), .row 3 (f_.List.map eSOutage), .row 5 ((v82 ++ [x116.1]).map eSTap)]) rfl (by simp) rfl (by repeat' first | exact trivial | refine ⟨?_, ?_⟩) ⟨rfl, trivial, rfl, trivial, rfl, trivial, rfl, trivial, trivial⟩) ?_
          exact hk113 (x116.2.code, x116.2.at_, x116.2.seed, (v82 ++ [x116.1])) h
        · have h := if_bf h hc115
          refine aw_skip ?_
          refine aw_weak (weak_ofP [0, 1, 2, 3, 4, 5] (l := [(0, .ptr 0 0), (1, .ptr 1 0), (5, .row 5 v82.length 0 v82.length), (6, .d (.int .i64 v83))]) (objs := [.box [.d (.sl false (x114.2.code.map eIntu8)), .d (.int .i64 x114.2.at_), .d (.int .u64 x114.2.seed)], .box [.d (.cx .f32 f_.Feeder.Source.A.re f_.Feeder.Source.A.im), .d (.cx .f32 f_.Feeder.Source.B.re f_.Feeder.Source.B.im), .d (.cx .f32 f_.Feeder.Source.C.re f_.Feeder.Source.C.im), .row 2 f_.Feeder.Buses.length 0 f_.Feeder.Buses.length, .row 3 f_.Taps.length 0 f_.Taps.length, .row 4 f_.List.length 0 f_.List.length], .row 8 (f_.Feeder.Buses.map eSBus), .row 5 (f_.Taps.map eSTap), .row 3 (f_.List.map eSOutage), .row 5 (v82.map eSTap)]) rfl (by simp) rfl (by repeat' first | exact trivial | refine ⟨?_, ?_⟩) ⟨rfl, trivial, rfl, trivial, rfl, trivial, rfl, trivial, trivial⟩) ?_
          exact hk113 (x114.2.code, x114.2.at_, x114.2.seed, v82) h
    · have h := if_f h hc101
      refine aw_exit ?_
      refine aw_weak (weak_ofP [0, 1, 2, 3, 4, 5] (l := [(0, .ptr 0 0), (5, .row 5 v82.length 0 v82.length)]) (objs := [.box [.d (.sl false (v79.map eIntu8)), .d (.int .i64 v80), .d (.int .u64 v81)], .box [.d (.cx .f32 f_.Feeder.Source.A.re f_.Feeder.Source.A.im), .d (.cx .f32 f_.Feeder.Source.B.re f_.Feeder.Source.B.im), .d (.cx .f32 f_.Feeder.Source.C.re f_.Feeder.Source.C.im), .row 2 f_.Feeder.Buses.length 0 f_.Feeder.Buses.length, .row 3 f_.Taps.length 0 f_.Taps.length, .row 4 f_.List.length 0 f_.List.length], .row 8 (f_.Feeder.Buses.map eSBus), .row 5 (f_.Taps.map eSTap), .row 3 (f_.List.map eSOutage), .row 5 (v82.map eSTap)]) rfl (by simp) rfl (by repeat' first | exact trivial | refine ⟨?_, ?_⟩) ⟨rfl, trivial, rfl, trivial, trivial⟩) ?_
      exact hk70 (v79, v80, v81, v82) h

def m_spec_l00In (n : Nat) (n_ : Int) (low_ : Int) (high_ : Int) : Option Bool :=
  if n_ ≥ low_ then
    some (decide (n_ ≤ high_))
  else
    some false
theorem spec_l00In_ok_fr0 (fr : Bool) (n : Nat) (n_ : Int) (low_ : Int) (high_ : Int) {r : Bool} (h : m_spec_l00In n n_ low_ high_ = some r) : ACall prog fr 128 [.d (.int .i64 n_), .d (.int .i64 low_), .d (.int .i64 high_)] [] (fun v o new => v = .d (.bool r) ∧ o = [] ∧ new = []) := by
  refine acall_of_aw hτ func128 rfl (by simp) (by simp) ?_
  unfold m_spec_l00In at h
  refine aw_seq ?_
  refine aw_region ?_
  refine awl_val hτ rfl rfl rfl ?_
  refine awl_nil ?_
  refine aw_seq ?_
  refine aw_region ?_
  refine awl_val hτ rfl rfl rfl ?_
  refine awl_val hτ rfl rfl rfl ?_
  refine awl_val hτ rfl rfl rfl ?_
  refine awl_val hτ rfl rfl rfl ?_
  refine awl_split 10 rfl (fun hb3 => ?_) (fun hb3 => ?_)
  · have h := if_t h hb3
    refine awl_val hτ rfl rfl rfl ?_
    refine awl_val hτ rfl rfl rfl ?_
    refine awl_val hτ rfl rfl rfl ?_
    refine awl_val hτ rfl rfl rfl ?_
    refine awl_val hτ rfl rfl rfl ?_
    refine awl_nil ?_
    refine aw_weak (weak_ofP [] (l := [(6, .d (.bool (decide (n_ ≤ high_))))]) (objs := []) rfl (by simp) rfl (by repeat' first | exact trivial | refine ⟨?_, ?_⟩) ⟨rfl, trivial, trivial⟩) ?_
    refine aw_ret ?_
    have hr := Option.some.inj h
    subst hr
    exact ret_objs (.inr rfl) [] (objs' := []) (new := []) rfl (by simp) (by simp) rfl (by repeat' first | exact trivial | refine ⟨?_, ?_⟩) rfl rfl (by repeat' first | exact trivial | refine ⟨?_, ?_⟩) (fun _ => ⟨by simp [V.flat, V.flatA, V.flatC, D.flat], flat_nil⟩) ⟨rfl, rfl, rfl⟩
  · have h := if_f h hb3
    refine awl_skip rfl rfl ?_
    refine awl_skip rfl rfl ?_
    refine awl_skip rfl rfl ?_
    refine awl_val hτ rfl rfl rfl ?_
    refine awl_val hτ rfl rfl rfl ?_
    refine awl_nil ?_
    refine aw_weak (weak_ofP [] (l := [(6, .d (.bool false))]) (objs := []) rfl (by simp) rfl (by repeat' first | exact trivial | refine ⟨?_, ?_⟩) ⟨rfl, trivial, trivial⟩) ?_
    refine aw_ret ?_
    have hr := Option.some.inj h
    subst hr
    exact ret_objs (.inr rfl) [] (objs' := []) (new := []) rfl (by simp) (by simp) rfl (by repeat' first | exact trivial | refine ⟨?_, ?_⟩) rfl rfl (by repeat' first | exact trivial | refine ⟨?_, ?_⟩) (fun _ => ⟨by simp [V.flat, V.flatA, V.flatC, D.flat], flat_nil⟩) ⟨rfl, rfl, rfl⟩
theorem spec_l00In_ok (n : Nat) (n_ : Int) (low_ : Int) (high_ : Int) {r : Bool} (h : m_spec_l00In n n_ low_ high_ = some r) : ACall prog false 128 [.d (.int .i64 n_), .d (.int .i64 low_), .d (.int .i64 high_)] [] (fun v o new => v = .d (.bool r) ∧ o = [] ∧ new = []) := spec_l00In_ok_fr0 false n n_ low_ high_ h
theorem spec_l00In_ok_fr (n : Nat) (n_ : Int) (low_ : Int) (high_ : Int) {r : Bool} (h : m_spec_l00In n n_ low_ high_ = some r) : ACall prog true 128 [.d (.int .i64 n_), .d (.int .i64 low_), .d (.int .i64 high_)] [] (fun v o new => v = .d (.bool r) ∧ o = [] ∧ new = []) := spec_l00In_ok_fr0 true n n_ low_ high_ h

def m_spec_l05Tap (n : Nat) (t_ : STap) : Option Bool :=
  (m_spec_l00In n t_.A (-16 : Int) (16 : Int)).bind fun x12 =>
  if x12 = true then
    (m_spec_l00In n t_.B (-16 : Int) (16 : Int)).bind fun x14 =>
    if x14 = true then
      (m_spec_l00In n t_.C (-16 : Int) (16 : Int)).bind fun x16 =>
      if x16 = true then
        if (fcmp .geq .f32 t_.Each (0 : Nat)) = true then
          some (fcmp .leq .f32 t_.Each (1031798784 : Nat))
        else
          some false
      else
        some false
    else
      some false
  else
    some false
theorem spec_l05Tap_ok_fr0 (fr : Bool) (n : Nat) (t_ : STap) {r : Bool} (h : m_spec_l05Tap n t_ = some r) : ACall prog fr 127 [.rop [.int .i64 t_.Bus, .int .i64 t_.A, .int .i64 t_.B, .int .i64 t_.C, .fl .f32 t_.Each] 0] [] (fun v o new => v = .d (.bool r) ∧ o = [] ∧ new = []) := by
  refine acall_of_aw hτ func127 rfl (by simp) (by simp) ?_
  unfold m_spec_l05Tap at h
  refine aw_seq ?_
  refine aw_region ?_
  refine awl_val hτ rfl rfl rfl ?_
  refine awl_nil ?_
  refine aw_seq ?_
  refine aw_region ?_
  refine awl_val hτ rfl rfl rfl ?_
  refine awl_val hτ rfl rfl rfl ?_
  refine awl_val hτ rfl rfl rfl ?_
  refine awl_val hτ rfl rfl rfl ?_
  refine bnd_elim h fun x12 hx12 h => ?_
  refine awl_callP hτ false [] rfl rfl rfl (enterOk func128 rfl rfl) rfl rfl (by simp) ⟨trivial, trivial, trivial, trivial⟩ (by repeat' first | exact trivial | refine ⟨?_, ?_⟩) (spec_l00In_ok n t_.A (-16 : Int) (16 : Int) hx12) ?_
  rintro r0 o0 n0 ⟨rfl, rfl, rfl⟩ -
  refine awl_val hτ rfl rfl rfl ?_
  refine awl_split 8 rfl (fun hb13 => ?_) (fun hb13 => ?_)
  · have h := if_bt h hb13
    refine awl_val hτ rfl rfl rfl ?_
    refine awl_val hτ rfl rfl rfl ?_
    refine awl_val hτ rfl rfl rfl ?_
    refine awl_val hτ rfl rfl rfl ?_
    refine bnd_elim h fun x14 hx14 h => ?_
    refine awl_callP hτ false [] rfl rfl rfl (enterOk func128 rfl rfl) rfl rfl (by simp) ⟨trivial, trivial, trivial, trivial⟩ (by repeat' first | exact trivial | refine ⟨?_, ?_⟩) (spec_l00In_ok n t_.B (-16 : Int) (16 : Int) hx14) ?_
    rintro r0 o0 n0 ⟨rfl, rfl, rfl⟩ -
    refine awl_weak (weak_ofP [] (l := [(0, .rop [.int .i64 t_.Bus, .int .i64 t_.A, .int .i64 t_.B, .int .i64 t_.C, .fl .f32 t_.Each] 0), (2, .d (.bool false)), (8, .d (.bool true)), (13, .d (.bool x14))]) (objs := []) rfl (by simp) rfl (by repeat' first | exact trivial | refine ⟨?_, ?_⟩) ⟨rfl, trivial, rfl, trivial, rfl, trivial, rfl, trivial, trivial⟩) ?_
    refine awl_val hτ rfl rfl rfl ?_
    refine awl_val hτ rfl rfl rfl ?_
    refine awl_split 15 rfl (fun hb15 => ?_) (fun hb15 => ?_)
    · have h := if_bt h hb15
      refine awl_val hτ rfl rfl rfl ?_
      refine awl_val hτ rfl rfl rfl ?_
      refine awl_val hτ rfl rfl rfl ?_
      refine awl_val hτ rfl rfl rfl ?_
      refine bnd_elim h fun x16 hx16 h => ?_
      refine awl_callP hτ false [] rfl rfl rfl (enterOk func128 rfl rfl) rfl rfl (by simp) ⟨trivial, trivial, trivial, trivial⟩ (by repeat' first | exact trivial | refine ⟨?_, ?_⟩) (spec_l00In_ok n t_.C (-16 : Int) (16 : Int) hx16) ?_
      rintro r0 o0 n0 ⟨rfl, rfl, rfl⟩ -
      refine awl_val hτ rfl rfl rfl ?_
      refine awl_val hτ rfl rfl rfl ?_
      refine awl_split 22 rfl (fun hb17 => ?_) (fun hb17 => ?_)
      · have h := if_bt h hb17
        refine awl_val hτ rfl rfl rfl ?_
        refine awl_val hτ rfl rfl rfl ?_
        refine awl_val hτ rfl rfl rfl ?_
        refine awl_weak (weak_ofP [] (l := [(0, .rop [.int .i64 t_.Bus, .int .i64 t_.A, .int .i64 t_.B, .int .i64 t_.C, .fl .f32 t_.Each] 0), (2, .d (.bool false)), (22, .d (.bool true)), (25, .rop [.int .i64 t_.Bus, .int .i64 t_.A, .int .i64 t_.B, .int .i64 t_.C, .fl .f32 t_.Each] 4)]) (objs := []) rfl (by simp) rfl (by repeat' first | exact trivial | refine ⟨?_, ?_⟩) ⟨rfl, trivial, rfl, trivial, rfl, trivial, rfl, trivial, trivial⟩) ?_
        refine awl_val hτ rfl rfl rfl ?_
        refine awl_val hτ rfl rfl rfl ?_
        refine awl_val hτ rfl rfl rfl ?_
        refine awl_val hτ rfl rfl rfl ?_
        refine awl_split 29 rfl (fun hb18 => ?_) (fun hb18 => ?_)
        · have h := if_bt h hb18
          refine awl_val hτ rfl rfl rfl ?_
          refine awl_val hτ rfl rfl rfl ?_
          refine awl_val hτ rfl rfl rfl ?_
          refine awl_val hτ rfl rfl rfl ?_
          refine awl_val hτ rfl rfl rfl ?_
          refine awl_val hτ rfl rfl rfl ?_
          refine awl_val hτ rfl rfl rfl ?_
          refine awl_nil ?_
          refine aw_weak (weak_ofP [] (l := [(2, .d (.bool (fcmp .leq .f32 t_.Each (1031798784 : Nat))))]) (objs := []) rfl (by simp) rfl (by repeat' first | exact trivial | refine ⟨?_, ?_⟩) ⟨rfl, trivial, trivial⟩) ?_
          refine aw_ret ?_
          have hr := Option.some.inj h
          subst hr
          exact ret_objs (.inr rfl) [] (objs' := []) (new := []) rfl (by simp) (by simp) rfl (by repeat' first | exact trivial | refine ⟨?_, ?_⟩) rfl rfl (by repeat' first | exact trivial | refine ⟨?_, ?_⟩) (fun _ => ⟨by simp [V.flat, V.flatA, V.flatC, D.flat], flat_nil⟩) ⟨rfl, rfl, rfl⟩
        · have h := if_bf h hb18
          refine awl_skip rfl rfl ?_
          refine awl_skip rfl rfl ?_
          refine awl_skip rfl rfl ?_
          refine awl_skip rfl rfl ?_
          refine awl_skip rfl rfl ?_
          refine awl_val hτ rfl rfl rfl ?_
          refine awl_val hτ rfl rfl rfl ?_
          refine awl_nil ?_
          refine aw_weak (weak_ofP [] (l := [(2, .d (.bool false))]) (objs := []) rfl (by simp) rfl (by repeat' first | exact trivial | refine ⟨?_, ?_⟩) ⟨rfl, trivial, trivial⟩) ?_
          refine aw_ret ?_
          have hr := Option.some.inj h
          subst hr
          exact ret_objs (.inr rfl) [] (objs' := []) (new := []) rfl (by simp) (by simp) rfl (by repeat' first | exact trivial | refine ⟨?_, ?_⟩) rfl rfl (by repeat' first | exact trivial | refine ⟨?_, ?_⟩) (fun _ => ⟨by simp [V.flat, V.flatA, V.flatC, D.flat], flat_nil⟩) ⟨rfl, rfl, rfl⟩
      · have h := if_bf h hb17
        refine awl_skip rfl rfl ?_
        refine awl_skip rfl rfl ?_
        refine awl_skip rfl rfl ?_
        refine awl_weak (weak_ofP [] (l := [(0, .rop [.int .i64 t_.Bus, .int .i64 t_.A, .int .i64 t_.B, .int .i64 t_.C, .fl .f32 t_.Each] 0), (2, .d (.bool false)), (22, .d (.bool false)), (25, .und)]) (objs := []) rfl (by simp) rfl (by repeat' first | exact trivial | refine ⟨?_, ?_⟩) ⟨rfl, trivial, rfl, trivial, rfl, trivial, rfl, trivial, trivial⟩) ?_
        refine awl_skip rfl rfl ?_
        refine awl_skip rfl rfl ?_
        refine awl_val hτ rfl rfl rfl ?_
        refine awl_val hτ rfl rfl rfl ?_
        refine awl_skip rfl rfl ?_
        refine awl_skip rfl rfl ?_
        refine awl_skip rfl rfl ?_
        refine awl_skip rfl rfl ?_
        refine awl_skip rfl rfl ?_
        refine awl_val hτ rfl rfl rfl ?_
        refine awl_val hτ rfl rfl rfl ?_
        refine awl_nil ?_
        refine aw_weak (weak_ofP [] (l := [(2, .d (.bool false))]) (objs := []) rfl (by simp) rfl (by repeat' first | exact trivial | refine ⟨?_, ?_⟩) ⟨rfl, trivial, trivial⟩) ?_
        refine aw_ret ?_
        have hr := Option.some.inj h
        subst hr
        exact ret_objs (.inr rfl) [] (objs' := []) (new := []) rfl (by simp) (by simp) rfl (by repeat' first | exact trivial | refine ⟨?_, ?_⟩) rfl rfl (by repeat' first | exact trivial | refine ⟨?_, ?_⟩) (fun _ => ⟨by simp [V.flat, V.flatA, V.flatC, D.flat], flat_nil⟩) ⟨rfl, rfl, rfl⟩
    · have h := if_bf h hb15
      refine awl_skip rfl rfl ?_
      refine awl_skip rfl rfl ?_
      refine awl_skip rfl rfl ?_
      refine awl_skip rfl rfl ?_
      refine awl_skip rfl rfl ?_
      refine awl_val hτ rfl rfl rfl ?_
      refine awl_val hτ rfl rfl rfl ?_
      refine awl_skip rfl rfl ?_
      refine awl_skip rfl rfl ?_
      refine awl_skip rfl rfl ?_
      refine awl_weak (weak_ofP [] (l := [(0, .rop [.int .i64 t_.Bus, .int .i64 t_.A, .int .i64 t_.B, .int .i64 t_.C, .fl .f32 t_.Each] 0), (2, .d (.bool false)), (22, .d (.bool false)), (25, .und)]) (objs := []) rfl (by simp) rfl (by repeat' first | exact trivial | refine ⟨?_, ?_⟩) ⟨rfl, trivial, rfl, trivial, rfl, trivial, rfl, trivial, trivial⟩) ?_
      refine awl_skip rfl rfl ?_
      refine awl_skip rfl rfl ?_
      refine awl_val hτ rfl rfl rfl ?_
      refine awl_val hτ rfl rfl rfl ?_
      refine awl_skip rfl rfl ?_
      refine awl_skip rfl rfl ?_
      refine awl_skip rfl rfl ?_
      refine awl_skip rfl rfl ?_
      refine awl_skip rfl rfl ?_
      refine awl_val hτ rfl rfl rfl ?_
      refine awl_val hτ rfl rfl rfl ?_
      refine awl_nil ?_
      refine aw_weak (weak_ofP [] (l := [(2, .d (.bool false))]) (objs := []) rfl (by simp) rfl (by repeat' first | exact trivial | refine ⟨?_, ?_⟩) ⟨rfl, trivial, trivial⟩) ?_
      refine aw_ret ?_
      have hr := Option.some.inj h
      subst hr
      exact ret_objs (.inr rfl) [] (objs' := []) (new := []) rfl (by simp) (by simp) rfl (by repeat' first | exact trivial | refine ⟨?_, ?_⟩) rfl rfl (by repeat' first | exact trivial | refine ⟨?_, ?_⟩) (fun _ => ⟨by simp [V.flat, V.flatA, V.flatC, D.flat], flat_nil⟩) ⟨rfl, rfl, rfl⟩
  · have h := if_bf h hb13
    refine awl_skip rfl rfl ?_
    refine awl_skip rfl rfl ?_
    refine awl_skip rfl rfl ?_
    refine awl_skip rfl rfl ?_
    refine awl_skip rfl rfl ?_
    refine awl_weak (weak_ofP [] (l := [(0, .rop [.int .i64 t_.Bus, .int .i64 t_.A, .int .i64 t_.B, .int .i64 t_.C, .fl .f32 t_.Each] 0), (2, .d (.bool false)), (8, .d (.bool false)), (13, .und)]) (objs := []) rfl (by simp) rfl (by repeat' first | exact trivial | refine ⟨?_, ?_⟩) ⟨rfl, trivial, rfl, trivial, rfl, trivial, rfl, trivial, trivial⟩) ?_
    refine awl_val hτ rfl rfl rfl ?_
    refine awl_val hτ rfl rfl rfl ?_
    refine awl_skip rfl rfl ?_
    refine awl_skip rfl rfl ?_
    refine awl_skip rfl rfl ?_
    refine awl_skip rfl rfl ?_
    refine awl_skip rfl rfl ?_
    refine awl_val hτ rfl rfl rfl ?_
    refine awl_val hτ rfl rfl rfl ?_
    refine awl_skip rfl rfl ?_
    refine awl_skip rfl rfl ?_
    refine awl_skip rfl rfl ?_
    refine awl_weak (weak_ofP [] (l := [(0, .rop [.int .i64 t_.Bus, .int .i64 t_.A, .int .i64 t_.B, .int .i64 t_.C, .fl .f32 t_.Each] 0), (2, .d (.bool false)), (22, .d (.bool false)), (25, .und)]) (objs := []) rfl (by simp) rfl (by repeat' first | exact trivial | refine ⟨?_, ?_⟩) ⟨rfl, trivial, rfl, trivial, rfl, trivial, rfl, trivial, trivial⟩) ?_
    refine awl_skip rfl rfl ?_
    refine awl_skip rfl rfl ?_
    refine awl_val hτ rfl rfl rfl ?_
    refine awl_val hτ rfl rfl rfl ?_
    refine awl_skip rfl rfl ?_
    refine awl_skip rfl rfl ?_
    refine awl_skip rfl rfl ?_
    refine awl_skip rfl rfl ?_
    refine awl_skip rfl rfl ?_
    refine awl_val hτ rfl rfl rfl ?_
    refine awl_val hτ rfl rfl rfl ?_
    refine awl_nil ?_
    refine aw_weak (weak_ofP [] (l := [(2, .d (.bool false))]) (objs := []) rfl (by simp) rfl (by repeat' first | exact trivial | refine ⟨?_, ?_⟩) ⟨rfl, trivial, trivial⟩) ?_
    refine aw_ret ?_
    have hr := Option.some.inj h
    subst hr
    exact ret_objs (.inr rfl) [] (objs' := []) (new := []) rfl (by simp) (by simp) rfl (by repeat' first | exact trivial | refine ⟨?_, ?_⟩) rfl rfl (by repeat' first | exact trivial | refine ⟨?_, ?_⟩) (fun _ => ⟨by simp [V.flat, V.flatA, V.flatC, D.flat], flat_nil⟩) ⟨rfl, rfl, rfl⟩
theorem spec_l05Tap_ok (n : Nat) (t_ : STap) {r : Bool} (h : m_spec_l05Tap n t_ = some r) : ACall prog false 127 [.rop [.int .i64 t_.Bus, .int .i64 t_.A, .int .i64 t_.B, .int .i64 t_.C, .fl .f32 t_.Each] 0] [] (fun v o new => v = .d (.bool r) ∧ o = [] ∧ new = []) := spec_l05Tap_ok_fr0 false n t_ h
theorem spec_l05Tap_ok_fr (n : Nat) (t_ : STap) {r : Bool} (h : m_spec_l05Tap n t_ = some r) : ACall prog true 127 [.rop [.int .i64 t_.Bus, .int .i64 t_.A, .int .i64 t_.B, .int .i64 t_.C, .fl .f32 t_.Each] 0] [] (fun v o new => v = .d (.bool r) ∧ o = [] ∧ new = []) := spec_l05Tap_ok_fr0 true n t_ h

end Go.Proofs.YtdgkahieegcmeaaDoor.AWN
