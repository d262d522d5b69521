/- Models and contracts, printed by program. -/
import Derived.Test.YtdgkahieegcmeaaDoorNTypes
set_option linter.unusedVariables false
set_option linter.unusedSimpArgs false
set_option linter.unusedSectionVars false
set_option maxHeartbeats 2000000
namespace Go.Proofs.YtdgkahieegcmeaaDoor.AWN
open Go Go.Proofs.Tryd

def eIntu8 (x : Int) : List D := [.int .u8 x]
@[simp] theorem eIntu8_len (x : Int) : (eIntu8 x).length = 1 := rfl
theorem eIntu8_flat (x : Int) : ∀ c ∈ eIntu8 x, c.flat := by simp [eIntu8, D.flat]
structure SL00Src where
  code : List Int
  at_ : Int
  seed : Int
deriving DecidableEq
def eInti64 (x : Int) : List D := [.int .i64 x]
@[simp] theorem eInti64_len (x : Int) : (eInti64 x).length = 1 := rfl
theorem eInti64_flat (x : Int) : ∀ c ∈ eInti64 x, c.flat := by simp [eInti64, D.flat]
def eNatf32 (x : Nat) : List D := [.fl .f32 x]
@[simp] theorem eNatf32_len (x : Nat) : (eNatf32 x).length = 1 := rfl
theorem eNatf32_flat (x : Nat) : ∀ c ∈ eNatf32 x, c.flat := by simp [eNatf32, D.flat]
def eStr (x : Str) : List D := [.str (bstr x)]
@[simp] theorem eStr_len (x : Str) : (eStr x).length = 1 := rfl
theorem eStr_flat (x : Str) : ∀ c ∈ eStr x, c.flat := by simp [eStr, D.flat]
def eCxf32 (x : Cx) : List D := [.cx .f32 x.re x.im]
@[simp] theorem eCxf32_len (x : Cx) : (eCxf32 x).length = 1 := rfl
theorem eCxf32_flat (x : Cx) : ∀ c ∈ eCxf32 x, c.flat := by simp [eCxf32, D.flat]

theorem ext60 {x : Int} (hx : x.toNat < 4294967296) : ExtDoes prog 60 [.d (.int .u32 x)] (.d (.fl .f32 (canon .f32 x.toNat))) := extDoes (e := Extern.MathFloatBits.float32frombits) func60 rfl rfl (by kernel_rfl) (by kernel_rfl) fun W hb H ok vals h => frombits_run (k := .f32) (fun _ => rfl) hx h
theorem ext62 {x : Nat} (hx : isnan .f32 x = false) : ExtDoes prog 62 [.d (.fl .f32 x)] (.d (.int .u32 x)) := extDoes (e := Extern.MathFloatBits.float32bits) func62 rfl rfl (by kernel_rfl) (by kernel_rfl) fun W hb H ok vals h => bits_run (fun _ => rfl) hx h
theorem ext90 {x : Nat} : ExtDoes prog 90 [.d (.fl .f64 x)] (.d (.fl .f64 (fsqrt x))) := extDoes (e := Extern.MathSqrt.sqrt) func90 rfl rfl (by kernel_rfl) (by kernel_rfl) fun W hb H ok vals h => sqrt_run h
theorem ext99 {x : Int} (hx : x.toNat < 18446744073709551616) : ExtDoes prog 99 [.d (.int .u64 x)] (.d (.fl .f64 (canon .f64 x.toNat))) := extDoes (e := Extern.MathFloatBits.float64frombits) func99 rfl rfl (by kernel_rfl) (by kernel_rfl) fun W hb H ok vals h => frombits_run (k := .f64) (fun _ => rfl) hx h
theorem ext100 {x : Nat} (hx : isnan .f64 x = false) : ExtDoes prog 100 [.d (.fl .f64 x)] (.d (.int .u64 x)) := extDoes (e := Extern.MathFloatBits.float64bits) func100 rfl rfl (by kernel_rfl) (by kernel_rfl) fun W hb H ok vals h => bits_run (fun _ => rfl) hx h
theorem ext132 {s : Str} {c : Int} : ExtDoes prog 132 [.d (.str (bstr s)), .d (.int .u8 c)] (.d (.int .i64 (idxB s c))) := extDoes (e := Extern.BytealgIndexByte.indexByte) func132 rfl rfl (by kernel_rfl) (by kernel_rfl) fun W hb H ok vals h => idx_run h
theorem ext136 {x : Nat} (hx : isnan .f64 x = false) : ExtDoes prog 136 [.d (.fl .f64 x)] (.d (.fl .f64 (fint .zero x))) := extDoes (e := Extern.MathFloor.toIntegral "math.archTrunc" .zero) func136 rfl rfl (by kernel_rfl) (by kernel_rfl) fun W hb H ok vals h => integral_run (name := "math.archTrunc") hx h
theorem ext150 {s : Str} {c : Int} : ExtDoes prog 150 [.d (.str (bstr s)), .d (.int .u8 c)] (.d (.int .i64 (cntB s c))) := extDoes (e := Extern.BytealgCount.count) func150 rfl rfl (by kernel_rfl) (by kernel_rfl) fun W hb H ok vals h => cnt_run h
def m_laws_b10Long (n : Nat) (code_ : List Int) (more_ : List Int) : Option Bool :=
  if (code_.length : Int) > (1048576 : Int) then
    some true
  else
    some (decide ((more_.length : Int) > (1048576 : Int)))
theorem laws_b10Long_ok_fr0 (fr : Bool) (n : Nat) (code_ : List Int) (more_ : List Int) {r : Bool} (h : m_laws_b10Long n code_ more_ = some r) : ACall prog fr 6 [.d (.sl false (code_.map eIntu8)), .d (.sl false (more_.map eIntu8))] [] (fun v o new => v = .d (.bool r) ∧ o = [] ∧ new = []) := by
  refine acall_of_aw hτ func6 rfl (by simp) (by simp) ?_
  unfold m_laws_b10Long at h
  refine aw_seq ?_
  refine aw_region ?_
  refine awl_val hτ rfl rfl rfl ?_
  refine awl_nil ?_
  refine aw_seq ?_
  refine aw_region ?_
  refine awl_val hτ rfl rfl rfl ?_
  refine awl_val hτ (v := .d (.int .i64 (code_.length : Int))) rfl rfl (Eq.trans rfl (or_len (f := eIntu8) code_)) ?_
  refine awl_val hτ rfl rfl rfl ?_
  refine awl_val hτ rfl rfl rfl ?_
  refine awl_split 8 rfl (fun hb3 => ?_) (fun hb3 => ?_)
  · have h := if_t h hb3
    refine awl_skip rfl rfl ?_
    refine awl_skip rfl rfl ?_
    refine awl_skip rfl rfl ?_
    refine awl_val hτ rfl rfl rfl ?_
    refine awl_val hτ rfl rfl rfl ?_
    refine awl_nil ?_
    refine aw_weak (weak_ofP [] (l := [(4, .d (.bool true))]) (objs := []) rfl (by simp) rfl (by repeat' first | exact trivial | refine ⟨?_, ?_⟩) ⟨rfl, trivial, trivial⟩) ?_
    refine aw_ret ?_
    have hr := Option.some.inj h
    subst hr
    exact ret_objs (.inr rfl) [] (objs' := []) (new := []) rfl (by simp) (by simp) rfl (by repeat' first | exact trivial | refine ⟨?_, ?_⟩) rfl rfl (by repeat' first | exact trivial | refine ⟨?_, ?_⟩) (fun _ => ⟨by simp [V.flat, V.flatA, V.flatC, D.flat], flat_nil⟩) ⟨rfl, rfl, rfl⟩
  · have h := if_f h hb3
    refine awl_val hτ rfl rfl rfl ?_
    refine awl_val hτ (v := .d (.int .i64 (more_.length : Int))) rfl rfl (Eq.trans rfl (or_len (f := eIntu8) more_)) ?_
    refine awl_val hτ rfl rfl rfl ?_
    refine awl_val hτ rfl rfl rfl ?_
    refine awl_val hτ rfl rfl rfl ?_
    refine awl_nil ?_
    refine aw_weak (weak_ofP [] (l := [(4, .d (.bool (decide ((more_.length : Int) > (1048576 : Int)))))]) (objs := []) rfl (by simp) rfl (by repeat' first | exact trivial | refine ⟨?_, ?_⟩) ⟨rfl, trivial, trivial⟩) ?_
    refine aw_ret ?_
    have hr := Option.some.inj h
    subst hr
    exact ret_objs (.inr rfl) [] (objs' := []) (new := []) rfl (by simp) (by simp) rfl (by repeat' first | exact trivial | refine ⟨?_, ?_⟩) rfl rfl (by repeat' first | exact trivial | refine ⟨?_, ?_⟩) (fun _ => ⟨by simp [V.flat, V.flatA, V.flatC, D.flat], flat_nil⟩) ⟨rfl, rfl, rfl⟩
theorem laws_b10Long_ok (n : Nat) (code_ : List Int) (more_ : List Int) {r : Bool} (h : m_laws_b10Long n code_ more_ = some r) : ACall prog false 6 [.d (.sl false (code_.map eIntu8)), .d (.sl false (more_.map eIntu8))] [] (fun v o new => v = .d (.bool r) ∧ o = [] ∧ new = []) := laws_b10Long_ok_fr0 false n code_ more_ h
theorem laws_b10Long_ok_fr (n : Nat) (code_ : List Int) (more_ : List Int) {r : Bool} (h : m_laws_b10Long n code_ more_ = some r) : ACall prog true 6 [.d (.sl false (code_.map eIntu8)), .d (.sl false (more_.map eIntu8))] [] (fun v o new => v = .d (.bool r) ∧ o = [] ∧ new = []) := laws_b10Long_ok_fr0 true n code_ more_ h

def m_spec_l00From (n : Nat) (code_ : List Int) : Option SL00Src :=
  some (SL00Src.mk code_ (0 : Int) (0 : Int))
theorem spec_l00From_ok (n : Nat) (code_ : List Int) {r : SL00Src} (h : m_spec_l00From n code_ = some r) : ACall prog false 43 [.d (.sl false (code_.map eIntu8))] [] (fun v o new => v = .ptr 0 0 ∧ o = [] ∧ new = [.box [.d (.sl false (r.code.map eIntu8)), .d (.int .i64 r.at_), .d (.int .u64 r.seed)]]) := by
  refine acall_of_aw hτ func43 rfl (by simp) (by simp) ?_
  unfold m_spec_l00From at h
  refine aw_seq ?_
  refine aw_region ?_
  refine awl_val hτ rfl rfl rfl ?_
  refine awl_nil ?_
  refine aw_seq ?_
  refine aw_region ?_
  refine awl_val hτ rfl rfl rfl ?_
  refine awl_val hτ rfl rfl rfl ?_
  refine awl_valH hτ rfl rfl rfl ?_
  refine awl_val hτ rfl rfl rfl ?_
  refine awl_nil ?_
  refine aw_weak (weak_ofP [0] (l := [(2, .ptr 0 0)]) (objs := [.box [.d (.sl false (code_.map eIntu8)), .d (.int .i64 (0 : Int)), .d (.int .u64 (0 : Int))]]) rfl (by simp) rfl (by repeat' first | exact trivial | refine ⟨?_, ?_⟩) ⟨rfl, trivial, trivial⟩) ?_
  refine aw_ret ?_
  have hr := Option.some.inj h
  subst hr
  exact ret_objs (.inr rfl) [0] (objs' := []) (new := [.box [.d (.sl false (code_.map eIntu8)), .d (.int .i64 (0 : Int)), .d (.int .u64 (0 : Int))]]) rfl (by simp) (by simp) rfl (by repeat' first | exact trivial | refine ⟨?_, ?_⟩) rfl rfl (by repeat' first | exact trivial | refine ⟨?_, ?_⟩) (fun h => nomatch h) ⟨rfl, rfl, rfl⟩

def m_spec_l00Src_next_j1 (n : Nat) (s_ : SL00Src) (v5 : Int) : Option (Int × SL00Src) :=
  if (w64 (s_.at_ + (1 : Int))) ≤ (s_.code.length : Int) then
    some (v5, (SL00Src.mk s_.code (w64 (s_.at_ + (1 : Int))) (IntKind.wrap .u64 ((IntKind.wrap .u64 ((IntKind.wrap .u64 (s_.seed * (6364136223846793005 : Int))) + (IntKind.wrap .u64 (v5)))) + (1442695040888963407 : Int)))))
  else
    some ((w64 ((ibits .and .u64 ((IntKind.wrap .u64 ((IntKind.wrap .u64 ((IntKind.wrap .u64 (s_.seed * (6364136223846793005 : Int))) + (IntKind.wrap .u64 (v5)))) + (1442695040888963407 : Int))).fdiv (2 ^ min (40 : Int).toNat (IntKind.bits .u64))) (255 : Int)))), (SL00Src.mk s_.code (w64 (s_.at_ + (1 : Int))) (IntKind.wrap .u64 ((IntKind.wrap .u64 ((IntKind.wrap .u64 (s_.seed * (6364136223846793005 : Int))) + (IntKind.wrap .u64 (v5)))) + (1442695040888963407 : Int)))))
def m_spec_l00Src_next (n : Nat) (s_ : SL00Src) : Option (Int × SL00Src) :=
  if s_.at_ < (s_.code.length : Int) then
    (getI s_.code s_.at_).bind fun x9 =>
    m_spec_l00Src_next_j1 n s_ (w64 (x9))
  else
    m_spec_l00Src_next_j1 n s_ (0 : Int)
theorem spec_l00Src_next_ok (n : Nat) (s_ : SL00Src) {r : Int × SL00Src} (h : m_spec_l00Src_next n s_ = some r) : ACall prog false 88 [.ptr 0 0] [.box [.d (.sl false (s_.code.map eIntu8)), .d (.int .i64 s_.at_), .d (.int .u64 s_.seed)]] (fun v o new => v = .d (.int .i64 r.1) ∧ o = [.box [.d (.sl false (r.2.code.map eIntu8)), .d (.int .i64 r.2.at_), .d (.int .u64 r.2.seed)]] ∧ new = []) := by
  refine acall_of_aw hτ func88 rfl (by simp) (by simp) ?_
  unfold m_spec_l00Src_next at h
  refine aw_seq ?_
  refine aw_region ?_
  refine awl_val hτ rfl rfl rfl ?_
  refine awl_nil ?_
  refine aw_seq ?_
  refine aw_region ?_
  refine awl_val hτ rfl rfl rfl ?_
  refine awl_nil ?_
  refine aw_hk1 (ι := Int) (fun v5 => St.of [(0, .ptr 0 0), (3, .d (.int .i64 v5))] [.box [.d (.sl false (s_.code.map eIntu8)), .d (.int .i64 s_.at_), .d (.int .u64 s_.seed)]] f88.ntmps 1) (fun v5 => m_spec_l00Src_next_j1 n s_ v5 = some r) ?_ (fun hk7 => ?_)
  · rintro v5 h
    replace h : m_spec_l00Src_next_j1 n s_ v5 = some r := h
    unfold m_spec_l00Src_next_j1 at h
    refine aw_seq ?_
    refine aw_region ?_
    refine awl_val hτ rfl rfl rfl ?_
    refine awl_val hτ rfl rfl rfl ?_
    refine awl_val hτ rfl rfl rfl ?_
    refine awl_val hτ rfl rfl rfl ?_
    refine awl_val hτ rfl rfl rfl ?_
    refine awl_val hτ rfl rfl rfl ?_
    refine awl_val hτ rfl rfl rfl ?_
    refine awl_valH hτ rfl rfl rfl ?_
    refine awl_nil ?_
    refine aw_seq ?_
    refine aw_weak (weak_ofP [0] (l := [(0, .ptr 0 0), (3, .d (.int .i64 v5))]) (objs := [.box [.d (.sl false (s_.code.map eIntu8)), .d (.int .i64 (w64 (s_.at_ + (1 : Int)))), .d (.int .u64 s_.seed)]]) rfl (by simp) rfl (by repeat' first | exact trivial | refine ⟨?_, ?_⟩) ⟨rfl, trivial, rfl, trivial, trivial⟩) ?_
    refine aw_region ?_
    refine awl_val hτ rfl rfl rfl ?_
    refine awl_val hτ rfl rfl rfl ?_
    refine awl_val hτ rfl rfl rfl ?_
    refine awl_val hτ rfl rfl rfl ?_
    refine awl_val hτ rfl rfl rfl ?_
    refine awl_val hτ rfl rfl rfl ?_
    refine awl_val hτ rfl rfl rfl ?_
    refine awl_val hτ rfl rfl rfl ?_
    refine awl_val hτ rfl rfl rfl ?_
    refine awl_val hτ rfl rfl rfl ?_
    refine awl_val hτ rfl rfl rfl ?_
    refine awl_val hτ rfl rfl rfl ?_
    refine awl_weak (weak_ofP [0] (l := [(0, .ptr 0 0), (3, .d (.int .i64 v5)), (41, .d (.int .u64 (IntKind.wrap .u64 ((IntKind.wrap .u64 ((IntKind.wrap .u64 (s_.seed * (6364136223846793005 : Int))) + (IntKind.wrap .u64 (v5)))) + (1442695040888963407 : Int))))), (43, .ptr 0 2)]) (objs := [.box [.d (.sl false (s_.code.map eIntu8)), .d (.int .i64 (w64 (s_.at_ + (1 : Int)))), .d (.int .u64 s_.seed)]]) rfl (by simp) rfl (by repeat' first | exact trivial | refine ⟨?_, ?_⟩) ⟨rfl, trivial, rfl, trivial, rfl, trivial, rfl, trivial, trivial⟩) ?_
    refine awl_valH hτ rfl rfl rfl ?_
    refine awl_nil ?_
    refine aw_seq ?_
    refine aw_seq ?_
    refine any_start ?_
    refine any_val hτ [] 0 rfl rfl rfl rfl rfl ?_
    refine any_val hτ [] 1 rfl rfl rfl rfl rfl ?_
    refine any_val hτ [0] 2 rfl rfl rfl rfl rfl ?_
    refine any_val hτ [0] 3 rfl rfl rfl rfl rfl ?_
    refine any_val hτ [] 4 rfl rfl rfl rfl rfl ?_
    refine any_val hτ [] 5 rfl rfl rfl rfl rfl ?_
    refine any_val hτ [0] 6 rfl rfl rfl rfl rfl ?_
    refine any_val hτ [0] 7 rfl rfl rfl rfl rfl ?_
    refine any_val hτ (v := .d (.int .i64 (s_.code.length : Int))) [] 8 rfl rfl rfl rfl (Eq.trans rfl (or_len (f := eIntu8) s_.code)) ?_
    refine any_val hτ [] 9 rfl rfl rfl rfl rfl ?_
    refine any_done mixed (by kernel_rfl) ?_
    refine aw_weak (weak_ofP [0] (l := [(0, .ptr 0 0), (3, .d (.int .i64 v5)), (53, .d (.bool (decide ((w64 (s_.at_ + (1 : Int))) ≤ (s_.code.length : Int)))))]) (objs := [.box [.d (.sl false (s_.code.map eIntu8)), .d (.int .i64 (w64 (s_.at_ + (1 : Int)))), .d (.int .u64 (IntKind.wrap .u64 ((IntKind.wrap .u64 ((IntKind.wrap .u64 (s_.seed * (6364136223846793005 : Int))) + (IntKind.wrap .u64 (v5)))) + (1442695040888963407 : Int))))]]) rfl (by simp) rfl (by repeat' first | exact trivial | refine ⟨?_, ?_⟩) ⟨rfl, trivial, rfl, trivial, rfl, trivial, trivial⟩) ?_
    refine aw_cond rfl (fun hc6 => ?_) (fun hc6 => ?_)
    · have h := if_t h hc6
      refine aw_seq ?_
      refine aw_region ?_
      refine awl_val hτ rfl rfl rfl ?_
      refine awl_val hτ rfl rfl rfl ?_
      refine awl_nil ?_
      refine aw_weak (weak_ofP [0] (l := [(2, .d (.int .i64 v5))]) (objs := [.box [.d (.sl false (s_.code.map eIntu8)), .d (.int .i64 (w64 (s_.at_ + (1 : Int)))), .d (.int .u64 (IntKind.wrap .u64 ((IntKind.wrap .u64 ((IntKind.wrap .u64 (s_.seed * (6364136223846793005 : Int))) + (IntKind.wrap .u64 (v5)))) + (1442695040888963407 : Int))))]]) rfl (by simp) rfl (by repeat' first | exact trivial | refine ⟨?_, ?_⟩) ⟨rfl, trivial, trivial⟩) ?_
      refine aw_ret ?_
      have hr := Option.some.inj h
      subst hr
      exact ret_objs (.inr rfl) [] (objs' := [.box [.d (.sl false (s_.code.map eIntu8)), .d (.int .i64 (w64 (s_.at_ + (1 : Int)))), .d (.int .u64 (IntKind.wrap .u64 ((IntKind.wrap .u64 ((IntKind.wrap .u64 (s_.seed * (6364136223846793005 : Int))) + (IntKind.wrap .u64 (v5)))) + (1442695040888963407 : Int))))]]) (new := []) rfl (by simp) (by simp) rfl (by repeat' first | exact trivial | refine ⟨?_, ?_⟩) rfl rfl (by repeat' first | exact trivial | refine ⟨?_, ?_⟩) (fun h => nomatch h) ⟨rfl, rfl, rfl⟩
    · have h := if_f h hc6
      refine aw_skip ?_
      refine aw_seq ?_
      refine aw_region ?_
      refine awl_val hτ rfl rfl rfl ?_
      refine awl_val hτ rfl rfl rfl ?_
      refine awl_val hτ rfl rfl rfl ?_
      refine awl_val hτ rfl rfl rfl ?_
      refine awl_need hτ rfl rfl rfl (by decide) ?_
      refine awl_val hτ rfl rfl rfl ?_
      refine awl_val hτ rfl rfl rfl ?_
      refine awl_val hτ rfl rfl rfl ?_
      refine awl_nil ?_
      refine aw_weak (weak_ofP [0] (l := [(2, .d (.int .i64 (w64 ((ibits .and .u64 ((IntKind.wrap .u64 ((IntKind.wrap .u64 ((IntKind.wrap .u64 (s_.seed * (6364136223846793005 : Int))) + (IntKind.wrap .u64 (v5)))) + (1442695040888963407 : Int))).fdiv (2 ^ min (40 : Int).toNat (IntKind.bits .u64))) (255 : Int))))))]) (objs := [.box [.d (.sl false (s_.code.map eIntu8)), .d (.int .i64 (w64 (s_.at_ + (1 : Int)))), .d (.int .u64 (IntKind.wrap .u64 ((IntKind.wrap .u64 ((IntKind.wrap .u64 (s_.seed * (6364136223846793005 : Int))) + (IntKind.wrap .u64 (v5)))) + (1442695040888963407 : Int))))]]) rfl (by simp) rfl (by repeat' first | exact trivial | refine ⟨?_, ?_⟩) ⟨rfl, trivial, trivial⟩) ?_
      refine aw_ret ?_
      have hr := Option.some.inj h
      subst hr
      exact ret_objs (.inr rfl) [] (objs' := [.box [.d (.sl false (s_.code.map eIntu8)), .d (.int .i64 (w64 (s_.at_ + (1 : Int)))), .d (.int .u64 (IntKind.wrap .u64 ((IntKind.wrap .u64 ((IntKind.wrap .u64 (s_.seed * (6364136223846793005 : Int))) + (IntKind.wrap .u64 (v5)))) + (1442695040888963407 : Int))))]]) (new := []) rfl (by simp) (by simp) rfl (by repeat' first | exact trivial | refine ⟨?_, ?_⟩) rfl rfl (by repeat' first | exact trivial | refine ⟨?_, ?_⟩) (fun h => nomatch h) ⟨rfl, rfl, rfl⟩
  · refine aw_seq ?_
    refine aw_seq ?_
    refine any_start ?_
    refine any_val hτ [] 0 rfl rfl rfl rfl rfl ?_
    refine any_val hτ [] 1 rfl rfl rfl rfl rfl ?_
    refine any_val hτ [0] 2 rfl rfl rfl rfl rfl ?_
    refine any_val hτ [0] 3 rfl rfl rfl rfl rfl ?_
    refine any_val hτ [] 4 rfl rfl rfl rfl rfl ?_
    refine any_val hτ [] 5 rfl rfl rfl rfl rfl ?_
    refine any_val hτ [0] 6 rfl rfl rfl rfl rfl ?_
    refine any_val hτ [0] 7 rfl rfl rfl rfl rfl ?_
    refine any_val hτ (v := .d (.int .i64 (s_.code.length : Int))) [] 8 rfl rfl rfl rfl (Eq.trans rfl (or_len (f := eIntu8) s_.code)) ?_
    refine any_val hτ [] 9 rfl rfl rfl rfl rfl ?_
    refine any_done mixed (by kernel_rfl) ?_
    refine aw_weak (weak_ofP [0] (l := [(0, .ptr 0 0), (3, .d (.int .i64 (0 : Int))), (13, .d (.bool (decide (s_.at_ < (s_.code.length : Int)))))]) (objs := [.box [.d (.sl false (s_.code.map eIntu8)), .d (.int .i64 s_.at_), .d (.int .u64 s_.seed)]]) rfl (by simp) rfl (by repeat' first | exact trivial | refine ⟨?_, ?_⟩) ⟨rfl, trivial, rfl, trivial, rfl, trivial, trivial⟩) ?_
    refine aw_cond rfl (fun hc8 => ?_) (fun hc8 => ?_)
    · have h := if_t h hc8
      refine any_start ?_
      refine any_val hτ [] 0 rfl rfl rfl rfl rfl ?_
      refine any_val hτ [] 1 rfl rfl rfl rfl rfl ?_
      refine any_val hτ [0] 2 rfl rfl rfl rfl rfl ?_
      refine any_val hτ [0] 3 rfl rfl rfl rfl rfl ?_
      refine any_val hτ [] 4 rfl rfl rfl rfl rfl ?_
      refine any_val hτ [] 5 rfl rfl rfl rfl rfl ?_
      refine any_val hτ [0] 6 rfl rfl rfl rfl rfl ?_
      refine any_val hτ [0] 7 rfl rfl rfl rfl rfl ?_
      refine bnd_elim h fun x9 hx9 h => ?_
      refine any_elem hτ [] 8 rfl rfl rfl rfl rfl (getI_some hx9).1 (map_getI hx9) rfl ?_
      refine any_val hτ [] 9 rfl rfl rfl rfl rfl ?_
      refine any_val hτ [] 10 rfl rfl rfl rfl rfl ?_
      refine any_val hτ [] 11 rfl rfl rfl rfl rfl ?_
      refine any_done mixed (by kernel_rfl) ?_
      refine aw_weak (weak_ofP [0] (l := [(0, .ptr 0 0), (3, .d (.int .i64 (w64 (x9))))]) (objs := [.box [.d (.sl false (s_.code.map eIntu8)), .d (.int .i64 s_.at_), .d (.int .u64 s_.seed)]]) rfl (by simp) rfl (by repeat' first | exact trivial | refine ⟨?_, ?_⟩) ⟨rfl, trivial, rfl, trivial, trivial⟩) ?_
      exact hk7 (w64 (x9)) h
    · have h := if_f h hc8
      refine aw_skip ?_
      refine aw_weak (weak_ofP [0] (l := [(0, .ptr 0 0), (3, .d (.int .i64 (0 : Int)))]) (objs := [.box [.d (.sl false (s_.code.map eIntu8)), .d (.int .i64 s_.at_), .d (.int .u64 s_.seed)]]) rfl (by simp) rfl (by repeat' first | exact trivial | refine ⟨?_, ?_⟩) ⟨rfl, trivial, rfl, trivial, trivial⟩) ?_
      exact hk7 (0 : Int) h

def m_spec_l00Src_pick_j1 (n : Nat) (n_ : Int) (v15 : List Int) (v16 : Int) (v17 : Int) (v18 : Int) : Option (Int × SL00Src) :=
  grd (n_ ≠ 0) <|
  some ((v18.tmod n_), (SL00Src.mk v15 v16 v17))
def m_spec_l00Src_pick (n : Nat) (s_ : SL00Src) (n_ : Int) : Option (Int × SL00Src) :=
  if n_ ≤ (1 : Int) then
    some ((0 : Int), s_)
  else
    (m_spec_l00Src_next n s_).bind fun x9 =>
    if n_ > (200 : Int) then
      (m_spec_l00Src_next n x9.2).bind fun x22 =>
      m_spec_l00Src_pick_j1 n n_ x22.2.code x22.2.at_ x22.2.seed (w64 ((w64 (x9.1 * (256 : Int))) + x22.1))
    else
      m_spec_l00Src_pick_j1 n n_ x9.2.code x9.2.at_ x9.2.seed x9.1
theorem spec_l00Src_pick_ok (n : Nat) (s_ : SL00Src) (n_ : Int) {r : Int × SL00Src} (h : m_spec_l00Src_pick n s_ n_ = some r) : ACall prog false 44 [.ptr 0 0, .d (.int .i64 n_)] [.box [.d (.sl false (s_.code.map eIntu8)), .d (.int .i64 s_.at_), .d (.int .u64 s_.seed)]] (fun v o new => v = .d (.int .i64 r.1) ∧ o = [.box [.d (.sl false (r.2.code.map eIntu8)), .d (.int .i64 r.2.at_), .d (.int .u64 r.2.seed)]] ∧ new = []) := by
  refine acall_of_aw hτ func44 rfl (by simp) (by simp) ?_
  unfold m_spec_l00Src_pick at h
  refine aw_seq ?_
  refine aw_region ?_
  refine awl_val hτ rfl rfl rfl ?_
  refine awl_nil ?_
  refine aw_seq ?_
  refine aw_seq ?_
  refine aw_region ?_
  refine awl_val hτ rfl rfl rfl ?_
  refine awl_val hτ rfl rfl rfl ?_
  refine awl_nil ?_
  refine aw_cond rfl (fun hc8 => ?_) (fun hc8 => ?_)
  · have h := if_t h hc8
    refine aw_seq ?_
    refine aw_region ?_
    refine awl_val hτ rfl rfl rfl ?_
    refine awl_nil ?_
    refine aw_weak (weak_ofP [0] (l := [(4, .d (.int .i64 (0 : Int)))]) (objs := [.box [.d (.sl false (s_.code.map eIntu8)), .d (.int .i64 s_.at_), .d (.int .u64 s_.seed)]]) rfl (by simp) rfl (by repeat' first | exact trivial | refine ⟨?_, ?_⟩) ⟨rfl, trivial, trivial⟩) ?_
    refine aw_ret ?_
    have hr := Option.some.inj h
    subst hr
    exact ret_objs (.inr rfl) [] (objs' := [.box [.d (.sl false (s_.code.map eIntu8)), .d (.int .i64 s_.at_), .d (.int .u64 s_.seed)]]) (new := []) rfl (by simp) (by simp) rfl (by repeat' first | exact trivial | refine ⟨?_, ?_⟩) rfl rfl (by repeat' first | exact trivial | refine ⟨?_, ?_⟩) (fun h => nomatch h) ⟨rfl, rfl, rfl⟩
  · have h := if_f h hc8
    refine aw_skip ?_
    refine aw_seq ?_
    refine aw_region ?_
    refine awl_val hτ rfl rfl rfl ?_
    refine bnd_elim h fun x9 hx9 h => ?_
    refine awl_callP hτ false [0] rfl rfl rfl (enterOk func88 rfl rfl) rfl rfl (by simp) ⟨trivial, trivial⟩ (by repeat' first | exact trivial | refine ⟨?_, ?_⟩) (spec_l00Src_next_ok n s_ hx9) ?_
    rintro r0 o0 n0 ⟨rfl, rfl, rfl⟩ -
    refine awl_val hτ rfl rfl rfl ?_
    refine awl_nil ?_
    refine aw_hk1 (ι := List Int × Int × Int × Int) (fun (v15, v16, v17, v18) => St.of [(1, .d (.int .i64 n_)), (5, .d (.int .i64 v18))] [.box [.d (.sl false (v15.map eIntu8)), .d (.int .i64 v16), .d (.int .u64 v17)]] f44.ntmps 1) (fun (v15, v16, v17, v18) => m_spec_l00Src_pick_j1 n n_ v15 v16 v17 v18 = some r) ?_ (fun hk20 => ?_)
    · rintro ⟨v15, v16, v17, v18⟩ h
      replace h : m_spec_l00Src_pick_j1 n n_ v15 v16 v17 v18 = some r := h
      unfold m_spec_l00Src_pick_j1 at h
      refine aw_seq ?_
      refine aw_region ?_
      refine awl_val hτ rfl rfl rfl ?_
      refine awl_val hτ rfl rfl rfl ?_
      refine grd_elim h fun hg19 h => ?_
      refine awl_need hτ rfl rfl rfl hg19 ?_
      refine awl_val hτ rfl rfl rfl ?_
      refine awl_nil ?_
      refine aw_weak (weak_ofP [0] (l := [(4, .d (.int .i64 (v18.tmod n_)))]) (objs := [.box [.d (.sl false (v15.map eIntu8)), .d (.int .i64 v16), .d (.int .u64 v17)]]) rfl (by simp) rfl (by repeat' first | exact trivial | refine ⟨?_, ?_⟩) ⟨rfl, trivial, trivial⟩) ?_
      refine aw_ret ?_
      have hr := Option.some.inj h
      subst hr
      exact ret_objs (.inr rfl) [] (objs' := [.box [.d (.sl false (v15.map eIntu8)), .d (.int .i64 v16), .d (.int .u64 v17)]]) (new := []) rfl (by simp) (by simp) rfl (by repeat' first | exact trivial | refine ⟨?_, ?_⟩) rfl rfl (by repeat' first | exact trivial | refine ⟨?_, ?_⟩) (fun h => nomatch h) ⟨rfl, rfl, rfl⟩
    · refine aw_seq ?_
      refine aw_seq ?_
      refine aw_weak (weak_ofP [0] (l := [(0, .ptr 0 0), (1, .d (.int .i64 n_)), (5, .d (.int .i64 x9.1))]) (objs := [.box [.d (.sl false (x9.2.code.map eIntu8)), .d (.int .i64 x9.2.at_), .d (.int .u64 x9.2.seed)]]) rfl (by simp) rfl (by repeat' first | exact trivial | refine ⟨?_, ?_⟩) ⟨rfl, trivial, rfl, trivial, rfl, trivial, trivial⟩) ?_
      refine aw_region ?_
      refine awl_val hτ rfl rfl rfl ?_
      refine awl_val hτ rfl rfl rfl ?_
      refine awl_nil ?_
      refine aw_cond rfl (fun hc21 => ?_) (fun hc21 => ?_)
      · have h := if_t h hc21
        refine aw_region ?_
        refine awl_val hτ rfl rfl rfl ?_
        refine awl_val hτ rfl rfl rfl ?_
        refine awl_val hτ rfl rfl rfl ?_
        refine bnd_elim h fun x22 hx22 h => ?_
        refine awl_callP hτ false [0] rfl rfl rfl (enterOk func88 rfl rfl) rfl rfl (by simp) ⟨trivial, trivial⟩ (by repeat' first | exact trivial | refine ⟨?_, ?_⟩) (spec_l00Src_next_ok n x9.2 hx22) ?_
        rintro r0 o0 n0 ⟨rfl, rfl, rfl⟩ -
        refine awl_val hτ rfl rfl rfl ?_
        refine awl_val hτ rfl rfl rfl ?_
        refine awl_nil ?_
        refine aw_weak (weak_ofP [0] (l := [(1, .d (.int .i64 n_)), (5, .d (.int .i64 (w64 ((w64 (x9.1 * (256 : Int))) + x22.1))))]) (objs := [.box [.d (.sl false (x22.2.code.map eIntu8)), .d (.int .i64 x22.2.at_), .d (.int .u64 x22.2.seed)]]) rfl (by simp) rfl (by repeat' first | exact trivial | refine ⟨?_, ?_⟩) ⟨rfl, trivial, rfl, trivial, trivial⟩) ?_
        exact hk20 (x22.2.code, x22.2.at_, x22.2.seed, (w64 ((w64 (x9.1 * (256 : Int))) + x22.1))) h
      · have h := if_f h hc21
        refine aw_skip ?_
        refine aw_weak (weak_ofP [0] (l := [(1, .d (.int .i64 n_)), (5, .d (.int .i64 x9.1))]) (objs := [.box [.d (.sl false (x9.2.code.map eIntu8)), .d (.int .i64 x9.2.at_), .d (.int .u64 x9.2.seed)]]) rfl (by simp) rfl (by repeat' first | exact trivial | refine ⟨?_, ?_⟩) ⟨rfl, trivial, rfl, trivial, trivial⟩) ?_
        exact hk20 (x9.2.code, x9.2.at_, x9.2.seed, x9.1) h

def m_spec_l00Src_one (n : Nat) (s_ : SL00Src) (n_ : Int) : Option (Bool × SL00Src) :=
  (m_spec_l00Src_pick n s_ n_).bind fun x2 =>
  some ((decide (x2.1 = (0 : Int))), x2.2)
theorem spec_l00Src_one_ok (n : Nat) (s_ : SL00Src) (n_ : Int) {r : Bool × SL00Src} (h : m_spec_l00Src_one n s_ n_ = some r) : ACall prog false 56 [.ptr 0 0, .d (.int .i64 n_)] [.box [.d (.sl false (s_.code.map eIntu8)), .d (.int .i64 s_.at_), .d (.int .u64 s_.seed)]] (fun v o new => v = .d (.bool r.1) ∧ o = [.box [.d (.sl false (r.2.code.map eIntu8)), .d (.int .i64 r.2.at_), .d (.int .u64 r.2.seed)]] ∧ new = []) := by
  refine acall_of_aw hτ func56 rfl (by simp) (by simp) ?_
  unfold m_spec_l00Src_one at h
  refine aw_seq ?_
  refine aw_region ?_
  refine awl_val hτ rfl rfl rfl ?_
  refine awl_nil ?_
  refine aw_seq ?_
  refine aw_region ?_
  refine awl_val hτ rfl rfl rfl ?_
  refine awl_val hτ rfl rfl rfl ?_
  refine bnd_elim h fun x2 hx2 h => ?_
  refine awl_callP hτ false [0] rfl rfl rfl (enterOk func44 rfl rfl) rfl rfl (by simp) ⟨trivial, trivial, trivial⟩ (by repeat' first | exact trivial | refine ⟨?_, ?_⟩) (spec_l00Src_pick_ok n s_ n_ hx2) ?_
  rintro r0 o0 n0 ⟨rfl, rfl, rfl⟩ -
  refine awl_val hτ (v := .d (.bool (decide (x2.1 = (0 : Int))))) rfl rfl (or_ieq _ _) ?_
  refine awl_val hτ rfl rfl rfl ?_
  refine awl_nil ?_
  refine aw_weak (weak_ofP [0] (l := [(4, .d (.bool (decide (x2.1 = (0 : Int)))))]) (objs := [.box [.d (.sl false (x2.2.code.map eIntu8)), .d (.int .i64 x2.2.at_), .d (.int .u64 x2.2.seed)]]) rfl (by simp) rfl (by repeat' first | exact trivial | refine ⟨?_, ?_⟩) ⟨rfl, trivial, trivial⟩) ?_
  refine aw_ret ?_
  have hr := Option.some.inj h
  subst hr
  exact ret_objs (.inr rfl) [] (objs' := [.box [.d (.sl false (x2.2.code.map eIntu8)), .d (.int .i64 x2.2.at_), .d (.int .u64 x2.2.seed)]]) (new := []) rfl (by simp) (by simp) rfl (by repeat' first | exact trivial | refine ⟨?_, ?_⟩) rfl rfl (by repeat' first | exact trivial | refine ⟨?_, ?_⟩) (fun h => nomatch h) ⟨rfl, rfl, rfl⟩

def m_spec_l01From (n : Nat) (n_ : Int) : Option Nat :=
  grd ((IntKind.wrap .u32 (n_)).toNat < 4294967296) <|
  some (canon .f32 (IntKind.wrap .u32 (n_)).toNat)
theorem spec_l01From_ok_fr0 (fr : Bool) (n : Nat) (n_ : Int) {r : Nat} (h : m_spec_l01From n n_ = some r) : ACall prog fr 57 [.d (.int .i64 n_)] [] (fun v o new => v = .d (.fl .f32 r) ∧ o = [] ∧ new = []) := by
  refine acall_of_aw hτ func57 rfl (by simp) (by simp) ?_
  unfold m_spec_l01From at h
  refine aw_seq ?_
  refine aw_region ?_
  refine awl_val hτ rfl rfl rfl ?_
  refine awl_nil ?_
  refine aw_seq ?_
  refine aw_region ?_
  refine awl_val hτ rfl rfl rfl ?_
  refine awl_val hτ rfl rfl rfl ?_
  refine grd_elim h fun hg2 h => ?_
  refine awl_ext hτ rfl rfl rfl (ext60 hg2) ?_
  refine awl_val hτ rfl rfl rfl ?_
  refine awl_nil ?_
  refine aw_weak (weak_ofP [] (l := [(2, .d (.fl .f32 (canon .f32 (IntKind.wrap .u32 (n_)).toNat)))]) (objs := []) rfl (by simp) rfl (by repeat' first | exact trivial | refine ⟨?_, ?_⟩) ⟨rfl, trivial, trivial⟩) ?_
  refine aw_ret ?_
  have hr := Option.some.inj h
  subst hr
  exact ret_objs (.inr rfl) [] (objs' := []) (new := []) rfl (by simp) (by simp) rfl (by repeat' first | exact trivial | refine ⟨?_, ?_⟩) rfl rfl (by repeat' first | exact trivial | refine ⟨?_, ?_⟩) (fun _ => ⟨by simp [V.flat, V.flatA, V.flatC, D.flat], flat_nil⟩) ⟨rfl, rfl, rfl⟩
theorem spec_l01From_ok (n : Nat) (n_ : Int) {r : Nat} (h : m_spec_l01From n n_ = some r) : ACall prog false 57 [.d (.int .i64 n_)] [] (fun v o new => v = .d (.fl .f32 r) ∧ o = [] ∧ new = []) := spec_l01From_ok_fr0 false n n_ h
theorem spec_l01From_ok_fr (n : Nat) (n_ : Int) {r : Nat} (h : m_spec_l01From n n_ = some r) : ACall prog true 57 [.d (.int .i64 n_)] [] (fun v o new => v = .d (.fl .f32 r) ∧ o = [] ∧ new = []) := spec_l01From_ok_fr0 true n n_ h

def m_spec_l01DrawPlain (n : Nat) (s_ : SL00Src) : Option (Nat × SL00Src) :=
  (m_spec_l00Src_pick n s_ (129 : Int)).bind fun x3 =>
  (m_spec_l00Src_one n x3.2 (4 : Int)).bind fun x5 =>
  if x5.1 = true then
    some ((farith .quo .f32 (FloatKind.nearest .f32 (w64 (x3.1 - (64 : Int)))) (1088421888 : Nat)), x5.2)
  else
    some ((farith .quo .f32 (FloatKind.nearest .f32 (w64 (x3.1 - (64 : Int)))) (1098907648 : Nat)), x5.2)
theorem spec_l01DrawPlain_ok (n : Nat) (s_ : SL00Src) {r : Nat × SL00Src} (h : m_spec_l01DrawPlain n s_ = some r) : ACall prog false 94 [.ptr 0 0] [.box [.d (.sl false (s_.code.map eIntu8)), .d (.int .i64 s_.at_), .d (.int .u64 s_.seed)]] (fun v o new => v = .d (.fl .f32 r.1) ∧ o = [.box [.d (.sl false (r.2.code.map eIntu8)), .d (.int .i64 r.2.at_), .d (.int .u64 r.2.seed)]] ∧ new = []) := by
  refine acall_of_aw hτ func94 rfl (by simp) (by simp) ?_
  unfold m_spec_l01DrawPlain at h
  refine aw_seq ?_
  refine aw_region ?_
  refine awl_val hτ rfl rfl rfl ?_
  refine awl_nil ?_
  refine aw_seq ?_
  refine aw_region ?_
  refine awl_val hτ rfl rfl rfl ?_
  refine bnd_elim h fun x3 hx3 h => ?_
  refine awl_callP hτ false [0] rfl rfl rfl (enterOk func44 rfl rfl) rfl rfl (by simp) ⟨trivial, trivial, trivial⟩ (by repeat' first | exact trivial | refine ⟨?_, ?_⟩) (spec_l00Src_pick_ok n s_ (129 : Int) hx3) ?_
  rintro r0 o0 n0 ⟨rfl, rfl, rfl⟩ -
  refine awl_val hτ rfl rfl rfl ?_
  refine awl_val hτ rfl rfl rfl ?_
  refine awl_nil ?_
  refine aw_seq ?_
  refine aw_seq ?_
  refine aw_region ?_
  refine awl_val hτ rfl rfl rfl ?_
  refine bnd_elim h fun x5 hx5 h => ?_
  refine awl_callP hτ false [0] rfl rfl rfl (enterOk func56 rfl rfl) rfl rfl (by simp) ⟨trivial, trivial, trivial⟩ (by repeat' first | exact trivial | refine ⟨?_, ?_⟩) (spec_l00Src_one_ok n x3.2 (4 : Int) hx5) ?_
  rintro r0 o0 n0 ⟨rfl, rfl, rfl⟩ -
  refine awl_nil ?_
  refine aw_weak (weak_ofP [0] (l := [(3, .d (.int .i64 (w64 (x3.1 - (64 : Int))))), (8, .d (.bool x5.1))]) (objs := [.box [.d (.sl false (x5.2.code.map eIntu8)), .d (.int .i64 x5.2.at_), .d (.int .u64 x5.2.seed)]]) rfl (by simp) rfl (by repeat' first | exact trivial | refine ⟨?_, ?_⟩) ⟨rfl, trivial, rfl, trivial, trivial⟩) ?_
  refine aw_cond rfl (fun hc6 => ?_) (fun hc6 => ?_)
  · have h := if_bt h hc6
    refine aw_seq ?_
    refine aw_region ?_
    refine awl_val hτ rfl rfl rfl ?_
    refine awl_val hτ rfl rfl rfl ?_
    refine awl_val hτ rfl rfl rfl ?_
    refine awl_val hτ rfl rfl rfl ?_
    refine awl_nil ?_
    refine aw_weak (weak_ofP [0] (l := [(2, .d (.fl .f32 (farith .quo .f32 (FloatKind.nearest .f32 (w64 (x3.1 - (64 : Int)))) (1088421888 : Nat))))]) (objs := [.box [.d (.sl false (x5.2.code.map eIntu8)), .d (.int .i64 x5.2.at_), .d (.int .u64 x5.2.seed)]]) rfl (by simp) rfl (by repeat' first | exact trivial | refine ⟨?_, ?_⟩) ⟨rfl, trivial, trivial⟩) ?_
    refine aw_ret ?_
    have hr := Option.some.inj h
    subst hr
    exact ret_objs (.inr rfl) [] (objs' := [.box [.d (.sl false (x5.2.code.map eIntu8)), .d (.int .i64 x5.2.at_), .d (.int .u64 x5.2.seed)]]) (new := []) rfl (by simp) (by simp) rfl (by repeat' first | exact trivial | refine ⟨?_, ?_⟩) rfl rfl (by repeat' first | exact trivial | refine ⟨?_, ?_⟩) (fun h => nomatch h) ⟨rfl, rfl, rfl⟩
  · have h := if_bf h hc6
    refine aw_skip ?_
    refine aw_seq ?_
    refine aw_region ?_
    refine awl_val hτ rfl rfl rfl ?_
    refine awl_val hτ rfl rfl rfl ?_
    refine awl_val hτ rfl rfl rfl ?_
    refine awl_val hτ rfl rfl rfl ?_
    refine awl_nil ?_
    refine aw_weak (weak_ofP [0] (l := [(2, .d (.fl .f32 (farith .quo .f32 (FloatKind.nearest .f32 (w64 (x3.1 - (64 : Int)))) (1098907648 : Nat))))]) (objs := [.box [.d (.sl false (x5.2.code.map eIntu8)), .d (.int .i64 x5.2.at_), .d (.int .u64 x5.2.seed)]]) rfl (by simp) rfl (by repeat' first | exact trivial | refine ⟨?_, ?_⟩) ⟨rfl, trivial, trivial⟩) ?_
    refine aw_ret ?_
    have hr := Option.some.inj h
    subst hr
    exact ret_objs (.inr rfl) [] (objs' := [.box [.d (.sl false (x5.2.code.map eIntu8)), .d (.int .i64 x5.2.at_), .d (.int .u64 x5.2.seed)]]) (new := []) rfl (by simp) (by simp) rfl (by repeat' first | exact trivial | refine ⟨?_, ?_⟩) rfl rfl (by repeat' first | exact trivial | refine ⟨?_, ?_⟩) (fun h => nomatch h) ⟨rfl, rfl, rfl⟩

def m_spec_l00Src_among (n : Nat) (s_ : SL00Src) (list_ : List Int) : Option (Int × SL00Src) :=
  (m_spec_l00Src_pick n s_ (list_.length : Int)).bind fun x3 =>
  (getI list_ x3.1).bind fun x4 =>
  some (x4, x3.2)
theorem spec_l00Src_among_ok (n : Nat) (s_ : SL00Src) (list_ : List Int) {r : Int × SL00Src} (h : m_spec_l00Src_among n s_ list_ = some r) : ACall prog false 95 [.ptr 0 0, .d (.sl false (list_.map eInti64))] [.box [.d (.sl false (s_.code.map eIntu8)), .d (.int .i64 s_.at_), .d (.int .u64 s_.seed)]] (fun v o new => v = .d (.int .i64 r.1) ∧ o = [.box [.d (.sl false (r.2.code.map eIntu8)), .d (.int .i64 r.2.at_), .d (.int .u64 r.2.seed)]] ∧ new = []) := by
  refine acall_of_aw hτ func95 rfl (by simp) (by simp) ?_
  unfold m_spec_l00Src_among at h
  refine aw_seq ?_
  refine aw_region ?_
  refine awl_val hτ rfl rfl rfl ?_
  refine awl_nil ?_
  refine aw_seq ?_
  refine aw_region ?_
  refine awl_val hτ rfl rfl rfl ?_
  refine awl_val hτ rfl rfl rfl ?_
  refine awl_val hτ rfl rfl rfl ?_
  refine awl_val hτ (v := .d (.int .i64 (list_.length : Int))) rfl rfl (Eq.trans rfl (or_len (f := eInti64) list_)) ?_
  refine bnd_elim h fun x3 hx3 h => ?_
  refine awl_callP hτ false [0] rfl rfl rfl (enterOk func44 rfl rfl) rfl rfl (by simp) ⟨trivial, trivial, trivial⟩ (by repeat' first | exact trivial | refine ⟨?_, ?_⟩) (spec_l00Src_pick_ok n s_ (list_.length : Int) hx3) ?_
  rintro r0 o0 n0 ⟨rfl, rfl, rfl⟩ -
  refine bnd_elim h fun x4 hx4 h => ?_
  refine awl_elem hτ rfl rfl rfl (getI_some hx4).1 (map_getI hx4) rfl ?_
  refine awl_val hτ rfl rfl rfl ?_
  refine awl_val hτ rfl rfl rfl ?_
  refine awl_nil ?_
  refine aw_weak (weak_ofP [0] (l := [(4, .d (.int .i64 x4))]) (objs := [.box [.d (.sl false (x3.2.code.map eIntu8)), .d (.int .i64 x3.2.at_), .d (.int .u64 x3.2.seed)]]) rfl (by simp) rfl (by repeat' first | exact trivial | refine ⟨?_, ?_⟩) ⟨rfl, trivial, trivial⟩) ?_
  refine aw_ret ?_
  have hr := Option.some.inj h
  subst hr
  exact ret_objs (.inr rfl) [] (objs' := [.box [.d (.sl false (x3.2.code.map eIntu8)), .d (.int .i64 x3.2.at_), .d (.int .u64 x3.2.seed)]]) (new := []) rfl (by simp) (by simp) rfl (by repeat' first | exact trivial | refine ⟨?_, ?_⟩) rfl rfl (by repeat' first | exact trivial | refine ⟨?_, ?_⟩) (fun h => nomatch h) ⟨rfl, rfl, rfl⟩

def m_spec_l01DrawFloat (n : Nat) (s_ : SL00Src) : Option (Nat × SL00Src) :=
  (m_spec_l00Src_one n s_ (12 : Int)).bind fun x16 =>
  if x16.1 = true then
    (m_spec_l00Src_pick n x16.2 (4 : Int)).bind fun x27 =>
    if x27.1 = (0 : Int) then
      (m_spec_l00Src_among n x27.2 [(0 : Int), (2147483648 : Int), (2139095040 : Int), (4286578688 : Int), (2143289344 : Int), (1 : Int), (2139095039 : Int), (8388608 : Int), (8388607 : Int), (2147483649 : Int)]).bind fun x29 =>
      (m_spec_l01From n x29.1).bind fun x30 =>
      some (x30, x29.2)
    else
      if x27.1 = (1 : Int) then
        (m_spec_l00Src_pick n x27.2 (65536 : Int)).bind fun x32 =>
        (m_spec_l00Src_pick n x32.2 (65536 : Int)).bind fun x33 =>
        (m_spec_l01From n (w64 ((w64 (x32.1 * (65536 : Int))) + x33.1))).bind fun x34 =>
        some (x34, x33.2)
      else
        if x27.1 = (2 : Int) then
          (m_spec_l00Src_pick n x27.2 (65536 : Int)).bind fun x36 =>
          (m_spec_l01From n (w64 (x36.1 * (65536 : Int)))).bind fun x37 =>
          some (x37, x36.2)
        else
          (m_spec_l01DrawPlain n x27.2).bind fun x38 =>
          (m_spec_l00Src_among n x38.2 [(8388608 : Int), (2130706432 : Int), (1610612736 : Int), (536870912 : Int)]).bind fun x39 =>
          (m_spec_l01From n x39.1).bind fun x40 =>
          some ((farith .mul .f32 x38.1 x40), x39.2)
  else
    (m_spec_l01DrawPlain n x16.2).bind fun x18 =>
    some (x18.1, x18.2)
theorem spec_l01DrawFloat_ok (n : Nat) (s_ : SL00Src) {r : Nat × SL00Src} (h : m_spec_l01DrawFloat n s_ = some r) : ACall prog false 58 [.ptr 0 0] [.box [.d (.sl false (s_.code.map eIntu8)), .d (.int .i64 s_.at_), .d (.int .u64 s_.seed)]] (fun v o new => v = .d (.fl .f32 r.1) ∧ o = [.box [.d (.sl false (r.2.code.map eIntu8)), .d (.int .i64 r.2.at_), .d (.int .u64 r.2.seed)]] ∧ new = []) := by
  refine acall_of_aw hτ func58 rfl (by simp) (by simp) ?_
  unfold m_spec_l01DrawFloat at h
  refine aw_seq ?_
  refine aw_region ?_
  refine awl_val hτ rfl rfl rfl ?_
  refine awl_nil ?_
  refine aw_seq ?_
  refine aw_seq ?_
  refine aw_region ?_
  refine awl_val hτ rfl rfl rfl ?_
  refine bnd_elim h fun x16 hx16 h => ?_
  refine awl_callP hτ false [0] rfl rfl rfl (enterOk func56 rfl rfl) rfl rfl (by simp) ⟨trivial, trivial, trivial⟩ (by repeat' first | exact trivial | refine ⟨?_, ?_⟩) (spec_l00Src_one_ok n s_ (12 : Int) hx16) ?_
  rintro r0 o0 n0 ⟨rfl, rfl, rfl⟩ -
  refine awl_val hτ rfl rfl rfl ?_
  refine awl_nil ?_
  refine aw_cond rfl (fun hc17 => ?_) (fun hc17 => ?_)
  · have hc17 := not_t hc17
    have h := if_bf h hc17
    refine aw_seq ?_
    refine aw_region ?_
    refine awl_val hτ rfl rfl rfl ?_
    refine bnd_elim h fun x18 hx18 h => ?_
    refine awl_callP hτ false [0] rfl rfl rfl (enterOk func94 rfl rfl) rfl rfl (by simp) ⟨trivial, trivial⟩ (by repeat' first | exact trivial | refine ⟨?_, ?_⟩) (spec_l01DrawPlain_ok n x16.2 hx18) ?_
    rintro r0 o0 n0 ⟨rfl, rfl, rfl⟩ -
    refine awl_val hτ rfl rfl rfl ?_
    refine awl_nil ?_
    refine aw_weak (weak_ofP [0] (l := [(2, .d (.fl .f32 x18.1))]) (objs := [.box [.d (.sl false (x18.2.code.map eIntu8)), .d (.int .i64 x18.2.at_), .d (.int .u64 x18.2.seed)]]) rfl (by simp) rfl (by repeat' first | exact trivial | refine ⟨?_, ?_⟩) ⟨rfl, trivial, trivial⟩) ?_
    refine aw_ret ?_
    have hr := Option.some.inj h
    subst hr
    exact ret_objs (.inr rfl) [] (objs' := [.box [.d (.sl false (x18.2.code.map eIntu8)), .d (.int .i64 x18.2.at_), .d (.int .u64 x18.2.seed)]]) (new := []) rfl (by simp) (by simp) rfl (by repeat' first | exact trivial | refine ⟨?_, ?_⟩) rfl rfl (by repeat' first | exact trivial | refine ⟨?_, ?_⟩) (fun h => nomatch h) ⟨rfl, rfl, rfl⟩
  · have hc17 := not_f hc17
    have h := if_bt h hc17
    refine aw_skip ?_
    refine aw_seq ?_
    refine aw_seq ?_
    refine aw_region ?_
    refine awl_val hτ rfl rfl rfl ?_
    refine bnd_elim h fun x27 hx27 h => ?_
    refine awl_callP hτ false [0] rfl rfl rfl (enterOk func44 rfl rfl) rfl rfl (by simp) ⟨trivial, trivial, trivial⟩ (by repeat' first | exact trivial | refine ⟨?_, ?_⟩) (spec_l00Src_pick_ok n x16.2 (4 : Int) hx27) ?_
    rintro r0 o0 n0 ⟨rfl, rfl, rfl⟩ -
    refine awl_nil ?_
    refine aw_block ?_
    refine aw_seq ?_
    refine aw_weak (weak_ofP [0] (l := [(0, .ptr 0 0), (10, .d (.int .i64 x27.1))]) (objs := [.box [.d (.sl false (x27.2.code.map eIntu8)), .d (.int .i64 x27.2.at_), .d (.int .u64 x27.2.seed)]]) rfl (by simp) rfl (by repeat' first | exact trivial | refine ⟨?_, ?_⟩) ⟨rfl, trivial, rfl, trivial, trivial⟩) ?_
    refine aw_region ?_
    refine awl_val hτ (v := .d (.bool (decide (x27.1 = (0 : Int))))) rfl rfl (or_ieq _ _) ?_
    refine awl_val hτ rfl rfl rfl ?_
    refine awl_nil ?_
    refine aw_cond rfl (fun hc28 => ?_) (fun hc28 => ?_)
    · have h := if_t h hc28
      refine aw_seq ?_
      refine aw_region ?_
      refine awl_val hτ rfl rfl rfl ?_
      refine awl_valH hτ rfl rfl rfl ?_
      refine awl_weak (weak_ofP [0] (l := [(13, .ptr 0 0), (14, .d (.sl false ([(0 : Int), (2147483648 : Int), (2139095040 : Int), (4286578688 : Int), (2143289344 : Int), (1 : Int), (2139095039 : Int), (8388608 : Int), (8388607 : Int), (2147483649 : Int)].map eInti64)))]) (objs := [.box [.d (.sl false (x27.2.code.map eIntu8)), .d (.int .i64 x27.2.at_), .d (.int .u64 x27.2.seed)]]) rfl (by simp) rfl (by repeat' first | exact trivial | refine ⟨?_, ?_⟩) ⟨rfl, trivial, (exV_view (f := eInti64) [(0 : Int), (2147483648 : Int), (2139095040 : Int), (4286578688 : Int), (2143289344 : Int), (1 : Int), (2139095039 : Int), (8388608 : Int), (8388607 : Int), (2147483649 : Int)] rfl rfl rfl), (exVP_view (f := eInti64) [(0 : Int), (2147483648 : Int), (2139095040 : Int), (4286578688 : Int), (2143289344 : Int), (1 : Int), (2139095039 : Int), (8388608 : Int), (8388607 : Int), (2147483649 : Int)] rfl rfl rfl), trivial⟩) ?_
      refine bnd_elim h fun x29 hx29 h => ?_
      refine awl_callP hτ false [0] rfl rfl rfl (enterOk func95 rfl rfl) rfl rfl (by simp) ⟨trivial, trivial, trivial⟩ (by repeat' first | exact trivial | refine ⟨?_, ?_⟩) (spec_l00Src_among_ok n x27.2 [(0 : Int), (2147483648 : Int), (2139095040 : Int), (4286578688 : Int), (2143289344 : Int), (1 : Int), (2139095039 : Int), (8388608 : Int), (8388607 : Int), (2147483649 : Int)] hx29) ?_
      rintro r0 o0 n0 ⟨rfl, rfl, rfl⟩ -
      refine bnd_elim h fun x30 hx30 h => ?_
      refine awl_callP hτ false [] rfl rfl rfl (enterOk func57 rfl rfl) rfl rfl (by simp) ⟨trivial, trivial⟩ (by repeat' first | exact trivial | refine ⟨?_, ?_⟩) (spec_l01From_ok n x29.1 hx30) ?_
      rintro r0 o0 n0 ⟨rfl, rfl, rfl⟩ -
      refine awl_val hτ rfl rfl rfl ?_
      refine awl_nil ?_
      refine aw_weak (weak_ofP [0] (l := [(2, .d (.fl .f32 x30))]) (objs := [.box [.d (.sl false (x29.2.code.map eIntu8)), .d (.int .i64 x29.2.at_), .d (.int .u64 x29.2.seed)]]) rfl (by simp) rfl (by repeat' first | exact trivial | refine ⟨?_, ?_⟩) ⟨rfl, trivial, trivial⟩) ?_
      refine aw_ret ?_
      have hr := Option.some.inj h
      subst hr
      exact ret_objs (.inr rfl) [] (objs' := [.box [.d (.sl false (x29.2.code.map eIntu8)), .d (.int .i64 x29.2.at_), .d (.int .u64 x29.2.seed)]]) (new := []) rfl (by simp) (by simp) rfl (by repeat' first | exact trivial | refine ⟨?_, ?_⟩) rfl rfl (by repeat' first | exact trivial | refine ⟨?_, ?_⟩) (fun h => nomatch h) ⟨rfl, rfl, rfl⟩
    · have h := if_f h hc28
      refine aw_seq ?_
      refine aw_region ?_
      refine awl_val hτ (v := .d (.bool (decide (x27.1 = (1 : Int))))) rfl rfl (or_ieq _ _) ?_
      refine awl_val hτ rfl rfl rfl ?_
      refine awl_nil ?_
      refine aw_cond rfl (fun hc31 => ?_) (fun hc31 => ?_)
      · have h := if_t h hc31
        refine aw_seq ?_
        refine aw_region ?_
        refine awl_val hτ rfl rfl rfl ?_
        refine bnd_elim h fun x32 hx32 h => ?_
        refine awl_callP hτ false [0] rfl rfl rfl (enterOk func44 rfl rfl) rfl rfl (by simp) ⟨trivial, trivial, trivial⟩ (by repeat' first | exact trivial | refine ⟨?_, ?_⟩) (spec_l00Src_pick_ok n x27.2 (65536 : Int) hx32) ?_
        rintro r0 o0 n0 ⟨rfl, rfl, rfl⟩ -
        refine awl_val hτ rfl rfl rfl ?_
        refine awl_val hτ rfl rfl rfl ?_
        refine awl_nil ?_
        refine aw_seq ?_
        refine aw_weak (weak_ofP [0] (l := [(0, .ptr 0 0), (3, .d (.int .i64 (w64 (x32.1 * (65536 : Int)))))]) (objs := [.box [.d (.sl false (x32.2.code.map eIntu8)), .d (.int .i64 x32.2.at_), .d (.int .u64 x32.2.seed)]]) rfl (by simp) rfl (by repeat' first | exact trivial | refine ⟨?_, ?_⟩) ⟨rfl, trivial, rfl, trivial, trivial⟩) ?_
        refine aw_region ?_
        refine awl_val hτ rfl rfl rfl ?_
        refine awl_val hτ rfl rfl rfl ?_
        refine bnd_elim h fun x33 hx33 h => ?_
        refine awl_callP hτ false [0] rfl rfl rfl (enterOk func44 rfl rfl) rfl rfl (by simp) ⟨trivial, trivial, trivial⟩ (by repeat' first | exact trivial | refine ⟨?_, ?_⟩) (spec_l00Src_pick_ok n x32.2 (65536 : Int) hx33) ?_
        rintro r0 o0 n0 ⟨rfl, rfl, rfl⟩ -
        refine awl_val hτ rfl rfl rfl ?_
        refine bnd_elim h fun x34 hx34 h => ?_
        refine awl_callP hτ false [] rfl rfl rfl (enterOk func57 rfl rfl) rfl rfl (by simp) ⟨trivial, trivial⟩ (by repeat' first | exact trivial | refine ⟨?_, ?_⟩) (spec_l01From_ok n (w64 ((w64 (x32.1 * (65536 : Int))) + x33.1)) hx34) ?_
        rintro r0 o0 n0 ⟨rfl, rfl, rfl⟩ -
        refine awl_val hτ rfl rfl rfl ?_
        refine awl_nil ?_
        refine aw_weak (weak_ofP [0] (l := [(2, .d (.fl .f32 x34))]) (objs := [.box [.d (.sl false (x33.2.code.map eIntu8)), .d (.int .i64 x33.2.at_), .d (.int .u64 x33.2.seed)]]) rfl (by simp) rfl (by repeat' first | exact trivial | refine ⟨?_, ?_⟩) ⟨rfl, trivial, trivial⟩) ?_
        refine aw_ret ?_
        have hr := Option.some.inj h
        subst hr
        exact ret_objs (.inr rfl) [] (objs' := [.box [.d (.sl false (x33.2.code.map eIntu8)), .d (.int .i64 x33.2.at_), .d (.int .u64 x33.2.seed)]]) (new := []) rfl (by simp) (by simp) rfl (by repeat' first | exact trivial | refine ⟨?_, ?_⟩) rfl rfl (by repeat' first | exact trivial | refine ⟨?_, ?_⟩) (fun h => nomatch h) ⟨rfl, rfl, rfl⟩
      · have h := if_f h hc31
        refine aw_seq ?_
        refine aw_region ?_
        refine awl_val hτ (v := .d (.bool (decide (x27.1 = (2 : Int))))) rfl rfl (or_ieq _ _) ?_
        refine awl_val hτ rfl rfl rfl ?_
        refine awl_nil ?_
        refine aw_weak (weak_ofP [0] (l := [(0, .ptr 0 0), (27, .d (.bool (decide (x27.1 = (2 : Int)))))]) (objs := [.box [.d (.sl false (x27.2.code.map eIntu8)), .d (.int .i64 x27.2.at_), .d (.int .u64 x27.2.seed)]]) rfl (by simp) rfl (by repeat' first | exact trivial | refine ⟨?_, ?_⟩) ⟨rfl, trivial, rfl, trivial, trivial⟩) ?_
        refine aw_cond rfl (fun hc35 => ?_) (fun hc35 => ?_)
        · have h := if_t h hc35
          refine aw_seq ?_
          refine aw_region ?_
          refine awl_val hτ rfl rfl rfl ?_
          refine bnd_elim h fun x36 hx36 h => ?_
          refine awl_callP hτ false [0] rfl rfl rfl (enterOk func44 rfl rfl) rfl rfl (by simp) ⟨trivial, trivial, trivial⟩ (by repeat' first | exact trivial | refine ⟨?_, ?_⟩) (spec_l00Src_pick_ok n x27.2 (65536 : Int) hx36) ?_
          rintro r0 o0 n0 ⟨rfl, rfl, rfl⟩ -
          refine awl_val hτ rfl rfl rfl ?_
          refine bnd_elim h fun x37 hx37 h => ?_
          refine awl_callP hτ false [] rfl rfl rfl (enterOk func57 rfl rfl) rfl rfl (by simp) ⟨trivial, trivial⟩ (by repeat' first | exact trivial | refine ⟨?_, ?_⟩) (spec_l01From_ok n (w64 (x36.1 * (65536 : Int))) hx37) ?_
          rintro r0 o0 n0 ⟨rfl, rfl, rfl⟩ -
          refine awl_val hτ rfl rfl rfl ?_
          refine awl_nil ?_
          refine aw_weak (weak_ofP [0] (l := [(2, .d (.fl .f32 x37))]) (objs := [.box [.d (.sl false (x36.2.code.map eIntu8)), .d (.int .i64 x36.2.at_), .d (.int .u64 x36.2.seed)]]) rfl (by simp) rfl (by repeat' first | exact trivial | refine ⟨?_, ?_⟩) ⟨rfl, trivial, trivial⟩) ?_
          refine aw_ret ?_
          have hr := Option.some.inj h
          subst hr
          exact ret_objs (.inr rfl) [] (objs' := [.box [.d (.sl false (x36.2.code.map eIntu8)), .d (.int .i64 x36.2.at_), .d (.int .u64 x36.2.seed)]]) (new := []) rfl (by simp) (by simp) rfl (by repeat' first | exact trivial | refine ⟨?_, ?_⟩) rfl rfl (by repeat' first | exact trivial | refine ⟨?_, ?_⟩) (fun h => nomatch h) ⟨rfl, rfl, rfl⟩
        · have h := if_f h hc35
          refine aw_skip ?_
          refine aw_seq ?_
          refine aw_region ?_
          refine awl_val hτ rfl rfl rfl ?_
          refine bnd_elim h fun x38 hx38 h => ?_
          refine awl_callP hτ false [0] rfl rfl rfl (enterOk func94 rfl rfl) rfl rfl (by simp) ⟨trivial, trivial⟩ (by repeat' first | exact trivial | refine ⟨?_, ?_⟩) (spec_l01DrawPlain_ok n x27.2 hx38) ?_
          rintro r0 o0 n0 ⟨rfl, rfl, rfl⟩ -
          refine awl_val hτ rfl rfl rfl ?_
          refine awl_valH hτ rfl rfl rfl ?_
          refine awl_weak (weak_ofP [0] (l := [(34, .d (.fl .f32 x38.1)), (35, .ptr 0 0), (36, .d (.sl false ([(8388608 : Int), (2130706432 : Int), (1610612736 : Int), (536870912 : Int)].map eInti64)))]) (objs := [.box [.d (.sl false (x38.2.code.map eIntu8)), .d (.int .i64 x38.2.at_), .d (.int .u64 x38.2.seed)]]) rfl (by simp) rfl (by repeat' first | exact trivial | refine ⟨?_, ?_⟩) ⟨rfl, trivial, rfl, trivial, (exV_view (f := eInti64) [(8388608 : Int), (2130706432 : Int), (1610612736 : Int), (536870912 : Int)] rfl rfl rfl), (exVP_view (f := eInti64) [(8388608 : Int), (2130706432 : Int), (1610612736 : Int), (536870912 : Int)] rfl rfl rfl), trivial⟩) ?_
          refine bnd_elim h fun x39 hx39 h => ?_
          refine awl_callP hτ false [0] rfl rfl rfl (enterOk func95 rfl rfl) rfl rfl (by simp) ⟨trivial, trivial, trivial⟩ (by repeat' first | exact trivial | refine ⟨?_, ?_⟩) (spec_l00Src_among_ok n x38.2 [(8388608 : Int), (2130706432 : Int), (1610612736 : Int), (536870912 : Int)] hx39) ?_
          rintro r0 o0 n0 ⟨rfl, rfl, rfl⟩ -
          refine bnd_elim h fun x40 hx40 h => ?_
          refine awl_callP hτ false [] rfl rfl rfl (enterOk func57 rfl rfl) rfl rfl (by simp) ⟨trivial, trivial⟩ (by repeat' first | exact trivial | refine ⟨?_, ?_⟩) (spec_l01From_ok n x39.1 hx40) ?_
          rintro r0 o0 n0 ⟨rfl, rfl, rfl⟩ -
          refine awl_val hτ rfl rfl rfl ?_
          refine awl_val hτ rfl rfl rfl ?_
          refine awl_nil ?_
          refine aw_weak (weak_ofP [0] (l := [(2, .d (.fl .f32 (farith .mul .f32 x38.1 x40)))]) (objs := [.box [.d (.sl false (x39.2.code.map eIntu8)), .d (.int .i64 x39.2.at_), .d (.int .u64 x39.2.seed)]]) rfl (by simp) rfl (by repeat' first | exact trivial | refine ⟨?_, ?_⟩) ⟨rfl, trivial, trivial⟩) ?_
          refine aw_ret ?_
          have hr := Option.some.inj h
          subst hr
          exact ret_objs (.inr rfl) [] (objs' := [.box [.d (.sl false (x39.2.code.map eIntu8)), .d (.int .i64 x39.2.at_), .d (.int .u64 x39.2.seed)]]) (new := []) rfl (by simp) (by simp) rfl (by repeat' first | exact trivial | refine ⟨?_, ?_⟩) rfl rfl (by repeat' first | exact trivial | refine ⟨?_, ?_⟩) (fun h => nomatch h) ⟨rfl, rfl, rfl⟩

def m_spec_B10Number (n : Nat) (code_ : List Int) : Option Nat :=
  (m_spec_l00From n code_).bind fun x7 =>
  (m_spec_l00Src_one n x7 (2 : Int)).bind fun x12 =>
  if x12.1 = true then
    (m_spec_l00Src_pick n x12.2 (65536 : Int)).bind fun x14 =>
    (m_spec_l00Src_pick n x14.2 (65536 : Int)).bind fun x15 =>
    (m_spec_l01From n (w64 ((w64 (x14.1 * (65536 : Int))) + x15.1))).bind fun x16 =>
    some x16
  else
    (m_spec_l01DrawFloat n x12.2).bind fun x17 =>
    some x17.1
theorem spec_B10Number_ok_fr0 (fr : Bool) (n : Nat) (code_ : List Int) {r : Nat} (h : m_spec_B10Number n code_ = some r) : ACall prog fr 20 [.d (.sl false (code_.map eIntu8))] [] (fun v o new => v = .d (.fl .f32 r) ∧ o = [] ∧ new = []) := by
  refine acall_of_aw hτ func20 rfl (by simp) (by simp) ?_
  unfold m_spec_B10Number at h
  refine aw_seq ?_
  refine aw_region ?_
  refine awl_val hτ rfl rfl rfl ?_
  refine awl_nil ?_
  refine aw_seq ?_
  refine aw_region ?_
  refine awl_val hτ rfl rfl rfl ?_
  refine bnd_elim h fun x7 hx7 h => ?_
  refine awl_callP hτ false [] rfl rfl rfl (enterOk func43 rfl rfl) rfl rfl (by simp) ⟨trivial, trivial⟩ (by repeat' first | exact trivial | refine ⟨?_, ?_⟩) (spec_l00From_ok n code_ hx7) ?_
  rintro r0 o0 n0 ⟨rfl, rfl, rfl⟩ -
  refine awl_val hτ rfl rfl rfl ?_
  refine awl_nil ?_
  refine aw_seq ?_
  refine aw_seq ?_
  refine aw_region ?_
  refine awl_val hτ rfl rfl rfl ?_
  refine bnd_elim h fun x12 hx12 h => ?_
  refine awl_callP hτ false [0] rfl rfl rfl (enterOk func56 rfl rfl) rfl rfl (by simp) ⟨trivial, trivial, trivial⟩ (by repeat' first | exact trivial | refine ⟨?_, ?_⟩) (spec_l00Src_one_ok n x7 (2 : Int) hx12) ?_
  rintro r0 o0 n0 ⟨rfl, rfl, rfl⟩ -
  refine awl_nil ?_
  refine aw_weak (weak_ofP [0] (l := [(3, .ptr 0 0), (8, .d (.bool x12.1))]) (objs := [.box [.d (.sl false (x12.2.code.map eIntu8)), .d (.int .i64 x12.2.at_), .d (.int .u64 x12.2.seed)]]) rfl (by simp) rfl (by repeat' first | exact trivial | refine ⟨?_, ?_⟩) ⟨rfl, trivial, rfl, trivial, trivial⟩) ?_
  refine aw_cond rfl (fun hc13 => ?_) (fun hc13 => ?_)
  · have h := if_bt h hc13
    refine aw_seq ?_
    refine aw_region ?_
    refine awl_val hτ rfl rfl rfl ?_
    refine bnd_elim h fun x14 hx14 h => ?_
    refine awl_callP hτ false [0] rfl rfl rfl (enterOk func44 rfl rfl) rfl rfl (by simp) ⟨trivial, trivial, trivial⟩ (by repeat' first | exact trivial | refine ⟨?_, ?_⟩) (spec_l00Src_pick_ok n x12.2 (65536 : Int) hx14) ?_
    rintro r0 o0 n0 ⟨rfl, rfl, rfl⟩ -
    refine awl_val hτ rfl rfl rfl ?_
    refine awl_val hτ rfl rfl rfl ?_
    refine awl_nil ?_
    refine aw_seq ?_
    refine aw_region ?_
    refine awl_val hτ rfl rfl rfl ?_
    refine awl_val hτ rfl rfl rfl ?_
    refine bnd_elim h fun x15 hx15 h => ?_
    refine awl_callP hτ false [0] rfl rfl rfl (enterOk func44 rfl rfl) rfl rfl (by simp) ⟨trivial, trivial, trivial⟩ (by repeat' first | exact trivial | refine ⟨?_, ?_⟩) (spec_l00Src_pick_ok n x14.2 (65536 : Int) hx15) ?_
    rintro r0 o0 n0 ⟨rfl, rfl, rfl⟩ -
    refine awl_val hτ rfl rfl rfl ?_
    refine bnd_elim h fun x16 hx16 h => ?_
    refine awl_callP hτ false [] rfl rfl rfl (enterOk func57 rfl rfl) rfl rfl (by simp) ⟨trivial, trivial⟩ (by repeat' first | exact trivial | refine ⟨?_, ?_⟩) (spec_l01From_ok n (w64 ((w64 (x14.1 * (65536 : Int))) + x15.1)) hx16) ?_
    rintro r0 o0 n0 ⟨rfl, rfl, rfl⟩ -
    refine awl_val hτ rfl rfl rfl ?_
    refine awl_nil ?_
    refine aw_weak (weak_ofP [] (l := [(2, .d (.fl .f32 x16))]) (objs := []) rfl (by simp) rfl (by repeat' first | exact trivial | refine ⟨?_, ?_⟩) ⟨rfl, trivial, trivial⟩) ?_
    refine aw_ret ?_
    have hr := Option.some.inj h
    subst hr
    exact ret_objs (.inr rfl) [] (objs' := []) (new := []) rfl (by simp) (by simp) rfl (by repeat' first | exact trivial | refine ⟨?_, ?_⟩) rfl rfl (by repeat' first | exact trivial | refine ⟨?_, ?_⟩) (fun _ => ⟨by simp [V.flat, V.flatA, V.flatC, D.flat], flat_nil⟩) ⟨rfl, rfl, rfl⟩
  · have h := if_bf h hc13
    refine aw_skip ?_
    refine aw_seq ?_
    refine aw_region ?_
    refine awl_val hτ rfl rfl rfl ?_
    refine bnd_elim h fun x17 hx17 h => ?_
    refine awl_callP hτ false [0] rfl rfl rfl (enterOk func58 rfl rfl) rfl rfl (by simp) ⟨trivial, trivial⟩ (by repeat' first | exact trivial | refine ⟨?_, ?_⟩) (spec_l01DrawFloat_ok n x12.2 hx17) ?_
    rintro r0 o0 n0 ⟨rfl, rfl, rfl⟩ -
    refine awl_val hτ rfl rfl rfl ?_
    refine awl_nil ?_
    refine aw_weak (weak_ofP [] (l := [(2, .d (.fl .f32 x17.1))]) (objs := []) rfl (by simp) rfl (by repeat' first | exact trivial | refine ⟨?_, ?_⟩) ⟨rfl, trivial, trivial⟩) ?_
    refine aw_ret ?_
    have hr := Option.some.inj h
    subst hr
    exact ret_objs (.inr rfl) [] (objs' := []) (new := []) rfl (by simp) (by simp) rfl (by repeat' first | exact trivial | refine ⟨?_, ?_⟩) rfl rfl (by repeat' first | exact trivial | refine ⟨?_, ?_⟩) (fun _ => ⟨by simp [V.flat, V.flatA, V.flatC, D.flat], flat_nil⟩) ⟨rfl, rfl, rfl⟩
theorem spec_B10Number_ok (n : Nat) (code_ : List Int) {r : Nat} (h : m_spec_B10Number n code_ = some r) : ACall prog false 20 [.d (.sl false (code_.map eIntu8))] [] (fun v o new => v = .d (.fl .f32 r) ∧ o = [] ∧ new = []) := spec_B10Number_ok_fr0 false n code_ h
theorem spec_B10Number_ok_fr (n : Nat) (code_ : List Int) {r : Nat} (h : m_spec_B10Number n code_ = some r) : ACall prog true 20 [.d (.sl false (code_.map eIntu8))] [] (fun v o new => v = .d (.fl .f32 r) ∧ o = [] ∧ new = []) := spec_B10Number_ok_fr0 true n code_ h

def m_impl_isNaN (n : Nat) (x_ : Nat) : Option Bool :=
  some (fcmp .neq .f32 x_ x_)
theorem impl_isNaN_ok_fr0 (fr : Bool) (n : Nat) (x_ : Nat) {r : Bool} (h : m_impl_isNaN n x_ = some r) : ACall prog fr 61 [.d (.fl .f32 x_)] [] (fun v o new => v = .d (.bool r) ∧ o = [] ∧ new = []) := by
  refine acall_of_aw hτ func61 rfl (by simp) (by simp) ?_
  unfold m_impl_isNaN at h
  refine aw_seq ?_
  refine aw_region ?_
  refine awl_val hτ rfl rfl rfl ?_
  refine awl_nil ?_
  refine aw_seq ?_
  refine aw_region ?_
  refine awl_val hτ rfl rfl rfl ?_
  refine awl_val hτ rfl rfl rfl ?_
  refine awl_val hτ rfl rfl rfl ?_
  refine awl_val hτ rfl rfl rfl ?_
  refine awl_nil ?_
  refine aw_weak (weak_ofP [] (l := [(2, .d (.bool (fcmp .neq .f32 x_ x_)))]) (objs := []) rfl (by simp) rfl (by repeat' first | exact trivial | refine ⟨?_, ?_⟩) ⟨rfl, trivial, trivial⟩) ?_
  refine aw_ret ?_
  have hr := Option.some.inj h
  subst hr
  exact ret_objs (.inr rfl) [] (objs' := []) (new := []) rfl (by simp) (by simp) rfl (by repeat' first | exact trivial | refine ⟨?_, ?_⟩) rfl rfl (by repeat' first | exact trivial | refine ⟨?_, ?_⟩) (fun _ => ⟨by simp [V.flat, V.flatA, V.flatC, D.flat], flat_nil⟩) ⟨rfl, rfl, rfl⟩
theorem impl_isNaN_ok (n : Nat) (x_ : Nat) {r : Bool} (h : m_impl_isNaN n x_ = some r) : ACall prog false 61 [.d (.fl .f32 x_)] [] (fun v o new => v = .d (.bool r) ∧ o = [] ∧ new = []) := impl_isNaN_ok_fr0 false n x_ h
theorem impl_isNaN_ok_fr (n : Nat) (x_ : Nat) {r : Bool} (h : m_impl_isNaN n x_ = some r) : ACall prog true 61 [.d (.fl .f32 x_)] [] (fun v o new => v = .d (.bool r) ∧ o = [] ∧ new = []) := impl_isNaN_ok_fr0 true n x_ h

def m_impl_BitsOf (n : Nat) (x_ : Nat) : Option Int :=
  (m_impl_isNaN n x_).bind fun x4 =>
  if x4 = true then
    some (2143289344 : Int)
  else
    grd (isnan .f32 x_ = false) <|
    some (w64 ((x_ : Int)))
theorem impl_BitsOf_ok_fr0 (fr : Bool) (n : Nat) (x_ : Nat) {r : Int} (h : m_impl_BitsOf n x_ = some r) : ACall prog fr 22 [.d (.fl .f32 x_)] [] (fun v o new => v = .d (.int .i64 r) ∧ o = [] ∧ new = []) := by
  refine acall_of_aw hτ func22 rfl (by simp) (by simp) ?_
  unfold m_impl_BitsOf at h
  refine aw_seq ?_
  refine aw_region ?_
  refine awl_val hτ rfl rfl rfl ?_
  refine awl_nil ?_
  refine aw_seq ?_
  refine aw_seq ?_
  refine aw_region ?_
  refine awl_val hτ rfl rfl rfl ?_
  refine bnd_elim h fun x4 hx4 h => ?_
  refine awl_callP hτ false [] rfl rfl rfl (enterOk func61 rfl rfl) rfl rfl (by simp) ⟨trivial, trivial⟩ (by repeat' first | exact trivial | refine ⟨?_, ?_⟩) (impl_isNaN_ok n x_ hx4) ?_
  rintro r0 o0 n0 ⟨rfl, rfl, rfl⟩ -
  refine awl_nil ?_
  refine aw_cond rfl (fun hc5 => ?_) (fun hc5 => ?_)
  · have h := if_bt h hc5
    refine aw_seq ?_
    refine aw_region ?_
    refine awl_val hτ rfl rfl rfl ?_
    refine awl_nil ?_
    refine aw_weak (weak_ofP [] (l := [(2, .d (.int .i64 (2143289344 : Int)))]) (objs := []) rfl (by simp) rfl (by repeat' first | exact trivial | refine ⟨?_, ?_⟩) ⟨rfl, trivial, trivial⟩) ?_
    refine aw_ret ?_
    have hr := Option.some.inj h
    subst hr
    exact ret_objs (.inr rfl) [] (objs' := []) (new := []) rfl (by simp) (by simp) rfl (by repeat' first | exact trivial | refine ⟨?_, ?_⟩) rfl rfl (by repeat' first | exact trivial | refine ⟨?_, ?_⟩) (fun _ => ⟨by simp [V.flat, V.flatA, V.flatC, D.flat], flat_nil⟩) ⟨rfl, rfl, rfl⟩
  · have h := if_bf h hc5
    refine aw_skip ?_
    refine aw_seq ?_
    refine aw_region ?_
    refine awl_val hτ rfl rfl rfl ?_
    refine grd_elim h fun hg6 h => ?_
    refine awl_ext hτ rfl rfl rfl (ext62 hg6) ?_
    refine awl_val hτ rfl rfl rfl ?_
    refine awl_val hτ rfl rfl rfl ?_
    refine awl_nil ?_
    refine aw_weak (weak_ofP [] (l := [(2, .d (.int .i64 (w64 ((x_ : Int)))))]) (objs := []) rfl (by simp) rfl (by repeat' first | exact trivial | refine ⟨?_, ?_⟩) ⟨rfl, trivial, trivial⟩) ?_
    refine aw_ret ?_
    have hr := Option.some.inj h
    subst hr
    exact ret_objs (.inr rfl) [] (objs' := []) (new := []) rfl (by simp) (by simp) rfl (by repeat' first | exact trivial | refine ⟨?_, ?_⟩) rfl rfl (by repeat' first | exact trivial | refine ⟨?_, ?_⟩) (fun _ => ⟨by simp [V.flat, V.flatA, V.flatC, D.flat], flat_nil⟩) ⟨rfl, rfl, rfl⟩
theorem impl_BitsOf_ok (n : Nat) (x_ : Nat) {r : Int} (h : m_impl_BitsOf n x_ = some r) : ACall prog false 22 [.d (.fl .f32 x_)] [] (fun v o new => v = .d (.int .i64 r) ∧ o = [] ∧ new = []) := impl_BitsOf_ok_fr0 false n x_ h
theorem impl_BitsOf_ok_fr (n : Nat) (x_ : Nat) {r : Int} (h : m_impl_BitsOf n x_ = some r) : ACall prog true 22 [.d (.fl .f32 x_)] [] (fun v o new => v = .d (.int .i64 r) ∧ o = [] ∧ new = []) := impl_BitsOf_ok_fr0 true n x_ h

def m_impl_in (n : Nat) (n_ : Int) (low_ : Int) (high_ : Int) : Option Bool :=
  if n_ ≥ low_ then
    some (decide (n_ ≤ high_))
  else
    some false
theorem impl_in_ok_fr0 (fr : Bool) (n : Nat) (n_ : Int) (low_ : Int) (high_ : Int) {r : Bool} (h : m_impl_in n n_ low_ high_ = some r) : ACall prog fr 59 [.d (.int .i64 n_), .d (.int .i64 low_), .d (.int .i64 high_)] [] (fun v o new => v = .d (.bool r) ∧ o = [] ∧ new = []) := by
  refine acall_of_aw hτ func59 rfl (by simp) (by simp) ?_
  unfold m_impl_in at h
  refine aw_seq ?_
  refine aw_region ?_
  refine awl_val hτ rfl rfl rfl ?_
  refine awl_nil ?_
  refine aw_seq ?_
  refine aw_region ?_
  refine awl_val hτ rfl rfl rfl ?_
  refine awl_val hτ rfl rfl rfl ?_
  refine awl_val hτ rfl rfl rfl ?_
  refine awl_val hτ rfl rfl rfl ?_
  refine awl_split 10 rfl (fun hb3 => ?_) (fun hb3 => ?_)
  · have h := if_t h hb3
    refine awl_val hτ rfl rfl rfl ?_
    refine awl_val hτ rfl rfl rfl ?_
    refine awl_val hτ rfl rfl rfl ?_
    refine awl_val hτ rfl rfl rfl ?_
    refine awl_val hτ rfl rfl rfl ?_
    refine awl_nil ?_
    refine aw_weak (weak_ofP [] (l := [(6, .d (.bool (decide (n_ ≤ high_))))]) (objs := []) rfl (by simp) rfl (by repeat' first | exact trivial | refine ⟨?_, ?_⟩) ⟨rfl, trivial, trivial⟩) ?_
    refine aw_ret ?_
    have hr := Option.some.inj h
    subst hr
    exact ret_objs (.inr rfl) [] (objs' := []) (new := []) rfl (by simp) (by simp) rfl (by repeat' first | exact trivial | refine ⟨?_, ?_⟩) rfl rfl (by repeat' first | exact trivial | refine ⟨?_, ?_⟩) (fun _ => ⟨by simp [V.flat, V.flatA, V.flatC, D.flat], flat_nil⟩) ⟨rfl, rfl, rfl⟩
  · have h := if_f h hb3
    refine awl_skip rfl rfl ?_
    refine awl_skip rfl rfl ?_
    refine awl_skip rfl rfl ?_
    refine awl_val hτ rfl rfl rfl ?_
    refine awl_val hτ rfl rfl rfl ?_
    refine awl_nil ?_
    refine aw_weak (weak_ofP [] (l := [(6, .d (.bool false))]) (objs := []) rfl (by simp) rfl (by repeat' first | exact trivial | refine ⟨?_, ?_⟩) ⟨rfl, trivial, trivial⟩) ?_
    refine aw_ret ?_
    have hr := Option.some.inj h
    subst hr
    exact ret_objs (.inr rfl) [] (objs' := []) (new := []) rfl (by simp) (by simp) rfl (by repeat' first | exact trivial | refine ⟨?_, ?_⟩) rfl rfl (by repeat' first | exact trivial | refine ⟨?_, ?_⟩) (fun _ => ⟨by simp [V.flat, V.flatA, V.flatC, D.flat], flat_nil⟩) ⟨rfl, rfl, rfl⟩
theorem impl_in_ok (n : Nat) (n_ : Int) (low_ : Int) (high_ : Int) {r : Bool} (h : m_impl_in n n_ low_ high_ = some r) : ACall prog false 59 [.d (.int .i64 n_), .d (.int .i64 low_), .d (.int .i64 high_)] [] (fun v o new => v = .d (.bool r) ∧ o = [] ∧ new = []) := impl_in_ok_fr0 false n n_ low_ high_ h
theorem impl_in_ok_fr (n : Nat) (n_ : Int) (low_ : Int) (high_ : Int) {r : Bool} (h : m_impl_in n n_ low_ high_ = some r) : ACall prog true 59 [.d (.int .i64 n_), .d (.int .i64 low_), .d (.int .i64 high_)] [] (fun v o new => v = .d (.bool r) ∧ o = [] ∧ new = []) := impl_in_ok_fr0 true n n_ low_ high_ h

def m_impl_FromBits (n : Nat) (n_ : Int) : Option (Nat × Bool) :=
  (m_impl_in n n_ (0 : Int) (4294967295 : Int)).bind fun x4 =>
  if x4 = true then
    grd ((IntKind.wrap .u32 (n_)).toNat < 4294967296) <|
    some ((canon .f32 (IntKind.wrap .u32 (n_)).toNat), true)
  else
    some ((0 : Nat), false)
theorem impl_FromBits_ok_fr0 (fr : Bool) (n : Nat) (n_ : Int) {r : Nat × Bool} (h : m_impl_FromBits n n_ = some r) : ACall prog fr 21 [.d (.int .i64 n_)] [] (fun v o new => v = .tup [.d (.fl .f32 r.1), .d (.bool r.2)] ∧ o = [] ∧ new = []) := by
  refine acall_of_aw hτ func21 rfl (by simp) (by simp) ?_
  unfold m_impl_FromBits at h
  refine aw_seq ?_
  refine aw_region ?_
  refine awl_val hτ rfl rfl rfl ?_
  refine awl_val hτ rfl rfl rfl ?_
  refine awl_nil ?_
  refine aw_seq ?_
  refine aw_seq ?_
  refine aw_region ?_
  refine awl_val hτ rfl rfl rfl ?_
  refine bnd_elim h fun x4 hx4 h => ?_
  refine awl_callP hτ false [] rfl rfl rfl (enterOk func59 rfl rfl) rfl rfl (by simp) ⟨trivial, trivial, trivial, trivial⟩ (by repeat' first | exact trivial | refine ⟨?_, ?_⟩) (impl_in_ok n n_ (0 : Int) (4294967295 : Int) hx4) ?_
  rintro r0 o0 n0 ⟨rfl, rfl, rfl⟩ -
  refine awl_val hτ rfl rfl rfl ?_
  refine awl_nil ?_
  refine aw_cond rfl (fun hc5 => ?_) (fun hc5 => ?_)
  · have hc5 := not_t hc5
    have h := if_bf h hc5
    refine aw_seq ?_
    refine aw_region ?_
    refine awl_val hτ rfl rfl rfl ?_
    refine awl_val hτ rfl rfl rfl ?_
    refine awl_nil ?_
    refine aw_weak (weak_ofP [] (l := [(2, .d (.fl .f32 (0 : Nat))), (3, .d (.bool false))]) (objs := []) rfl (by simp) rfl (by repeat' first | exact trivial | refine ⟨?_, ?_⟩) ⟨rfl, trivial, rfl, trivial, trivial⟩) ?_
    refine aw_ret ?_
    have hr := Option.some.inj h
    subst hr
    exact ret_objs (.inr rfl) [] (objs' := []) (new := []) rfl (by simp) (by simp) rfl (by repeat' first | exact trivial | refine ⟨?_, ?_⟩) rfl rfl (by repeat' first | exact trivial | refine ⟨?_, ?_⟩) (fun _ => ⟨by simp [V.flat, V.flatA, V.flatC, D.flat], flat_nil⟩) ⟨rfl, rfl, rfl⟩
  · have hc5 := not_f hc5
    have h := if_bt h hc5
    refine aw_skip ?_
    refine aw_seq ?_
    refine aw_region ?_
    refine awl_val hτ rfl rfl rfl ?_
    refine awl_val hτ rfl rfl rfl ?_
    refine grd_elim h fun hg6 h => ?_
    refine awl_ext hτ rfl rfl rfl (ext60 hg6) ?_
    refine awl_val hτ rfl rfl rfl ?_
    refine awl_val hτ rfl rfl rfl ?_
    refine awl_nil ?_
    refine aw_weak (weak_ofP [] (l := [(2, .d (.fl .f32 (canon .f32 (IntKind.wrap .u32 (n_)).toNat))), (3, .d (.bool true))]) (objs := []) rfl (by simp) rfl (by repeat' first | exact trivial | refine ⟨?_, ?_⟩) ⟨rfl, trivial, rfl, trivial, trivial⟩) ?_
    refine aw_ret ?_
    have hr := Option.some.inj h
    subst hr
    exact ret_objs (.inr rfl) [] (objs' := []) (new := []) rfl (by simp) (by simp) rfl (by repeat' first | exact trivial | refine ⟨?_, ?_⟩) rfl rfl (by repeat' first | exact trivial | refine ⟨?_, ?_⟩) (fun _ => ⟨by simp [V.flat, V.flatA, V.flatC, D.flat], flat_nil⟩) ⟨rfl, rfl, rfl⟩
theorem impl_FromBits_ok (n : Nat) (n_ : Int) {r : Nat × Bool} (h : m_impl_FromBits n n_ = some r) : ACall prog false 21 [.d (.int .i64 n_)] [] (fun v o new => v = .tup [.d (.fl .f32 r.1), .d (.bool r.2)] ∧ o = [] ∧ new = []) := impl_FromBits_ok_fr0 false n n_ h
theorem impl_FromBits_ok_fr (n : Nat) (n_ : Int) {r : Nat × Bool} (h : m_impl_FromBits n n_ = some r) : ACall prog true 21 [.d (.int .i64 n_)] [] (fun v o new => v = .tup [.d (.fl .f32 r.1), .d (.bool r.2)] ∧ o = [] ∧ new = []) := impl_FromBits_ok_fr0 true n n_ h

def m_impl_abs (n : Nat) (x : Nat) : Option Nat := some (absM x)
theorem impl_abs_ok (n : Nat) (x : Nat) {r : Nat} (h : m_impl_abs n x = some r) : ACall prog false 72 [.d (.fl .f32 x)] [] (fun v o new => v = .d (.fl .f32 r) ∧ o = [] ∧ new = []) := by
  cases h
  exact abs_does x
theorem impl_abs_ok_fr (n : Nat) (x : Nat) {r : Nat} (h : m_impl_abs n x = some r) : ACall prog true 72 [.d (.fl .f32 x)] [] (fun v o new => v = .d (.fl .f32 r) ∧ o = [] ∧ new = []) := by
  cases h
  exact abs_does x

def m_impl_IsSubnormal (n : Nat) (x_ : Nat) : Option Bool :=
  if (fcmp .neq .f32 x_ (0 : Nat)) = true then
    (m_impl_abs n x_).bind fun x5 =>
    some (fcmp .lss .f32 x5 (8388608 : Nat))
  else
    some false
theorem impl_IsSubnormal_ok_fr0 (fr : Bool) (n : Nat) (x_ : Nat) {r : Bool} (h : m_impl_IsSubnormal n x_ = some r) : ACall prog fr 34 [.d (.fl .f32 x_)] [] (fun v o new => v = .d (.bool r) ∧ o = [] ∧ new = []) := by
  refine acall_of_aw hτ func34 rfl (by simp) (by simp) ?_
  unfold m_impl_IsSubnormal at h
  refine aw_seq ?_
  refine aw_region ?_
  refine awl_val hτ rfl rfl rfl ?_
  refine awl_nil ?_
  refine aw_seq ?_
  refine aw_region ?_
  refine awl_val hτ rfl rfl rfl ?_
  refine awl_val hτ rfl rfl rfl ?_
  refine awl_val hτ rfl rfl rfl ?_
  refine awl_split 5 rfl (fun hb4 => ?_) (fun hb4 => ?_)
  · have h := if_bt h hb4
    refine awl_val hτ rfl rfl rfl ?_
    refine bnd_elim h fun x5 hx5 h => ?_
    refine awl_callP hτ false [] rfl rfl rfl (enterOk func72 rfl rfl) rfl rfl (by simp) ⟨trivial, trivial⟩ (by repeat' first | exact trivial | refine ⟨?_, ?_⟩) (impl_abs_ok n x_ hx5) ?_
    rintro r0 o0 n0 ⟨rfl, rfl, rfl⟩ -
    refine awl_val hτ rfl rfl rfl ?_
    refine awl_val hτ rfl rfl rfl ?_
    refine awl_val hτ rfl rfl rfl ?_
    refine awl_nil ?_
    refine aw_weak (weak_ofP [] (l := [(2, .d (.bool (fcmp .lss .f32 x5 (8388608 : Nat))))]) (objs := []) rfl (by simp) rfl (by repeat' first | exact trivial | refine ⟨?_, ?_⟩) ⟨rfl, trivial, trivial⟩) ?_
    refine aw_ret ?_
    have hr := Option.some.inj h
    subst hr
    exact ret_objs (.inr rfl) [] (objs' := []) (new := []) rfl (by simp) (by simp) rfl (by repeat' first | exact trivial | refine ⟨?_, ?_⟩) rfl rfl (by repeat' first | exact trivial | refine ⟨?_, ?_⟩) (fun _ => ⟨by simp [V.flat, V.flatA, V.flatC, D.flat], flat_nil⟩) ⟨rfl, rfl, rfl⟩
  · have h := if_bf h hb4
    refine awl_skip rfl rfl ?_
    refine awl_skip rfl rfl ?_
    refine awl_skip rfl rfl ?_
    refine awl_val hτ rfl rfl rfl ?_
    refine awl_val hτ rfl rfl rfl ?_
    refine awl_nil ?_
    refine aw_weak (weak_ofP [] (l := [(2, .d (.bool false))]) (objs := []) rfl (by simp) rfl (by repeat' first | exact trivial | refine ⟨?_, ?_⟩) ⟨rfl, trivial, trivial⟩) ?_
    refine aw_ret ?_
    have hr := Option.some.inj h
    subst hr
    exact ret_objs (.inr rfl) [] (objs' := []) (new := []) rfl (by simp) (by simp) rfl (by repeat' first | exact trivial | refine ⟨?_, ?_⟩) rfl rfl (by repeat' first | exact trivial | refine ⟨?_, ?_⟩) (fun _ => ⟨by simp [V.flat, V.flatA, V.flatC, D.flat], flat_nil⟩) ⟨rfl, rfl, rfl⟩
theorem impl_IsSubnormal_ok (n : Nat) (x_ : Nat) {r : Bool} (h : m_impl_IsSubnormal n x_ = some r) : ACall prog false 34 [.d (.fl .f32 x_)] [] (fun v o new => v = .d (.bool r) ∧ o = [] ∧ new = []) := impl_IsSubnormal_ok_fr0 false n x_ h
theorem impl_IsSubnormal_ok_fr (n : Nat) (x_ : Nat) {r : Bool} (h : m_impl_IsSubnormal n x_ = some r) : ACall prog true 34 [.d (.fl .f32 x_)] [] (fun v o new => v = .d (.bool r) ∧ o = [] ∧ new = []) := impl_IsSubnormal_ok_fr0 true n x_ h

def m_impl_FlushNumber (n : Nat) (x_ : Nat) : Option Nat :=
  (m_impl_IsSubnormal n x_).bind fun x4 =>
  if x4 = true then
    grd (isnan .f32 x_ = false) <|
    grd ((ibits .and .u32 (x_ : Int) (2147483648 : Int)).toNat < 4294967296) <|
    some (canon .f32 (ibits .and .u32 (x_ : Int) (2147483648 : Int)).toNat)
  else
    some x_
theorem impl_FlushNumber_ok_fr0 (fr : Bool) (n : Nat) (x_ : Nat) {r : Nat} (h : m_impl_FlushNumber n x_ = some r) : ACall prog fr 29 [.d (.fl .f32 x_)] [] (fun v o new => v = .d (.fl .f32 r) ∧ o = [] ∧ new = []) := by
  refine acall_of_aw hτ func29 rfl (by simp) (by simp) ?_
  unfold m_impl_FlushNumber at h
  refine aw_seq ?_
  refine aw_region ?_
  refine awl_val hτ rfl rfl rfl ?_
  refine awl_nil ?_
  refine aw_seq ?_
  refine aw_seq ?_
  refine aw_region ?_
  refine awl_val hτ rfl rfl rfl ?_
  refine bnd_elim h fun x4 hx4 h => ?_
  refine awl_callP hτ false [] rfl rfl rfl (enterOk func34 rfl rfl) rfl rfl (by simp) ⟨trivial, trivial⟩ (by repeat' first | exact trivial | refine ⟨?_, ?_⟩) (impl_IsSubnormal_ok n x_ hx4) ?_
  rintro r0 o0 n0 ⟨rfl, rfl, rfl⟩ -
  refine awl_nil ?_
  refine aw_cond rfl (fun hc5 => ?_) (fun hc5 => ?_)
  · have h := if_bt h hc5
    refine aw_seq ?_
    refine aw_region ?_
    refine awl_val hτ rfl rfl rfl ?_
    refine grd_elim h fun hg6 h => ?_
    refine awl_ext hτ rfl rfl rfl (ext62 hg6) ?_
    refine awl_val hτ rfl rfl rfl ?_
    refine grd_elim h fun hg7 h => ?_
    refine awl_ext hτ rfl rfl rfl (ext60 hg7) ?_
    refine awl_val hτ rfl rfl rfl ?_
    refine awl_nil ?_
    refine aw_weak (weak_ofP [] (l := [(2, .d (.fl .f32 (canon .f32 (ibits .and .u32 (x_ : Int) (2147483648 : Int)).toNat)))]) (objs := []) rfl (by simp) rfl (by repeat' first | exact trivial | refine ⟨?_, ?_⟩) ⟨rfl, trivial, trivial⟩) ?_
    refine aw_ret ?_
    have hr := Option.some.inj h
    subst hr
    exact ret_objs (.inr rfl) [] (objs' := []) (new := []) rfl (by simp) (by simp) rfl (by repeat' first | exact trivial | refine ⟨?_, ?_⟩) rfl rfl (by repeat' first | exact trivial | refine ⟨?_, ?_⟩) (fun _ => ⟨by simp [V.flat, V.flatA, V.flatC, D.flat], flat_nil⟩) ⟨rfl, rfl, rfl⟩
  · have h := if_bf h hc5
    refine aw_skip ?_
    refine aw_seq ?_
    refine aw_region ?_
    refine awl_val hτ rfl rfl rfl ?_
    refine awl_val hτ rfl rfl rfl ?_
    refine awl_nil ?_
    refine aw_weak (weak_ofP [] (l := [(2, .d (.fl .f32 x_))]) (objs := []) rfl (by simp) rfl (by repeat' first | exact trivial | refine ⟨?_, ?_⟩) ⟨rfl, trivial, trivial⟩) ?_
    refine aw_ret ?_
    have hr := Option.some.inj h
    subst hr
    exact ret_objs (.inr rfl) [] (objs' := []) (new := []) rfl (by simp) (by simp) rfl (by repeat' first | exact trivial | refine ⟨?_, ?_⟩) rfl rfl (by repeat' first | exact trivial | refine ⟨?_, ?_⟩) (fun _ => ⟨by simp [V.flat, V.flatA, V.flatC, D.flat], flat_nil⟩) ⟨rfl, rfl, rfl⟩
theorem impl_FlushNumber_ok (n : Nat) (x_ : Nat) {r : Nat} (h : m_impl_FlushNumber n x_ = some r) : ACall prog false 29 [.d (.fl .f32 x_)] [] (fun v o new => v = .d (.fl .f32 r) ∧ o = [] ∧ new = []) := impl_FlushNumber_ok_fr0 false n x_ h
theorem impl_FlushNumber_ok_fr (n : Nat) (x_ : Nat) {r : Nat} (h : m_impl_FlushNumber n x_ = some r) : ACall prog true 29 [.d (.fl .f32 x_)] [] (fun v o new => v = .d (.fl .f32 r) ∧ o = [] ∧ new = []) := impl_FlushNumber_ok_fr0 true n x_ h

def m_laws_b10At (n : Nat) (code_ : List Int) (i_ : Int) (n_ : Int) : Option Int :=
  if n_ ≤ (1 : Int) then
    some (0 : Int)
  else
    if i_ < (code_.length : Int) then
      (getI code_ i_).bind fun x8 =>
      grd (n_ ≠ 0) <|
      some ((w64 (x8)).tmod n_)
    else
      grd (n_ ≠ 0) <|
      some ((w64 ((w64 (i_ * (37 : Int))) + (11 : Int))).tmod n_)
theorem laws_b10At_ok_fr0 (fr : Bool) (n : Nat) (code_ : List Int) (i_ : Int) (n_ : Int) {r : Int} (h : m_laws_b10At n code_ i_ n_ = some r) : ACall prog fr 17 [.d (.sl false (code_.map eIntu8)), .d (.int .i64 i_), .d (.int .i64 n_)] [] (fun v o new => v = .d (.int .i64 r) ∧ o = [] ∧ new = []) := by
  refine acall_of_aw hτ func17 rfl (by simp) (by simp) ?_
  unfold m_laws_b10At at h
  refine aw_seq ?_
  refine aw_region ?_
  refine awl_val hτ rfl rfl rfl ?_
  refine awl_nil ?_
  refine aw_seq ?_
  refine aw_seq ?_
  refine aw_region ?_
  refine awl_val hτ rfl rfl rfl ?_
  refine awl_val hτ rfl rfl rfl ?_
  refine awl_nil ?_
  refine aw_cond rfl (fun hc4 => ?_) (fun hc4 => ?_)
  · have h := if_t h hc4
    refine aw_seq ?_
    refine aw_region ?_
    refine awl_val hτ rfl rfl rfl ?_
    refine awl_nil ?_
    refine aw_weak (weak_ofP [] (l := [(6, .d (.int .i64 (0 : Int)))]) (objs := []) rfl (by simp) rfl (by repeat' first | exact trivial | refine ⟨?_, ?_⟩) ⟨rfl, trivial, trivial⟩) ?_
    refine aw_ret ?_
    have hr := Option.some.inj h
    subst hr
    exact ret_objs (.inr rfl) [] (objs' := []) (new := []) rfl (by simp) (by simp) rfl (by repeat' first | exact trivial | refine ⟨?_, ?_⟩) rfl rfl (by repeat' first | exact trivial | refine ⟨?_, ?_⟩) (fun _ => ⟨by simp [V.flat, V.flatA, V.flatC, D.flat], flat_nil⟩) ⟨rfl, rfl, rfl⟩
  · have h := if_f h hc4
    refine aw_skip ?_
    refine aw_seq ?_
    refine aw_seq ?_
    refine aw_region ?_
    refine awl_val hτ rfl rfl rfl ?_
    refine awl_val hτ rfl rfl rfl ?_
    refine awl_val hτ (v := .d (.int .i64 (code_.length : Int))) rfl rfl (Eq.trans rfl (or_len (f := eIntu8) code_)) ?_
    refine awl_val hτ rfl rfl rfl ?_
    refine awl_nil ?_
    refine aw_weak (weak_ofP [] (l := [(0, .d (.sl false (code_.map eIntu8))), (1, .d (.int .i64 i_)), (2, .d (.int .i64 n_)), (12, .d (.bool (decide (i_ < (code_.length : Int)))))]) (objs := []) rfl (by simp) rfl (by repeat' first | exact trivial | refine ⟨?_, ?_⟩) ⟨rfl, trivial, rfl, trivial, rfl, trivial, rfl, trivial, trivial⟩) ?_
    refine aw_cond rfl (fun hc7 => ?_) (fun hc7 => ?_)
    · have h := if_t h hc7
      refine aw_seq ?_
      refine aw_region ?_
      refine awl_val hτ rfl rfl rfl ?_
      refine awl_val hτ rfl rfl rfl ?_
      refine bnd_elim h fun x8 hx8 h => ?_
      refine awl_elem hτ rfl rfl rfl (getI_some hx8).1 (map_getI hx8) rfl ?_
      refine awl_val hτ rfl rfl rfl ?_
      refine awl_val hτ rfl rfl rfl ?_
      refine awl_val hτ rfl rfl rfl ?_
      refine grd_elim h fun hg9 h => ?_
      refine awl_need hτ rfl rfl rfl hg9 ?_
      refine awl_val hτ rfl rfl rfl ?_
      refine awl_nil ?_
      refine aw_weak (weak_ofP [] (l := [(6, .d (.int .i64 ((w64 (x8)).tmod n_)))]) (objs := []) rfl (by simp) rfl (by repeat' first | exact trivial | refine ⟨?_, ?_⟩) ⟨rfl, trivial, trivial⟩) ?_
      refine aw_ret ?_
      have hr := Option.some.inj h
      subst hr
      exact ret_objs (.inr rfl) [] (objs' := []) (new := []) rfl (by simp) (by simp) rfl (by repeat' first | exact trivial | refine ⟨?_, ?_⟩) rfl rfl (by repeat' first | exact trivial | refine ⟨?_, ?_⟩) (fun _ => ⟨by simp [V.flat, V.flatA, V.flatC, D.flat], flat_nil⟩) ⟨rfl, rfl, rfl⟩
    · have h := if_f h hc7
      refine aw_skip ?_
      refine aw_seq ?_
      refine aw_region ?_
      refine awl_val hτ rfl rfl rfl ?_
      refine awl_val hτ rfl rfl rfl ?_
      refine awl_val hτ rfl rfl rfl ?_
      refine awl_val hτ rfl rfl rfl ?_
      refine grd_elim h fun hg10 h => ?_
      refine awl_need hτ rfl rfl rfl hg10 ?_
      refine awl_val hτ rfl rfl rfl ?_
      refine awl_nil ?_
      refine aw_weak (weak_ofP [] (l := [(6, .d (.int .i64 ((w64 ((w64 (i_ * (37 : Int))) + (11 : Int))).tmod n_)))]) (objs := []) rfl (by simp) rfl (by repeat' first | exact trivial | refine ⟨?_, ?_⟩) ⟨rfl, trivial, trivial⟩) ?_
      refine aw_ret ?_
      have hr := Option.some.inj h
      subst hr
      exact ret_objs (.inr rfl) [] (objs' := []) (new := []) rfl (by simp) (by simp) rfl (by repeat' first | exact trivial | refine ⟨?_, ?_⟩) rfl rfl (by repeat' first | exact trivial | refine ⟨?_, ?_⟩) (fun _ => ⟨by simp [V.flat, V.flatA, V.flatC, D.flat], flat_nil⟩) ⟨rfl, rfl, rfl⟩
theorem laws_b10At_ok (n : Nat) (code_ : List Int) (i_ : Int) (n_ : Int) {r : Int} (h : m_laws_b10At n code_ i_ n_ = some r) : ACall prog false 17 [.d (.sl false (code_.map eIntu8)), .d (.int .i64 i_), .d (.int .i64 n_)] [] (fun v o new => v = .d (.int .i64 r) ∧ o = [] ∧ new = []) := laws_b10At_ok_fr0 false n code_ i_ n_ h
theorem laws_b10At_ok_fr (n : Nat) (code_ : List Int) (i_ : Int) (n_ : Int) {r : Int} (h : m_laws_b10At n code_ i_ n_ = some r) : ACall prog true 17 [.d (.sl false (code_.map eIntu8)), .d (.int .i64 i_), .d (.int .i64 n_)] [] (fun v o new => v = .d (.int .i64 r) ∧ o = [] ∧ new = []) := laws_b10At_ok_fr0 true n code_ i_ n_ h

def m_spec_l01DrawFloats_j2 (n : Nat) (k56 : List Int → Int → Int → Int → List Nat → Option (List Nat × SL00Src)) (v40 : Int) (v66 : List Int) (v67 : Int) (v68 : Int) (v69 : List Nat) : Option (List Nat × SL00Src) :=
  k56 v66 v67 v68 (w64 (v40 - (1 : Int))) v69
def m_spec_l01DrawFloats_l1 (n : Nat) (x28 : Bool × SL00Src) : Nat → List Int → Int → Int → Int → List Nat → Option (List Nat × SL00Src)
  | 0, _, _, _, _, _ => none
  | m55 + 1, v37, v38, v39, v40, v41 =>
    if v40 > (0 : Int) then
      if x28.1 = true then
        (m_spec_l01DrawFloat n (SL00Src.mk v37 v38 v39)).bind fun x72 =>
        grd (room (v41.length + 1) 4) <|
        m_spec_l01DrawFloats_j2 n (m_spec_l01DrawFloats_l1 n x28 m55) v40 x72.2.code x72.2.at_ x72.2.seed (v41 ++ [x72.1])
      else
        (m_spec_l01DrawPlain n (SL00Src.mk v37 v38 v39)).bind fun x74 =>
        grd (room (v41.length + 1) 4) <|
        m_spec_l01DrawFloats_j2 n (m_spec_l01DrawFloats_l1 n x28 m55) v40 x74.2.code x74.2.at_ x74.2.seed (v41 ++ [x74.1])
    else
      some (v41, (SL00Src.mk v37 v38 v39))
def m_spec_l01DrawFloats (n : Nat) (s_ : SL00Src) (n_ : Int) : Option (List Nat × SL00Src) :=
  (m_spec_l00Src_one n s_ (4 : Int)).bind fun x28 =>
  m_spec_l01DrawFloats_l1 n x28 n x28.2.code x28.2.at_ x28.2.seed n_ ([] : List Nat)
theorem spec_l01DrawFloats_ok (n : Nat) (s_ : SL00Src) (n_ : Int) {r : List Nat × SL00Src} (h : m_spec_l01DrawFloats n s_ n_ = some r) : ACall prog false 69 [.ptr 0 0, .d (.int .i64 n_)] [.box [.d (.sl false (s_.code.map eIntu8)), .d (.int .i64 s_.at_), .d (.int .u64 s_.seed)]] (fun v o new => v = .row 1 r.1.length 0 r.1.length ∧ o = [.box [.d (.sl false (r.2.code.map eIntu8)), .d (.int .i64 r.2.at_), .d (.int .u64 r.2.seed)]] ∧ new = [.row 1 (r.1.map eNatf32)]) := by
  refine acall_of_aw hτ func69 rfl (by simp) (by simp) ?_
  unfold m_spec_l01DrawFloats at h
  refine aw_seq ?_
  refine aw_region ?_
  refine awl_val hτ rfl rfl rfl ?_
  refine awl_nil ?_
  refine aw_seq ?_
  refine aw_region ?_
  refine awl_valH hτ rfl rfl rfl ?_
  refine awl_val hτ rfl rfl rfl ?_
  refine awl_nil ?_
  refine aw_seq ?_
  refine aw_region ?_
  refine awl_val hτ rfl rfl rfl ?_
  refine bnd_elim h fun x28 hx28 h => ?_
  refine awl_callP hτ false [0] rfl rfl rfl (enterOk func56 rfl rfl) rfl rfl (by simp) ⟨trivial, trivial, trivial⟩ (by repeat' first | exact trivial | refine ⟨?_, ?_⟩) (spec_l00Src_one_ok n s_ (4 : Int) hx28) ?_
  rintro r0 o0 n0 ⟨rfl, rfl, rfl⟩ -
  refine awl_val hτ rfl rfl rfl ?_
  refine awl_nil ?_
  refine aw_seq ?_
  refine aw_block ?_
  refine aw_loop (ι := Nat × List Int × Int × Int × Int × List Nat) (fun (m55, v37, v38, v39, v40, v41) => St.of [(0, .ptr 0 0), (1, .d (.int .i64 v40)), (5, .row 1 v41.length 0 v41.length), (6, .d (.bool x28.1))] [.box [.d (.sl false (v37.map eIntu8)), .d (.int .i64 v38), .d (.int .u64 v39)], .row 1 (v41.map eNatf32)] f69.ntmps 1) (fun (m55, v37, v38, v39, v40, v41) => m_spec_l01DrawFloats_l1 n x28 m55 v37 v38 v39 v40 v41 = some r) (fun x => x.1) (n, x28.2.code, x28.2.at_, x28.2.seed, n_, ([] : List Nat)) h (weak_ofP [0, 1] (l := [(0, .ptr 0 0), (1, .d (.int .i64 n_)), (5, .row 1 (([] : List Nat).length) 0 (([] : List Nat).length)), (6, .d (.bool x28.1))]) (objs := [.box [.d (.sl false (x28.2.code.map eIntu8)), .d (.int .i64 x28.2.at_), .d (.int .u64 x28.2.seed)], .row 1 (([] : List Nat).map eNatf32)]) rfl (by simp) rfl (by repeat' first | exact trivial | refine ⟨?_, ?_⟩) ⟨rfl, trivial, rfl, trivial, rfl, trivial, rfl, trivial, trivial⟩) ?_
  rintro ⟨m55, v37, v38, v39, v40, v41⟩ h
  replace h : m_spec_l01DrawFloats_l1 n x28 m55 v37 v38 v39 v40 v41 = some r := h
  rcases m55 with _ | m55
  · rw [m_spec_l01DrawFloats_l1] at h; cases h
  rw [m_spec_l01DrawFloats_l1] at h
  refine aw_seq ?_
  refine aw_seq ?_
  refine aw_region ?_
  refine awl_val hτ rfl rfl rfl ?_
  refine awl_val hτ rfl rfl rfl ?_
  refine awl_nil ?_
  refine aw_cond rfl (fun hc57 => ?_) (fun hc57 => ?_)
  · have h := if_t h hc57
    refine aw_skip ?_
    refine aw_hk1 (ι := List Int × Int × Int × List Nat) (fun (v66, v67, v68, v69) => St.of [(0, .ptr 0 0), (1, .d (.int .i64 v40)), (5, .row 1 v69.length 0 v69.length), (6, .d (.bool x28.1))] [.box [.d (.sl false (v66.map eIntu8)), .d (.int .i64 v67), .d (.int .u64 v68)], .row 1 (v69.map eNatf32)] f69.ntmps 1) (fun (v66, v67, v68, v69) => m_spec_l01DrawFloats_j2 n (m_spec_l01DrawFloats_l1 n x28 m55) v40 v66 v67 v68 v69 = some r) ?_ (fun hk70 => ?_)
    · rintro ⟨v66, v67, v68, v69⟩ h
      replace h : m_spec_l01DrawFloats_j2 n (m_spec_l01DrawFloats_l1 n x28 m55) v40 v66 v67 v68 v69 = some r := h
      unfold m_spec_l01DrawFloats_j2 at h
      refine aw_region ?_
      refine awl_val hτ rfl rfl rfl ?_
      refine awl_val hτ rfl rfl rfl ?_
      refine awl_val hτ rfl rfl rfl ?_
      refine awl_nil ?_
      exact ⟨(m55, v66, v67, v68, (w64 (v40 - (1 : Int))), v69), h, Nat.lt_succ_self m55, (weak_ofP [0, 1] (l := [(0, .ptr 0 0), (1, .d (.int .i64 (w64 (v40 - (1 : Int))))), (5, .row 1 v69.length 0 v69.length), (6, .d (.bool x28.1))]) (objs := [.box [.d (.sl false (v66.map eIntu8)), .d (.int .i64 v67), .d (.int .u64 v68)], .row 1 (v69.map eNatf32)]) rfl (by simp) rfl (by repeat' first | exact trivial | refine ⟨?_, ?_⟩) ⟨rfl, trivial, rfl, trivial, rfl, trivial, rfl, trivial, trivial⟩)⟩
    · refine aw_seq ?_
      refine aw_block ?_
      refine aw_seq ?_
      refine aw_region ?_
      refine awl_val hτ rfl rfl rfl ?_
      refine awl_nil ?_
      refine aw_cond rfl (fun hc71 => ?_) (fun hc71 => ?_)
      · have h := if_bt h hc71
        refine aw_region ?_
        refine awl_val hτ rfl rfl rfl ?_
        refine awl_val hτ rfl rfl rfl ?_
        refine bnd_elim h fun x72 hx72 h => ?_
        refine awl_callP hτ false [0] rfl rfl rfl (enterOk func58 rfl rfl) rfl rfl (by simp) ⟨trivial, trivial⟩ (by repeat' first | exact trivial | refine ⟨?_, ?_⟩) (spec_l01DrawFloat_ok n (SL00Src.mk v37 v38 v39) hx72) ?_
        rintro r0 o0 n0 ⟨rfl, rfl, rfl⟩ -
        refine awl_valH hτ rfl rfl rfl ?_
        refine grd_elim h fun hg73 h => ?_
        refine awl_needH hτ rfl rfl (Eq.trans rfl (or_append (f := eNatf32) v41 [x72.1] rfl)) ⟨⟨rfl, Nat.le_of_ble_eq_true rfl⟩, len_map _, rfl, rfl, hg73, by decide, (all1 rfl)⟩ ?_
        refine awl_val hτ rfl rfl rfl ?_
        refine awl_nil ?_
        refine aw_weak (weak_ofP [0, 1] (l := [(0, .ptr 0 0), (1, .d (.int .i64 v40)), (5, .row 1 ((v41 ++ [x72.1]).length) 0 ((v41 ++ [x72.1]).length)), (6, .d (.bool x28.1))]) (objs := [.box [.d (.sl false (x72.2.code.map eIntu8)), .d (.int .i64 x72.2.at_), .d (.int .u64 x72.2.seed)], .row 1 ((v41 ++ [x72.1]).map eNatf32)]) rfl (by simp) rfl (by repeat' first | exact trivial | refine ⟨?_, ?_⟩) ⟨rfl, trivial, rfl, trivial, rfl, trivial, rfl, trivial, trivial⟩) ?_
        exact hk70 (x72.2.code, x72.2.at_, x72.2.seed, (v41 ++ [x72.1])) h
      · have h := if_bf h hc71
        refine aw_region ?_
        refine awl_val hτ rfl rfl rfl ?_
        refine awl_val hτ rfl rfl rfl ?_
        refine bnd_elim h fun x74 hx74 h => ?_
        refine awl_callP hτ false [0] rfl rfl rfl (enterOk func94 rfl rfl) rfl rfl (by simp) ⟨trivial, trivial⟩ (by repeat' first | exact trivial | refine ⟨?_, ?_⟩) (spec_l01DrawPlain_ok n (SL00Src.mk v37 v38 v39) hx74) ?_
        rintro r0 o0 n0 ⟨rfl, rfl, rfl⟩ -
        refine awl_valH hτ rfl rfl rfl ?_
        refine grd_elim h fun hg75 h => ?_
        refine awl_needH hτ rfl rfl (Eq.trans rfl (or_append (f := eNatf32) v41 [x74.1] rfl)) ⟨⟨rfl, Nat.le_of_ble_eq_true rfl⟩, len_map _, rfl, rfl, hg75, by decide, (all1 rfl)⟩ ?_
        refine awl_val hτ rfl rfl rfl ?_
        refine awl_nil ?_
        refine aw_weak (weak_ofP [0, 1] (l := [(0, .ptr 0 0), (1, .d (.int .i64 v40)), (5, .row 1 ((v41 ++ [x74.1]).length) 0 ((v41 ++ [x74.1]).length)), (6, .d (.bool x28.1))]) (objs := [.box [.d (.sl false (x74.2.code.map eIntu8)), .d (.int .i64 x74.2.at_), .d (.int .u64 x74.2.seed)], .row 1 ((v41 ++ [x74.1]).map eNatf32)]) rfl (by simp) rfl (by repeat' first | exact trivial | refine ⟨?_, ?_⟩) ⟨rfl, trivial, rfl, trivial, rfl, trivial, rfl, trivial, trivial⟩) ?_
        exact hk70 (x74.2.code, x74.2.at_, x74.2.seed, (v41 ++ [x74.1])) h
  · have h := if_f h hc57
    refine aw_exit ?_
    refine aw_seq ?_
    refine aw_region ?_
    refine awl_val hτ rfl rfl rfl ?_
    refine awl_val hτ rfl rfl rfl ?_
    refine awl_nil ?_
    refine aw_weak (weak_ofP [0, 1] (l := [(4, .row 1 v41.length 0 v41.length)]) (objs := [.box [.d (.sl false (v37.map eIntu8)), .d (.int .i64 v38), .d (.int .u64 v39)], .row 1 (v41.map eNatf32)]) rfl (by simp) rfl (by repeat' first | exact trivial | refine ⟨?_, ?_⟩) ⟨rfl, trivial, trivial⟩) ?_
    refine aw_ret ?_
    have hr := Option.some.inj h
    subst hr
    exact ret_objs (.inr rfl) [1] (objs' := [.box [.d (.sl false (v37.map eIntu8)), .d (.int .i64 v38), .d (.int .u64 v39)]]) (new := [.row 1 (v41.map eNatf32)]) rfl (by simp) (by simp) rfl (by repeat' first | exact trivial | refine ⟨?_, ?_⟩) rfl rfl (by repeat' first | exact trivial | refine ⟨?_, ?_⟩) (fun h => nomatch h) ⟨rfl, rfl, rfl⟩

def m_spec_B10Numbers (n : Nat) (code_ : List Int) (n_ : Int) : Option (List Nat) :=
  (m_spec_l00From n code_).bind fun x3 =>
  (m_spec_l01DrawFloats n x3 n_).bind fun x4 =>
  some x4.1
theorem spec_B10Numbers_ok_fr0 (fr : Bool) (n : Nat) (code_ : List Int) (n_ : Int) {r : List Nat} (h : m_spec_B10Numbers n code_ n_ = some r) : ACall prog fr 30 [.d (.sl false (code_.map eIntu8)), .d (.int .i64 n_)] [] (fun v o new => v = .row 0 r.length 0 r.length ∧ o = [] ∧ new = [.row 1 (r.map eNatf32)]) := by
  refine acall_of_aw hτ func30 rfl (by simp) (by simp) ?_
  unfold m_spec_B10Numbers at h
  refine aw_seq ?_
  refine aw_region ?_
  refine awl_val hτ rfl rfl rfl ?_
  refine awl_nil ?_
  refine aw_seq ?_
  refine aw_region ?_
  refine awl_val hτ rfl rfl rfl ?_
  refine bnd_elim h fun x3 hx3 h => ?_
  refine awl_callP hτ false [] rfl rfl rfl (enterOk func43 rfl rfl) rfl rfl (by simp) ⟨trivial, trivial⟩ (by repeat' first | exact trivial | refine ⟨?_, ?_⟩) (spec_l00From_ok n code_ hx3) ?_
  rintro r0 o0 n0 ⟨rfl, rfl, rfl⟩ -
  refine awl_val hτ rfl rfl rfl ?_
  refine awl_nil ?_
  refine aw_seq ?_
  refine aw_region ?_
  refine awl_val hτ rfl rfl rfl ?_
  refine awl_val hτ rfl rfl rfl ?_
  refine bnd_elim h fun x4 hx4 h => ?_
  refine awl_callP hτ false [0] rfl rfl rfl (enterOk func69 rfl rfl) rfl rfl (by simp) ⟨trivial, trivial, trivial⟩ (by repeat' first | exact trivial | refine ⟨?_, ?_⟩) (spec_l01DrawFloats_ok n x3 n_ hx4) ?_
  rintro r0 o0 n0 ⟨rfl, rfl, rfl⟩ -
  refine awl_val hτ rfl rfl rfl ?_
  refine awl_nil ?_
  refine aw_weak (weak_ofP [1] (l := [(4, .row 0 x4.1.length 0 x4.1.length)]) (objs := [.row 1 (x4.1.map eNatf32)]) rfl (by simp) rfl (by repeat' first | exact trivial | refine ⟨?_, ?_⟩) ⟨rfl, trivial, trivial⟩) ?_
  refine aw_ret ?_
  have hr := Option.some.inj h
  subst hr
  exact ret_objs (.inr rfl) [0] (objs' := []) (new := [.row 1 (x4.1.map eNatf32)]) rfl (by simp) (by simp) rfl (by repeat' first | exact trivial | refine ⟨?_, ?_⟩) rfl rfl (by repeat' first | exact trivial | refine ⟨?_, ?_⟩) (fun _ => ⟨by simp [V.flat, V.flatA, V.flatC, D.flat], (flat_cons (flat_row eNatf32_flat _) flat_nil)⟩) ⟨rfl, rfl, rfl⟩
theorem spec_B10Numbers_ok (n : Nat) (code_ : List Int) (n_ : Int) {r : List Nat} (h : m_spec_B10Numbers n code_ n_ = some r) : ACall prog false 30 [.d (.sl false (code_.map eIntu8)), .d (.int .i64 n_)] [] (fun v o new => v = .row 0 r.length 0 r.length ∧ o = [] ∧ new = [.row 1 (r.map eNatf32)]) := spec_B10Numbers_ok_fr0 false n code_ n_ h
theorem spec_B10Numbers_ok_fr (n : Nat) (code_ : List Int) (n_ : Int) {r : List Nat} (h : m_spec_B10Numbers n code_ n_ = some r) : ACall prog true 30 [.d (.sl false (code_.map eIntu8)), .d (.int .i64 n_)] [] (fun v o new => v = .row 0 r.length 0 r.length ∧ o = [] ∧ new = [.row 1 (r.map eNatf32)]) := spec_B10Numbers_ok_fr0 true n code_ n_ h

def m_impl_listOk (n : Nat) (list_ : List Nat) : Option Bool :=
  some (decide ((list_.length : Int) ≤ (256 : Int)))
theorem impl_listOk_ok_fr0 (fr : Bool) (n : Nat) (list_ : List Nat) {r : Bool} (h : m_impl_listOk n list_ = some r) : ACall prog fr 70 [.d (.sl false (list_.map eNatf32))] [] (fun v o new => v = .d (.bool r) ∧ o = [] ∧ new = []) := by
  refine acall_of_aw hτ func70 rfl (by simp) (by simp) ?_
  unfold m_impl_listOk at h
  refine aw_seq ?_
  refine aw_region ?_
  refine awl_val hτ rfl rfl rfl ?_
  refine awl_nil ?_
  refine aw_seq ?_
  refine aw_region ?_
  refine awl_val hτ rfl rfl rfl ?_
  refine awl_val hτ (v := .d (.int .i64 (list_.length : Int))) rfl rfl (Eq.trans rfl (or_len (f := eNatf32) list_)) ?_
  refine awl_val hτ rfl rfl rfl ?_
  refine awl_val hτ rfl rfl rfl ?_
  refine awl_nil ?_
  refine aw_weak (weak_ofP [] (l := [(2, .d (.bool (decide ((list_.length : Int) ≤ (256 : Int)))))]) (objs := []) rfl (by simp) rfl (by repeat' first | exact trivial | refine ⟨?_, ?_⟩) ⟨rfl, trivial, trivial⟩) ?_
  refine aw_ret ?_
  have hr := Option.some.inj h
  subst hr
  exact ret_objs (.inr rfl) [] (objs' := []) (new := []) rfl (by simp) (by simp) rfl (by repeat' first | exact trivial | refine ⟨?_, ?_⟩) rfl rfl (by repeat' first | exact trivial | refine ⟨?_, ?_⟩) (fun _ => ⟨by simp [V.flat, V.flatA, V.flatC, D.flat], flat_nil⟩) ⟨rfl, rfl, rfl⟩
theorem impl_listOk_ok (n : Nat) (list_ : List Nat) {r : Bool} (h : m_impl_listOk n list_ = some r) : ACall prog false 70 [.d (.sl false (list_.map eNatf32))] [] (fun v o new => v = .d (.bool r) ∧ o = [] ∧ new = []) := impl_listOk_ok_fr0 false n list_ h
theorem impl_listOk_ok_fr (n : Nat) (list_ : List Nat) {r : Bool} (h : m_impl_listOk n list_ = some r) : ACall prog true 70 [.d (.sl false (list_.map eNatf32))] [] (fun v o new => v = .d (.bool r) ∧ o = [] ∧ new = []) := impl_listOk_ok_fr0 true n list_ h

def m_impl_sum_l1 (n : Nat) (list_ : List Nat) : Nat → Nat → Int → Option Nat
  | 0, _, _ => none
  | m13 + 1, v8, v9 =>
    if v9 < (list_.length : Int) then
      (getI list_ v9).bind fun x16 =>
      (m_impl_sum_l1 n list_ m13) (farith .add .f32 v8 x16) (w64 (v9 + (1 : Int)))
    else
      some v8
def m_impl_sum (n : Nat) (list_ : List Nat) : Option Nat :=
  m_impl_sum_l1 n list_ n (0 : Nat) (0 : Int)
theorem impl_sum_ok_fr0 (fr : Bool) (n : Nat) (list_ : List Nat) {r : Nat} (h : m_impl_sum n list_ = some r) : ACall prog fr 71 [.d (.sl false (list_.map eNatf32))] [] (fun v o new => v = .d (.fl .f32 r) ∧ o = [] ∧ new = []) := by
  refine acall_of_aw hτ func71 rfl (by simp) (by simp) ?_
  unfold m_impl_sum at h
  refine aw_seq ?_
  refine aw_region ?_
  refine awl_val hτ rfl rfl rfl ?_
  refine awl_nil ?_
  refine aw_seq ?_
  refine aw_region ?_
  refine awl_val hτ rfl rfl rfl ?_
  refine awl_nil ?_
  refine aw_seq ?_
  refine aw_seq ?_
  refine aw_region ?_
  refine awl_val hτ rfl rfl rfl ?_
  refine awl_val hτ (v := .d (.int .i64 (list_.length : Int))) rfl rfl (Eq.trans rfl (or_len (f := eNatf32) list_)) ?_
  refine awl_val hτ rfl rfl rfl ?_
  refine awl_nil ?_
  refine aw_block ?_
  refine aw_loop (ι := Nat × Nat × Int) (fun (m13, v8, v9) => St.of [(3, .d (.fl .f32 v8)), (6, .d (.sl false (list_.map eNatf32))), (7, .d (.int .i64 (list_.length : Int))), (8, .d (.int .i64 v9))] [] f71.ntmps 0) (fun (m13, v8, v9) => m_impl_sum_l1 n list_ m13 v8 v9 = some r) (fun x => x.1) (n, (0 : Nat), (0 : Int)) h (weak_ofP [] (l := [(3, .d (.fl .f32 (0 : Nat))), (6, .d (.sl false (list_.map eNatf32))), (7, .d (.int .i64 (list_.length : Int))), (8, .d (.int .i64 (0 : Int)))]) (objs := []) rfl (by simp) rfl (by repeat' first | exact trivial | refine ⟨?_, ?_⟩) ⟨rfl, trivial, rfl, trivial, rfl, trivial, rfl, trivial, trivial⟩) ?_
  rintro ⟨m13, v8, v9⟩ h
  replace h : m_impl_sum_l1 n list_ m13 v8 v9 = some r := h
  rcases m13 with _ | m13
  · rw [m_impl_sum_l1] at h; cases h
  rw [m_impl_sum_l1] at h
  refine aw_seq ?_
  refine aw_region ?_
  refine awl_val hτ rfl rfl rfl ?_
  refine awl_nil ?_
  refine aw_seq ?_
  refine aw_cond rfl (fun hc15 => ?_) (fun hc15 => ?_)
  · have h := if_t h hc15
    refine aw_skip ?_
    refine aw_seq ?_
    refine aw_block ?_
    refine aw_seq ?_
    refine aw_region ?_
    refine bnd_elim h fun x16 hx16 h => ?_
    refine awl_elem hτ rfl rfl rfl (getI_some hx16).1 (map_getI hx16) rfl ?_
    refine awl_val hτ rfl rfl rfl ?_
    refine awl_val hτ rfl rfl rfl ?_
    refine awl_nil ?_
    refine aw_region ?_
    refine awl_val hτ rfl rfl rfl ?_
    refine awl_val hτ rfl rfl rfl ?_
    refine awl_val hτ rfl rfl rfl ?_
    refine awl_val hτ rfl rfl rfl ?_
    refine awl_nil ?_
    refine aw_weak (weak_ofP [] (l := [(3, .d (.fl .f32 (farith .add .f32 v8 x16))), (6, .d (.sl false (list_.map eNatf32))), (7, .d (.int .i64 (list_.length : Int))), (8, .d (.int .i64 v9))]) (objs := []) rfl (by simp) rfl (by repeat' first | exact trivial | refine ⟨?_, ?_⟩) ⟨rfl, trivial, rfl, trivial, rfl, trivial, rfl, trivial, trivial⟩) ?_
    refine aw_region ?_
    refine awl_val hτ rfl rfl rfl ?_
    refine awl_val hτ rfl rfl rfl ?_
    refine awl_nil ?_
    exact ⟨(m13, (farith .add .f32 v8 x16), (w64 (v9 + (1 : Int)))), h, Nat.lt_succ_self m13, (weak_ofP [] (l := [(3, .d (.fl .f32 (farith .add .f32 v8 x16))), (6, .d (.sl false (list_.map eNatf32))), (7, .d (.int .i64 (list_.length : Int))), (8, .d (.int .i64 (w64 (v9 + (1 : Int)))))]) (objs := []) rfl (by simp) rfl (by repeat' first | exact trivial | refine ⟨?_, ?_⟩) ⟨rfl, trivial, rfl, trivial, rfl, trivial, rfl, trivial, trivial⟩)⟩
  · have h := if_f h hc15
    refine aw_exit ?_
    refine aw_seq ?_
    refine aw_region ?_
    refine awl_val hτ rfl rfl rfl ?_
    refine awl_val hτ rfl rfl rfl ?_
    refine awl_nil ?_
    refine aw_weak (weak_ofP [] (l := [(2, .d (.fl .f32 v8))]) (objs := []) rfl (by simp) rfl (by repeat' first | exact trivial | refine ⟨?_, ?_⟩) ⟨rfl, trivial, trivial⟩) ?_
    refine aw_ret ?_
    have hr := Option.some.inj h
    subst hr
    exact ret_objs (.inr rfl) [] (objs' := []) (new := []) rfl (by simp) (by simp) rfl (by repeat' first | exact trivial | refine ⟨?_, ?_⟩) rfl rfl (by repeat' first | exact trivial | refine ⟨?_, ?_⟩) (fun _ => ⟨by simp [V.flat, V.flatA, V.flatC, D.flat], flat_nil⟩) ⟨rfl, rfl, rfl⟩
theorem impl_sum_ok (n : Nat) (list_ : List Nat) {r : Nat} (h : m_impl_sum n list_ = some r) : ACall prog false 71 [.d (.sl false (list_.map eNatf32))] [] (fun v o new => v = .d (.fl .f32 r) ∧ o = [] ∧ new = []) := impl_sum_ok_fr0 false n list_ h
theorem impl_sum_ok_fr (n : Nat) (list_ : List Nat) {r : Nat} (h : m_impl_sum n list_ = some r) : ACall prog true 71 [.d (.sl false (list_.map eNatf32))] [] (fun v o new => v = .d (.fl .f32 r) ∧ o = [] ∧ new = []) := impl_sum_ok_fr0 true n list_ h

def m_impl_SumNumbers (n : Nat) (list_ : List Nat) : Option (Nat × Bool) :=
  (m_impl_listOk n list_).bind fun x4 =>
  if x4 = true then
    (m_impl_sum n list_).bind fun x6 =>
    some (x6, true)
  else
    some ((0 : Nat), false)
theorem impl_SumNumbers_ok_fr0 (fr : Bool) (n : Nat) (list_ : List Nat) {r : Nat × Bool} (h : m_impl_SumNumbers n list_ = some r) : ACall prog fr 31 [.d (.sl false (list_.map eNatf32))] [] (fun v o new => v = .tup [.d (.fl .f32 r.1), .d (.bool r.2)] ∧ o = [] ∧ new = []) := by
  refine acall_of_aw hτ func31 rfl (by simp) (by simp) ?_
  unfold m_impl_SumNumbers at h
  refine aw_seq ?_
  refine aw_region ?_
  refine awl_val hτ rfl rfl rfl ?_
  refine awl_val hτ rfl rfl rfl ?_
  refine awl_nil ?_
  refine aw_seq ?_
  refine aw_seq ?_
  refine aw_region ?_
  refine awl_val hτ rfl rfl rfl ?_
  refine bnd_elim h fun x4 hx4 h => ?_
  refine awl_callP hτ false [] rfl rfl rfl (enterOk func70 rfl rfl) rfl rfl (by simp) ⟨trivial, trivial⟩ (by repeat' first | exact trivial | refine ⟨?_, ?_⟩) (impl_listOk_ok n list_ hx4) ?_
  rintro r0 o0 n0 ⟨rfl, rfl, rfl⟩ -
  refine awl_val hτ rfl rfl rfl ?_
  refine awl_nil ?_
  refine aw_cond rfl (fun hc5 => ?_) (fun hc5 => ?_)
  · have hc5 := not_t hc5
    have h := if_bf h hc5
    refine aw_seq ?_
    refine aw_region ?_
    refine awl_val hτ rfl rfl rfl ?_
    refine awl_val hτ rfl rfl rfl ?_
    refine awl_nil ?_
    refine aw_weak (weak_ofP [] (l := [(2, .d (.fl .f32 (0 : Nat))), (3, .d (.bool false))]) (objs := []) rfl (by simp) rfl (by repeat' first | exact trivial | refine ⟨?_, ?_⟩) ⟨rfl, trivial, rfl, trivial, trivial⟩) ?_
    refine aw_ret ?_
    have hr := Option.some.inj h
    subst hr
    exact ret_objs (.inr rfl) [] (objs' := []) (new := []) rfl (by simp) (by simp) rfl (by repeat' first | exact trivial | refine ⟨?_, ?_⟩) rfl rfl (by repeat' first | exact trivial | refine ⟨?_, ?_⟩) (fun _ => ⟨by simp [V.flat, V.flatA, V.flatC, D.flat], flat_nil⟩) ⟨rfl, rfl, rfl⟩
  · have hc5 := not_f hc5
    have h := if_bt h hc5
    refine aw_skip ?_
    refine aw_seq ?_
    refine aw_region ?_
    refine awl_val hτ rfl rfl rfl ?_
    refine bnd_elim h fun x6 hx6 h => ?_
    refine awl_callP hτ false [] rfl rfl rfl (enterOk func71 rfl rfl) rfl rfl (by simp) ⟨trivial, trivial⟩ (by repeat' first | exact trivial | refine ⟨?_, ?_⟩) (impl_sum_ok n list_ hx6) ?_
    rintro r0 o0 n0 ⟨rfl, rfl, rfl⟩ -
    refine awl_val hτ rfl rfl rfl ?_
    refine awl_val hτ rfl rfl rfl ?_
    refine awl_nil ?_
    refine aw_weak (weak_ofP [] (l := [(2, .d (.fl .f32 x6)), (3, .d (.bool true))]) (objs := []) rfl (by simp) rfl (by repeat' first | exact trivial | refine ⟨?_, ?_⟩) ⟨rfl, trivial, rfl, trivial, trivial⟩) ?_
    refine aw_ret ?_
    have hr := Option.some.inj h
    subst hr
    exact ret_objs (.inr rfl) [] (objs' := []) (new := []) rfl (by simp) (by simp) rfl (by repeat' first | exact trivial | refine ⟨?_, ?_⟩) rfl rfl (by repeat' first | exact trivial | refine ⟨?_, ?_⟩) (fun _ => ⟨by simp [V.flat, V.flatA, V.flatC, D.flat], flat_nil⟩) ⟨rfl, rfl, rfl⟩
theorem impl_SumNumbers_ok (n : Nat) (list_ : List Nat) {r : Nat × Bool} (h : m_impl_SumNumbers n list_ = some r) : ACall prog false 31 [.d (.sl false (list_.map eNatf32))] [] (fun v o new => v = .tup [.d (.fl .f32 r.1), .d (.bool r.2)] ∧ o = [] ∧ new = []) := impl_SumNumbers_ok_fr0 false n list_ h
theorem impl_SumNumbers_ok_fr (n : Nat) (list_ : List Nat) {r : Nat × Bool} (h : m_impl_SumNumbers n list_ = some r) : ACall prog true 31 [.d (.sl false (list_.map eNatf32))] [] (fun v o new => v = .tup [.d (.fl .f32 r.1), .d (.bool r.2)] ∧ o = [] ∧ new = []) := impl_SumNumbers_ok_fr0 true n list_ h

def m_impl_hexText_j1 (n : Nat) (v23 : List Int) : Option Str :=
  some (chars v23)
def m_impl_hexText_l2 (n : Nat) (x_ : Nat) : Nat → List Int → Int → Option Str
  | 0, _, _ => none
  | m36 + 1, v28, v29 =>
    if v29 ≥ (0 : Int) then
      (m_impl_BitsOf n x_).bind fun x39 =>
      grd (0 ≤ v29) <|
      (getI ([48, 49, 50, 51, 52, 53, 54, 55, 56, 57, 97, 98, 99, 100, 101, 102] : Str) (ibits .and .i64 (x39.fdiv (2 ^ min v29.toNat (IntKind.bits .i64))) (15 : Int))).bind fun x41 =>
      grd (room (v28.length + 1) 1) <|
      (m_impl_hexText_l2 n x_ m36) (v28 ++ [(x41.toNat : Int)]) (w64 (v29 - (4 : Int)))
    else
      m_impl_hexText_j1 n v28
def m_impl_hexText (n : Nat) (x_ : Nat) : Option Str :=
  m_impl_hexText_l2 n x_ n ([] : List Int) (28 : Int)
theorem impl_hexText_ok_fr0 (fr : Bool) (n : Nat) (x_ : Nat) {r : Str} (h : m_impl_hexText n x_ = some r) : ACall prog fr 52 [.d (.fl .f32 x_)] [] (fun v o new => v = .d (.str (bstr r)) ∧ o = [] ∧ new = []) := by
  refine acall_of_aw hτ func52 rfl (by simp) (by simp) ?_
  unfold m_impl_hexText at h
  refine aw_seq ?_
  refine aw_region ?_
  refine awl_val hτ rfl rfl rfl ?_
  refine awl_nil ?_
  refine aw_seq ?_
  refine aw_region ?_
  refine awl_valH hτ rfl rfl rfl ?_
  refine awl_val hτ rfl rfl rfl ?_
  refine awl_nil ?_
  refine aw_hk1 (ι := List Int) (fun v23 => St.of [(3, .row 0 v23.length 0 v23.length)] [.row 1 (v23.map eIntu8)] f52.ntmps 0) (fun v23 => m_impl_hexText_j1 n v23 = some r) ?_ (fun hk24 => ?_)
  · rintro v23 h
    replace h : m_impl_hexText_j1 n v23 = some r := h
    unfold m_impl_hexText_j1 at h
    refine aw_seq ?_
    refine aw_region ?_
    refine awl_val hτ rfl rfl rfl ?_
    refine awl_x rfl rfl (x_b2s hτ (f := eIntu8) (l := v23) rfl rfl rfl rfl rfl rfl rfl (fun _ => rfl) (slice_row v23 rfl rfl) ⟨len_map _, by omega⟩) ?_
    refine awl_val hτ rfl rfl rfl ?_
    refine awl_nil ?_
    refine aw_weak (weak_ofP [] (l := [(2, .d (.str (bstr (chars v23))))]) (objs := []) rfl (by simp) rfl (by repeat' first | exact trivial | refine ⟨?_, ?_⟩) ⟨rfl, trivial, trivial⟩) ?_
    refine aw_ret ?_
    have hr := Option.some.inj h
    subst hr
    exact ret_objs (.inr rfl) [] (objs' := []) (new := []) rfl (by simp) (by simp) rfl (by repeat' first | exact trivial | refine ⟨?_, ?_⟩) rfl rfl (by repeat' first | exact trivial | refine ⟨?_, ?_⟩) (fun _ => ⟨by simp [V.flat, V.flatA, V.flatC, D.flat], flat_nil⟩) ⟨rfl, rfl, rfl⟩
  · refine aw_seq ?_
    refine aw_seq ?_
    refine aw_region ?_
    refine awl_val hτ rfl rfl rfl ?_
    refine awl_nil ?_
    refine aw_block ?_
    refine aw_loop (ι := Nat × List Int × Int) (fun (m36, v28, v29) => St.of [(0, .d (.fl .f32 x_)), (3, .row 0 v28.length 0 v28.length), (4, .d (.int .i64 v29))] [.row 1 (v28.map eIntu8)] f52.ntmps 0) (fun (m36, v28, v29) => m_impl_hexText_l2 n x_ m36 v28 v29 = some r) (fun x => x.1) (n, ([] : List Int), (28 : Int)) h (weak_ofP [0] (l := [(0, .d (.fl .f32 x_)), (3, .row 0 (([] : List Int).length) 0 (([] : List Int).length)), (4, .d (.int .i64 (28 : Int)))]) (objs := [.row 1 (([] : List Int).map eIntu8)]) rfl (by simp) rfl (by repeat' first | exact trivial | refine ⟨?_, ?_⟩) ⟨rfl, trivial, rfl, trivial, rfl, trivial, trivial⟩) ?_
    rintro ⟨m36, v28, v29⟩ h
    replace h : m_impl_hexText_l2 n x_ m36 v28 v29 = some r := h
    rcases m36 with _ | m36
    · rw [m_impl_hexText_l2] at h; cases h
    rw [m_impl_hexText_l2] at h
    refine aw_seq ?_
    refine aw_seq ?_
    refine aw_region ?_
    refine awl_val hτ rfl rfl rfl ?_
    refine awl_val hτ rfl rfl rfl ?_
    refine awl_nil ?_
    refine aw_cond rfl (fun hc38 => ?_) (fun hc38 => ?_)
    · have h := if_t h hc38
      refine aw_skip ?_
      refine aw_seq ?_
      refine aw_block ?_
      refine aw_region ?_
      refine awl_val hτ rfl rfl rfl ?_
      refine awl_val hτ rfl rfl rfl ?_
      refine bnd_elim h fun x39 hx39 h => ?_
      refine awl_callP hτ false [] rfl rfl rfl (enterOk func22 rfl rfl) rfl rfl (by simp) ⟨trivial, trivial⟩ (by repeat' first | exact trivial | refine ⟨?_, ?_⟩) (impl_BitsOf_ok n x_ hx39) ?_
      rintro r0 o0 n0 ⟨rfl, rfl, rfl⟩ -
      refine awl_val hτ rfl rfl rfl ?_
      refine grd_elim h fun hg40 h => ?_
      refine awl_need hτ rfl rfl rfl hg40 ?_
      refine awl_val hτ rfl rfl rfl ?_
      refine bnd_elim h fun x41 hx41 h => ?_
      refine awl_need hτ (v := .d (.int .u8 (x41.toNat : Int))) rfl rfl (Eq.trans rfl (or_sidx hx41)) (sidx_need hx41) ?_
      refine awl_valH hτ rfl rfl rfl ?_
      refine grd_elim h fun hg42 h => ?_
      refine awl_needH hτ rfl rfl (Eq.trans rfl (or_append (f := eIntu8) v28 [(x41.toNat : Int)] rfl)) ⟨⟨rfl, Nat.le_of_ble_eq_true rfl⟩, len_map _, rfl, rfl, hg42, by decide, (all1 rfl)⟩ ?_
      refine awl_val hτ rfl rfl rfl ?_
      refine awl_nil ?_
      refine aw_weak (weak_ofP [0] (l := [(0, .d (.fl .f32 x_)), (3, .row 0 ((v28 ++ [(x41.toNat : Int)]).length) 0 ((v28 ++ [(x41.toNat : Int)]).length)), (4, .d (.int .i64 v29))]) (objs := [.row 1 ((v28 ++ [(x41.toNat : Int)]).map eIntu8)]) rfl (by simp) rfl (by repeat' first | exact trivial | refine ⟨?_, ?_⟩) ⟨rfl, trivial, rfl, trivial, rfl, trivial, trivial⟩) ?_
      refine aw_region ?_
      refine awl_val hτ rfl rfl rfl ?_
      refine awl_val hτ rfl rfl rfl ?_
      refine awl_val hτ rfl rfl rfl ?_
      refine awl_nil ?_
      exact ⟨(m36, (v28 ++ [(x41.toNat : Int)]), (w64 (v29 - (4 : Int)))), h, Nat.lt_succ_self m36, (weak_ofP [0] (l := [(0, .d (.fl .f32 x_)), (3, .row 0 ((v28 ++ [(x41.toNat : Int)]).length) 0 ((v28 ++ [(x41.toNat : Int)]).length)), (4, .d (.int .i64 (w64 (v29 - (4 : Int)))))]) (objs := [.row 1 ((v28 ++ [(x41.toNat : Int)]).map eIntu8)]) rfl (by simp) rfl (by repeat' first | exact trivial | refine ⟨?_, ?_⟩) ⟨rfl, trivial, rfl, trivial, rfl, trivial, trivial⟩)⟩
    · have h := if_f h hc38
      refine aw_exit ?_
      refine aw_weak (weak_ofP [0] (l := [(3, .row 0 v28.length 0 v28.length)]) (objs := [.row 1 (v28.map eIntu8)]) rfl (by simp) rfl (by repeat' first | exact trivial | refine ⟨?_, ?_⟩) ⟨rfl, trivial, trivial⟩) ?_
      exact hk24 v28 h
theorem impl_hexText_ok (n : Nat) (x_ : Nat) {r : Str} (h : m_impl_hexText n x_ = some r) : ACall prog false 52 [.d (.fl .f32 x_)] [] (fun v o new => v = .d (.str (bstr r)) ∧ o = [] ∧ new = []) := impl_hexText_ok_fr0 false n x_ h
theorem impl_hexText_ok_fr (n : Nat) (x_ : Nat) {r : Str} (h : m_impl_hexText n x_ = some r) : ACall prog true 52 [.d (.fl .f32 x_)] [] (fun v o new => v = .d (.str (bstr r)) ∧ o = [] ∧ new = []) := impl_hexText_ok_fr0 true n x_ h

def m_strings_Join (n : Nat) (l : List Str) (sep : Str) : Option Str := joinM l sep
theorem strings_Join_ok (n : Nat) (l : List Str) (sep : Str) {r : Str} (h : m_strings_Join n l sep = some r) : ACall prog false 92 [.d (.sl false (l.map eStr)), .d (.str (bstr sep))] [] (fun v o new => v = .d (.str (bstr r)) ∧ o = [] ∧ new = []) := join_does (fun _ => rfl) h
theorem strings_Join_ok_fr (n : Nat) (l : List Str) (sep : Str) {r : Str} (h : m_strings_Join n l sep = some r) : ACall prog true 92 [.d (.sl false (l.map eStr)), .d (.str (bstr sep))] [] (fun v o new => v = .d (.str (bstr r)) ∧ o = [] ∧ new = []) := join_does (fun _ => rfl) h

def m_impl_joined (n : Nat) (parts_ : List Str) : Option Str :=
  if (parts_.length : Int) = (0 : Int) then
    some ([110, 111, 110, 101] : Str)
  else
    (m_strings_Join n parts_ ([44] : Str)).bind fun x3 =>
    some x3
theorem impl_joined_ok_fr0 (fr : Bool) (n : Nat) (parts_ : List Str) {r : Str} (h : m_impl_joined n parts_ = some r) : ACall prog fr 53 [.d (.sl false (parts_.map eStr))] [] (fun v o new => v = .d (.str (bstr r)) ∧ o = [] ∧ new = []) := by
  refine acall_of_aw hτ func53 rfl (by simp) (by simp) ?_
  unfold m_impl_joined at h
  refine aw_seq ?_
  refine aw_region ?_
  refine awl_val hτ rfl rfl rfl ?_
  refine awl_nil ?_
  refine aw_seq ?_
  refine aw_seq ?_
  refine aw_region ?_
  refine awl_val hτ rfl rfl rfl ?_
  refine awl_val hτ (v := .d (.int .i64 (parts_.length : Int))) rfl rfl (Eq.trans rfl (or_len (f := eStr) parts_)) ?_
  refine awl_val hτ (v := .d (.bool (decide ((parts_.length : Int) = (0 : Int))))) rfl rfl (or_ieq _ _) ?_
  refine awl_nil ?_
  refine aw_cond rfl (fun hc2 => ?_) (fun hc2 => ?_)
  · have h := if_t h hc2
    refine aw_seq ?_
    refine aw_region ?_
    refine awl_val hτ rfl rfl rfl ?_
    refine awl_nil ?_
    refine aw_weak (weak_ofP [] (l := [(2, .d (.str (bstr ([110, 111, 110, 101] : Str))))]) (objs := []) rfl (by simp) rfl (by repeat' first | exact trivial | refine ⟨?_, ?_⟩) ⟨rfl, trivial, trivial⟩) ?_
    refine aw_ret ?_
    have hr := Option.some.inj h
    subst hr
    exact ret_objs (.inr rfl) [] (objs' := []) (new := []) rfl (by simp) (by simp) rfl (by repeat' first | exact trivial | refine ⟨?_, ?_⟩) rfl rfl (by repeat' first | exact trivial | refine ⟨?_, ?_⟩) (fun _ => ⟨by simp [V.flat, V.flatA, V.flatC, D.flat], flat_nil⟩) ⟨rfl, rfl, rfl⟩
  · have h := if_f h hc2
    refine aw_skip ?_
    refine aw_seq ?_
    refine aw_region ?_
    refine awl_val hτ rfl rfl rfl ?_
    refine bnd_elim h fun x3 hx3 h => ?_
    refine awl_callP hτ false [] rfl rfl rfl (enterOk func92 rfl rfl) rfl rfl (by simp) ⟨trivial, trivial, trivial⟩ (by repeat' first | exact trivial | refine ⟨?_, ?_⟩) (strings_Join_ok n parts_ ([44] : Str) hx3) ?_
    rintro r0 o0 n0 ⟨rfl, rfl, rfl⟩ -
    refine awl_val hτ rfl rfl rfl ?_
    refine awl_nil ?_
    refine aw_weak (weak_ofP [] (l := [(2, .d (.str (bstr x3)))]) (objs := []) rfl (by simp) rfl (by repeat' first | exact trivial | refine ⟨?_, ?_⟩) ⟨rfl, trivial, trivial⟩) ?_
    refine aw_ret ?_
    have hr := Option.some.inj h
    subst hr
    exact ret_objs (.inr rfl) [] (objs' := []) (new := []) rfl (by simp) (by simp) rfl (by repeat' first | exact trivial | refine ⟨?_, ?_⟩) rfl rfl (by repeat' first | exact trivial | refine ⟨?_, ?_⟩) (fun _ => ⟨by simp [V.flat, V.flatA, V.flatC, D.flat], flat_nil⟩) ⟨rfl, rfl, rfl⟩
theorem impl_joined_ok (n : Nat) (parts_ : List Str) {r : Str} (h : m_impl_joined n parts_ = some r) : ACall prog false 53 [.d (.sl false (parts_.map eStr))] [] (fun v o new => v = .d (.str (bstr r)) ∧ o = [] ∧ new = []) := impl_joined_ok_fr0 false n parts_ h
theorem impl_joined_ok_fr (n : Nat) (parts_ : List Str) {r : Str} (h : m_impl_joined n parts_ = some r) : ACall prog true 53 [.d (.sl false (parts_.map eStr))] [] (fun v o new => v = .d (.str (bstr r)) ∧ o = [] ∧ new = []) := impl_joined_ok_fr0 true n parts_ h

def m_impl_NumbersText_j1 (n : Nat) (v26 : List Str) : Option (Str × Bool) :=
  (m_impl_joined n v26).bind fun x27 =>
  some (x27, true)
def m_impl_NumbersText_l2 (n : Nat) (list_ : List Nat) : Nat → List Str → Int → Option (Str × Bool)
  | 0, _, _ => none
  | m39 + 1, v32, v33 =>
    if v33 < (list_.length : Int) then
      (getI list_ v33).bind fun x42 =>
      (m_impl_hexText n x42).bind fun x43 =>
      grd (room (v32.length + 1) 16) <|
      (m_impl_NumbersText_l2 n list_ m39) (v32 ++ [x43]) (w64 (v33 + (1 : Int)))
    else
      m_impl_NumbersText_j1 n v32
def m_impl_NumbersText (n : Nat) (list_ : List Nat) : Option (Str × Bool) :=
  (m_impl_listOk n list_).bind fun x14 =>
  if x14 = true then
    m_impl_NumbersText_l2 n list_ n ([] : List Str) (0 : Int)
  else
    some (([] : Str), false)
theorem impl_NumbersText_ok_fr0 (fr : Bool) (n : Nat) (list_ : List Nat) {r : Str × Bool} (h : m_impl_NumbersText n list_ = some r) : ACall prog fr 32 [.d (.sl false (list_.map eNatf32))] [] (fun v o new => v = .tup [.d (.str (bstr r.1)), .d (.bool r.2)] ∧ o = [] ∧ new = []) := by
  refine acall_of_aw hτ func32 rfl (by simp) (by simp) ?_
  unfold m_impl_NumbersText at h
  refine aw_seq ?_
  refine aw_region ?_
  refine awl_val hτ rfl rfl rfl ?_
  refine awl_val hτ rfl rfl rfl ?_
  refine awl_nil ?_
  refine aw_seq ?_
  refine aw_seq ?_
  refine aw_region ?_
  refine awl_val hτ rfl rfl rfl ?_
  refine bnd_elim h fun x14 hx14 h => ?_
  refine awl_callP hτ false [] rfl rfl rfl (enterOk func70 rfl rfl) rfl rfl (by simp) ⟨trivial, trivial⟩ (by repeat' first | exact trivial | refine ⟨?_, ?_⟩) (impl_listOk_ok n list_ hx14) ?_
  rintro r0 o0 n0 ⟨rfl, rfl, rfl⟩ -
  refine awl_val hτ rfl rfl rfl ?_
  refine awl_nil ?_
  refine aw_cond rfl (fun hc15 => ?_) (fun hc15 => ?_)
  · have hc15 := not_t hc15
    have h := if_bf h hc15
    refine aw_seq ?_
    refine aw_region ?_
    refine awl_val hτ rfl rfl rfl ?_
    refine awl_val hτ rfl rfl rfl ?_
    refine awl_nil ?_
    refine aw_weak (weak_ofP [] (l := [(2, .d (.str (bstr ([] : Str)))), (3, .d (.bool false))]) (objs := []) rfl (by simp) rfl (by repeat' first | exact trivial | refine ⟨?_, ?_⟩) ⟨rfl, trivial, rfl, trivial, trivial⟩) ?_
    refine aw_ret ?_
    have hr := Option.some.inj h
    subst hr
    exact ret_objs (.inr rfl) [] (objs' := []) (new := []) rfl (by simp) (by simp) rfl (by repeat' first | exact trivial | refine ⟨?_, ?_⟩) rfl rfl (by repeat' first | exact trivial | refine ⟨?_, ?_⟩) (fun _ => ⟨by simp [V.flat, V.flatA, V.flatC, D.flat], flat_nil⟩) ⟨rfl, rfl, rfl⟩
  · have hc15 := not_f hc15
    have h := if_bt h hc15
    refine aw_skip ?_
    refine aw_seq ?_
    refine aw_region ?_
    refine awl_valH hτ rfl rfl rfl ?_
    refine awl_val hτ rfl rfl rfl ?_
    refine awl_nil ?_
    refine aw_hk1 (ι := List Str) (fun v26 => St.of [(4, .row 0 v26.length 0 v26.length)] [.row 1 (v26.map eStr)] f32.ntmps 0) (fun v26 => m_impl_NumbersText_j1 n v26 = some r) ?_ (fun hk28 => ?_)
    · rintro v26 h
      replace h : m_impl_NumbersText_j1 n v26 = some r := h
      unfold m_impl_NumbersText_j1 at h
      refine aw_seq ?_
      refine aw_region ?_
      refine awl_val hτ rfl rfl rfl ?_
      refine awl_weak (weak_ofP [0] (l := [(23, .row 0 v26.length 0 v26.length)]) (objs := [.row 1 (v26.map eStr)]) rfl (by simp) rfl (by repeat' first | exact trivial | refine ⟨?_, ?_⟩) ⟨rfl, trivial, trivial⟩) ?_
      refine bnd_elim h fun x27 hx27 h => ?_
      refine awl_callP hτ true [] rfl rfl rfl (enterOk func53 rfl rfl) (mapO_cons (exV_view (f := eStr) v26 rfl rfl rfl) mapO_nil) rfl (by simp) ⟨(exVP_view (f := eStr) v26 rfl rfl rfl), trivial⟩ (by repeat' first | exact trivial | refine ⟨?_, ?_⟩) (impl_joined_ok_fr n v26 hx27) ?_
      rintro r0 o0 n0 ⟨rfl, rfl, rfl⟩ -
      refine awl_val hτ rfl rfl rfl ?_
      refine awl_val hτ rfl rfl rfl ?_
      refine awl_nil ?_
      refine aw_weak (weak_ofP [] (l := [(2, .d (.str (bstr x27))), (3, .d (.bool true))]) (objs := []) rfl (by simp) rfl (by repeat' first | exact trivial | refine ⟨?_, ?_⟩) ⟨rfl, trivial, rfl, trivial, trivial⟩) ?_
      refine aw_ret ?_
      have hr := Option.some.inj h
      subst hr
      exact ret_objs (.inr rfl) [] (objs' := []) (new := []) rfl (by simp) (by simp) rfl (by repeat' first | exact trivial | refine ⟨?_, ?_⟩) rfl rfl (by repeat' first | exact trivial | refine ⟨?_, ?_⟩) (fun _ => ⟨by simp [V.flat, V.flatA, V.flatC, D.flat], flat_nil⟩) ⟨rfl, rfl, rfl⟩
    · refine aw_seq ?_
      refine aw_seq ?_
      refine aw_weak (weak_ofP [0] (l := [(0, .d (.sl false (list_.map eNatf32))), (4, .row 0 (([] : List Str).length) 0 (([] : List Str).length))]) (objs := [.row 1 (([] : List Str).map eStr)]) rfl (by simp) rfl (by repeat' first | exact trivial | refine ⟨?_, ?_⟩) ⟨rfl, trivial, rfl, trivial, trivial⟩) ?_
      refine aw_region ?_
      refine awl_val hτ rfl rfl rfl ?_
      refine awl_val hτ (v := .d (.int .i64 (list_.length : Int))) rfl rfl (Eq.trans rfl (or_len (f := eNatf32) list_)) ?_
      refine awl_val hτ rfl rfl rfl ?_
      refine awl_nil ?_
      refine aw_block ?_
      refine aw_loop (ι := Nat × List Str × Int) (fun (m39, v32, v33) => St.of [(4, .row 0 v32.length 0 v32.length), (11, .d (.sl false (list_.map eNatf32))), (12, .d (.int .i64 (list_.length : Int))), (13, .d (.int .i64 v33))] [.row 1 (v32.map eStr)] f32.ntmps 0) (fun (m39, v32, v33) => m_impl_NumbersText_l2 n list_ m39 v32 v33 = some r) (fun x => x.1) (n, ([] : List Str), (0 : Int)) h (weak_ofP [0] (l := [(4, .row 0 (([] : List Str).length) 0 (([] : List Str).length)), (11, .d (.sl false (list_.map eNatf32))), (12, .d (.int .i64 (list_.length : Int))), (13, .d (.int .i64 (0 : Int)))]) (objs := [.row 1 (([] : List Str).map eStr)]) rfl (by simp) rfl (by repeat' first | exact trivial | refine ⟨?_, ?_⟩) ⟨rfl, trivial, rfl, trivial, rfl, trivial, rfl, trivial, trivial⟩) ?_
      rintro ⟨m39, v32, v33⟩ h
      replace h : m_impl_NumbersText_l2 n list_ m39 v32 v33 = some r := h
      rcases m39 with _ | m39
      · rw [m_impl_NumbersText_l2] at h; cases h
      rw [m_impl_NumbersText_l2] at h
      refine aw_seq ?_
      refine aw_region ?_
      refine awl_val hτ rfl rfl rfl ?_
      refine awl_nil ?_
      refine aw_seq ?_
      refine aw_cond rfl (fun hc41 => ?_) (fun hc41 => ?_)
      · have h := if_t h hc41
        refine aw_skip ?_
        refine aw_seq ?_
        refine aw_block ?_
        refine aw_seq ?_
        refine aw_region ?_
        refine bnd_elim h fun x42 hx42 h => ?_
        refine awl_elem hτ rfl rfl rfl (getI_some hx42).1 (map_getI hx42) rfl ?_
        refine awl_val hτ rfl rfl rfl ?_
        refine awl_val hτ rfl rfl rfl ?_
        refine awl_nil ?_
        refine aw_region ?_
        refine awl_val hτ rfl rfl rfl ?_
        refine awl_val hτ rfl rfl rfl ?_
        refine bnd_elim h fun x43 hx43 h => ?_
        refine awl_callP hτ false [] rfl rfl rfl (enterOk func52 rfl rfl) rfl rfl (by simp) ⟨trivial, trivial⟩ (by repeat' first | exact trivial | refine ⟨?_, ?_⟩) (impl_hexText_ok n x42 hx43) ?_
        rintro r0 o0 n0 ⟨rfl, rfl, rfl⟩ -
        refine awl_valH hτ rfl rfl rfl ?_
        refine grd_elim h fun hg44 h => ?_
        refine awl_needH hτ rfl rfl (Eq.trans rfl (or_append (f := eStr) v32 [x43] rfl)) ⟨⟨rfl, Nat.le_of_ble_eq_true rfl⟩, len_map _, rfl, rfl, hg44, by decide, (all1 rfl)⟩ ?_
        refine awl_val hτ rfl rfl rfl ?_
        refine awl_nil ?_
        refine aw_weak (weak_ofP [0] (l := [(4, .row 0 ((v32 ++ [x43]).length) 0 ((v32 ++ [x43]).length)), (11, .d (.sl false (list_.map eNatf32))), (12, .d (.int .i64 (list_.length : Int))), (13, .d (.int .i64 v33))]) (objs := [.row 1 ((v32 ++ [x43]).map eStr)]) rfl (by simp) rfl (by repeat' first | exact trivial | refine ⟨?_, ?_⟩) ⟨rfl, trivial, rfl, trivial, rfl, trivial, rfl, trivial, trivial⟩) ?_
        refine aw_region ?_
        refine awl_val hτ rfl rfl rfl ?_
        refine awl_val hτ rfl rfl rfl ?_
        refine awl_nil ?_
        exact ⟨(m39, (v32 ++ [x43]), (w64 (v33 + (1 : Int)))), h, Nat.lt_succ_self m39, (weak_ofP [0] (l := [(4, .row 0 ((v32 ++ [x43]).length) 0 ((v32 ++ [x43]).length)), (11, .d (.sl false (list_.map eNatf32))), (12, .d (.int .i64 (list_.length : Int))), (13, .d (.int .i64 (w64 (v33 + (1 : Int)))))]) (objs := [.row 1 ((v32 ++ [x43]).map eStr)]) rfl (by simp) rfl (by repeat' first | exact trivial | refine ⟨?_, ?_⟩) ⟨rfl, trivial, rfl, trivial, rfl, trivial, rfl, trivial, trivial⟩)⟩
      · have h := if_f h hc41
        refine aw_exit ?_
        refine aw_weak (weak_ofP [0] (l := [(4, .row 0 v32.length 0 v32.length)]) (objs := [.row 1 (v32.map eStr)]) rfl (by simp) rfl (by repeat' first | exact trivial | refine ⟨?_, ?_⟩) ⟨rfl, trivial, trivial⟩) ?_
        exact hk28 v32 h
theorem impl_NumbersText_ok (n : Nat) (list_ : List Nat) {r : Str × Bool} (h : m_impl_NumbersText n list_ = some r) : ACall prog false 32 [.d (.sl false (list_.map eNatf32))] [] (fun v o new => v = .tup [.d (.str (bstr r.1)), .d (.bool r.2)] ∧ o = [] ∧ new = []) := impl_NumbersText_ok_fr0 false n list_ h
theorem impl_NumbersText_ok_fr (n : Nat) (list_ : List Nat) {r : Str × Bool} (h : m_impl_NumbersText n list_ = some r) : ACall prog true 32 [.d (.sl false (list_.map eNatf32))] [] (fun v o new => v = .tup [.d (.str (bstr r.1)), .d (.bool r.2)] ∧ o = [] ∧ new = []) := impl_NumbersText_ok_fr0 true n list_ h

def m_stringslite_IndexByte (n : Nat) (s_ : Str) (c_ : Int) : Option Int :=
  some (idxB s_ c_)
theorem stringslite_IndexByte_ok_fr0 (fr : Bool) (n : Nat) (s_ : Str) (c_ : Int) {r : Int} (h : m_stringslite_IndexByte n s_ c_ = some r) : ACall prog fr 116 [.d (.str (bstr s_)), .d (.int .u8 c_)] [] (fun v o new => v = .d (.int .i64 r) ∧ o = [] ∧ new = []) := by
  refine acall_of_aw hτ func116 rfl (by simp) (by simp) ?_
  unfold m_stringslite_IndexByte at h
  refine aw_seq ?_
  refine aw_region ?_
  refine awl_val hτ rfl rfl rfl ?_
  refine awl_nil ?_
  refine aw_seq ?_
  refine aw_region ?_
  refine awl_val hτ rfl rfl rfl ?_
  refine awl_val hτ rfl rfl rfl ?_
  refine awl_ext hτ rfl rfl rfl ext132 ?_
  refine awl_val hτ rfl rfl rfl ?_
  refine awl_nil ?_
  refine aw_weak (weak_ofP [] (l := [(4, .d (.int .i64 (idxB s_ c_)))]) (objs := []) rfl (by simp) rfl (by repeat' first | exact trivial | refine ⟨?_, ?_⟩) ⟨rfl, trivial, trivial⟩) ?_
  refine aw_ret ?_
  have hr := Option.some.inj h
  subst hr
  exact ret_objs (.inr rfl) [] (objs' := []) (new := []) rfl (by simp) (by simp) rfl (by repeat' first | exact trivial | refine ⟨?_, ?_⟩) rfl rfl (by repeat' first | exact trivial | refine ⟨?_, ?_⟩) (fun _ => ⟨by simp [V.flat, V.flatA, V.flatC, D.flat], flat_nil⟩) ⟨rfl, rfl, rfl⟩
theorem stringslite_IndexByte_ok (n : Nat) (s_ : Str) (c_ : Int) {r : Int} (h : m_stringslite_IndexByte n s_ c_ = some r) : ACall prog false 116 [.d (.str (bstr s_)), .d (.int .u8 c_)] [] (fun v o new => v = .d (.int .i64 r) ∧ o = [] ∧ new = []) := stringslite_IndexByte_ok_fr0 false n s_ c_ h
theorem stringslite_IndexByte_ok_fr (n : Nat) (s_ : Str) (c_ : Int) {r : Int} (h : m_stringslite_IndexByte n s_ c_ = some r) : ACall prog true 116 [.d (.str (bstr s_)), .d (.int .u8 c_)] [] (fun v o new => v = .d (.int .i64 r) ∧ o = [] ∧ new = []) := stringslite_IndexByte_ok_fr0 true n s_ c_ h

def m_stringslite_Index_j1 (n : Nat) (s_ : Str) (substr_ : Str) (v11 : Bool) : Option Int :=
  if v11 = true then
    some (0 : Int)
  else
    if (substr_.length : Int) = (1 : Int) then
      (getI substr_ (0 : Int)).bind fun x14 =>
      (m_stringslite_IndexByte n s_ (x14.toNat : Int)).bind fun x15 =>
      some x15
    else
      if (substr_.length : Int) ≥ (s_.length : Int) then
        some (-1 : Int)
      else
        none
def m_stringslite_Index (n : Nat) (s_ : Str) (substr_ : Str) : Option Int :=
  if (substr_.length : Int) = (0 : Int) then
    m_stringslite_Index_j1 n s_ substr_ true
  else
    m_stringslite_Index_j1 n s_ substr_ (decide (substr_ = s_))
theorem stringslite_Index_ok_fr0 (fr : Bool) (n : Nat) (s_ : Str) (substr_ : Str) {r : Int} (h : m_stringslite_Index n s_ substr_ = some r) : ACall prog fr 129 [.d (.str (bstr s_)), .d (.str (bstr substr_))] [] (fun v o new => v = .d (.int .i64 r) ∧ o = [] ∧ new = []) := by
  refine acall_of_aw hτ func129 rfl (by simp) (by simp) ?_
  unfold m_stringslite_Index at h
  refine aw_seq ?_
  refine aw_region ?_
  refine awl_val hτ rfl rfl rfl ?_
  refine awl_nil ?_
  refine aw_seq ?_
  refine aw_region ?_
  refine awl_val hτ rfl rfl rfl ?_
  refine awl_val hτ rfl rfl rfl ?_
  refine awl_val hτ rfl rfl rfl ?_
  refine awl_nil ?_
  refine aw_seq ?_
  refine aw_block ?_
  refine aw_hk1 (ι := Bool) (fun v11 => St.of [(0, .d (.str (bstr s_))), (1, .d (.str (bstr substr_))), (5, .d (.int .i64 (substr_.length : Int))), (16, .d (.bool v11))] [] f129.ntmps 0) (fun v11 => m_stringslite_Index_j1 n s_ substr_ v11 = some r) ?_ (fun hk17 => ?_)
  · rintro v11 h
    replace h : m_stringslite_Index_j1 n s_ substr_ v11 = some r := h
    unfold m_stringslite_Index_j1 at h
    refine aw_cond rfl (fun hc12 => ?_) (fun hc12 => ?_)
    · have h := if_bt h hc12
      refine aw_seq ?_
      refine aw_region ?_
      refine awl_val hτ rfl rfl rfl ?_
      refine awl_nil ?_
      refine aw_weak (weak_ofP [] (l := [(4, .d (.int .i64 (0 : Int)))]) (objs := []) rfl (by simp) rfl (by repeat' first | exact trivial | refine ⟨?_, ?_⟩) ⟨rfl, trivial, trivial⟩) ?_
      refine aw_ret ?_
      have hr := Option.some.inj h
      subst hr
      exact ret_objs (.inr rfl) [] (objs' := []) (new := []) rfl (by simp) (by simp) rfl (by repeat' first | exact trivial | refine ⟨?_, ?_⟩) rfl rfl (by repeat' first | exact trivial | refine ⟨?_, ?_⟩) (fun _ => ⟨by simp [V.flat, V.flatA, V.flatC, D.flat], flat_nil⟩) ⟨rfl, rfl, rfl⟩
    · have h := if_bf h hc12
      refine aw_seq ?_
      refine aw_region ?_
      refine awl_val hτ rfl rfl rfl ?_
      refine awl_val hτ (v := .d (.bool (decide ((substr_.length : Int) = (1 : Int))))) rfl rfl (or_ieq _ _) ?_
      refine awl_val hτ rfl rfl rfl ?_
      refine awl_nil ?_
      refine aw_cond rfl (fun hc13 => ?_) (fun hc13 => ?_)
      · have h := if_t h hc13
        refine aw_seq ?_
        refine aw_region ?_
        refine awl_val hτ rfl rfl rfl ?_
        refine awl_val hτ rfl rfl rfl ?_
        refine bnd_elim h fun x14 hx14 h => ?_
        refine awl_need hτ (v := .d (.int .u8 (x14.toNat : Int))) rfl rfl (Eq.trans rfl (or_sidx hx14)) (sidx_need hx14) ?_
        refine bnd_elim h fun x15 hx15 h => ?_
        refine awl_callP hτ false [] rfl rfl rfl (enterOk func116 rfl rfl) rfl rfl (by simp) ⟨trivial, trivial, trivial⟩ (by repeat' first | exact trivial | refine ⟨?_, ?_⟩) (stringslite_IndexByte_ok n s_ (x14.toNat : Int) hx15) ?_
        rintro r0 o0 n0 ⟨rfl, rfl, rfl⟩ -
        refine awl_val hτ rfl rfl rfl ?_
        refine awl_nil ?_
        refine aw_weak (weak_ofP [] (l := [(4, .d (.int .i64 x15))]) (objs := []) rfl (by simp) rfl (by repeat' first | exact trivial | refine ⟨?_, ?_⟩) ⟨rfl, trivial, trivial⟩) ?_
        refine aw_ret ?_
        have hr := Option.some.inj h
        subst hr
        exact ret_objs (.inr rfl) [] (objs' := []) (new := []) rfl (by simp) (by simp) rfl (by repeat' first | exact trivial | refine ⟨?_, ?_⟩) rfl rfl (by repeat' first | exact trivial | refine ⟨?_, ?_⟩) (fun _ => ⟨by simp [V.flat, V.flatA, V.flatC, D.flat], flat_nil⟩) ⟨rfl, rfl, rfl⟩
      · have h := if_f h hc13
        refine aw_seq ?_
        refine aw_region ?_
        refine awl_val hτ rfl rfl rfl ?_
        refine awl_val hτ rfl rfl rfl ?_
        refine awl_val hτ rfl rfl rfl ?_
        refine awl_val hτ rfl rfl rfl ?_
        refine awl_val hτ rfl rfl rfl ?_
        refine awl_nil ?_
        refine aw_weak (weak_ofP [] (l := [(0, .d (.str (bstr s_))), (1, .d (.str (bstr substr_))), (5, .d (.int .i64 (substr_.length : Int))), (31, .d (.bool (decide ((substr_.length : Int) ≥ (s_.length : Int)))))]) (objs := []) rfl (by simp) rfl (by repeat' first | exact trivial | refine ⟨?_, ?_⟩) ⟨rfl, trivial, rfl, trivial, rfl, trivial, rfl, trivial, trivial⟩) ?_
        refine aw_cond rfl (fun hc16 => ?_) (fun hc16 => ?_)
        · have h := if_t h hc16
          refine aw_seq ?_
          refine aw_region ?_
          refine awl_val hτ rfl rfl rfl ?_
          refine awl_nil ?_
          refine aw_weak (weak_ofP [] (l := [(4, .d (.int .i64 (-1 : Int)))]) (objs := []) rfl (by simp) rfl (by repeat' first | exact trivial | refine ⟨?_, ?_⟩) ⟨rfl, trivial, trivial⟩) ?_
          refine aw_ret ?_
          have hr := Option.some.inj h
          subst hr
          exact ret_objs (.inr rfl) [] (objs' := []) (new := []) rfl (by simp) (by simp) rfl (by repeat' first | exact trivial | refine ⟨?_, ?_⟩) rfl rfl (by repeat' first | exact trivial | refine ⟨?_, ?_⟩) (fun _ => ⟨by simp [V.flat, V.flatA, V.flatC, D.flat], flat_nil⟩) ⟨rfl, rfl, rfl⟩
        · have h := if_f h hc16
          refine aw_seq ?_
          refine aw_region ?_
          refine awl_val hτ rfl rfl rfl ?_
          exact nomatch h
  · refine aw_seq ?_
    refine aw_region ?_
    refine awl_val hτ rfl rfl rfl ?_
    refine awl_val hτ (v := .d (.bool (decide ((substr_.length : Int) = (0 : Int))))) rfl rfl (or_ieq _ _) ?_
    refine awl_val hτ rfl rfl rfl ?_
    refine awl_split 19 rfl (fun hb18 => ?_) (fun hb18 => ?_)
    · have h := if_t h hb18
      refine awl_skip rfl rfl ?_
      refine awl_skip rfl rfl ?_
      refine awl_skip rfl rfl ?_
      refine awl_val hτ rfl rfl rfl ?_
      refine awl_val hτ rfl rfl rfl ?_
      refine awl_nil ?_
      refine aw_weak (weak_ofP [] (l := [(0, .d (.str (bstr s_))), (1, .d (.str (bstr substr_))), (5, .d (.int .i64 (substr_.length : Int))), (16, .d (.bool true))]) (objs := []) rfl (by simp) rfl (by repeat' first | exact trivial | refine ⟨?_, ?_⟩) ⟨rfl, trivial, rfl, trivial, rfl, trivial, rfl, trivial, trivial⟩) ?_
      exact hk17 true h
    · have h := if_f h hb18
      refine awl_val hτ rfl rfl rfl ?_
      refine awl_val hτ rfl rfl rfl ?_
      refine awl_val hτ (v := .d (.bool (decide (substr_ = s_)))) rfl rfl (or_seq _ _) ?_
      refine awl_val hτ rfl rfl rfl ?_
      refine awl_val hτ rfl rfl rfl ?_
      refine awl_nil ?_
      refine aw_weak (weak_ofP [] (l := [(0, .d (.str (bstr s_))), (1, .d (.str (bstr substr_))), (5, .d (.int .i64 (substr_.length : Int))), (16, .d (.bool (decide (substr_ = s_))))]) (objs := []) rfl (by simp) rfl (by repeat' first | exact trivial | refine ⟨?_, ?_⟩) ⟨rfl, trivial, rfl, trivial, rfl, trivial, rfl, trivial, trivial⟩) ?_
      exact hk17 (decide (substr_ = s_)) h
theorem stringslite_Index_ok (n : Nat) (s_ : Str) (substr_ : Str) {r : Int} (h : m_stringslite_Index n s_ substr_ = some r) : ACall prog false 129 [.d (.str (bstr s_)), .d (.str (bstr substr_))] [] (fun v o new => v = .d (.int .i64 r) ∧ o = [] ∧ new = []) := stringslite_Index_ok_fr0 false n s_ substr_ h
theorem stringslite_Index_ok_fr (n : Nat) (s_ : Str) (substr_ : Str) {r : Int} (h : m_stringslite_Index n s_ substr_ = some r) : ACall prog true 129 [.d (.str (bstr s_)), .d (.str (bstr substr_))] [] (fun v o new => v = .d (.int .i64 r) ∧ o = [] ∧ new = []) := stringslite_Index_ok_fr0 true n s_ substr_ h

def m_strings_Index (n : Nat) (s_ : Str) (substr_ : Str) : Option Int :=
  (m_stringslite_Index n s_ substr_).bind fun x2 =>
  some x2
theorem strings_Index_ok_fr0 (fr : Bool) (n : Nat) (s_ : Str) (substr_ : Str) {r : Int} (h : m_strings_Index n s_ substr_ = some r) : ACall prog fr 113 [.d (.str (bstr s_)), .d (.str (bstr substr_))] [] (fun v o new => v = .d (.int .i64 r) ∧ o = [] ∧ new = []) := by
  refine acall_of_aw hτ func113 rfl (by simp) (by simp) ?_
  unfold m_strings_Index at h
  refine aw_seq ?_
  refine aw_region ?_
  refine awl_val hτ rfl rfl rfl ?_
  refine awl_nil ?_
  refine aw_seq ?_
  refine aw_region ?_
  refine awl_val hτ rfl rfl rfl ?_
  refine awl_val hτ rfl rfl rfl ?_
  refine bnd_elim h fun x2 hx2 h => ?_
  refine awl_callP hτ false [] rfl rfl rfl (enterOk func129 rfl rfl) rfl rfl (by simp) ⟨trivial, trivial, trivial⟩ (by repeat' first | exact trivial | refine ⟨?_, ?_⟩) (stringslite_Index_ok n s_ substr_ hx2) ?_
  rintro r0 o0 n0 ⟨rfl, rfl, rfl⟩ -
  refine awl_val hτ rfl rfl rfl ?_
  refine awl_nil ?_
  refine aw_weak (weak_ofP [] (l := [(4, .d (.int .i64 x2))]) (objs := []) rfl (by simp) rfl (by repeat' first | exact trivial | refine ⟨?_, ?_⟩) ⟨rfl, trivial, trivial⟩) ?_
  refine aw_ret ?_
  have hr := Option.some.inj h
  subst hr
  exact ret_objs (.inr rfl) [] (objs' := []) (new := []) rfl (by simp) (by simp) rfl (by repeat' first | exact trivial | refine ⟨?_, ?_⟩) rfl rfl (by repeat' first | exact trivial | refine ⟨?_, ?_⟩) (fun _ => ⟨by simp [V.flat, V.flatA, V.flatC, D.flat], flat_nil⟩) ⟨rfl, rfl, rfl⟩
theorem strings_Index_ok (n : Nat) (s_ : Str) (substr_ : Str) {r : Int} (h : m_strings_Index n s_ substr_ = some r) : ACall prog false 113 [.d (.str (bstr s_)), .d (.str (bstr substr_))] [] (fun v o new => v = .d (.int .i64 r) ∧ o = [] ∧ new = []) := strings_Index_ok_fr0 false n s_ substr_ h
theorem strings_Index_ok_fr (n : Nat) (s_ : Str) (substr_ : Str) {r : Int} (h : m_strings_Index n s_ substr_ = some r) : ACall prog true 113 [.d (.str (bstr s_)), .d (.str (bstr substr_))] [] (fun v o new => v = .d (.int .i64 r) ∧ o = [] ∧ new = []) := strings_Index_ok_fr0 true n s_ substr_ h

def m_strings_Count_l1 (n : Nat) (substr_ : Str) : Nat → Str → Int → Option Int
  | 0, _, _ => none
  | m22 + 1, v16, v17 =>
    (m_strings_Index n v16 substr_).bind fun x24 =>
    if x24 = (-1 : Int) then
      some v17
    else
      grd (0 ≤ (w64 (x24 + (substr_.length : Int))) ∧ (w64 (x24 + (substr_.length : Int))) ≤ (v16.length : Int) ∧ (v16.length : Int) ≤ (v16.length : Int)) <|
      (m_strings_Count_l1 n substr_ m22) (sub v16 (w64 (x24 + (substr_.length : Int))) (v16.length : Int)) (w64 (v17 + (1 : Int)))
def m_strings_Count (n : Nat) (s_ : Str) (substr_ : Str) : Option Int :=
  if (substr_.length : Int) = (0 : Int) then
    none
  else
    if (substr_.length : Int) = (1 : Int) then
      (getI substr_ (0 : Int)).bind fun x13 =>
      some (cntB s_ (x13.toNat : Int))
    else
      m_strings_Count_l1 n substr_ n s_ (0 : Int)
theorem strings_Count_ok_fr0 (fr : Bool) (n : Nat) (s_ : Str) (substr_ : Str) {r : Int} (h : m_strings_Count n s_ substr_ = some r) : ACall prog fr 135 [.d (.str (bstr s_)), .d (.str (bstr substr_))] [] (fun v o new => v = .d (.int .i64 r) ∧ o = [] ∧ new = []) := by
  refine acall_of_aw hτ func135 rfl (by simp) (by simp) ?_
  unfold m_strings_Count at h
  refine aw_seq ?_
  refine aw_region ?_
  refine awl_val hτ rfl rfl rfl ?_
  refine awl_nil ?_
  refine aw_seq ?_
  refine aw_seq ?_
  refine aw_region ?_
  refine awl_val hτ rfl rfl rfl ?_
  refine awl_val hτ rfl rfl rfl ?_
  refine awl_val hτ (v := .d (.bool (decide ((substr_.length : Int) = (0 : Int))))) rfl rfl (or_ieq _ _) ?_
  refine awl_nil ?_
  refine aw_cond rfl (fun hc10 => ?_) (fun hc10 => ?_)
  · have h := if_t h hc10
    refine aw_seq ?_
    refine aw_region ?_
    refine awl_val hτ rfl rfl rfl ?_
    exact nomatch h
  · have h := if_f h hc10
    refine aw_skip ?_
    refine aw_seq ?_
    refine aw_seq ?_
    refine aw_region ?_
    refine awl_val hτ rfl rfl rfl ?_
    refine awl_val hτ rfl rfl rfl ?_
    refine awl_val hτ (v := .d (.bool (decide ((substr_.length : Int) = (1 : Int))))) rfl rfl (or_ieq _ _) ?_
    refine awl_nil ?_
    refine aw_weak (weak_ofP [] (l := [(0, .d (.str (bstr s_))), (1, .d (.str (bstr substr_))), (15, .d (.bool (decide ((substr_.length : Int) = (1 : Int)))))]) (objs := []) rfl (by simp) rfl (by repeat' first | exact trivial | refine ⟨?_, ?_⟩) ⟨rfl, trivial, rfl, trivial, rfl, trivial, trivial⟩) ?_
    refine aw_cond rfl (fun hc12 => ?_) (fun hc12 => ?_)
    · have h := if_t h hc12
      refine aw_seq ?_
      refine aw_region ?_
      refine awl_val hτ rfl rfl rfl ?_
      refine awl_val hτ rfl rfl rfl ?_
      refine bnd_elim h fun x13 hx13 h => ?_
      refine awl_need hτ (v := .d (.int .u8 (x13.toNat : Int))) rfl rfl (Eq.trans rfl (or_sidx hx13)) (sidx_need hx13) ?_
      refine awl_ext hτ rfl rfl rfl ext150 ?_
      refine awl_val hτ rfl rfl rfl ?_
      refine awl_nil ?_
      refine aw_weak (weak_ofP [] (l := [(4, .d (.int .i64 (cntB s_ (x13.toNat : Int))))]) (objs := []) rfl (by simp) rfl (by repeat' first | exact trivial | refine ⟨?_, ?_⟩) ⟨rfl, trivial, trivial⟩) ?_
      refine aw_ret ?_
      have hr := Option.some.inj h
      subst hr
      exact ret_objs (.inr rfl) [] (objs' := []) (new := []) rfl (by simp) (by simp) rfl (by repeat' first | exact trivial | refine ⟨?_, ?_⟩) rfl rfl (by repeat' first | exact trivial | refine ⟨?_, ?_⟩) (fun _ => ⟨by simp [V.flat, V.flatA, V.flatC, D.flat], flat_nil⟩) ⟨rfl, rfl, rfl⟩
    · have h := if_f h hc12
      refine aw_skip ?_
      refine aw_seq ?_
      refine aw_region ?_
      refine awl_val hτ rfl rfl rfl ?_
      refine awl_nil ?_
      refine aw_block ?_
      refine aw_loop (ι := Nat × Str × Int) (fun (m22, v16, v17) => St.of [(0, .d (.str (bstr v16))), (1, .d (.str (bstr substr_))), (5, .d (.int .i64 v17))] [] f135.ntmps 0) (fun (m22, v16, v17) => m_strings_Count_l1 n substr_ m22 v16 v17 = some r) (fun x => x.1) (n, s_, (0 : Int)) h (weak_ofP [] (l := [(0, .d (.str (bstr s_))), (1, .d (.str (bstr substr_))), (5, .d (.int .i64 (0 : Int)))]) (objs := []) rfl (by simp) rfl (by repeat' first | exact trivial | refine ⟨?_, ?_⟩) ⟨rfl, trivial, rfl, trivial, rfl, trivial, trivial⟩) ?_
      rintro ⟨m22, v16, v17⟩ h
      replace h : m_strings_Count_l1 n substr_ m22 v16 v17 = some r := h
      rcases m22 with _ | m22
      · rw [m_strings_Count_l1] at h; cases h
      rw [m_strings_Count_l1] at h
      refine aw_block ?_
      refine aw_seq ?_
      refine aw_region ?_
      refine awl_val hτ rfl rfl rfl ?_
      refine awl_val hτ rfl rfl rfl ?_
      refine bnd_elim h fun x24 hx24 h => ?_
      refine awl_callP hτ false [] rfl rfl rfl (enterOk func113 rfl rfl) rfl rfl (by simp) ⟨trivial, trivial, trivial⟩ (by repeat' first | exact trivial | refine ⟨?_, ?_⟩) (strings_Index_ok n v16 substr_ hx24) ?_
      rintro r0 o0 n0 ⟨rfl, rfl, rfl⟩ -
      refine awl_val hτ rfl rfl rfl ?_
      refine awl_nil ?_
      refine aw_seq ?_
      refine aw_seq ?_
      refine aw_region ?_
      refine awl_val hτ rfl rfl rfl ?_
      refine awl_val hτ (v := .d (.bool (decide (x24 = (-1 : Int))))) rfl rfl (or_ieq _ _) ?_
      refine awl_nil ?_
      refine aw_weak (weak_ofP [] (l := [(0, .d (.str (bstr v16))), (1, .d (.str (bstr substr_))), (5, .d (.int .i64 v17)), (6, .d (.int .i64 x24)), (24, .d (.bool (decide (x24 = (-1 : Int)))))]) (objs := []) rfl (by simp) rfl (by repeat' first | exact trivial | refine ⟨?_, ?_⟩) ⟨rfl, trivial, rfl, trivial, rfl, trivial, rfl, trivial, rfl, trivial, trivial⟩) ?_
      refine aw_cond rfl (fun hc25 => ?_) (fun hc25 => ?_)
      · have h := if_t h hc25
        refine aw_seq ?_
        refine aw_region ?_
        refine awl_val hτ rfl rfl rfl ?_
        refine awl_val hτ rfl rfl rfl ?_
        refine awl_nil ?_
        refine aw_weak (weak_ofP [] (l := [(4, .d (.int .i64 v17))]) (objs := []) rfl (by simp) rfl (by repeat' first | exact trivial | refine ⟨?_, ?_⟩) ⟨rfl, trivial, trivial⟩) ?_
        refine aw_ret ?_
        have hr := Option.some.inj h
        subst hr
        exact ret_objs (.inr rfl) [] (objs' := []) (new := []) rfl (by simp) (by simp) rfl (by repeat' first | exact trivial | refine ⟨?_, ?_⟩) rfl rfl (by repeat' first | exact trivial | refine ⟨?_, ?_⟩) (fun _ => ⟨by simp [V.flat, V.flatA, V.flatC, D.flat], flat_nil⟩) ⟨rfl, rfl, rfl⟩
      · have h := if_f h hc25
        refine aw_skip ?_
        refine aw_seq ?_
        refine aw_region ?_
        refine awl_val hτ rfl rfl rfl ?_
        refine awl_val hτ rfl rfl rfl ?_
        refine awl_val hτ rfl rfl rfl ?_
        refine awl_nil ?_
        refine aw_region ?_
        refine awl_val hτ rfl rfl rfl ?_
        refine awl_val hτ rfl rfl rfl ?_
        refine awl_val hτ rfl rfl rfl ?_
        refine awl_val hτ rfl rfl rfl ?_
        refine awl_val hτ rfl rfl rfl ?_
        refine grd_elim h fun hg26 h => ?_
        refine awl_need hτ (v := .d (.str (bstr (sub v16 (w64 (x24 + (substr_.length : Int))) (v16.length : Int))))) rfl rfl (Eq.trans rfl (or_ssub _ _ _)) hg26 ?_
        refine awl_val hτ rfl rfl rfl ?_
        refine awl_nil ?_
        exact ⟨(m22, (sub v16 (w64 (x24 + (substr_.length : Int))) (v16.length : Int)), (w64 (v17 + (1 : Int)))), h, Nat.lt_succ_self m22, (weak_ofP [] (l := [(0, .d (.str (bstr (sub v16 (w64 (x24 + (substr_.length : Int))) (v16.length : Int))))), (1, .d (.str (bstr substr_))), (5, .d (.int .i64 (w64 (v17 + (1 : Int)))))]) (objs := []) rfl (by simp) rfl (by repeat' first | exact trivial | refine ⟨?_, ?_⟩) ⟨rfl, trivial, rfl, trivial, rfl, trivial, trivial⟩)⟩
theorem strings_Count_ok (n : Nat) (s_ : Str) (substr_ : Str) {r : Int} (h : m_strings_Count n s_ substr_ = some r) : ACall prog false 135 [.d (.str (bstr s_)), .d (.str (bstr substr_))] [] (fun v o new => v = .d (.int .i64 r) ∧ o = [] ∧ new = []) := strings_Count_ok_fr0 false n s_ substr_ h
theorem strings_Count_ok_fr (n : Nat) (s_ : Str) (substr_ : Str) {r : Int} (h : m_strings_Count n s_ substr_ = some r) : ACall prog true 135 [.d (.str (bstr s_)), .d (.str (bstr substr_))] [] (fun v o new => v = .d (.int .i64 r) ∧ o = [] ∧ new = []) := strings_Count_ok_fr0 true n s_ substr_ h

def m_strings_genSplit_j2 (n : Nat) (v40 : Str) (v41 : List Str) (v42 : Int) : Option (List Str) :=
  (getI v41 v42).bind fun x43 =>
  grd (0 ≤ (0 : Int) ∧ (0 : Int) ≤ (w64 (v42 + (1 : Int))) ∧ (w64 (v42 + (1 : Int))) ≤ (v41.length : Int) ∧ 0 < v41.length) <|
  some ((((v41.set v42.toNat v40)).drop (0 + (0 : Int).toNat)).take ((w64 (v42 + (1 : Int))).toNat - (0 : Int).toNat))
def m_strings_genSplit_l3 (n : Nat) (s_ : Str) (sep_ : Str) (sepSave_ : Int) (v24 : Int) : Nat → Str → List Str → Int → Option (List Str)
  | 0, _, _, _ => none
  | m60 + 1, v50, v51, v52 =>
    if v52 < (w64 ((if (w64 ((s_.length : Int) + (1 : Int))) < v24 then (w64 ((s_.length : Int) + (1 : Int))) else v24) - (1 : Int))) then
      (m_strings_Index n v50 sep_).bind fun x63 =>
      if x63 < (0 : Int) then
        m_strings_genSplit_j2 n v50 v51 v52
      else
        grd (0 ≤ (0 : Int) ∧ (0 : Int) ≤ (w64 (x63 + sepSave_)) ∧ (w64 (x63 + sepSave_)) ≤ (v50.length : Int)) <|
        (getI v51 v52).bind fun x66 =>
        grd (0 ≤ (w64 (x63 + (sep_.length : Int))) ∧ (w64 (x63 + (sep_.length : Int))) ≤ (v50.length : Int) ∧ (v50.length : Int) ≤ (v50.length : Int)) <|
        (m_strings_genSplit_l3 n s_ sep_ sepSave_ v24 m60) (sub v50 (w64 (x63 + (sep_.length : Int))) (v50.length : Int)) (v51.set v52.toNat (sub v50 (0 : Int) (w64 (x63 + sepSave_)))) (w64 (v52 + (1 : Int)))
    else
      m_strings_genSplit_j2 n v50 v51 v52
def m_strings_genSplit_j1 (n : Nat) (s_ : Str) (sep_ : Str) (sepSave_ : Int) (v24 : Int) : Option (List Str) :=
  grd (0 ≤ (if (w64 ((s_.length : Int) + (1 : Int))) < v24 then (w64 ((s_.length : Int) + (1 : Int))) else v24) ∧ room (if (w64 ((s_.length : Int) + (1 : Int))) < v24 then (w64 ((s_.length : Int) + (1 : Int))) else v24).toNat 16) <|
  m_strings_genSplit_l3 n s_ sep_ sepSave_ v24 n s_ (List.replicate (if (w64 ((s_.length : Int) + (1 : Int))) < v24 then (w64 ((s_.length : Int) + (1 : Int))) else v24).toNat ([] : Str)) (0 : Int)
def m_strings_genSplit (n : Nat) (s_ : Str) (sep_ : Str) (sepSave_ : Int) (n_ : Int) : Option (List Str) :=
  if n_ = (0 : Int) then
    some ([] : List Str)
  else
    if sep_ = ([] : Str) then
      none
    else
      if n_ < (0 : Int) then
        (m_strings_Count n s_ sep_).bind fun x70 =>
        m_strings_genSplit_j1 n s_ sep_ sepSave_ (w64 (x70 + (1 : Int)))
      else
        m_strings_genSplit_j1 n s_ sep_ sepSave_ n_
theorem strings_genSplit_ok (n : Nat) (s_ : Str) (sep_ : Str) (sepSave_ : Int) (n_ : Int) {r : List Str} (h : m_strings_genSplit n s_ sep_ sepSave_ n_ = some r) : ACall prog false 119 [.d (.str (bstr s_)), .d (.str (bstr sep_)), .d (.int .i64 sepSave_), .d (.int .i64 n_)] [] (fun v o new => v = .d (.sl false (r.map eStr)) ∧ o = [] ∧ new = []) := by
  refine acall_of_aw hτ func119 rfl (by simp) (by simp) ?_
  unfold m_strings_genSplit at h
  refine aw_seq ?_
  refine aw_region ?_
  refine awl_val hτ rfl rfl rfl ?_
  refine awl_nil ?_
  refine aw_seq ?_
  refine aw_seq ?_
  refine aw_region ?_
  refine awl_val hτ rfl rfl rfl ?_
  refine awl_val hτ (v := .d (.bool (decide (n_ = (0 : Int))))) rfl rfl (or_ieq _ _) ?_
  refine awl_nil ?_
  refine aw_cond rfl (fun hc20 => ?_) (fun hc20 => ?_)
  · have h := if_t h hc20
    refine aw_seq ?_
    refine aw_region ?_
    refine awl_val hτ rfl rfl rfl ?_
    refine awl_nil ?_
    refine aw_weak (weak_ofP [] (l := [(8, .d (.nils))]) (objs := []) rfl (by simp) rfl (by repeat' first | exact trivial | refine ⟨?_, ?_⟩) ⟨rfl, trivial, trivial⟩) ?_
    refine aw_weak (weak_relax [] (l' := [(8, .d (.sl false (([] : List Str).map eStr)))]) (objs' := []) (.cons (.c (.d .nil)) .nil) .nil) ?_
    refine aw_ret ?_
    have hr := Option.some.inj h
    subst hr
    exact ret_objs (.inr rfl) [] (objs' := []) (new := []) rfl (by simp) (by simp) rfl (by repeat' first | exact trivial | refine ⟨?_, ?_⟩) rfl rfl (by repeat' first | exact trivial | refine ⟨?_, ?_⟩) (fun h => nomatch h) ⟨rfl, rfl, rfl⟩
  · have h := if_f h hc20
    refine aw_skip ?_
    refine aw_seq ?_
    refine aw_seq ?_
    refine aw_region ?_
    refine awl_val hτ rfl rfl rfl ?_
    refine awl_val hτ (v := .d (.bool (decide (sep_ = ([] : Str))))) rfl rfl (or_seq _ _) ?_
    refine awl_nil ?_
    refine aw_cond rfl (fun hc21 => ?_) (fun hc21 => ?_)
    · have h := if_t h hc21
      refine aw_seq ?_
      refine aw_region ?_
      refine awl_val hτ rfl rfl rfl ?_
      refine awl_val hτ rfl rfl rfl ?_
      exact nomatch h
    · have h := if_f h hc21
      refine aw_skip ?_
      refine aw_hk1 (ι := Int) (fun v24 => St.of [(0, .d (.str (bstr s_))), (1, .d (.str (bstr sep_))), (2, .d (.int .i64 sepSave_)), (3, .d (.int .i64 v24))] [] f119.ntmps 0) (fun v24 => m_strings_genSplit_j1 n s_ sep_ sepSave_ v24 = some r) ?_ (fun hk68 => ?_)
      · rintro v24 h
        replace h : m_strings_genSplit_j1 n s_ sep_ sepSave_ v24 = some r := h
        unfold m_strings_genSplit_j1 at h
        refine aw_seq ?_
        refine aw_region ?_
        refine awl_val hτ rfl rfl rfl ?_
        refine awl_val hτ rfl rfl rfl ?_
        refine awl_val hτ rfl rfl rfl ?_
        refine awl_val hτ rfl rfl rfl ?_
        refine awl_val hτ rfl rfl rfl ?_
        refine awl_val hτ rfl rfl rfl ?_
        refine awl_nil ?_
        refine aw_seq ?_
        refine aw_weak (weak_ofP [] (l := [(0, .d (.str (bstr s_))), (1, .d (.str (bstr sep_))), (2, .d (.int .i64 sepSave_)), (3, .d (.int .i64 (if (w64 ((s_.length : Int) + (1 : Int))) < v24 then (w64 ((s_.length : Int) + (1 : Int))) else v24)))]) (objs := []) rfl (by simp) rfl (by repeat' first | exact trivial | refine ⟨?_, ?_⟩) ⟨rfl, trivial, rfl, trivial, rfl, trivial, rfl, trivial, trivial⟩) ?_
        refine aw_region ?_
        refine awl_val hτ rfl rfl rfl ?_
        refine grd_elim h fun hg25 h => ?_
        refine awl_needH hτ rfl rfl (Eq.trans rfl (or_make (f := eStr) (x := ([] : Str)) rfl)) (make_need hg25 (by decide)) ?_
        refine awl_val hτ rfl rfl rfl ?_
        refine awl_nil ?_
        refine aw_seq ?_
        refine aw_region ?_
        refine awl_val hτ rfl rfl rfl ?_
        refine awl_val hτ rfl rfl rfl ?_
        refine awl_val hτ rfl rfl rfl ?_
        refine awl_nil ?_
        refine aw_seq ?_
        refine aw_weak (weak_ofP [0] (l := [(0, .d (.str (bstr s_))), (1, .d (.str (bstr sep_))), (2, .d (.int .i64 sepSave_)), (3, .d (.int .i64 (w64 ((if (w64 ((s_.length : Int) + (1 : Int))) < v24 then (w64 ((s_.length : Int) + (1 : Int))) else v24) - (1 : Int))))), (9, .row 0 ((List.replicate (if (w64 ((s_.length : Int) + (1 : Int))) < v24 then (w64 ((s_.length : Int) + (1 : Int))) else v24).toNat ([] : Str)).length) 0 ((List.replicate (if (w64 ((s_.length : Int) + (1 : Int))) < v24 then (w64 ((s_.length : Int) + (1 : Int))) else v24).toNat ([] : Str)).length))]) (objs := [.row 1 ((List.replicate (if (w64 ((s_.length : Int) + (1 : Int))) < v24 then (w64 ((s_.length : Int) + (1 : Int))) else v24).toNat ([] : Str)).map eStr)]) rfl (by simp) rfl (by repeat' first | exact trivial | refine ⟨?_, ?_⟩) ⟨rfl, trivial, rfl, trivial, rfl, trivial, rfl, trivial, rfl, trivial, trivial⟩) ?_
        refine aw_region ?_
        refine awl_val hτ rfl rfl rfl ?_
        refine awl_nil ?_
        refine aw_hk1 (ι := Str × List Str × Int) (fun (v40, v41, v42) => St.of [(0, .d (.str (bstr v40))), (9, .row 0 v41.length 0 v41.length), (10, .d (.int .i64 v42))] [.row 1 (v41.map eStr)] f119.ntmps 0) (fun (v40, v41, v42) => m_strings_genSplit_j2 n v40 v41 v42 = some r) ?_ (fun hk45 => ?_)
        · rintro ⟨v40, v41, v42⟩ h
          replace h : m_strings_genSplit_j2 n v40 v41 v42 = some r := h
          unfold m_strings_genSplit_j2 at h
          refine aw_seq ?_
          refine aw_region ?_
          refine awl_val hτ rfl rfl rfl ?_
          refine awl_val hτ rfl rfl rfl ?_
          refine awl_val hτ rfl rfl rfl ?_
          refine bnd_elim h fun x43 hx43 h => ?_
          refine awl_need hτ rfl rfl rfl (row_need hx43) ?_
          refine awl_elemH hτ rfl rfl rfl (len_map _) (row_get hx43) (set_val (f := eStr) (l := v41) (i := v42) (y := v40) rfl) ?_
          refine awl_nil ?_
          refine aw_seq ?_
          refine aw_region ?_
          refine awl_val hτ rfl rfl rfl ?_
          refine awl_val hτ rfl rfl rfl ?_
          refine awl_val hτ rfl rfl rfl ?_
          refine grd_elim h fun hg44 h => ?_
          refine awl_need hτ (v := .row 0 v41.length (0 + (0 : Int).toNat) ((w64 (v42 + (1 : Int))).toNat - (0 : Int).toNat)) rfl rfl rfl ⟨(by simp), hg44.1, hg44.2.1, hg44.2.2.1, by omega, hg44.2.2.2⟩ ?_
          refine awl_val hτ rfl rfl rfl ?_
          refine awl_nil ?_
          refine aw_weak (weak_ofP [] (l := [(8, .d (.sl false (((((v41.set v42.toNat v40)).drop (0 + (0 : Int).toNat)).take ((w64 (v42 + (1 : Int))).toNat - (0 : Int).toNat)).map eStr)))]) (objs := []) rfl (by simp) rfl (by repeat' first | exact trivial | refine ⟨?_, ?_⟩) ⟨(exV_sub (f := eStr) (v41.set v42.toNat v40) rfl rfl), (exVP_sub (f := eStr) (v41.set v42.toNat v40) rfl rfl (by simp) (by omega)), trivial⟩) ?_
          refine aw_ret ?_
          have hr := Option.some.inj h
          subst hr
          exact ret_objs (.inr rfl) [] (objs' := []) (new := []) rfl (by simp) (by simp) rfl (by repeat' first | exact trivial | refine ⟨?_, ?_⟩) rfl rfl (by repeat' first | exact trivial | refine ⟨?_, ?_⟩) (fun h => nomatch h) ⟨rfl, rfl, rfl⟩
        · refine aw_seq ?_
          refine aw_block ?_
          refine aw_loop (ι := Nat × Str × List Str × Int) (fun (m60, v50, v51, v52) => St.of [(0, .d (.str (bstr v50))), (1, .d (.str (bstr sep_))), (2, .d (.int .i64 sepSave_)), (3, .d (.int .i64 (w64 ((if (w64 ((s_.length : Int) + (1 : Int))) < v24 then (w64 ((s_.length : Int) + (1 : Int))) else v24) - (1 : Int))))), (9, .row 0 v51.length 0 v51.length), (10, .d (.int .i64 v52))] [.row 1 (v51.map eStr)] f119.ntmps 0) (fun (m60, v50, v51, v52) => m_strings_genSplit_l3 n s_ sep_ sepSave_ v24 m60 v50 v51 v52 = some r) (fun x => x.1) (n, s_, (List.replicate (if (w64 ((s_.length : Int) + (1 : Int))) < v24 then (w64 ((s_.length : Int) + (1 : Int))) else v24).toNat ([] : Str)), (0 : Int)) h (weak_ofP [0] (l := [(0, .d (.str (bstr s_))), (1, .d (.str (bstr sep_))), (2, .d (.int .i64 sepSave_)), (3, .d (.int .i64 (w64 ((if (w64 ((s_.length : Int) + (1 : Int))) < v24 then (w64 ((s_.length : Int) + (1 : Int))) else v24) - (1 : Int))))), (9, .row 0 ((List.replicate (if (w64 ((s_.length : Int) + (1 : Int))) < v24 then (w64 ((s_.length : Int) + (1 : Int))) else v24).toNat ([] : Str)).length) 0 ((List.replicate (if (w64 ((s_.length : Int) + (1 : Int))) < v24 then (w64 ((s_.length : Int) + (1 : Int))) else v24).toNat ([] : Str)).length)), (10, .d (.int .i64 (0 : Int)))]) (objs := [.row 1 ((List.replicate (if (w64 ((s_.length : Int) + (1 : Int))) < v24 then (w64 ((s_.length : Int) + (1 : Int))) else v24).toNat ([] : Str)).map eStr)]) rfl (by simp) rfl (by repeat' first | exact trivial | refine ⟨?_, ?_⟩) ⟨rfl, trivial, rfl, trivial, rfl, trivial, rfl, trivial, rfl, trivial, rfl, trivial, trivial⟩) ?_
          rintro ⟨m60, v50, v51, v52⟩ h
          replace h : m_strings_genSplit_l3 n s_ sep_ sepSave_ v24 m60 v50 v51 v52 = some r := h
          rcases m60 with _ | m60
          · rw [m_strings_genSplit_l3] at h; cases h
          rw [m_strings_genSplit_l3] at h
          refine aw_seq ?_
          refine aw_seq ?_
          refine aw_region ?_
          refine awl_val hτ rfl rfl rfl ?_
          refine awl_val hτ rfl rfl rfl ?_
          refine awl_val hτ rfl rfl rfl ?_
          refine awl_nil ?_
          refine aw_cond rfl (fun hc62 => ?_) (fun hc62 => ?_)
          · have h := if_t h hc62
            refine aw_skip ?_
            refine aw_block ?_
            refine aw_seq ?_
            refine aw_region ?_
            refine awl_val hτ rfl rfl rfl ?_
            refine awl_val hτ rfl rfl rfl ?_
            refine bnd_elim h fun x63 hx63 h => ?_
            refine awl_callP hτ false [] rfl rfl rfl (enterOk func113 rfl rfl) rfl rfl (by simp) ⟨trivial, trivial, trivial⟩ (by repeat' first | exact trivial | refine ⟨?_, ?_⟩) (strings_Index_ok n v50 sep_ hx63) ?_
            rintro r0 o0 n0 ⟨rfl, rfl, rfl⟩ -
            refine awl_val hτ rfl rfl rfl ?_
            refine awl_nil ?_
            refine aw_seq ?_
            refine aw_seq ?_
            refine aw_weak (weak_ofP [0] (l := [(0, .d (.str (bstr v50))), (1, .d (.str (bstr sep_))), (2, .d (.int .i64 sepSave_)), (3, .d (.int .i64 (w64 ((if (w64 ((s_.length : Int) + (1 : Int))) < v24 then (w64 ((s_.length : Int) + (1 : Int))) else v24) - (1 : Int))))), (9, .row 0 v51.length 0 v51.length), (10, .d (.int .i64 v52)), (11, .d (.int .i64 x63))]) (objs := [.row 1 (v51.map eStr)]) rfl (by simp) rfl (by repeat' first | exact trivial | refine ⟨?_, ?_⟩) ⟨rfl, trivial, rfl, trivial, rfl, trivial, rfl, trivial, rfl, trivial, rfl, trivial, rfl, trivial, trivial⟩) ?_
            refine aw_region ?_
            refine awl_val hτ rfl rfl rfl ?_
            refine awl_val hτ rfl rfl rfl ?_
            refine awl_nil ?_
            refine aw_cond rfl (fun hc64 => ?_) (fun hc64 => ?_)
            · have h := if_t h hc64
              refine aw_exit ?_
              refine aw_weak (weak_ofP [0] (l := [(0, .d (.str (bstr v50))), (9, .row 0 v51.length 0 v51.length), (10, .d (.int .i64 v52))]) (objs := [.row 1 (v51.map eStr)]) rfl (by simp) rfl (by repeat' first | exact trivial | refine ⟨?_, ?_⟩) ⟨rfl, trivial, rfl, trivial, rfl, trivial, trivial⟩) ?_
              exact hk45 (v50, v51, v52) h
            · have h := if_f h hc64
              refine aw_skip ?_
              refine aw_seq ?_
              refine aw_region ?_
              refine awl_val hτ rfl rfl rfl ?_
              refine awl_val hτ rfl rfl rfl ?_
              refine awl_val hτ rfl rfl rfl ?_
              refine awl_val hτ rfl rfl rfl ?_
              refine awl_val hτ rfl rfl rfl ?_
              refine awl_val hτ rfl rfl rfl ?_
              refine grd_elim h fun hg65 h => ?_
              refine awl_need hτ (v := .d (.str (bstr (sub v50 (0 : Int) (w64 (x63 + sepSave_)))))) rfl rfl (Eq.trans rfl (or_ssub _ _ _)) hg65 ?_
              refine bnd_elim h fun x66 hx66 h => ?_
              refine awl_need hτ rfl rfl rfl (row_need hx66) ?_
              refine awl_elemH hτ rfl rfl rfl (len_map _) (row_get hx66) (set_val (f := eStr) (l := v51) (i := v52) (y := (sub v50 (0 : Int) (w64 (x63 + sepSave_)))) rfl) ?_
              refine awl_nil ?_
              refine aw_seq ?_
              refine aw_weak (weak_ofP [0] (l := [(0, .d (.str (bstr v50))), (1, .d (.str (bstr sep_))), (2, .d (.int .i64 sepSave_)), (3, .d (.int .i64 (w64 ((if (w64 ((s_.length : Int) + (1 : Int))) < v24 then (w64 ((s_.length : Int) + (1 : Int))) else v24) - (1 : Int))))), (9, .row 0 ((v51.set v52.toNat (sub v50 (0 : Int) (w64 (x63 + sepSave_)))).length) 0 ((v51.set v52.toNat (sub v50 (0 : Int) (w64 (x63 + sepSave_)))).length)), (10, .d (.int .i64 v52)), (11, .d (.int .i64 x63))]) (objs := [.row 1 ((v51.set v52.toNat (sub v50 (0 : Int) (w64 (x63 + sepSave_)))).map eStr)]) rfl (by simp) rfl (by repeat' first | exact trivial | refine ⟨?_, ?_⟩) ⟨rfl, trivial, rfl, trivial, rfl, trivial, rfl, trivial, (exV_rowL rfl (by simp)), trivial, rfl, trivial, rfl, trivial, trivial⟩) ?_
              refine aw_region ?_
              refine awl_val hτ rfl rfl rfl ?_
              refine awl_val hτ rfl rfl rfl ?_
              refine awl_val hτ rfl rfl rfl ?_
              refine awl_val hτ rfl rfl rfl ?_
              refine awl_val hτ rfl rfl rfl ?_
              refine grd_elim h fun hg67 h => ?_
              refine awl_need hτ (v := .d (.str (bstr (sub v50 (w64 (x63 + (sep_.length : Int))) (v50.length : Int))))) rfl rfl (Eq.trans rfl (or_ssub _ _ _)) hg67 ?_
              refine awl_val hτ rfl rfl rfl ?_
              refine awl_nil ?_
              refine aw_weak (weak_ofP [0] (l := [(0, .d (.str (bstr (sub v50 (w64 (x63 + (sep_.length : Int))) (v50.length : Int))))), (1, .d (.str (bstr sep_))), (2, .d (.int .i64 sepSave_)), (3, .d (.int .i64 (w64 ((if (w64 ((s_.length : Int) + (1 : Int))) < v24 then (w64 ((s_.length : Int) + (1 : Int))) else v24) - (1 : Int))))), (9, .row 0 ((v51.set v52.toNat (sub v50 (0 : Int) (w64 (x63 + sepSave_)))).length) 0 ((v51.set v52.toNat (sub v50 (0 : Int) (w64 (x63 + sepSave_)))).length)), (10, .d (.int .i64 v52))]) (objs := [.row 1 ((v51.set v52.toNat (sub v50 (0 : Int) (w64 (x63 + sepSave_)))).map eStr)]) rfl (by simp) rfl (by repeat' first | exact trivial | refine ⟨?_, ?_⟩) ⟨rfl, trivial, rfl, trivial, rfl, trivial, rfl, trivial, rfl, trivial, rfl, trivial, trivial⟩) ?_
              refine aw_region ?_
              refine awl_val hτ rfl rfl rfl ?_
              refine awl_val hτ rfl rfl rfl ?_
              refine awl_val hτ rfl rfl rfl ?_
              refine awl_nil ?_
              exact ⟨(m60, (sub v50 (w64 (x63 + (sep_.length : Int))) (v50.length : Int)), (v51.set v52.toNat (sub v50 (0 : Int) (w64 (x63 + sepSave_)))), (w64 (v52 + (1 : Int)))), h, Nat.lt_succ_self m60, (weak_ofP [0] (l := [(0, .d (.str (bstr (sub v50 (w64 (x63 + (sep_.length : Int))) (v50.length : Int))))), (1, .d (.str (bstr sep_))), (2, .d (.int .i64 sepSave_)), (3, .d (.int .i64 (w64 ((if (w64 ((s_.length : Int) + (1 : Int))) < v24 then (w64 ((s_.length : Int) + (1 : Int))) else v24) - (1 : Int))))), (9, .row 0 ((v51.set v52.toNat (sub v50 (0 : Int) (w64 (x63 + sepSave_)))).length) 0 ((v51.set v52.toNat (sub v50 (0 : Int) (w64 (x63 + sepSave_)))).length)), (10, .d (.int .i64 (w64 (v52 + (1 : Int)))))]) (objs := [.row 1 ((v51.set v52.toNat (sub v50 (0 : Int) (w64 (x63 + sepSave_)))).map eStr)]) rfl (by simp) rfl (by repeat' first | exact trivial | refine ⟨?_, ?_⟩) ⟨rfl, trivial, rfl, trivial, rfl, trivial, rfl, trivial, rfl, trivial, rfl, trivial, trivial⟩)⟩
          · have h := if_f h hc62
            refine aw_exit ?_
            refine aw_weak (weak_ofP [0] (l := [(0, .d (.str (bstr v50))), (9, .row 0 v51.length 0 v51.length), (10, .d (.int .i64 v52))]) (objs := [.row 1 (v51.map eStr)]) rfl (by simp) rfl (by repeat' first | exact trivial | refine ⟨?_, ?_⟩) ⟨rfl, trivial, rfl, trivial, rfl, trivial, trivial⟩) ?_
            exact hk45 (v50, v51, v52) h
      · refine aw_seq ?_
        refine aw_seq ?_
        refine aw_region ?_
        refine awl_val hτ rfl rfl rfl ?_
        refine awl_val hτ rfl rfl rfl ?_
        refine awl_nil ?_
        refine aw_weak (weak_ofP [] (l := [(0, .d (.str (bstr s_))), (1, .d (.str (bstr sep_))), (2, .d (.int .i64 sepSave_)), (3, .d (.int .i64 n_)), (20, .d (.bool (decide (n_ < (0 : Int)))))]) (objs := []) rfl (by simp) rfl (by repeat' first | exact trivial | refine ⟨?_, ?_⟩) ⟨rfl, trivial, rfl, trivial, rfl, trivial, rfl, trivial, rfl, trivial, trivial⟩) ?_
        refine aw_cond rfl (fun hc69 => ?_) (fun hc69 => ?_)
        · have h := if_t h hc69
          refine aw_region ?_
          refine awl_val hτ rfl rfl rfl ?_
          refine awl_val hτ rfl rfl rfl ?_
          refine bnd_elim h fun x70 hx70 h => ?_
          refine awl_callP hτ false [] rfl rfl rfl (enterOk func135 rfl rfl) rfl rfl (by simp) ⟨trivial, trivial, trivial⟩ (by repeat' first | exact trivial | refine ⟨?_, ?_⟩) (strings_Count_ok n s_ sep_ hx70) ?_
          rintro r0 o0 n0 ⟨rfl, rfl, rfl⟩ -
          refine awl_val hτ rfl rfl rfl ?_
          refine awl_val hτ rfl rfl rfl ?_
          refine awl_nil ?_
          refine aw_weak (weak_ofP [] (l := [(0, .d (.str (bstr s_))), (1, .d (.str (bstr sep_))), (2, .d (.int .i64 sepSave_)), (3, .d (.int .i64 (w64 (x70 + (1 : Int)))))]) (objs := []) rfl (by simp) rfl (by repeat' first | exact trivial | refine ⟨?_, ?_⟩) ⟨rfl, trivial, rfl, trivial, rfl, trivial, rfl, trivial, trivial⟩) ?_
          exact hk68 (w64 (x70 + (1 : Int))) h
        · have h := if_f h hc69
          refine aw_skip ?_
          refine aw_weak (weak_ofP [] (l := [(0, .d (.str (bstr s_))), (1, .d (.str (bstr sep_))), (2, .d (.int .i64 sepSave_)), (3, .d (.int .i64 n_))]) (objs := []) rfl (by simp) rfl (by repeat' first | exact trivial | refine ⟨?_, ?_⟩) ⟨rfl, trivial, rfl, trivial, rfl, trivial, rfl, trivial, trivial⟩) ?_
          exact hk68 n_ h

def m_strings_Split (n : Nat) (s_ : Str) (sep_ : Str) : Option (List Str) :=
  (m_strings_genSplit n s_ sep_ (0 : Int) (-1 : Int)).bind fun x2 =>
  some x2
theorem strings_Split_ok (n : Nat) (s_ : Str) (sep_ : Str) {r : List Str} (h : m_strings_Split n s_ sep_ = some r) : ACall prog false 93 [.d (.str (bstr s_)), .d (.str (bstr sep_))] [] (fun v o new => v = .d (.sl false (r.map eStr)) ∧ o = [] ∧ new = []) := by
  refine acall_of_aw hτ func93 rfl (by simp) (by simp) ?_
  unfold m_strings_Split at h
  refine aw_seq ?_
  refine aw_region ?_
  refine awl_val hτ rfl rfl rfl ?_
  refine awl_nil ?_
  refine aw_seq ?_
  refine aw_region ?_
  refine awl_val hτ rfl rfl rfl ?_
  refine awl_val hτ rfl rfl rfl ?_
  refine bnd_elim h fun x2 hx2 h => ?_
  refine awl_callP hτ false [] rfl rfl rfl (enterOk func119 rfl rfl) rfl rfl (by simp) ⟨trivial, trivial, trivial, trivial, trivial⟩ (by repeat' first | exact trivial | refine ⟨?_, ?_⟩) (strings_genSplit_ok n s_ sep_ (0 : Int) (-1 : Int) hx2) ?_
  rintro r0 o0 n0 ⟨rfl, rfl, rfl⟩ -
  refine awl_val hτ rfl rfl rfl ?_
  refine awl_nil ?_
  refine aw_weak (weak_ofP [] (l := [(4, .d (.sl false (x2.map eStr)))]) (objs := []) rfl (by simp) rfl (by repeat' first | exact trivial | refine ⟨?_, ?_⟩) ⟨rfl, trivial, trivial⟩) ?_
  refine aw_ret ?_
  have hr := Option.some.inj h
  subst hr
  exact ret_objs (.inr rfl) [] (objs' := []) (new := []) rfl (by simp) (by simp) rfl (by repeat' first | exact trivial | refine ⟨?_, ?_⟩) rfl rfl (by repeat' first | exact trivial | refine ⟨?_, ?_⟩) (fun h => nomatch h) ⟨rfl, rfl, rfl⟩

def m_impl_parted (n : Nat) (s_ : Str) : Option (List Str) :=
  if s_ = ([110, 111, 110, 101] : Str) then
    some ([] : List Str)
  else
    (m_strings_Split n s_ ([44] : Str)).bind fun x3 =>
    some x3
theorem impl_parted_ok (n : Nat) (s_ : Str) {r : List Str} (h : m_impl_parted n s_ = some r) : ACall prog false 54 [.d (.str (bstr s_))] [] (fun v o new => v = .d (.sl false (r.map eStr)) ∧ o = [] ∧ new = []) := by
  refine acall_of_aw hτ func54 rfl (by simp) (by simp) ?_
  unfold m_impl_parted at h
  refine aw_seq ?_
  refine aw_region ?_
  refine awl_val hτ rfl rfl rfl ?_
  refine awl_nil ?_
  refine aw_seq ?_
  refine aw_seq ?_
  refine aw_region ?_
  refine awl_val hτ rfl rfl rfl ?_
  refine awl_val hτ (v := .d (.bool (decide (s_ = ([110, 111, 110, 101] : Str))))) rfl rfl (or_seq _ _) ?_
  refine awl_nil ?_
  refine aw_cond rfl (fun hc2 => ?_) (fun hc2 => ?_)
  · have h := if_t h hc2
    refine aw_seq ?_
    refine aw_region ?_
    refine awl_val hτ rfl rfl rfl ?_
    refine awl_nil ?_
    refine aw_weak (weak_ofP [] (l := [(2, .d (.nils))]) (objs := []) rfl (by simp) rfl (by repeat' first | exact trivial | refine ⟨?_, ?_⟩) ⟨rfl, trivial, trivial⟩) ?_
    refine aw_weak (weak_relax [] (l' := [(2, .d (.sl false (([] : List Str).map eStr)))]) (objs' := []) (.cons (.c (.d .nil)) .nil) .nil) ?_
    refine aw_ret ?_
    have hr := Option.some.inj h
    subst hr
    exact ret_objs (.inr rfl) [] (objs' := []) (new := []) rfl (by simp) (by simp) rfl (by repeat' first | exact trivial | refine ⟨?_, ?_⟩) rfl rfl (by repeat' first | exact trivial | refine ⟨?_, ?_⟩) (fun h => nomatch h) ⟨rfl, rfl, rfl⟩
  · have h := if_f h hc2
    refine aw_skip ?_
    refine aw_seq ?_
    refine aw_region ?_
    refine awl_val hτ rfl rfl rfl ?_
    refine bnd_elim h fun x3 hx3 h => ?_
    refine awl_callP hτ false [] rfl rfl rfl (enterOk func93 rfl rfl) rfl rfl (by simp) ⟨trivial, trivial, trivial⟩ (by repeat' first | exact trivial | refine ⟨?_, ?_⟩) (strings_Split_ok n s_ ([44] : Str) hx3) ?_
    rintro r0 o0 n0 ⟨rfl, rfl, rfl⟩ -
    refine awl_val hτ rfl rfl rfl ?_
    refine awl_nil ?_
    refine aw_weak (weak_ofP [] (l := [(2, .d (.sl false (x3.map eStr)))]) (objs := []) rfl (by simp) rfl (by repeat' first | exact trivial | refine ⟨?_, ?_⟩) ⟨rfl, trivial, trivial⟩) ?_
    refine aw_ret ?_
    have hr := Option.some.inj h
    subst hr
    exact ret_objs (.inr rfl) [] (objs' := []) (new := []) rfl (by simp) (by simp) rfl (by repeat' first | exact trivial | refine ⟨?_, ?_⟩) rfl rfl (by repeat' first | exact trivial | refine ⟨?_, ?_⟩) (fun h => nomatch h) ⟨rfl, rfl, rfl⟩

def m_strings_IndexByte (n : Nat) (s_ : Str) (c_ : Int) : Option Int :=
  (m_stringslite_IndexByte n s_ c_).bind fun x2 =>
  some x2
theorem strings_IndexByte_ok_fr0 (fr : Bool) (n : Nat) (s_ : Str) (c_ : Int) {r : Int} (h : m_strings_IndexByte n s_ c_ = some r) : ACall prog fr 86 [.d (.str (bstr s_)), .d (.int .u8 c_)] [] (fun v o new => v = .d (.int .i64 r) ∧ o = [] ∧ new = []) := by
  refine acall_of_aw hτ func86 rfl (by simp) (by simp) ?_
  unfold m_strings_IndexByte at h
  refine aw_seq ?_
  refine aw_region ?_
  refine awl_val hτ rfl rfl rfl ?_
  refine awl_nil ?_
  refine aw_seq ?_
  refine aw_region ?_
  refine awl_val hτ rfl rfl rfl ?_
  refine awl_val hτ rfl rfl rfl ?_
  refine bnd_elim h fun x2 hx2 h => ?_
  refine awl_callP hτ false [] rfl rfl rfl (enterOk func116 rfl rfl) rfl rfl (by simp) ⟨trivial, trivial, trivial⟩ (by repeat' first | exact trivial | refine ⟨?_, ?_⟩) (stringslite_IndexByte_ok n s_ c_ hx2) ?_
  rintro r0 o0 n0 ⟨rfl, rfl, rfl⟩ -
  refine awl_val hτ rfl rfl rfl ?_
  refine awl_nil ?_
  refine aw_weak (weak_ofP [] (l := [(4, .d (.int .i64 x2))]) (objs := []) rfl (by simp) rfl (by repeat' first | exact trivial | refine ⟨?_, ?_⟩) ⟨rfl, trivial, trivial⟩) ?_
  refine aw_ret ?_
  have hr := Option.some.inj h
  subst hr
  exact ret_objs (.inr rfl) [] (objs' := []) (new := []) rfl (by simp) (by simp) rfl (by repeat' first | exact trivial | refine ⟨?_, ?_⟩) rfl rfl (by repeat' first | exact trivial | refine ⟨?_, ?_⟩) (fun _ => ⟨by simp [V.flat, V.flatA, V.flatC, D.flat], flat_nil⟩) ⟨rfl, rfl, rfl⟩
theorem strings_IndexByte_ok (n : Nat) (s_ : Str) (c_ : Int) {r : Int} (h : m_strings_IndexByte n s_ c_ = some r) : ACall prog false 86 [.d (.str (bstr s_)), .d (.int .u8 c_)] [] (fun v o new => v = .d (.int .i64 r) ∧ o = [] ∧ new = []) := strings_IndexByte_ok_fr0 false n s_ c_ h
theorem strings_IndexByte_ok_fr (n : Nat) (s_ : Str) (c_ : Int) {r : Int} (h : m_strings_IndexByte n s_ c_ = some r) : ACall prog true 86 [.d (.str (bstr s_)), .d (.int .u8 c_)] [] (fun v o new => v = .d (.int .i64 r) ∧ o = [] ∧ new = []) := strings_IndexByte_ok_fr0 true n s_ c_ h

def m_impl_readNumber_j1 (n : Nat) (s_ : Str) (v29 : Int) : Option (Nat × Bool) :=
  (m_impl_FromBits n v29).bind fun x30 =>
  if (s_.length : Int) = (8 : Int) then
    (m_impl_BitsOf n x30.1).bind fun x32 =>
    some (x30.1, (decide (x32 = v29)))
  else
    some (x30.1, false)
def m_impl_readNumber_j3 (n : Nat) (k47 : Int → Int → Option (Nat × Bool)) (v39 : Int) (v53 : Int) : Option (Nat × Bool) :=
  k47 v53 (w64 (v39 + (1 : Int)))
def m_impl_readNumber_j4 (n : Nat) (k47 : Int → Int → Option (Nat × Bool)) (v38 : Int) (v39 : Int) (x56 : Int) : Option (Nat × Bool) :=
  m_impl_readNumber_j3 n k47 v39 (w64 ((w64 (v38 * (16 : Int))) + x56))
def m_impl_readNumber_j5 (n : Nat) (k47 : Int → Int → Option (Nat × Bool)) (v38 : Int) (v39 : Int) (x56 : Int) (v62 : Bool) : Option (Nat × Bool) :=
  if v62 = true then
    some ((0 : Nat), false)
  else
    m_impl_readNumber_j4 n k47 v38 v39 x56
def m_impl_readNumber_l2 (n : Nat) (s_ : Str) : Nat → Int → Int → Option (Nat × Bool)
  | 0, _, _ => none
  | m46 + 1, v38, v39 =>
    if v39 < (s_.length : Int) then
      (getI s_ v39).bind fun x55 =>
      (m_strings_IndexByte n ([48, 49, 50, 51, 52, 53, 54, 55, 56, 57, 97, 98, 99, 100, 101, 102] : Str) (x55.toNat : Int)).bind fun x56 =>
      if x56 < (0 : Int) then
        m_impl_readNumber_j5 n (m_impl_readNumber_l2 n s_ m46) v38 v39 x56 true
      else
        m_impl_readNumber_j5 n (m_impl_readNumber_l2 n s_ m46) v38 v39 x56 (decide (v39 = (8 : Int)))
    else
      m_impl_readNumber_j1 n s_ v38
def m_impl_readNumber (n : Nat) (s_ : Str) : Option (Nat × Bool) :=
  m_impl_readNumber_l2 n s_ n (0 : Int) (0 : Int)
theorem impl_readNumber_ok_fr0 (fr : Bool) (n : Nat) (s_ : Str) {r : Nat × Bool} (h : m_impl_readNumber n s_ = some r) : ACall prog fr 55 [.d (.str (bstr s_))] [] (fun v o new => v = .tup [.d (.fl .f32 r.1), .d (.bool r.2)] ∧ o = [] ∧ new = []) := by
  refine acall_of_aw hτ func55 rfl (by simp) (by simp) ?_
  unfold m_impl_readNumber at h
  refine aw_seq ?_
  refine aw_region ?_
  refine awl_val hτ rfl rfl rfl ?_
  refine awl_val hτ rfl rfl rfl ?_
  refine awl_nil ?_
  refine aw_seq ?_
  refine aw_region ?_
  refine awl_val hτ rfl rfl rfl ?_
  refine awl_nil ?_
  refine aw_hk1 (ι := Int) (fun v29 => St.of [(0, .d (.str (bstr s_))), (4, .d (.int .i64 v29))] [] f55.ntmps 0) (fun v29 => m_impl_readNumber_j1 n s_ v29 = some r) ?_ (fun hk33 => ?_)
  · rintro v29 h
    replace h : m_impl_readNumber_j1 n s_ v29 = some r := h
    unfold m_impl_readNumber_j1 at h
    refine aw_seq ?_
    refine aw_region ?_
    refine awl_val hτ rfl rfl rfl ?_
    refine bnd_elim h fun x30 hx30 h => ?_
    refine awl_callP hτ false [] rfl rfl rfl (enterOk func21 rfl rfl) rfl rfl (by simp) ⟨trivial, trivial⟩ (by repeat' first | exact trivial | refine ⟨?_, ?_⟩) (impl_FromBits_ok n v29 hx30) ?_
    rintro r0 o0 n0 ⟨rfl, rfl, rfl⟩ -
    refine awl_val hτ rfl rfl rfl ?_
    refine awl_val hτ rfl rfl rfl ?_
    refine awl_val hτ rfl rfl rfl ?_
    refine awl_val hτ rfl rfl rfl ?_
    refine awl_val hτ rfl rfl rfl ?_
    refine awl_nil ?_
    refine aw_seq ?_
    refine aw_weak (weak_ofP [] (l := [(0, .d (.str (bstr s_))), (4, .d (.int .i64 v29)), (7, .d (.fl .f32 x30.1))]) (objs := []) rfl (by simp) rfl (by repeat' first | exact trivial | refine ⟨?_, ?_⟩) ⟨rfl, trivial, rfl, trivial, rfl, trivial, trivial⟩) ?_
    refine aw_region ?_
    refine awl_val hτ rfl rfl rfl ?_
    refine awl_val hτ rfl rfl rfl ?_
    refine awl_val hτ rfl rfl rfl ?_
    refine awl_val hτ (v := .d (.bool (decide ((s_.length : Int) = (8 : Int))))) rfl rfl (or_ieq _ _) ?_
    refine awl_val hτ rfl rfl rfl ?_
    refine awl_split 38 rfl (fun hb31 => ?_) (fun hb31 => ?_)
    · have h := if_t h hb31
      refine awl_val hτ rfl rfl rfl ?_
      refine bnd_elim h fun x32 hx32 h => ?_
      refine awl_callP hτ false [] rfl rfl rfl (enterOk func22 rfl rfl) rfl rfl (by simp) ⟨trivial, trivial⟩ (by repeat' first | exact trivial | refine ⟨?_, ?_⟩) (impl_BitsOf_ok n x30.1 hx32) ?_
      rintro r0 o0 n0 ⟨rfl, rfl, rfl⟩ -
      refine awl_val hτ rfl rfl rfl ?_
      refine awl_val hτ (v := .d (.bool (decide (x32 = v29)))) rfl rfl (or_ieq _ _) ?_
      refine awl_val hτ rfl rfl rfl ?_
      refine awl_val hτ rfl rfl rfl ?_
      refine awl_val hτ rfl rfl rfl ?_
      refine awl_nil ?_
      refine aw_weak (weak_ofP [] (l := [(2, .d (.fl .f32 x30.1)), (3, .d (.bool (decide (x32 = v29))))]) (objs := []) rfl (by simp) rfl (by repeat' first | exact trivial | refine ⟨?_, ?_⟩) ⟨rfl, trivial, rfl, trivial, trivial⟩) ?_
      refine aw_ret ?_
      have hr := Option.some.inj h
      subst hr
      exact ret_objs (.inr rfl) [] (objs' := []) (new := []) rfl (by simp) (by simp) rfl (by repeat' first | exact trivial | refine ⟨?_, ?_⟩) rfl rfl (by repeat' first | exact trivial | refine ⟨?_, ?_⟩) (fun _ => ⟨by simp [V.flat, V.flatA, V.flatC, D.flat], flat_nil⟩) ⟨rfl, rfl, rfl⟩
    · have h := if_f h hb31
      refine awl_skip rfl rfl ?_
      refine awl_skip rfl rfl ?_
      refine awl_skip rfl rfl ?_
      refine awl_skip rfl rfl ?_
      refine awl_val hτ rfl rfl rfl ?_
      refine awl_val hτ rfl rfl rfl ?_
      refine awl_val hτ rfl rfl rfl ?_
      refine awl_nil ?_
      refine aw_weak (weak_ofP [] (l := [(2, .d (.fl .f32 x30.1)), (3, .d (.bool false))]) (objs := []) rfl (by simp) rfl (by repeat' first | exact trivial | refine ⟨?_, ?_⟩) ⟨rfl, trivial, rfl, trivial, trivial⟩) ?_
      refine aw_ret ?_
      have hr := Option.some.inj h
      subst hr
      exact ret_objs (.inr rfl) [] (objs' := []) (new := []) rfl (by simp) (by simp) rfl (by repeat' first | exact trivial | refine ⟨?_, ?_⟩) rfl rfl (by repeat' first | exact trivial | refine ⟨?_, ?_⟩) (fun _ => ⟨by simp [V.flat, V.flatA, V.flatC, D.flat], flat_nil⟩) ⟨rfl, rfl, rfl⟩
  · refine aw_seq ?_
    refine aw_seq ?_
    refine aw_region ?_
    refine awl_val hτ rfl rfl rfl ?_
    refine awl_val hτ rfl rfl rfl ?_
    refine awl_val hτ rfl rfl rfl ?_
    refine awl_nil ?_
    refine aw_block ?_
    refine aw_loop (ι := Nat × Int × Int) (fun (m46, v38, v39) => St.of [(0, .d (.str (bstr s_))), (4, .d (.int .i64 v38)), (10, .d (.int .i64 (s_.length : Int))), (11, .d (.int .i64 v39))] [] f55.ntmps 0) (fun (m46, v38, v39) => m_impl_readNumber_l2 n s_ m46 v38 v39 = some r) (fun x => x.1) (n, (0 : Int), (0 : Int)) h (weak_ofP [] (l := [(0, .d (.str (bstr s_))), (4, .d (.int .i64 (0 : Int))), (10, .d (.int .i64 (s_.length : Int))), (11, .d (.int .i64 (0 : Int)))]) (objs := []) rfl (by simp) rfl (by repeat' first | exact trivial | refine ⟨?_, ?_⟩) ⟨rfl, trivial, rfl, trivial, rfl, trivial, rfl, trivial, trivial⟩) ?_
    rintro ⟨m46, v38, v39⟩ h
    replace h : m_impl_readNumber_l2 n s_ m46 v38 v39 = some r := h
    rcases m46 with _ | m46
    · rw [m_impl_readNumber_l2] at h; cases h
    rw [m_impl_readNumber_l2] at h
    refine aw_seq ?_
    refine aw_region ?_
    refine awl_val hτ rfl rfl rfl ?_
    refine awl_nil ?_
    refine aw_seq ?_
    refine aw_cond rfl (fun hc48 => ?_) (fun hc48 => ?_)
    · have h := if_t h hc48
      refine aw_skip ?_
      refine aw_hk1 (ι := Int) (fun v53 => St.of [(0, .d (.str (bstr s_))), (4, .d (.int .i64 v53)), (10, .d (.int .i64 (s_.length : Int))), (11, .d (.int .i64 v39))] [] f55.ntmps 0) (fun v53 => m_impl_readNumber_j3 n (m_impl_readNumber_l2 n s_ m46) v39 v53 = some r) ?_ (fun hk54 => ?_)
      · rintro v53 h
        replace h : m_impl_readNumber_j3 n (m_impl_readNumber_l2 n s_ m46) v39 v53 = some r := h
        unfold m_impl_readNumber_j3 at h
        refine aw_region ?_
        refine awl_val hτ rfl rfl rfl ?_
        refine awl_val hτ rfl rfl rfl ?_
        refine awl_nil ?_
        exact ⟨(m46, v53, (w64 (v39 + (1 : Int)))), h, Nat.lt_succ_self m46, (weak_ofP [] (l := [(0, .d (.str (bstr s_))), (4, .d (.int .i64 v53)), (10, .d (.int .i64 (s_.length : Int))), (11, .d (.int .i64 (w64 (v39 + (1 : Int)))))]) (objs := []) rfl (by simp) rfl (by repeat' first | exact trivial | refine ⟨?_, ?_⟩) ⟨rfl, trivial, rfl, trivial, rfl, trivial, rfl, trivial, trivial⟩)⟩
      · refine aw_seq ?_
        refine aw_block ?_
        refine aw_seq ?_
        refine aw_region ?_
        refine awl_val hτ rfl rfl rfl ?_
        refine awl_val hτ rfl rfl rfl ?_
        refine awl_nil ?_
        refine aw_seq ?_
        refine aw_region ?_
        refine awl_val hτ rfl rfl rfl ?_
        refine awl_val hτ rfl rfl rfl ?_
        refine bnd_elim h fun x55 hx55 h => ?_
        refine awl_need hτ (v := .d (.int .u8 (x55.toNat : Int))) rfl rfl (Eq.trans rfl (or_sidx hx55)) (sidx_need hx55) ?_
        refine bnd_elim h fun x56 hx56 h => ?_
        refine awl_callP hτ false [] rfl rfl rfl (enterOk func86 rfl rfl) rfl rfl (by simp) ⟨trivial, trivial, trivial⟩ (by repeat' first | exact trivial | refine ⟨?_, ?_⟩) (strings_IndexByte_ok n ([48, 49, 50, 51, 52, 53, 54, 55, 56, 57, 97, 98, 99, 100, 101, 102] : Str) (x55.toNat : Int) hx56) ?_
        rintro r0 o0 n0 ⟨rfl, rfl, rfl⟩ -
        refine awl_val hτ rfl rfl rfl ?_
        refine awl_nil ?_
        refine aw_hk1 (ι := Unit) (fun _ => St.of [(0, .d (.str (bstr s_))), (4, .d (.int .i64 v38)), (6, .d (.int .i64 x56)), (10, .d (.int .i64 (s_.length : Int))), (11, .d (.int .i64 v39))] [] f55.ntmps 0) (fun _ => m_impl_readNumber_j4 n (m_impl_readNumber_l2 n s_ m46) v38 v39 x56 = some r) ?_ (fun hk59 => ?_)
        · rintro ⟨⟩ h
          replace h : m_impl_readNumber_j4 n (m_impl_readNumber_l2 n s_ m46) v38 v39 x56 = some r := h
          unfold m_impl_readNumber_j4 at h
          refine aw_region ?_
          refine awl_val hτ rfl rfl rfl ?_
          refine awl_val hτ rfl rfl rfl ?_
          refine awl_val hτ rfl rfl rfl ?_
          refine awl_val hτ rfl rfl rfl ?_
          refine awl_val hτ rfl rfl rfl ?_
          refine awl_nil ?_
          refine aw_weak (weak_ofP [] (l := [(0, .d (.str (bstr s_))), (4, .d (.int .i64 (w64 ((w64 (v38 * (16 : Int))) + x56)))), (10, .d (.int .i64 (s_.length : Int))), (11, .d (.int .i64 v39))]) (objs := []) rfl (by simp) rfl (by repeat' first | exact trivial | refine ⟨?_, ?_⟩) ⟨rfl, trivial, rfl, trivial, rfl, trivial, rfl, trivial, trivial⟩) ?_
          exact hk54 (w64 ((w64 (v38 * (16 : Int))) + x56)) h
        · refine aw_seq ?_
          refine aw_hk1 (ι := Bool) (fun v62 => St.of [(0, .d (.str (bstr s_))), (4, .d (.int .i64 v38)), (6, .d (.int .i64 x56)), (10, .d (.int .i64 (s_.length : Int))), (11, .d (.int .i64 v39)), (23, .d (.bool v62))] [] f55.ntmps 0) (fun v62 => m_impl_readNumber_j5 n (m_impl_readNumber_l2 n s_ m46) v38 v39 x56 v62 = some r) ?_ (fun hk64 => ?_)
          · rintro v62 h
            replace h : m_impl_readNumber_j5 n (m_impl_readNumber_l2 n s_ m46) v38 v39 x56 v62 = some r := h
            unfold m_impl_readNumber_j5 at h
            refine aw_cond rfl (fun hc63 => ?_) (fun hc63 => ?_)
            · have h := if_bt h hc63
              refine aw_seq ?_
              refine aw_region ?_
              refine awl_val hτ rfl rfl rfl ?_
              refine awl_val hτ rfl rfl rfl ?_
              refine awl_nil ?_
              refine aw_weak (weak_ofP [] (l := [(2, .d (.fl .f32 (0 : Nat))), (3, .d (.bool false))]) (objs := []) rfl (by simp) rfl (by repeat' first | exact trivial | refine ⟨?_, ?_⟩) ⟨rfl, trivial, rfl, trivial, trivial⟩) ?_
              refine aw_ret ?_
              have hr := Option.some.inj h
              subst hr
              exact ret_objs (.inr rfl) [] (objs' := []) (new := []) rfl (by simp) (by simp) rfl (by repeat' first | exact trivial | refine ⟨?_, ?_⟩) rfl rfl (by repeat' first | exact trivial | refine ⟨?_, ?_⟩) (fun _ => ⟨by simp [V.flat, V.flatA, V.flatC, D.flat], flat_nil⟩) ⟨rfl, rfl, rfl⟩
            · have h := if_bf h hc63
              refine aw_skip ?_
              refine aw_weak (weak_ofP [] (l := [(0, .d (.str (bstr s_))), (4, .d (.int .i64 v38)), (6, .d (.int .i64 x56)), (10, .d (.int .i64 (s_.length : Int))), (11, .d (.int .i64 v39))]) (objs := []) rfl (by simp) rfl (by repeat' first | exact trivial | refine ⟨?_, ?_⟩) ⟨rfl, trivial, rfl, trivial, rfl, trivial, rfl, trivial, rfl, trivial, trivial⟩) ?_
              exact hk59 () h
          · refine aw_seq ?_
            refine aw_weak (weak_ofP [] (l := [(0, .d (.str (bstr s_))), (4, .d (.int .i64 v38)), (5, .d (.int .i64 v39)), (6, .d (.int .i64 x56)), (10, .d (.int .i64 (s_.length : Int))), (11, .d (.int .i64 v39))]) (objs := []) rfl (by simp) rfl (by repeat' first | exact trivial | refine ⟨?_, ?_⟩) ⟨rfl, trivial, rfl, trivial, rfl, trivial, rfl, trivial, rfl, trivial, rfl, trivial, trivial⟩) ?_
            refine aw_region ?_
            refine awl_val hτ rfl rfl rfl ?_
            refine awl_val hτ rfl rfl rfl ?_
            refine awl_val hτ rfl rfl rfl ?_
            refine awl_split 20 rfl (fun hb65 => ?_) (fun hb65 => ?_)
            · have h := if_t h hb65
              refine awl_skip rfl rfl ?_
              refine awl_skip rfl rfl ?_
              refine awl_val hτ rfl rfl rfl ?_
              refine awl_nil ?_
              refine aw_weak (weak_ofP [] (l := [(0, .d (.str (bstr s_))), (4, .d (.int .i64 v38)), (6, .d (.int .i64 x56)), (10, .d (.int .i64 (s_.length : Int))), (11, .d (.int .i64 v39)), (23, .d (.bool true))]) (objs := []) rfl (by simp) rfl (by repeat' first | exact trivial | refine ⟨?_, ?_⟩) ⟨rfl, trivial, rfl, trivial, rfl, trivial, rfl, trivial, rfl, trivial, rfl, trivial, trivial⟩) ?_
              exact hk64 true h
            · have h := if_f h hb65
              refine awl_val hτ rfl rfl rfl ?_
              refine awl_val hτ (v := .d (.bool (decide (v39 = (8 : Int))))) rfl rfl (or_ieq _ _) ?_
              refine awl_val hτ rfl rfl rfl ?_
              refine awl_nil ?_
              refine aw_weak (weak_ofP [] (l := [(0, .d (.str (bstr s_))), (4, .d (.int .i64 v38)), (6, .d (.int .i64 x56)), (10, .d (.int .i64 (s_.length : Int))), (11, .d (.int .i64 v39)), (23, .d (.bool (decide (v39 = (8 : Int)))))]) (objs := []) rfl (by simp) rfl (by repeat' first | exact trivial | refine ⟨?_, ?_⟩) ⟨rfl, trivial, rfl, trivial, rfl, trivial, rfl, trivial, rfl, trivial, rfl, trivial, trivial⟩) ?_
              exact hk64 (decide (v39 = (8 : Int))) h
    · have h := if_f h hc48
      refine aw_exit ?_
      refine aw_weak (weak_ofP [] (l := [(0, .d (.str (bstr s_))), (4, .d (.int .i64 v38))]) (objs := []) rfl (by simp) rfl (by repeat' first | exact trivial | refine ⟨?_, ?_⟩) ⟨rfl, trivial, rfl, trivial, trivial⟩) ?_
      exact hk33 v38 h
theorem impl_readNumber_ok (n : Nat) (s_ : Str) {r : Nat × Bool} (h : m_impl_readNumber n s_ = some r) : ACall prog false 55 [.d (.str (bstr s_))] [] (fun v o new => v = .tup [.d (.fl .f32 r.1), .d (.bool r.2)] ∧ o = [] ∧ new = []) := impl_readNumber_ok_fr0 false n s_ h
theorem impl_readNumber_ok_fr (n : Nat) (s_ : Str) {r : Nat × Bool} (h : m_impl_readNumber n s_ = some r) : ACall prog true 55 [.d (.str (bstr s_))] [] (fun v o new => v = .tup [.d (.fl .f32 r.1), .d (.bool r.2)] ∧ o = [] ∧ new = []) := impl_readNumber_ok_fr0 true n s_ h

def m_impl_ReadNumbers_j2 (n : Nat) (k32 : List Nat → Int → Option (List Nat × Bool)) (v23 : Int) (v39 : List Nat) : Option (List Nat × Bool) :=
  k32 v39 (w64 (v23 + (1 : Int)))
def m_impl_ReadNumbers_j3 (n : Nat) (k32 : List Nat → Int → Option (List Nat × Bool)) (v22 : List Nat) (v23 : Int) (x42 : Nat × Bool) : Option (List Nat × Bool) :=
  grd (room (v22.length + 1) 4) <|
  m_impl_ReadNumbers_j2 n k32 v23 (v22 ++ [x42.1])
def m_impl_ReadNumbers_j4 (n : Nat) (k32 : List Nat → Int → Option (List Nat × Bool)) (v22 : List Nat) (v23 : Int) (x42 : Nat × Bool) (v49 : Bool) : Option (List Nat × Bool) :=
  if v49 = true then
    some (([] : List Nat), false)
  else
    m_impl_ReadNumbers_j3 n k32 v22 v23 x42
def m_impl_ReadNumbers_l1 (n : Nat) (x16 : List Str) : Nat → List Nat → Int → Option (List Nat × Bool)
  | 0, _, _ => none
  | m31 + 1, v22, v23 =>
    if v23 < (x16.length : Int) then
      (getI x16 v23).bind fun x41 =>
      (m_impl_readNumber n x41).bind fun x42 =>
      if x42.2 = true then
        m_impl_ReadNumbers_j4 n (m_impl_ReadNumbers_l1 n x16 m31) v22 v23 x42 (decide ((v22.length : Int) = (256 : Int)))
      else
        m_impl_ReadNumbers_j4 n (m_impl_ReadNumbers_l1 n x16 m31) v22 v23 x42 true
    else
      some (v22, true)
def m_impl_ReadNumbers (n : Nat) (s_ : Str) : Option (List Nat × Bool) :=
  (m_impl_parted n s_).bind fun x16 =>
  m_impl_ReadNumbers_l1 n x16 n ([] : List Nat) (0 : Int)
theorem impl_ReadNumbers_ok_fr0 (fr : Bool) (n : Nat) (s_ : Str) {r : List Nat × Bool} (h : m_impl_ReadNumbers n s_ = some r) : ACall prog fr 33 [.d (.str (bstr s_))] [] (fun v o new => v = .tup [.row 0 r.1.length 0 r.1.length, .d (.bool r.2)] ∧ o = [] ∧ new = [.row 1 (r.1.map eNatf32)]) := by
  refine acall_of_aw hτ func33 rfl (by simp) (by simp) ?_
  unfold m_impl_ReadNumbers at h
  refine aw_seq ?_
  refine aw_region ?_
  refine awl_val hτ rfl rfl rfl ?_
  refine awl_val hτ rfl rfl rfl ?_
  refine awl_nil ?_
  refine aw_seq ?_
  refine aw_region ?_
  refine awl_valH hτ rfl rfl rfl ?_
  refine awl_val hτ rfl rfl rfl ?_
  refine awl_nil ?_
  refine aw_seq ?_
  refine aw_seq ?_
  refine aw_region ?_
  refine awl_val hτ rfl rfl rfl ?_
  refine bnd_elim h fun x16 hx16 h => ?_
  refine awl_callP hτ false [] rfl rfl rfl (enterOk func54 rfl rfl) rfl rfl (by simp) ⟨trivial, trivial⟩ (by repeat' first | exact trivial | refine ⟨?_, ?_⟩) (impl_parted_ok n s_ hx16) ?_
  rintro r0 o0 n0 ⟨rfl, rfl, rfl⟩ -
  refine awl_val hτ (v := .d (.int .i64 (x16.length : Int))) rfl rfl (Eq.trans rfl (or_len (f := eStr) x16)) ?_
  refine awl_val hτ rfl rfl rfl ?_
  refine awl_nil ?_
  refine aw_block ?_
  refine aw_loop (ι := Nat × List Nat × Int) (fun (m31, v22, v23) => St.of [(4, .row 0 v22.length 0 v22.length), (11, .d (.sl false (x16.map eStr))), (12, .d (.int .i64 (x16.length : Int))), (13, .d (.int .i64 v23))] [.row 1 (v22.map eNatf32)] f33.ntmps 0) (fun (m31, v22, v23) => m_impl_ReadNumbers_l1 n x16 m31 v22 v23 = some r) (fun x => x.1) (n, ([] : List Nat), (0 : Int)) h (weak_ofP [0] (l := [(4, .row 0 (([] : List Nat).length) 0 (([] : List Nat).length)), (11, .d (.sl false (x16.map eStr))), (12, .d (.int .i64 (x16.length : Int))), (13, .d (.int .i64 (0 : Int)))]) (objs := [.row 1 (([] : List Nat).map eNatf32)]) rfl (by simp) rfl (by repeat' first | exact trivial | refine ⟨?_, ?_⟩) ⟨rfl, trivial, rfl, trivial, rfl, trivial, rfl, trivial, trivial⟩) ?_
  rintro ⟨m31, v22, v23⟩ h
  replace h : m_impl_ReadNumbers_l1 n x16 m31 v22 v23 = some r := h
  rcases m31 with _ | m31
  · rw [m_impl_ReadNumbers_l1] at h; cases h
  rw [m_impl_ReadNumbers_l1] at h
  refine aw_seq ?_
  refine aw_region ?_
  refine awl_val hτ rfl rfl rfl ?_
  refine awl_nil ?_
  refine aw_seq ?_
  refine aw_cond rfl (fun hc33 => ?_) (fun hc33 => ?_)
  · have h := if_t h hc33
    refine aw_skip ?_
    refine aw_hk1 (ι := List Nat) (fun v39 => St.of [(4, .row 0 v39.length 0 v39.length), (11, .d (.sl false (x16.map eStr))), (12, .d (.int .i64 (x16.length : Int))), (13, .d (.int .i64 v23))] [.row 1 (v39.map eNatf32)] f33.ntmps 0) (fun v39 => m_impl_ReadNumbers_j2 n (m_impl_ReadNumbers_l1 n x16 m31) v23 v39 = some r) ?_ (fun hk40 => ?_)
    · rintro v39 h
      replace h : m_impl_ReadNumbers_j2 n (m_impl_ReadNumbers_l1 n x16 m31) v23 v39 = some r := h
      unfold m_impl_ReadNumbers_j2 at h
      refine aw_region ?_
      refine awl_val hτ rfl rfl rfl ?_
      refine awl_val hτ rfl rfl rfl ?_
      refine awl_nil ?_
      exact ⟨(m31, v39, (w64 (v23 + (1 : Int)))), h, Nat.lt_succ_self m31, (weak_ofP [0] (l := [(4, .row 0 v39.length 0 v39.length), (11, .d (.sl false (x16.map eStr))), (12, .d (.int .i64 (x16.length : Int))), (13, .d (.int .i64 (w64 (v23 + (1 : Int)))))]) (objs := [.row 1 (v39.map eNatf32)]) rfl (by simp) rfl (by repeat' first | exact trivial | refine ⟨?_, ?_⟩) ⟨rfl, trivial, rfl, trivial, rfl, trivial, rfl, trivial, trivial⟩)⟩
    · refine aw_seq ?_
      refine aw_block ?_
      refine aw_seq ?_
      refine aw_region ?_
      refine bnd_elim h fun x41 hx41 h => ?_
      refine awl_elem hτ rfl rfl rfl (getI_some hx41).1 (map_getI hx41) rfl ?_
      refine awl_val hτ rfl rfl rfl ?_
      refine awl_val hτ rfl rfl rfl ?_
      refine awl_nil ?_
      refine aw_seq ?_
      refine aw_region ?_
      refine awl_val hτ rfl rfl rfl ?_
      refine bnd_elim h fun x42 hx42 h => ?_
      refine awl_callP hτ false [] rfl rfl rfl (enterOk func55 rfl rfl) rfl rfl (by simp) ⟨trivial, trivial⟩ (by repeat' first | exact trivial | refine ⟨?_, ?_⟩) (impl_readNumber_ok n x41 hx42) ?_
      rintro r0 o0 n0 ⟨rfl, rfl, rfl⟩ -
      refine awl_val hτ rfl rfl rfl ?_
      refine awl_val hτ rfl rfl rfl ?_
      refine awl_val hτ rfl rfl rfl ?_
      refine awl_val hτ rfl rfl rfl ?_
      refine awl_val hτ rfl rfl rfl ?_
      refine awl_nil ?_
      refine aw_hk1 (ι := Unit) (fun _ => St.of [(4, .row 0 v22.length 0 v22.length), (7, .d (.fl .f32 x42.1)), (11, .d (.sl false (x16.map eStr))), (12, .d (.int .i64 (x16.length : Int))), (13, .d (.int .i64 v23))] [.row 1 (v22.map eNatf32)] f33.ntmps 0) (fun _ => m_impl_ReadNumbers_j3 n (m_impl_ReadNumbers_l1 n x16 m31) v22 v23 x42 = some r) ?_ (fun hk46 => ?_)
      · rintro ⟨⟩ h
        replace h : m_impl_ReadNumbers_j3 n (m_impl_ReadNumbers_l1 n x16 m31) v22 v23 x42 = some r := h
        unfold m_impl_ReadNumbers_j3 at h
        refine aw_region ?_
        refine awl_val hτ rfl rfl rfl ?_
        refine awl_val hτ rfl rfl rfl ?_
        refine awl_valH hτ rfl rfl rfl ?_
        refine grd_elim h fun hg45 h => ?_
        refine awl_needH hτ rfl rfl (Eq.trans rfl (or_append (f := eNatf32) v22 [x42.1] rfl)) ⟨⟨rfl, Nat.le_of_ble_eq_true rfl⟩, len_map _, rfl, rfl, hg45, by decide, (all1 rfl)⟩ ?_
        refine awl_val hτ rfl rfl rfl ?_
        refine awl_nil ?_
        refine aw_weak (weak_ofP [0] (l := [(4, .row 0 ((v22 ++ [x42.1]).length) 0 ((v22 ++ [x42.1]).length)), (11, .d (.sl false (x16.map eStr))), (12, .d (.int .i64 (x16.length : Int))), (13, .d (.int .i64 v23))]) (objs := [.row 1 ((v22 ++ [x42.1]).map eNatf32)]) rfl (by simp) rfl (by repeat' first | exact trivial | refine ⟨?_, ?_⟩) ⟨rfl, trivial, rfl, trivial, rfl, trivial, rfl, trivial, trivial⟩) ?_
        exact hk40 (v22 ++ [x42.1]) h
      · refine aw_seq ?_
        refine aw_hk1 (ι := Bool) (fun v49 => St.of [(4, .row 0 v22.length 0 v22.length), (7, .d (.fl .f32 x42.1)), (11, .d (.sl false (x16.map eStr))), (12, .d (.int .i64 (x16.length : Int))), (13, .d (.int .i64 v23)), (28, .d (.bool v49))] [.row 1 (v22.map eNatf32)] f33.ntmps 0) (fun v49 => m_impl_ReadNumbers_j4 n (m_impl_ReadNumbers_l1 n x16 m31) v22 v23 x42 v49 = some r) ?_ (fun hk51 => ?_)
        · rintro v49 h
          replace h : m_impl_ReadNumbers_j4 n (m_impl_ReadNumbers_l1 n x16 m31) v22 v23 x42 v49 = some r := h
          unfold m_impl_ReadNumbers_j4 at h
          refine aw_cond rfl (fun hc50 => ?_) (fun hc50 => ?_)
          · have h := if_bt h hc50
            refine aw_seq ?_
            refine aw_region ?_
            refine awl_val hτ rfl rfl rfl ?_
            refine awl_val hτ rfl rfl rfl ?_
            refine awl_nil ?_
            refine aw_weak (weak_ofP [] (l := [(2, .d (.nils)), (3, .d (.bool false))]) (objs := []) rfl (by simp) rfl (by repeat' first | exact trivial | refine ⟨?_, ?_⟩) ⟨rfl, trivial, rfl, trivial, trivial⟩) ?_
            refine aw_weak (weak_relax [1] (l' := [(2, .row 0 (([] : List Nat).length) 0 (([] : List Nat).length)), (3, .d (.bool false))]) (objs' := []) (.cons (.c (.ghost ⟨Nat.le_of_ble_eq_true rfl, Nat.le_of_ble_eq_true rfl⟩)) (.cons (.c (.refl _)) .nil)) .nil) ?_
            refine aw_ret ?_
            have hr := Option.some.inj h
            subst hr
            exact ret_objs (.inr rfl) [0] (objs' := []) (new := [.row 1 (([] : List Nat).map eNatf32)]) rfl (by simp) (by simp) rfl (by repeat' first | exact trivial | refine ⟨?_, ?_⟩) rfl rfl (by repeat' first | exact trivial | refine ⟨?_, ?_⟩) (fun _ => ⟨by simp [V.flat, V.flatA, V.flatC, D.flat], (flat_cons (flat_row eNatf32_flat _) flat_nil)⟩) ⟨rfl, rfl, rfl⟩
          · have h := if_bf h hc50
            refine aw_skip ?_
            refine aw_weak (weak_ofP [0] (l := [(4, .row 0 v22.length 0 v22.length), (7, .d (.fl .f32 x42.1)), (11, .d (.sl false (x16.map eStr))), (12, .d (.int .i64 (x16.length : Int))), (13, .d (.int .i64 v23))]) (objs := [.row 1 (v22.map eNatf32)]) rfl (by simp) rfl (by repeat' first | exact trivial | refine ⟨?_, ?_⟩) ⟨rfl, trivial, rfl, trivial, rfl, trivial, rfl, trivial, rfl, trivial, trivial⟩) ?_
            exact hk46 () h
        · refine aw_seq ?_
          refine aw_weak (weak_ofP [0] (l := [(4, .row 0 v22.length 0 v22.length), (7, .d (.fl .f32 x42.1)), (8, .d (.bool x42.2)), (11, .d (.sl false (x16.map eStr))), (12, .d (.int .i64 (x16.length : Int))), (13, .d (.int .i64 v23))]) (objs := [.row 1 (v22.map eNatf32)]) rfl (by simp) rfl (by repeat' first | exact trivial | refine ⟨?_, ?_⟩) ⟨rfl, trivial, rfl, trivial, rfl, trivial, rfl, trivial, rfl, trivial, rfl, trivial, trivial⟩) ?_
          refine aw_region ?_
          refine awl_val hτ rfl rfl rfl ?_
          refine awl_val hτ rfl rfl rfl ?_
          refine awl_val hτ rfl rfl rfl ?_
          refine awl_split 24 rfl (fun hb52 => ?_) (fun hb52 => ?_)
          · have hb52 := not_t hb52
            have h := if_bf h hb52
            refine awl_skip rfl rfl ?_
            refine awl_skip rfl rfl ?_
            refine awl_skip rfl rfl ?_
            refine awl_val hτ rfl rfl rfl ?_
            refine awl_nil ?_
            refine aw_weak (weak_ofP [0] (l := [(4, .row 0 v22.length 0 v22.length), (7, .d (.fl .f32 x42.1)), (11, .d (.sl false (x16.map eStr))), (12, .d (.int .i64 (x16.length : Int))), (13, .d (.int .i64 v23)), (28, .d (.bool true))]) (objs := [.row 1 (v22.map eNatf32)]) rfl (by simp) rfl (by repeat' first | exact trivial | refine ⟨?_, ?_⟩) ⟨rfl, trivial, rfl, trivial, rfl, trivial, rfl, trivial, rfl, trivial, rfl, trivial, trivial⟩) ?_
            exact hk51 true h
          · have hb52 := not_f hb52
            have h := if_bt h hb52
            refine awl_val hτ rfl rfl rfl ?_
            refine awl_need hτ rfl rfl rfl (len_map _) ?_
            refine awl_val hτ (v := .d (.bool (decide ((v22.length : Int) = (256 : Int))))) rfl rfl (or_ieq _ _) ?_
            refine awl_val hτ rfl rfl rfl ?_
            refine awl_nil ?_
            refine aw_weak (weak_ofP [0] (l := [(4, .row 0 v22.length 0 v22.length), (7, .d (.fl .f32 x42.1)), (11, .d (.sl false (x16.map eStr))), (12, .d (.int .i64 (x16.length : Int))), (13, .d (.int .i64 v23)), (28, .d (.bool (decide ((v22.length : Int) = (256 : Int)))))]) (objs := [.row 1 (v22.map eNatf32)]) rfl (by simp) rfl (by repeat' first | exact trivial | refine ⟨?_, ?_⟩) ⟨rfl, trivial, rfl, trivial, rfl, trivial, rfl, trivial, rfl, trivial, rfl, trivial, trivial⟩) ?_
            exact hk51 (decide ((v22.length : Int) = (256 : Int))) h
  · have h := if_f h hc33
    refine aw_exit ?_
    refine aw_seq ?_
    refine aw_region ?_
    refine awl_val hτ rfl rfl rfl ?_
    refine awl_val hτ rfl rfl rfl ?_
    refine awl_val hτ rfl rfl rfl ?_
    refine awl_nil ?_
    refine aw_weak (weak_ofP [0] (l := [(2, .row 0 v22.length 0 v22.length), (3, .d (.bool true))]) (objs := [.row 1 (v22.map eNatf32)]) rfl (by simp) rfl (by repeat' first | exact trivial | refine ⟨?_, ?_⟩) ⟨rfl, trivial, rfl, trivial, trivial⟩) ?_
    refine aw_ret ?_
    have hr := Option.some.inj h
    subst hr
    exact ret_objs (.inr rfl) [0] (objs' := []) (new := [.row 1 (v22.map eNatf32)]) rfl (by simp) (by simp) rfl (by repeat' first | exact trivial | refine ⟨?_, ?_⟩) rfl rfl (by repeat' first | exact trivial | refine ⟨?_, ?_⟩) (fun _ => ⟨by simp [V.flat, V.flatA, V.flatC, D.flat], (flat_cons (flat_row eNatf32_flat _) flat_nil)⟩) ⟨rfl, rfl, rfl⟩
theorem impl_ReadNumbers_ok (n : Nat) (s_ : Str) {r : List Nat × Bool} (h : m_impl_ReadNumbers n s_ = some r) : ACall prog false 33 [.d (.str (bstr s_))] [] (fun v o new => v = .tup [.row 0 r.1.length 0 r.1.length, .d (.bool r.2)] ∧ o = [] ∧ new = [.row 1 (r.1.map eNatf32)]) := impl_ReadNumbers_ok_fr0 false n s_ h
theorem impl_ReadNumbers_ok_fr (n : Nat) (s_ : Str) {r : List Nat × Bool} (h : m_impl_ReadNumbers n s_ = some r) : ACall prog true 33 [.d (.str (bstr s_))] [] (fun v o new => v = .tup [.row 0 r.1.length 0 r.1.length, .d (.bool r.2)] ∧ o = [] ∧ new = [.row 1 (r.1.map eNatf32)]) := impl_ReadNumbers_ok_fr0 true n s_ h

def m_spec_l01Bits (n : Nat) (x_ : Nat) : Option Int :=
  if (fcmp .neq .f32 x_ x_) = true then
    some (2143289344 : Int)
  else
    grd (isnan .f32 x_ = false) <|
    some (w64 ((x_ : Int)))
theorem spec_l01Bits_ok_fr0 (fr : Bool) (n : Nat) (x_ : Nat) {r : Int} (h : m_spec_l01Bits n x_ = some r) : ACall prog fr 89 [.d (.fl .f32 x_)] [] (fun v o new => v = .d (.int .i64 r) ∧ o = [] ∧ new = []) := by
  refine acall_of_aw hτ func89 rfl (by simp) (by simp) ?_
  unfold m_spec_l01Bits at h
  refine aw_seq ?_
  refine aw_region ?_
  refine awl_val hτ rfl rfl rfl ?_
  refine awl_nil ?_
  refine aw_seq ?_
  refine aw_seq ?_
  refine aw_region ?_
  refine awl_val hτ rfl rfl rfl ?_
  refine awl_val hτ rfl rfl rfl ?_
  refine awl_val hτ rfl rfl rfl ?_
  refine awl_nil ?_
  refine aw_cond rfl (fun hc2 => ?_) (fun hc2 => ?_)
  · have h := if_bt h hc2
    refine aw_seq ?_
    refine aw_region ?_
    refine awl_val hτ rfl rfl rfl ?_
    refine awl_nil ?_
    refine aw_weak (weak_ofP [] (l := [(2, .d (.int .i64 (2143289344 : Int)))]) (objs := []) rfl (by simp) rfl (by repeat' first | exact trivial | refine ⟨?_, ?_⟩) ⟨rfl, trivial, trivial⟩) ?_
    refine aw_ret ?_
    have hr := Option.some.inj h
    subst hr
    exact ret_objs (.inr rfl) [] (objs' := []) (new := []) rfl (by simp) (by simp) rfl (by repeat' first | exact trivial | refine ⟨?_, ?_⟩) rfl rfl (by repeat' first | exact trivial | refine ⟨?_, ?_⟩) (fun _ => ⟨by simp [V.flat, V.flatA, V.flatC, D.flat], flat_nil⟩) ⟨rfl, rfl, rfl⟩
  · have h := if_bf h hc2
    refine aw_skip ?_
    refine aw_seq ?_
    refine aw_region ?_
    refine awl_val hτ rfl rfl rfl ?_
    refine grd_elim h fun hg3 h => ?_
    refine awl_ext hτ rfl rfl rfl (ext62 hg3) ?_
    refine awl_val hτ rfl rfl rfl ?_
    refine awl_val hτ rfl rfl rfl ?_
    refine awl_nil ?_
    refine aw_weak (weak_ofP [] (l := [(2, .d (.int .i64 (w64 ((x_ : Int)))))]) (objs := []) rfl (by simp) rfl (by repeat' first | exact trivial | refine ⟨?_, ?_⟩) ⟨rfl, trivial, trivial⟩) ?_
    refine aw_ret ?_
    have hr := Option.some.inj h
    subst hr
    exact ret_objs (.inr rfl) [] (objs' := []) (new := []) rfl (by simp) (by simp) rfl (by repeat' first | exact trivial | refine ⟨?_, ?_⟩) rfl rfl (by repeat' first | exact trivial | refine ⟨?_, ?_⟩) (fun _ => ⟨by simp [V.flat, V.flatA, V.flatC, D.flat], flat_nil⟩) ⟨rfl, rfl, rfl⟩
theorem spec_l01Bits_ok (n : Nat) (x_ : Nat) {r : Int} (h : m_spec_l01Bits n x_ = some r) : ACall prog false 89 [.d (.fl .f32 x_)] [] (fun v o new => v = .d (.int .i64 r) ∧ o = [] ∧ new = []) := spec_l01Bits_ok_fr0 false n x_ h
theorem spec_l01Bits_ok_fr (n : Nat) (x_ : Nat) {r : Int} (h : m_spec_l01Bits n x_ = some r) : ACall prog true 89 [.d (.fl .f32 x_)] [] (fun v o new => v = .d (.int .i64 r) ∧ o = [] ∧ new = []) := spec_l01Bits_ok_fr0 true n x_ h

def m_spec_l01Same (n : Nat) (a_ : Nat) (b_ : Nat) : Option Bool :=
  (m_spec_l01Bits n a_).bind fun x3 =>
  (m_spec_l01Bits n b_).bind fun x4 =>
  some (decide (x3 = x4))
theorem spec_l01Same_ok_fr0 (fr : Bool) (n : Nat) (a_ : Nat) (b_ : Nat) {r : Bool} (h : m_spec_l01Same n a_ b_ = some r) : ACall prog fr 47 [.d (.fl .f32 a_), .d (.fl .f32 b_)] [] (fun v o new => v = .d (.bool r) ∧ o = [] ∧ new = []) := by
  refine acall_of_aw hτ func47 rfl (by simp) (by simp) ?_
  unfold m_spec_l01Same at h
  refine aw_seq ?_
  refine aw_region ?_
  refine awl_val hτ rfl rfl rfl ?_
  refine awl_nil ?_
  refine aw_seq ?_
  refine aw_region ?_
  refine awl_val hτ rfl rfl rfl ?_
  refine bnd_elim h fun x3 hx3 h => ?_
  refine awl_callP hτ false [] rfl rfl rfl (enterOk func89 rfl rfl) rfl rfl (by simp) ⟨trivial, trivial⟩ (by repeat' first | exact trivial | refine ⟨?_, ?_⟩) (spec_l01Bits_ok n a_ hx3) ?_
  rintro r0 o0 n0 ⟨rfl, rfl, rfl⟩ -
  refine awl_val hτ rfl rfl rfl ?_
  refine bnd_elim h fun x4 hx4 h => ?_
  refine awl_callP hτ false [] rfl rfl rfl (enterOk func89 rfl rfl) rfl rfl (by simp) ⟨trivial, trivial⟩ (by repeat' first | exact trivial | refine ⟨?_, ?_⟩) (spec_l01Bits_ok n b_ hx4) ?_
  rintro r0 o0 n0 ⟨rfl, rfl, rfl⟩ -
  refine awl_val hτ (v := .d (.bool (decide (x3 = x4)))) rfl rfl (or_ieq _ _) ?_
  refine awl_val hτ rfl rfl rfl ?_
  refine awl_nil ?_
  refine aw_weak (weak_ofP [] (l := [(4, .d (.bool (decide (x3 = x4))))]) (objs := []) rfl (by simp) rfl (by repeat' first | exact trivial | refine ⟨?_, ?_⟩) ⟨rfl, trivial, trivial⟩) ?_
  refine aw_ret ?_
  have hr := Option.some.inj h
  subst hr
  exact ret_objs (.inr rfl) [] (objs' := []) (new := []) rfl (by simp) (by simp) rfl (by repeat' first | exact trivial | refine ⟨?_, ?_⟩) rfl rfl (by repeat' first | exact trivial | refine ⟨?_, ?_⟩) (fun _ => ⟨by simp [V.flat, V.flatA, V.flatC, D.flat], flat_nil⟩) ⟨rfl, rfl, rfl⟩
theorem spec_l01Same_ok (n : Nat) (a_ : Nat) (b_ : Nat) {r : Bool} (h : m_spec_l01Same n a_ b_ = some r) : ACall prog false 47 [.d (.fl .f32 a_), .d (.fl .f32 b_)] [] (fun v o new => v = .d (.bool r) ∧ o = [] ∧ new = []) := spec_l01Same_ok_fr0 false n a_ b_ h
theorem spec_l01Same_ok_fr (n : Nat) (a_ : Nat) (b_ : Nat) {r : Bool} (h : m_spec_l01Same n a_ b_ = some r) : ACall prog true 47 [.d (.fl .f32 a_), .d (.fl .f32 b_)] [] (fun v o new => v = .d (.bool r) ∧ o = [] ∧ new = []) := spec_l01Same_ok_fr0 true n a_ b_ h

def m_spec_SameNumber (n : Nat) (a_ : Nat) (b_ : Nat) : Option Bool :=
  (m_spec_l01Same n a_ b_).bind fun x2 =>
  some x2
theorem spec_SameNumber_ok_fr0 (fr : Bool) (n : Nat) (a_ : Nat) (b_ : Nat) {r : Bool} (h : m_spec_SameNumber n a_ b_ = some r) : ACall prog fr 11 [.d (.fl .f32 a_), .d (.fl .f32 b_)] [] (fun v o new => v = .d (.bool r) ∧ o = [] ∧ new = []) := by
  refine acall_of_aw hτ func11 rfl (by simp) (by simp) ?_
  unfold m_spec_SameNumber at h
  refine aw_seq ?_
  refine aw_region ?_
  refine awl_val hτ rfl rfl rfl ?_
  refine awl_nil ?_
  refine aw_seq ?_
  refine aw_region ?_
  refine awl_val hτ rfl rfl rfl ?_
  refine awl_val hτ rfl rfl rfl ?_
  refine bnd_elim h fun x2 hx2 h => ?_
  refine awl_callP hτ false [] rfl rfl rfl (enterOk func47 rfl rfl) rfl rfl (by simp) ⟨trivial, trivial, trivial⟩ (by repeat' first | exact trivial | refine ⟨?_, ?_⟩) (spec_l01Same_ok n a_ b_ hx2) ?_
  rintro r0 o0 n0 ⟨rfl, rfl, rfl⟩ -
  refine awl_val hτ rfl rfl rfl ?_
  refine awl_nil ?_
  refine aw_weak (weak_ofP [] (l := [(4, .d (.bool x2))]) (objs := []) rfl (by simp) rfl (by repeat' first | exact trivial | refine ⟨?_, ?_⟩) ⟨rfl, trivial, trivial⟩) ?_
  refine aw_ret ?_
  have hr := Option.some.inj h
  subst hr
  exact ret_objs (.inr rfl) [] (objs' := []) (new := []) rfl (by simp) (by simp) rfl (by repeat' first | exact trivial | refine ⟨?_, ?_⟩) rfl rfl (by repeat' first | exact trivial | refine ⟨?_, ?_⟩) (fun _ => ⟨by simp [V.flat, V.flatA, V.flatC, D.flat], flat_nil⟩) ⟨rfl, rfl, rfl⟩
theorem spec_SameNumber_ok (n : Nat) (a_ : Nat) (b_ : Nat) {r : Bool} (h : m_spec_SameNumber n a_ b_ = some r) : ACall prog false 11 [.d (.fl .f32 a_), .d (.fl .f32 b_)] [] (fun v o new => v = .d (.bool r) ∧ o = [] ∧ new = []) := spec_SameNumber_ok_fr0 false n a_ b_ h
theorem spec_SameNumber_ok_fr (n : Nat) (a_ : Nat) (b_ : Nat) {r : Bool} (h : m_spec_SameNumber n a_ b_ = some r) : ACall prog true 11 [.d (.fl .f32 a_), .d (.fl .f32 b_)] [] (fun v o new => v = .d (.bool r) ∧ o = [] ∧ new = []) := spec_SameNumber_ok_fr0 true n a_ b_ h

def m_impl_IsFinite (n : Nat) (x_ : Nat) : Option Bool :=
  some (fcmp .eql .f32 (farith .sub .f32 x_ x_) (0 : Nat))
theorem impl_IsFinite_ok_fr0 (fr : Bool) (n : Nat) (x_ : Nat) {r : Bool} (h : m_impl_IsFinite n x_ = some r) : ACall prog fr 75 [.d (.fl .f32 x_)] [] (fun v o new => v = .d (.bool r) ∧ o = [] ∧ new = []) := by
  refine acall_of_aw hτ func75 rfl (by simp) (by simp) ?_
  unfold m_impl_IsFinite at h
  refine aw_seq ?_
  refine aw_region ?_
  refine awl_val hτ rfl rfl rfl ?_
  refine awl_nil ?_
  refine aw_seq ?_
  refine aw_region ?_
  refine awl_val hτ rfl rfl rfl ?_
  refine awl_val hτ rfl rfl rfl ?_
  refine awl_val hτ rfl rfl rfl ?_
  refine awl_val hτ rfl rfl rfl ?_
  refine awl_val hτ rfl rfl rfl ?_
  refine awl_nil ?_
  refine aw_weak (weak_ofP [] (l := [(2, .d (.bool (fcmp .eql .f32 (farith .sub .f32 x_ x_) (0 : Nat))))]) (objs := []) rfl (by simp) rfl (by repeat' first | exact trivial | refine ⟨?_, ?_⟩) ⟨rfl, trivial, trivial⟩) ?_
  refine aw_ret ?_
  have hr := Option.some.inj h
  subst hr
  exact ret_objs (.inr rfl) [] (objs' := []) (new := []) rfl (by simp) (by simp) rfl (by repeat' first | exact trivial | refine ⟨?_, ?_⟩) rfl rfl (by repeat' first | exact trivial | refine ⟨?_, ?_⟩) (fun _ => ⟨by simp [V.flat, V.flatA, V.flatC, D.flat], flat_nil⟩) ⟨rfl, rfl, rfl⟩
theorem impl_IsFinite_ok (n : Nat) (x_ : Nat) {r : Bool} (h : m_impl_IsFinite n x_ = some r) : ACall prog false 75 [.d (.fl .f32 x_)] [] (fun v o new => v = .d (.bool r) ∧ o = [] ∧ new = []) := impl_IsFinite_ok_fr0 false n x_ h
theorem impl_IsFinite_ok_fr (n : Nat) (x_ : Nat) {r : Bool} (h : m_impl_IsFinite n x_ = some r) : ACall prog true 75 [.d (.fl .f32 x_)] [] (fun v o new => v = .d (.bool r) ∧ o = [] ∧ new = []) := impl_IsFinite_ok_fr0 true n x_ h

def m_impl_finite_1 (n : Nat) (x_ : Nat) : Option Bool :=
  (m_impl_IsFinite n x_).bind fun x2 =>
  some (!x2)
theorem impl_finite_1_ok_fr0 (fr : Bool) (n : Nat) (x_ : Nat) {r : Bool} (h : m_impl_finite_1 n x_ = some r) : ACall prog fr 98 [.d (.fl .f32 x_)] [] (fun v o new => v = .d (.bool r) ∧ o = [] ∧ new = []) := by
  refine acall_of_aw hτ func98 rfl (by simp) (by simp) ?_
  unfold m_impl_finite_1 at h
  refine aw_seq ?_
  refine aw_region ?_
  refine awl_val hτ rfl rfl rfl ?_
  refine awl_nil ?_
  refine aw_seq ?_
  refine aw_region ?_
  refine awl_val hτ rfl rfl rfl ?_
  refine bnd_elim h fun x2 hx2 h => ?_
  refine awl_callP hτ false [] rfl rfl rfl (enterOk func75 rfl rfl) rfl rfl (by simp) ⟨trivial, trivial⟩ (by repeat' first | exact trivial | refine ⟨?_, ?_⟩) (impl_IsFinite_ok n x_ hx2) ?_
  rintro r0 o0 n0 ⟨rfl, rfl, rfl⟩ -
  refine awl_val hτ rfl rfl rfl ?_
  refine awl_val hτ rfl rfl rfl ?_
  refine awl_nil ?_
  refine aw_weak (weak_ofP [] (l := [(2, .d (.bool (!x2)))]) (objs := []) rfl (by simp) rfl (by repeat' first | exact trivial | refine ⟨?_, ?_⟩) ⟨rfl, trivial, trivial⟩) ?_
  refine aw_ret ?_
  have hr := Option.some.inj h
  subst hr
  exact ret_objs (.inr rfl) [] (objs' := []) (new := []) rfl (by simp) (by simp) rfl (by repeat' first | exact trivial | refine ⟨?_, ?_⟩) rfl rfl (by repeat' first | exact trivial | refine ⟨?_, ?_⟩) (fun _ => ⟨by simp [V.flat, V.flatA, V.flatC, D.flat], flat_nil⟩) ⟨rfl, rfl, rfl⟩
theorem impl_finite_1_ok (n : Nat) (x_ : Nat) {r : Bool} (h : m_impl_finite_1 n x_ = some r) : ACall prog false 98 [.d (.fl .f32 x_)] [] (fun v o new => v = .d (.bool r) ∧ o = [] ∧ new = []) := impl_finite_1_ok_fr0 false n x_ h
theorem impl_finite_1_ok_fr (n : Nat) (x_ : Nat) {r : Bool} (h : m_impl_finite_1 n x_ = some r) : ACall prog true 98 [.d (.fl .f32 x_)] [] (fun v o new => v = .d (.bool r) ∧ o = [] ∧ new = []) := impl_finite_1_ok_fr0 true n x_ h

def m_slices_IndexFunc_l1 (n : Nat) (s_ : List Nat) : Nat → Int → Option Int
  | 0, _ => none
  | m13 + 1, v9 =>
    if v9 < (s_.length : Int) then
      (getI s_ v9).bind fun x18 =>
      (m_impl_finite_1 n x18).bind fun x19 =>
      if x19 = true then
        some v9
      else
        (m_slices_IndexFunc_l1 n s_ m13) (w64 (v9 + (1 : Int)))
    else
      some (-1 : Int)
def m_slices_IndexFunc (n : Nat) (s_ : List Nat) : Option Int :=
  m_slices_IndexFunc_l1 n s_ n (0 : Int)
theorem slices_IndexFunc_ok_fr0 (fr : Bool) (n : Nat) (s_ : List Nat) {r : Int} (h : m_slices_IndexFunc n s_ = some r) : ACall prog fr 120 [.d (.sl false (s_.map eNatf32)), .func 98 [] []] [] (fun v o new => v = .d (.int .i64 r) ∧ o = [] ∧ new = []) := by
  refine acall_of_aw hτ func120 rfl (by simp) (by simp) ?_
  unfold m_slices_IndexFunc at h
  refine aw_seq ?_
  refine aw_region ?_
  refine awl_val hτ rfl rfl rfl ?_
  refine awl_nil ?_
  refine aw_seq ?_
  refine aw_seq ?_
  refine aw_region ?_
  refine awl_val hτ rfl rfl rfl ?_
  refine awl_val hτ (v := .d (.int .i64 (s_.length : Int))) rfl rfl (Eq.trans rfl (or_len (f := eNatf32) s_)) ?_
  refine awl_val hτ rfl rfl rfl ?_
  refine awl_nil ?_
  refine aw_block ?_
  refine aw_loop (ι := Nat × Int) (fun (m13, v9) => St.of [(0, .d (.sl false (s_.map eNatf32))), (1, .func 98 [] []), (7, .d (.int .i64 (s_.length : Int))), (8, .d (.int .i64 v9))] [] f120.ntmps 0) (fun (m13, v9) => m_slices_IndexFunc_l1 n s_ m13 v9 = some r) (fun x => x.1) (n, (0 : Int)) h (weak_ofP [] (l := [(0, .d (.sl false (s_.map eNatf32))), (1, .func 98 [] []), (7, .d (.int .i64 (s_.length : Int))), (8, .d (.int .i64 (0 : Int)))]) (objs := []) rfl (by simp) rfl (by repeat' first | exact trivial | refine ⟨?_, ?_⟩) ⟨rfl, trivial, rfl, (by repeat' first | exact trivial | refine ⟨?_, ?_⟩), rfl, trivial, rfl, trivial, trivial⟩) ?_
  rintro ⟨m13, v9⟩ h
  replace h : m_slices_IndexFunc_l1 n s_ m13 v9 = some r := h
  rcases m13 with _ | m13
  · rw [m_slices_IndexFunc_l1] at h; cases h
  rw [m_slices_IndexFunc_l1] at h
  refine aw_seq ?_
  refine aw_region ?_
  refine awl_val hτ rfl rfl rfl ?_
  refine awl_nil ?_
  refine aw_seq ?_
  refine aw_cond rfl (fun hc15 => ?_) (fun hc15 => ?_)
  · have h := if_t h hc15
    refine aw_skip ?_
    refine aw_seq ?_
    refine aw_block ?_
    refine aw_seq ?_
    refine aw_region ?_
    refine awl_val hτ rfl rfl rfl ?_
    refine awl_val hτ rfl rfl rfl ?_
    refine awl_nil ?_
    refine aw_seq ?_
    refine aw_region ?_
    refine awl_val hτ rfl rfl rfl ?_
    refine awl_val hτ rfl rfl rfl ?_
    refine awl_val hτ rfl rfl rfl ?_
    refine bnd_elim h fun x18 hx18 h => ?_
    refine awl_elem hτ rfl rfl rfl (getI_some hx18).1 (map_getI hx18) rfl ?_
    refine awl_val hτ rfl rfl rfl ?_
    refine bnd_elim h fun x19 hx19 h => ?_
    refine awl_callP hτ false [] rfl rfl rfl (enterOk func98 rfl rfl) rfl rfl (by simp) ⟨trivial, trivial⟩ (by repeat' first | exact trivial | refine ⟨?_, ?_⟩) (impl_finite_1_ok n x18 hx19) ?_
    rintro r0 o0 n0 ⟨rfl, rfl, rfl⟩ -
    refine awl_nil ?_
    refine aw_weak (weak_ofP [] (l := [(0, .d (.sl false (s_.map eNatf32))), (1, .func 98 [] []), (5, .d (.int .i64 v9)), (7, .d (.int .i64 (s_.length : Int))), (8, .d (.int .i64 v9)), (16, .d (.bool x19))]) (objs := []) rfl (by simp) rfl (by repeat' first | exact trivial | refine ⟨?_, ?_⟩) ⟨rfl, trivial, rfl, (by repeat' first | exact trivial | refine ⟨?_, ?_⟩), rfl, trivial, rfl, trivial, rfl, trivial, rfl, trivial, trivial⟩) ?_
    refine aw_cond rfl (fun hc20 => ?_) (fun hc20 => ?_)
    · have h := if_bt h hc20
      refine aw_seq ?_
      refine aw_region ?_
      refine awl_val hτ rfl rfl rfl ?_
      refine awl_val hτ rfl rfl rfl ?_
      refine awl_nil ?_
      refine aw_weak (weak_ofP [] (l := [(4, .d (.int .i64 v9))]) (objs := []) rfl (by simp) rfl (by repeat' first | exact trivial | refine ⟨?_, ?_⟩) ⟨rfl, trivial, trivial⟩) ?_
      refine aw_ret ?_
      have hr := Option.some.inj h
      subst hr
      exact ret_objs (.inr rfl) [] (objs' := []) (new := []) rfl (by simp) (by simp) rfl (by repeat' first | exact trivial | refine ⟨?_, ?_⟩) rfl rfl (by repeat' first | exact trivial | refine ⟨?_, ?_⟩) (fun _ => ⟨by simp [V.flat, V.flatA, V.flatC, D.flat], flat_nil⟩) ⟨rfl, rfl, rfl⟩
    · have h := if_bf h hc20
      refine aw_skip ?_
      refine aw_region ?_
      refine awl_val hτ rfl rfl rfl ?_
      refine awl_val hτ rfl rfl rfl ?_
      refine awl_nil ?_
      exact ⟨(m13, (w64 (v9 + (1 : Int)))), h, Nat.lt_succ_self m13, (weak_ofP [] (l := [(0, .d (.sl false (s_.map eNatf32))), (1, .func 98 [] []), (7, .d (.int .i64 (s_.length : Int))), (8, .d (.int .i64 (w64 (v9 + (1 : Int)))))]) (objs := []) rfl (by simp) rfl (by repeat' first | exact trivial | refine ⟨?_, ?_⟩) ⟨rfl, trivial, rfl, (by repeat' first | exact trivial | refine ⟨?_, ?_⟩), rfl, trivial, rfl, trivial, trivial⟩)⟩
  · have h := if_f h hc15
    refine aw_exit ?_
    refine aw_seq ?_
    refine aw_region ?_
    refine awl_val hτ rfl rfl rfl ?_
    refine awl_nil ?_
    refine aw_weak (weak_ofP [] (l := [(4, .d (.int .i64 (-1 : Int)))]) (objs := []) rfl (by simp) rfl (by repeat' first | exact trivial | refine ⟨?_, ?_⟩) ⟨rfl, trivial, trivial⟩) ?_
    refine aw_ret ?_
    have hr := Option.some.inj h
    subst hr
    exact ret_objs (.inr rfl) [] (objs' := []) (new := []) rfl (by simp) (by simp) rfl (by repeat' first | exact trivial | refine ⟨?_, ?_⟩) rfl rfl (by repeat' first | exact trivial | refine ⟨?_, ?_⟩) (fun _ => ⟨by simp [V.flat, V.flatA, V.flatC, D.flat], flat_nil⟩) ⟨rfl, rfl, rfl⟩
theorem slices_IndexFunc_ok (n : Nat) (s_ : List Nat) {r : Int} (h : m_slices_IndexFunc n s_ = some r) : ACall prog false 120 [.d (.sl false (s_.map eNatf32)), .func 98 [] []] [] (fun v o new => v = .d (.int .i64 r) ∧ o = [] ∧ new = []) := slices_IndexFunc_ok_fr0 false n s_ h
theorem slices_IndexFunc_ok_fr (n : Nat) (s_ : List Nat) {r : Int} (h : m_slices_IndexFunc n s_ = some r) : ACall prog true 120 [.d (.sl false (s_.map eNatf32)), .func 98 [] []] [] (fun v o new => v = .d (.int .i64 r) ∧ o = [] ∧ new = []) := slices_IndexFunc_ok_fr0 true n s_ h

def m_slices_ContainsFunc (n : Nat) (s_ : List Nat) : Option Bool :=
  (m_slices_IndexFunc n s_).bind fun x2 =>
  some (decide (x2 ≥ (0 : Int)))
theorem slices_ContainsFunc_ok_fr0 (fr : Bool) (n : Nat) (s_ : List Nat) {r : Bool} (h : m_slices_ContainsFunc n s_ = some r) : ACall prog fr 97 [.d (.sl false (s_.map eNatf32)), .func 98 [] []] [] (fun v o new => v = .d (.bool r) ∧ o = [] ∧ new = []) := by
  refine acall_of_aw hτ func97 rfl (by simp) (by simp) ?_
  unfold m_slices_ContainsFunc at h
  refine aw_seq ?_
  refine aw_region ?_
  refine awl_val hτ rfl rfl rfl ?_
  refine awl_nil ?_
  refine aw_seq ?_
  refine aw_region ?_
  refine awl_val hτ rfl rfl rfl ?_
  refine awl_val hτ rfl rfl rfl ?_
  refine bnd_elim h fun x2 hx2 h => ?_
  refine awl_callP hτ false [] rfl rfl rfl (enterOk func120 rfl rfl) rfl rfl (by simp) ⟨trivial, (by repeat' first | exact trivial | refine ⟨?_, ?_⟩), trivial⟩ (by repeat' first | exact trivial | refine ⟨?_, ?_⟩) (slices_IndexFunc_ok n s_ hx2) ?_
  rintro r0 o0 n0 ⟨rfl, rfl, rfl⟩ -
  refine awl_val hτ rfl rfl rfl ?_
  refine awl_val hτ rfl rfl rfl ?_
  refine awl_nil ?_
  refine aw_weak (weak_ofP [] (l := [(4, .d (.bool (decide (x2 ≥ (0 : Int)))))]) (objs := []) rfl (by simp) rfl (by repeat' first | exact trivial | refine ⟨?_, ?_⟩) ⟨rfl, trivial, trivial⟩) ?_
  refine aw_ret ?_
  have hr := Option.some.inj h
  subst hr
  exact ret_objs (.inr rfl) [] (objs' := []) (new := []) rfl (by simp) (by simp) rfl (by repeat' first | exact trivial | refine ⟨?_, ?_⟩) rfl rfl (by repeat' first | exact trivial | refine ⟨?_, ?_⟩) (fun _ => ⟨by simp [V.flat, V.flatA, V.flatC, D.flat], flat_nil⟩) ⟨rfl, rfl, rfl⟩
theorem slices_ContainsFunc_ok (n : Nat) (s_ : List Nat) {r : Bool} (h : m_slices_ContainsFunc n s_ = some r) : ACall prog false 97 [.d (.sl false (s_.map eNatf32)), .func 98 [] []] [] (fun v o new => v = .d (.bool r) ∧ o = [] ∧ new = []) := slices_ContainsFunc_ok_fr0 false n s_ h
theorem slices_ContainsFunc_ok_fr (n : Nat) (s_ : List Nat) {r : Bool} (h : m_slices_ContainsFunc n s_ = some r) : ACall prog true 97 [.d (.sl false (s_.map eNatf32)), .func 98 [] []] [] (fun v o new => v = .d (.bool r) ∧ o = [] ∧ new = []) := slices_ContainsFunc_ok_fr0 true n s_ h

def m_impl_finite (n : Nat) (list_ : List Nat) : Option Bool :=
  (m_slices_ContainsFunc n list_).bind fun x2 =>
  some (!x2)
theorem impl_finite_ok_fr0 (fr : Bool) (n : Nat) (list_ : List Nat) {r : Bool} (h : m_impl_finite n list_ = some r) : ACall prog fr 67 [.d (.sl false (list_.map eNatf32))] [] (fun v o new => v = .d (.bool r) ∧ o = [] ∧ new = []) := by
  refine acall_of_aw hτ func67 rfl (by simp) (by simp) ?_
  unfold m_impl_finite at h
  refine aw_seq ?_
  refine aw_region ?_
  refine awl_val hτ rfl rfl rfl ?_
  refine awl_nil ?_
  refine aw_seq ?_
  refine aw_region ?_
  refine awl_val hτ rfl rfl rfl ?_
  refine bnd_elim h fun x2 hx2 h => ?_
  refine awl_callP hτ false [] rfl rfl rfl (enterOk func97 rfl rfl) rfl rfl (by simp) ⟨trivial, (by repeat' first | exact trivial | refine ⟨?_, ?_⟩), trivial⟩ (by repeat' first | exact trivial | refine ⟨?_, ?_⟩) (slices_ContainsFunc_ok n list_ hx2) ?_
  rintro r0 o0 n0 ⟨rfl, rfl, rfl⟩ -
  refine awl_val hτ rfl rfl rfl ?_
  refine awl_val hτ rfl rfl rfl ?_
  refine awl_nil ?_
  refine aw_weak (weak_ofP [] (l := [(2, .d (.bool (!x2)))]) (objs := []) rfl (by simp) rfl (by repeat' first | exact trivial | refine ⟨?_, ?_⟩) ⟨rfl, trivial, trivial⟩) ?_
  refine aw_ret ?_
  have hr := Option.some.inj h
  subst hr
  exact ret_objs (.inr rfl) [] (objs' := []) (new := []) rfl (by simp) (by simp) rfl (by repeat' first | exact trivial | refine ⟨?_, ?_⟩) rfl rfl (by repeat' first | exact trivial | refine ⟨?_, ?_⟩) (fun _ => ⟨by simp [V.flat, V.flatA, V.flatC, D.flat], flat_nil⟩) ⟨rfl, rfl, rfl⟩
theorem impl_finite_ok (n : Nat) (list_ : List Nat) {r : Bool} (h : m_impl_finite n list_ = some r) : ACall prog false 67 [.d (.sl false (list_.map eNatf32))] [] (fun v o new => v = .d (.bool r) ∧ o = [] ∧ new = []) := impl_finite_ok_fr0 false n list_ h
theorem impl_finite_ok_fr (n : Nat) (list_ : List Nat) {r : Bool} (h : m_impl_finite n list_ = some r) : ACall prog true 67 [.d (.sl false (list_.map eNatf32))] [] (fun v o new => v = .d (.bool r) ∧ o = [] ∧ new = []) := impl_finite_ok_fr0 true n list_ h

def m_math_NaN (n : Nat) : Option Nat :=
  grd ((9221120237041090561 : Int).toNat < 18446744073709551616) <|
  some (canon .f64 (9221120237041090561 : Int).toNat)
theorem math_NaN_ok_fr0 (fr : Bool) (n : Nat) {r : Nat} (h : m_math_NaN n = some r) : ACall prog fr 73 [] [] (fun v o new => v = .d (.fl .f64 r) ∧ o = [] ∧ new = []) := by
  refine acall_of_aw hτ func73 rfl (by simp) (by simp) ?_
  unfold m_math_NaN at h
  refine aw_seq ?_
  refine aw_region ?_
  refine awl_val hτ rfl rfl rfl ?_
  refine awl_nil ?_
  refine aw_seq ?_
  refine aw_region ?_
  refine grd_elim h fun hg2 h => ?_
  refine awl_ext hτ rfl rfl rfl (ext99 hg2) ?_
  refine awl_val hτ rfl rfl rfl ?_
  refine awl_nil ?_
  refine aw_weak (weak_ofP [] (l := [(0, .d (.fl .f64 (canon .f64 (9221120237041090561 : Int).toNat)))]) (objs := []) rfl (by simp) rfl (by repeat' first | exact trivial | refine ⟨?_, ?_⟩) ⟨rfl, trivial, trivial⟩) ?_
  refine aw_ret ?_
  have hr := Option.some.inj h
  subst hr
  exact ret_objs (.inr rfl) [] (objs' := []) (new := []) rfl (by simp) (by simp) rfl (by repeat' first | exact trivial | refine ⟨?_, ?_⟩) rfl rfl (by repeat' first | exact trivial | refine ⟨?_, ?_⟩) (fun _ => ⟨by simp [V.flat, V.flatA, V.flatC, D.flat], flat_nil⟩) ⟨rfl, rfl, rfl⟩
theorem math_NaN_ok (n : Nat) {r : Nat} (h : m_math_NaN n = some r) : ACall prog false 73 [] [] (fun v o new => v = .d (.fl .f64 r) ∧ o = [] ∧ new = []) := math_NaN_ok_fr0 false n h
theorem math_NaN_ok_fr (n : Nat) {r : Nat} (h : m_math_NaN n = some r) : ACall prog true 73 [] [] (fun v o new => v = .d (.fl .f64 r) ∧ o = [] ∧ new = []) := math_NaN_ok_fr0 true n h

def m_math_Abs (n : Nat) (x_ : Nat) : Option Nat :=
  grd (isnan .f64 x_ = false) <|
  grd ((ibits .andNot .u64 (x_ : Int) (9223372036854775808 : Int)).toNat < 18446744073709551616) <|
  some (canon .f64 (ibits .andNot .u64 (x_ : Int) (9223372036854775808 : Int)).toNat)
theorem math_Abs_ok_fr0 (fr : Bool) (n : Nat) (x_ : Nat) {r : Nat} (h : m_math_Abs n x_ = some r) : ACall prog fr 74 [.d (.fl .f64 x_)] [] (fun v o new => v = .d (.fl .f64 r) ∧ o = [] ∧ new = []) := by
  refine acall_of_aw hτ func74 rfl (by simp) (by simp) ?_
  unfold m_math_Abs at h
  refine aw_seq ?_
  refine aw_region ?_
  refine awl_val hτ rfl rfl rfl ?_
  refine awl_nil ?_
  refine aw_seq ?_
  refine aw_region ?_
  refine awl_val hτ rfl rfl rfl ?_
  refine grd_elim h fun hg3 h => ?_
  refine awl_ext hτ rfl rfl rfl (ext100 hg3) ?_
  refine awl_val hτ rfl rfl rfl ?_
  refine grd_elim h fun hg4 h => ?_
  refine awl_ext hτ rfl rfl rfl (ext99 hg4) ?_
  refine awl_val hτ rfl rfl rfl ?_
  refine awl_nil ?_
  refine aw_weak (weak_ofP [] (l := [(2, .d (.fl .f64 (canon .f64 (ibits .andNot .u64 (x_ : Int) (9223372036854775808 : Int)).toNat)))]) (objs := []) rfl (by simp) rfl (by repeat' first | exact trivial | refine ⟨?_, ?_⟩) ⟨rfl, trivial, trivial⟩) ?_
  refine aw_ret ?_
  have hr := Option.some.inj h
  subst hr
  exact ret_objs (.inr rfl) [] (objs' := []) (new := []) rfl (by simp) (by simp) rfl (by repeat' first | exact trivial | refine ⟨?_, ?_⟩) rfl rfl (by repeat' first | exact trivial | refine ⟨?_, ?_⟩) (fun _ => ⟨by simp [V.flat, V.flatA, V.flatC, D.flat], flat_nil⟩) ⟨rfl, rfl, rfl⟩
theorem math_Abs_ok (n : Nat) (x_ : Nat) {r : Nat} (h : m_math_Abs n x_ = some r) : ACall prog false 74 [.d (.fl .f64 x_)] [] (fun v o new => v = .d (.fl .f64 r) ∧ o = [] ∧ new = []) := math_Abs_ok_fr0 false n x_ h
theorem math_Abs_ok_fr (n : Nat) (x_ : Nat) {r : Nat} (h : m_math_Abs n x_ = some r) : ACall prog true 74 [.d (.fl .f64 x_)] [] (fun v o new => v = .d (.fl .f64 r) ∧ o = [] ∧ new = []) := math_Abs_ok_fr0 true n x_ h

def m_math_Sqrt (n : Nat) (x_ : Nat) : Option Nat :=
  some (fsqrt x_)
theorem math_Sqrt_ok_fr0 (fr : Bool) (n : Nat) (x_ : Nat) {r : Nat} (h : m_math_Sqrt n x_ = some r) : ACall prog fr 48 [.d (.fl .f64 x_)] [] (fun v o new => v = .d (.fl .f64 r) ∧ o = [] ∧ new = []) := by
  refine acall_of_aw hτ func48 rfl (by simp) (by simp) ?_
  unfold m_math_Sqrt at h
  refine aw_seq ?_
  refine aw_region ?_
  refine awl_val hτ rfl rfl rfl ?_
  refine awl_nil ?_
  refine aw_seq ?_
  refine aw_region ?_
  refine awl_val hτ rfl rfl rfl ?_
  refine awl_ext hτ rfl rfl rfl ext90 ?_
  refine awl_val hτ rfl rfl rfl ?_
  refine awl_nil ?_
  refine aw_weak (weak_ofP [] (l := [(2, .d (.fl .f64 (fsqrt x_)))]) (objs := []) rfl (by simp) rfl (by repeat' first | exact trivial | refine ⟨?_, ?_⟩) ⟨rfl, trivial, trivial⟩) ?_
  refine aw_ret ?_
  have hr := Option.some.inj h
  subst hr
  exact ret_objs (.inr rfl) [] (objs' := []) (new := []) rfl (by simp) (by simp) rfl (by repeat' first | exact trivial | refine ⟨?_, ?_⟩) rfl rfl (by repeat' first | exact trivial | refine ⟨?_, ?_⟩) (fun _ => ⟨by simp [V.flat, V.flatA, V.flatC, D.flat], flat_nil⟩) ⟨rfl, rfl, rfl⟩
theorem math_Sqrt_ok (n : Nat) (x_ : Nat) {r : Nat} (h : m_math_Sqrt n x_ = some r) : ACall prog false 48 [.d (.fl .f64 x_)] [] (fun v o new => v = .d (.fl .f64 r) ∧ o = [] ∧ new = []) := math_Sqrt_ok_fr0 false n x_ h
theorem math_Sqrt_ok_fr (n : Nat) (x_ : Nat) {r : Nat} (h : m_math_Sqrt n x_ = some r) : ACall prog true 48 [.d (.fl .f64 x_)] [] (fun v o new => v = .d (.fl .f64 r) ∧ o = [] ∧ new = []) := math_Sqrt_ok_fr0 true n x_ h

end Go.Proofs.YtdgkahieegcmeaaDoor.AWN
