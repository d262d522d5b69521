/- Models and contracts, printed by program. -/
import Derived.Test.YtdnkjocenbepaaaFnFaultsB
set_option linter.unusedVariables false
set_option linter.unusedSimpArgs false
set_option linter.unusedSectionVars false
set_option maxHeartbeats 2000000
namespace Go.Proofs.Ytdnkjocenbepaaa.AWN
open Go Go.Proofs.Try
def qat (x:Int):List D:=[.int .u8 x]
@[simp] theorem eIntu8_len (x:Int):(qat x).length = 1:=rfl
structure qb1 where
  code:List Int
  at_:Int
  seed:Int
deriving DecidableEq
structure qax where
  A:Cx
  B:Cx
  C:Cx
deriving DecidableEq
structure SBus where
  qd1:Int
  Own:Cx
  Shared:Cx
  Kind:Int
  Load:qax
  qbb:Int
deriving DecidableEq
def qaj (x:SBus):List D:=[.int .i64 x.qd1,.cx .f32 x.Own.re x.Own.im,.cx .f32 x.Shared.re x.Shared.im,.int .i64 x.Kind,.cx .f32 x.Load.A.re x.Load.A.im,.cx .f32 x.Load.B.re x.Load.B.im,.cx .f32 x.Load.C.re x.Load.C.im,.int .i64 x.qbb]
@[simp] theorem eSBus_len (x:SBus):(qaj x).length = 8:=rfl
theorem eSBus_flat (x:SBus):∀ c ∈ qaj x,c.flat:=by simp [qaj,D.flat]
structure qan where
  Source:qax
  qad:List SBus
deriving DecidableEq
def qav (x:Int):List D:=[.int .i64 x]
@[simp] theorem eInti64_len (x:Int):(qav x).length = 1:=rfl
theorem eInti64_flat (x:Int):∀ c ∈ qav x,c.flat:=by simp [qav,D.flat]
structure qbl where
  Zero:Cx
  Plus:Cx
  qbq:Cx
deriving DecidableEq
def qb3 (x:Nat):List D:=[.fl .f32 x]
@[simp] theorem eNatf32_len (x:Nat):(qb3 x).length = 1:=rfl
theorem ql2 (x:Nat):∀ c ∈ qb3 x,c.flat:=by simp [qb3,D.flat]
theorem qu6 {x:Nat} (hx:isnan .f32 x = false):qkq prog 107 [.d (.fl .f32 x)] (.d (.int .u32 x)):=qmq (e:=Extern.MathFloatBits.float32bits) func107 rfl rfl (by kernel_rfl) (by kernel_rfl) fun W hb H ok vals h=>qry (fun _=>rfl) hx h
theorem qt7 {x:Int} (hx:x.toNat < 18446744073709551616):qkq prog 137 [.d (.int .u64 x)] (.d (.fl .f64 (canon .f64 x.toNat))):=qmq (e:=Extern.MathFloatBits.float64frombits) func137 rfl rfl (by kernel_rfl) (by kernel_rfl) fun W hb H ok vals h=>qn5 (k:=.f64) (fun _=>rfl) hx h
theorem ext156 {x:Nat}:qkq prog 156 [.d (.fl .f64 x)] (.d (.fl .f64 (qm9 x))):=qmq (e:=Extern.MathSqrt.sqrt) func156 rfl rfl (by kernel_rfl) (by kernel_rfl) fun W hb H ok vals h=>sqrt_run h
theorem ext170 {x:Int} (hx:x.toNat < 4294967296):qkq prog 170 [.d (.int .u32 x)] (.d (.fl .f32 (canon .f32 x.toNat))):=qmq (e:=Extern.MathFloatBits.float32frombits) func170 rfl rfl (by kernel_rfl) (by kernel_rfl) fun W hb H ok vals h=>qn5 (k:=.f32) (fun _=>rfl) hx h
theorem ext174 {x:Nat} (hx:isnan .f64 x = false):qkq prog 174 [.d (.fl .f64 x)] (.d (.int .u64 x)):=qmq (e:=Extern.MathFloatBits.float64bits) func174 rfl rfl (by kernel_rfl) (by kernel_rfl) fun W hb H ok vals h=>qry (fun _=>rfl) hx h
theorem ext182 {x:Nat} (hx:isnan .f64 x = false):qkq prog 182 [.d (.fl .f64 x)] (.d (.fl .f64 (fint .zero x))):=qmq (e:=Extern.MathFloor.toIntegral "math.archTrunc" .zero) func182 rfl rfl (by kernel_rfl) (by kernel_rfl) fun W hb H ok vals h=>integral_run (name:= "math.archTrunc") hx h
def qhi (n:Nat) (code_:List Int) (more_:List Int):Option Bool :=
  if (code_.length:Int) > (48:Int) then
    some true
  else
    some (decide ((more_.length:Int) > (48:Int)))
theorem laws_r8Long_ok_fr0 (fr:Bool) (n:Nat) (code_:List Int) (more_:List Int) {r:Bool} (h:qhi n code_ more_ = some r):qaq prog fr 17 [.d (.sl false (code_.map qat)),.d (.sl false (more_.map qat))] [] (fun v o new=>v = .d (.bool r)∧o = []∧new = []):=by
  refine qaf hτ func17 rfl (by simp) (by simp) ?_
  unfold qhi at h
  refine qa6 ?_
  refine qa2 ?_
  refine qa0 hτ rfl rfl rfl ?_
  refine qa4 ?_
  refine qa6 ?_
  refine qa2 ?_
  refine qa0 hτ rfl rfl rfl ?_
  refine qa0 hτ (v:=.d (.int .i64 (code_.length:Int))) rfl rfl (Eq.trans rfl (qjj (f:=qat) code_)) ?_
  refine qa0 hτ rfl rfl rfl ?_
  refine qa0 hτ rfl rfl rfl ?_
  refine qbr 8 rfl (fun hb3=>?_) (fun hb3=>?_)
  · have h:=if_t h hb3
    refine qaa rfl rfl ?_
    refine qaa rfl rfl ?_
    refine qaa rfl rfl ?_
    refine qa0 hτ rfl rfl rfl ?_
    refine qa0 hτ rfl rfl rfl ?_
    refine qa4 ?_
    refine qa8 (qa3 [] (l:=[(4,.d (.bool true))]) (objs:=[]) rfl (by simp) rfl (by trivial) ⟨rfl,trivial,trivial⟩) ?_
    refine qal ?_
    have hr:=Option.some.inj h
    subst hr
    exact qae (.inr rfl) [] (objs':=[]) (new:=[]) rfl (by simp) (by simp) rfl (by trivial) rfl rfl (by trivial) (fun _=>⟨by simp [V.flat,V.qb7,V.qb5,D.flat],qag⟩) ⟨rfl,rfl,rfl⟩
  · have h:=if_f h hb3
    refine qa0 hτ rfl rfl rfl ?_
    refine qa0 hτ (v:=.d (.int .i64 (more_.length:Int))) rfl rfl (Eq.trans rfl (qjj (f:=qat) more_)) ?_
    refine qa0 hτ rfl rfl rfl ?_
    refine qa0 hτ rfl rfl rfl ?_
    refine qa0 hτ rfl rfl rfl ?_
    refine qa4 ?_
    refine qa8 (qa3 [] (l:=[(4,.d (.bool (decide ((more_.length:Int) > (48:Int)))))]) (objs:=[]) rfl (by simp) rfl (by trivial) ⟨rfl,trivial,trivial⟩) ?_
    refine qal ?_
    have hr:=Option.some.inj h
    subst hr
    exact qae (.inr rfl) [] (objs':=[]) (new:=[]) rfl (by simp) (by simp) rfl (by trivial) rfl rfl (by trivial) (fun _=>⟨by simp [V.flat,V.qb7,V.qb5,D.flat],qag⟩) ⟨rfl,rfl,rfl⟩
theorem laws_r8Long_ok (n:Nat) (code_:List Int) (more_:List Int) {r:Bool} (h:qhi n code_ more_ = some r):qaq prog false 17 [.d (.sl false (code_.map qat)),.d (.sl false (more_.map qat))] [] (fun v o new=>v = .d (.bool r)∧o = []∧new = []):=laws_r8Long_ok_fr0 false n code_ more_ h
def qj1 (n:Nat) (code_:List Int):Option qb1 :=
  some (qb1.mk code_ (0:Int) (0:Int))
theorem spec_l00From_ok (n:Nat) (code_:List Int) {r:qb1} (h:qj1 n code_ = some r):qaq prog false 54 [.d (.sl false (code_.map qat))] [] (fun v o new=>v = .ptr 0 0∧o = []∧new = [.box [.d (.sl false (r.code.map qat)),.d (.int .i64 r.at_),.d (.int .u64 r.seed)]]):=by
  refine qaf hτ func54 rfl (by simp) (by simp) ?_
  unfold qj1 at h
  refine qa6 ?_
  refine qa2 ?_
  refine qa0 hτ rfl rfl rfl ?_
  refine qa4 ?_
  refine qa6 ?_
  refine qa2 ?_
  refine qa0 hτ rfl rfl rfl ?_
  refine qa0 hτ rfl rfl rfl ?_
  refine qai hτ rfl rfl rfl ?_
  refine qa0 hτ rfl rfl rfl ?_
  refine qa4 ?_
  refine qa8 (qa3 [0] (l:=[(2,.ptr 0 0)]) (objs:=[.box [.d (.sl false (code_.map qat)),.d (.int .i64 (0:Int)),.d (.int .u64 (0:Int))]]) rfl (by simp) rfl (by trivial) ⟨rfl,trivial,trivial⟩) ?_
  refine qal ?_
  have hr:=Option.some.inj h
  subst hr
  exact qae (.inr rfl) [0] (objs':=[]) (new:=[.box [.d (.sl false (code_.map qat)),.d (.int .i64 (0:Int)),.d (.int .u64 (0:Int))]]) rfl (by simp) (by simp) rfl (by trivial) rfl rfl (by trivial) (fun h=>nomatch h) ⟨rfl,rfl,rfl⟩
def qcf (n:Nat) (s_:qb1) (v5:Int):Option (Int × qb1) :=
  if (w64 (s_.at_ + (1:Int))) ≤ (s_.code.length:Int) then
    some (v5,(qb1.mk s_.code (w64 (s_.at_ + (1:Int))) (IntKind.wrap .u64 ((IntKind.wrap .u64 ((IntKind.wrap .u64 (s_.seed * (6364136223846793005:Int))) + (IntKind.wrap .u64 (v5)))) + (1442695040888963407:Int)))))
  else
    some ((w64 ((qkx .and .u64 ((IntKind.wrap .u64 ((IntKind.wrap .u64 ((IntKind.wrap .u64 (s_.seed * (6364136223846793005:Int))) + (IntKind.wrap .u64 (v5)))) + (1442695040888963407:Int))).fdiv (2 ^ min (40:Int).toNat (IntKind.bits .u64))) (255:Int)))),(qb1.mk s_.code (w64 (s_.at_ + (1:Int))) (IntKind.wrap .u64 ((IntKind.wrap .u64 ((IntKind.wrap .u64 (s_.seed * (6364136223846793005:Int))) + (IntKind.wrap .u64 (v5)))) + (1442695040888963407:Int)))))
def qdj (n:Nat) (s_:qb1):Option (Int × qb1) :=
  if s_.at_ < (s_.code.length:Int) then
    (getI s_.code s_.at_).bind fun x9 =>
    qcf n s_ (w64 (x9))
  else
    qcf n s_ (0:Int)
theorem qk4 (n:Nat) (s_:qb1) {r:Int × qb1} (h:qdj n s_ = some r):qaq prog false 112 [.ptr 0 0] [.box [.d (.sl false (s_.code.map qat)),.d (.int .i64 s_.at_),.d (.int .u64 s_.seed)]] (fun v o new=>v = .d (.int .i64 r.1)∧o = [.box [.d (.sl false (r.2.code.map qat)),.d (.int .i64 r.2.at_),.d (.int .u64 r.2.seed)]]∧new = []):=by
  refine qaf hτ func112 rfl (by simp) (by simp) ?_
  unfold qdj at h
  refine qa6 ?_
  refine qa2 ?_
  refine qa0 hτ rfl rfl rfl ?_
  refine qa4 ?_
  refine qa6 ?_
  refine qa2 ?_
  refine qa0 hτ rfl rfl rfl ?_
  refine qa4 ?_
  refine qbw (ι:=Int) (fun v5=>St.of [(0,.ptr 0 0),(3,.d (.int .i64 v5))] [.box [.d (.sl false (s_.code.map qat)),.d (.int .i64 s_.at_),.d (.int .u64 s_.seed)]] f112.ntmps 1) (fun v5=>qcf n s_ v5 = some r) ?_ (fun hk7=>?_)
  · rintro v5 h
    replace h:qcf n s_ v5 = some r:=h
    unfold qcf at h
    refine qa6 ?_
    refine qa2 ?_
    refine qa0 hτ rfl rfl rfl ?_
    refine qa0 hτ rfl rfl rfl ?_
    refine qa0 hτ rfl rfl rfl ?_
    refine qa0 hτ rfl rfl rfl ?_
    refine qa0 hτ rfl rfl rfl ?_
    refine qa0 hτ rfl rfl rfl ?_
    refine qa0 hτ rfl rfl rfl ?_
    refine qai hτ rfl rfl rfl ?_
    refine qa4 ?_
    refine qa6 ?_
    refine qa8 (qa3 [0] (l:=[(0,.ptr 0 0),(3,.d (.int .i64 v5))]) (objs:=[.box [.d (.sl false (s_.code.map qat)),.d (.int .i64 (w64 (s_.at_ + (1:Int)))),.d (.int .u64 s_.seed)]]) rfl (by simp) rfl (by trivial) ⟨rfl,trivial,rfl,trivial,trivial⟩) ?_
    refine qa2 ?_
    refine qa0 hτ rfl rfl rfl ?_
    refine qa0 hτ rfl rfl rfl ?_
    refine qa0 hτ rfl rfl rfl ?_
    refine qa0 hτ rfl rfl rfl ?_
    refine qa0 hτ rfl rfl rfl ?_
    refine qa0 hτ rfl rfl rfl ?_
    refine qa0 hτ rfl rfl rfl ?_
    refine qa0 hτ rfl rfl rfl ?_
    refine qa0 hτ rfl rfl rfl ?_
    refine qa0 hτ rfl rfl rfl ?_
    refine qa0 hτ rfl rfl rfl ?_
    refine qa0 hτ rfl rfl rfl ?_
    refine qas (qa3 [0] (l:=[(0,.ptr 0 0),(3,.d (.int .i64 v5)),(41,.d (.int .u64 (IntKind.wrap .u64 ((IntKind.wrap .u64 ((IntKind.wrap .u64 (s_.seed * (6364136223846793005:Int))) + (IntKind.wrap .u64 (v5)))) + (1442695040888963407:Int))))),(43,.ptr 0 2)]) (objs:=[.box [.d (.sl false (s_.code.map qat)),.d (.int .i64 (w64 (s_.at_ + (1:Int)))),.d (.int .u64 s_.seed)]]) rfl (by simp) rfl (by trivial) ⟨rfl,trivial,rfl,trivial,rfl,trivial,rfl,trivial,trivial⟩) ?_
    refine qai hτ rfl rfl rfl ?_
    refine qa4 ?_
    refine qa6 ?_
    refine qa6 ?_
    refine qd7 ?_
    refine qa5 hτ [] 0 rfl rfl rfl rfl rfl ?_
    refine qa5 hτ [] 1 rfl rfl rfl rfl rfl ?_
    refine qa5 hτ [0] 2 rfl rfl rfl rfl rfl ?_
    refine qa5 hτ [0] 3 rfl rfl rfl rfl rfl ?_
    refine qa5 hτ [] 4 rfl rfl rfl rfl rfl ?_
    refine qa5 hτ [] 5 rfl rfl rfl rfl rfl ?_
    refine qa5 hτ [0] 6 rfl rfl rfl rfl rfl ?_
    refine qa5 hτ [0] 7 rfl rfl rfl rfl rfl ?_
    refine qa5 hτ (v:=.d (.int .i64 (s_.code.length:Int))) [] 8 rfl rfl rfl rfl (Eq.trans rfl (qjj (f:=qat) s_.code)) ?_
    refine qa5 hτ [] 9 rfl rfl rfl rfl rfl ?_
    refine qbk mixed (by kernel_rfl) ?_
    refine qa8 (qa3 [0] (l:=[(0,.ptr 0 0),(3,.d (.int .i64 v5)),(53,.d (.bool (decide ((w64 (s_.at_ + (1:Int))) ≤ (s_.code.length:Int)))))]) (objs:=[.box [.d (.sl false (s_.code.map qat)),.d (.int .i64 (w64 (s_.at_ + (1:Int)))),.d (.int .u64 (IntKind.wrap .u64 ((IntKind.wrap .u64 ((IntKind.wrap .u64 (s_.seed * (6364136223846793005:Int))) + (IntKind.wrap .u64 (v5)))) + (1442695040888963407:Int))))]]) rfl (by simp) rfl (by trivial) ⟨rfl,trivial,rfl,trivial,rfl,trivial,trivial⟩) ?_
    refine qar rfl (fun hc6=>?_) (fun hc6=>?_)
    · have h:=if_t h hc6
      refine qa6 ?_
      refine qa2 ?_
      refine qa0 hτ rfl rfl rfl ?_
      refine qa0 hτ rfl rfl rfl ?_
      refine qa4 ?_
      refine qa8 (qa3 [0] (l:=[(2,.d (.int .i64 v5))]) (objs:=[.box [.d (.sl false (s_.code.map qat)),.d (.int .i64 (w64 (s_.at_ + (1:Int)))),.d (.int .u64 (IntKind.wrap .u64 ((IntKind.wrap .u64 ((IntKind.wrap .u64 (s_.seed * (6364136223846793005:Int))) + (IntKind.wrap .u64 (v5)))) + (1442695040888963407:Int))))]]) rfl (by simp) rfl (by trivial) ⟨rfl,trivial,trivial⟩) ?_
      refine qal ?_
      have hr:=Option.some.inj h
      subst hr
      exact qae (.inr rfl) [] (objs':=[.box [.d (.sl false (s_.code.map qat)),.d (.int .i64 (w64 (s_.at_ + (1:Int)))),.d (.int .u64 (IntKind.wrap .u64 ((IntKind.wrap .u64 ((IntKind.wrap .u64 (s_.seed * (6364136223846793005:Int))) + (IntKind.wrap .u64 (v5)))) + (1442695040888963407:Int))))]]) (new:=[]) rfl (by simp) (by simp) rfl (by trivial) rfl rfl (by trivial) (fun h=>nomatch h) ⟨rfl,rfl,rfl⟩
    · have h:=if_f h hc6
      refine qb9 ?_
      refine qa6 ?_
      refine qa2 ?_
      refine qa0 hτ rfl rfl rfl ?_
      refine qa0 hτ rfl rfl rfl ?_
      refine qa0 hτ rfl rfl rfl ?_
      refine qa0 hτ rfl rfl rfl ?_
      refine qfl hτ rfl rfl rfl (by decide) ?_
      refine qa0 hτ rfl rfl rfl ?_
      refine qa0 hτ rfl rfl rfl ?_
      refine qa0 hτ rfl rfl rfl ?_
      refine qa4 ?_
      refine qa8 (qa3 [0] (l:=[(2,.d (.int .i64 (w64 ((qkx .and .u64 ((IntKind.wrap .u64 ((IntKind.wrap .u64 ((IntKind.wrap .u64 (s_.seed * (6364136223846793005:Int))) + (IntKind.wrap .u64 (v5)))) + (1442695040888963407:Int))).fdiv (2 ^ min (40:Int).toNat (IntKind.bits .u64))) (255:Int))))))]) (objs:=[.box [.d (.sl false (s_.code.map qat)),.d (.int .i64 (w64 (s_.at_ + (1:Int)))),.d (.int .u64 (IntKind.wrap .u64 ((IntKind.wrap .u64 ((IntKind.wrap .u64 (s_.seed * (6364136223846793005:Int))) + (IntKind.wrap .u64 (v5)))) + (1442695040888963407:Int))))]]) rfl (by simp) rfl (by trivial) ⟨rfl,trivial,trivial⟩) ?_
      refine qal ?_
      have hr:=Option.some.inj h
      subst hr
      exact qae (.inr rfl) [] (objs':=[.box [.d (.sl false (s_.code.map qat)),.d (.int .i64 (w64 (s_.at_ + (1:Int)))),.d (.int .u64 (IntKind.wrap .u64 ((IntKind.wrap .u64 ((IntKind.wrap .u64 (s_.seed * (6364136223846793005:Int))) + (IntKind.wrap .u64 (v5)))) + (1442695040888963407:Int))))]]) (new:=[]) rfl (by simp) (by simp) rfl (by trivial) rfl rfl (by trivial) (fun h=>nomatch h) ⟨rfl,rfl,rfl⟩
  · refine qa6 ?_
    refine qa6 ?_
    refine qd7 ?_
    refine qa5 hτ [] 0 rfl rfl rfl rfl rfl ?_
    refine qa5 hτ [] 1 rfl rfl rfl rfl rfl ?_
    refine qa5 hτ [0] 2 rfl rfl rfl rfl rfl ?_
    refine qa5 hτ [0] 3 rfl rfl rfl rfl rfl ?_
    refine qa5 hτ [] 4 rfl rfl rfl rfl rfl ?_
    refine qa5 hτ [] 5 rfl rfl rfl rfl rfl ?_
    refine qa5 hτ [0] 6 rfl rfl rfl rfl rfl ?_
    refine qa5 hτ [0] 7 rfl rfl rfl rfl rfl ?_
    refine qa5 hτ (v:=.d (.int .i64 (s_.code.length:Int))) [] 8 rfl rfl rfl rfl (Eq.trans rfl (qjj (f:=qat) s_.code)) ?_
    refine qa5 hτ [] 9 rfl rfl rfl rfl rfl ?_
    refine qbk mixed (by kernel_rfl) ?_
    refine qa8 (qa3 [0] (l:=[(0,.ptr 0 0),(3,.d (.int .i64 (0:Int))),(13,.d (.bool (decide (s_.at_ < (s_.code.length:Int)))))]) (objs:=[.box [.d (.sl false (s_.code.map qat)),.d (.int .i64 s_.at_),.d (.int .u64 s_.seed)]]) rfl (by simp) rfl (by trivial) ⟨rfl,trivial,rfl,trivial,rfl,trivial,trivial⟩) ?_
    refine qar rfl (fun hc8=>?_) (fun hc8=>?_)
    · have h:=if_t h hc8
      refine qd7 ?_
      refine qa5 hτ [] 0 rfl rfl rfl rfl rfl ?_
      refine qa5 hτ [] 1 rfl rfl rfl rfl rfl ?_
      refine qa5 hτ [0] 2 rfl rfl rfl rfl rfl ?_
      refine qa5 hτ [0] 3 rfl rfl rfl rfl rfl ?_
      refine qa5 hτ [] 4 rfl rfl rfl rfl rfl ?_
      refine qa5 hτ [] 5 rfl rfl rfl rfl rfl ?_
      refine qa5 hτ [0] 6 rfl rfl rfl rfl rfl ?_
      refine qa5 hτ [0] 7 rfl rfl rfl rfl rfl ?_
      refine qa7 h fun x9 hx9 h=>?_
      refine qf6 hτ [] 8 rfl rfl rfl rfl rfl (qd2 hx9).1 (qdv hx9) rfl ?_
      refine qa5 hτ [] 9 rfl rfl rfl rfl rfl ?_
      refine qa5 hτ [] 10 rfl rfl rfl rfl rfl ?_
      refine qa5 hτ [] 11 rfl rfl rfl rfl rfl ?_
      refine qbk mixed (by kernel_rfl) ?_
      refine qa8 (qa3 [0] (l:=[(0,.ptr 0 0),(3,.d (.int .i64 (w64 (x9))))]) (objs:=[.box [.d (.sl false (s_.code.map qat)),.d (.int .i64 s_.at_),.d (.int .u64 s_.seed)]]) rfl (by simp) rfl (by trivial) ⟨rfl,trivial,rfl,trivial,trivial⟩) ?_
      exact hk7 (w64 (x9)) h
    · have h:=if_f h hc8
      refine qb9 ?_
      refine qa8 (qa3 [0] (l:=[(0,.ptr 0 0),(3,.d (.int .i64 (0:Int)))]) (objs:=[.box [.d (.sl false (s_.code.map qat)),.d (.int .i64 s_.at_),.d (.int .u64 s_.seed)]]) rfl (by simp) rfl (by trivial) ⟨rfl,trivial,rfl,trivial,trivial⟩) ?_
      exact hk7 (0:Int) h
def qcy (n:Nat) (n_:Int) (v15:List Int) (v16:Int) (v17:Int) (v18:Int):Option (Int × qb1) :=
  grd (n_ ≠ 0) <|
  some ((v18.tmod n_),(qb1.mk v15 v16 v17))
def qap (n:Nat) (s_:qb1) (n_:Int):Option (Int × qb1) :=
  if n_ ≤ (1:Int) then
    some ((0:Int),s_)
  else
    (qdj n s_).bind fun x9 =>
    if n_ > (200:Int) then
      (qdj n x9.2).bind fun x22 =>
      qcy n n_ x22.2.code x22.2.at_ x22.2.seed (w64 ((w64 (x9.1 * (256:Int))) + x22.1))
    else
      qcy n n_ x9.2.code x9.2.at_ x9.2.seed x9.1
theorem qch (n:Nat) (s_:qb1) (n_:Int) {r:Int × qb1} (h:qap n s_ n_ = some r):qaq prog false 56 [.ptr 0 0,.d (.int .i64 n_)] [.box [.d (.sl false (s_.code.map qat)),.d (.int .i64 s_.at_),.d (.int .u64 s_.seed)]] (fun v o new=>v = .d (.int .i64 r.1)∧o = [.box [.d (.sl false (r.2.code.map qat)),.d (.int .i64 r.2.at_),.d (.int .u64 r.2.seed)]]∧new = []):=by
  refine qaf hτ func56 rfl (by simp) (by simp) ?_
  unfold qap at h
  refine qa6 ?_
  refine qa2 ?_
  refine qa0 hτ rfl rfl rfl ?_
  refine qa4 ?_
  refine qa6 ?_
  refine qa6 ?_
  refine qa2 ?_
  refine qa0 hτ rfl rfl rfl ?_
  refine qa0 hτ rfl rfl rfl ?_
  refine qa4 ?_
  refine qar rfl (fun hc8=>?_) (fun hc8=>?_)
  · have h:=if_t h hc8
    refine qa6 ?_
    refine qa2 ?_
    refine qa0 hτ rfl rfl rfl ?_
    refine qa4 ?_
    refine qa8 (qa3 [0] (l:=[(4,.d (.int .i64 (0:Int)))]) (objs:=[.box [.d (.sl false (s_.code.map qat)),.d (.int .i64 s_.at_),.d (.int .u64 s_.seed)]]) rfl (by simp) rfl (by trivial) ⟨rfl,trivial,trivial⟩) ?_
    refine qal ?_
    have hr:=Option.some.inj h
    subst hr
    exact qae (.inr rfl) [] (objs':=[.box [.d (.sl false (s_.code.map qat)),.d (.int .i64 s_.at_),.d (.int .u64 s_.seed)]]) (new:=[]) rfl (by simp) (by simp) rfl (by trivial) rfl rfl (by trivial) (fun h=>nomatch h) ⟨rfl,rfl,rfl⟩
  · have h:=if_f h hc8
    refine qb9 ?_
    refine qa6 ?_
    refine qa2 ?_
    refine qa0 hτ rfl rfl rfl ?_
    refine qa7 h fun x9 hx9 h=>?_
    refine qab hτ false [0] rfl rfl rfl (qac func112 rfl rfl) rfl rfl (by simp) ⟨trivial,trivial⟩ (by trivial) (qk4 n s_ hx9) ?_
    rintro r0 o0 n0 ⟨rfl,rfl,rfl⟩ -
    refine qa0 hτ rfl rfl rfl ?_
    refine qa4 ?_
    refine qbw (ι:=List Int × Int × Int × Int) (fun (v15,v16,v17,v18)=>St.of [(1,.d (.int .i64 n_)),(5,.d (.int .i64 v18))] [.box [.d (.sl false (v15.map qat)),.d (.int .i64 v16),.d (.int .u64 v17)]] f56.ntmps 1) (fun (v15,v16,v17,v18)=>qcy n n_ v15 v16 v17 v18 = some r) ?_ (fun hk20=>?_)
    · rintro ⟨v15,v16,v17,v18⟩ h
      replace h:qcy n n_ v15 v16 v17 v18 = some r:=h
      unfold qcy at h
      refine qa6 ?_
      refine qa2 ?_
      refine qa0 hτ rfl rfl rfl ?_
      refine qa0 hτ rfl rfl rfl ?_
      refine qf8 h fun hg19 h=>?_
      refine qfl hτ rfl rfl rfl hg19 ?_
      refine qa0 hτ rfl rfl rfl ?_
      refine qa4 ?_
      refine qa8 (qa3 [0] (l:=[(4,.d (.int .i64 (v18.tmod n_)))]) (objs:=[.box [.d (.sl false (v15.map qat)),.d (.int .i64 v16),.d (.int .u64 v17)]]) rfl (by simp) rfl (by trivial) ⟨rfl,trivial,trivial⟩) ?_
      refine qal ?_
      have hr:=Option.some.inj h
      subst hr
      exact qae (.inr rfl) [] (objs':=[.box [.d (.sl false (v15.map qat)),.d (.int .i64 v16),.d (.int .u64 v17)]]) (new:=[]) rfl (by simp) (by simp) rfl (by trivial) rfl rfl (by trivial) (fun h=>nomatch h) ⟨rfl,rfl,rfl⟩
    · refine qa6 ?_
      refine qa6 ?_
      refine qa8 (qa3 [0] (l:=[(0,.ptr 0 0),(1,.d (.int .i64 n_)),(5,.d (.int .i64 x9.1))]) (objs:=[.box [.d (.sl false (x9.2.code.map qat)),.d (.int .i64 x9.2.at_),.d (.int .u64 x9.2.seed)]]) rfl (by simp) rfl (by trivial) ⟨rfl,trivial,rfl,trivial,rfl,trivial,trivial⟩) ?_
      refine qa2 ?_
      refine qa0 hτ rfl rfl rfl ?_
      refine qa0 hτ rfl rfl rfl ?_
      refine qa4 ?_
      refine qar rfl (fun hc21=>?_) (fun hc21=>?_)
      · have h:=if_t h hc21
        refine qa2 ?_
        refine qa0 hτ rfl rfl rfl ?_
        refine qa0 hτ rfl rfl rfl ?_
        refine qa0 hτ rfl rfl rfl ?_
        refine qa7 h fun x22 hx22 h=>?_
        refine qab hτ false [0] rfl rfl rfl (qac func112 rfl rfl) rfl rfl (by simp) ⟨trivial,trivial⟩ (by trivial) (qk4 n x9.2 hx22) ?_
        rintro r0 o0 n0 ⟨rfl,rfl,rfl⟩ -
        refine qa0 hτ rfl rfl rfl ?_
        refine qa0 hτ rfl rfl rfl ?_
        refine qa4 ?_
        refine qa8 (qa3 [0] (l:=[(1,.d (.int .i64 n_)),(5,.d (.int .i64 (w64 ((w64 (x9.1 * (256:Int))) + x22.1))))]) (objs:=[.box [.d (.sl false (x22.2.code.map qat)),.d (.int .i64 x22.2.at_),.d (.int .u64 x22.2.seed)]]) rfl (by simp) rfl (by trivial) ⟨rfl,trivial,rfl,trivial,trivial⟩) ?_
        exact hk20 (x22.2.code,x22.2.at_,x22.2.seed,(w64 ((w64 (x9.1 * (256:Int))) + x22.1))) h
      · have h:=if_f h hc21
        refine qb9 ?_
        refine qa8 (qa3 [0] (l:=[(1,.d (.int .i64 n_)),(5,.d (.int .i64 x9.1))]) (objs:=[.box [.d (.sl false (x9.2.code.map qat)),.d (.int .i64 x9.2.at_),.d (.int .u64 x9.2.seed)]]) rfl (by simp) rfl (by trivial) ⟨rfl,trivial,rfl,trivial,trivial⟩) ?_
        exact hk20 (x9.2.code,x9.2.at_,x9.2.seed,x9.1) h
theorem qjf {n:Nat} {s_:qb1} {r:Int × qb1} (h:qdj n s_ = some r):r.2.code = s_.code:=by
  have j:∀ v,qcf n s_ v = some r→r.2.code = s_.code:=by
    intro v h
    unfold qcf at h
    split at h <;> (have e:=Option.some.inj h;subst e;rfl)
  unfold qdj at h
  split at h
  · exact qa7 h fun x _ h=>j _ h
  · exact j _ h
theorem spec_l00Src_pick_code {n:Nat} {s_:qb1} {k:Int} {r:Int × qb1} (h:qap n s_ k = some r):r.2.code = s_.code:=by
  unfold qap at h
  split at h
  · have e:=Option.some.inj h;subst e;rfl
  · refine qa7 h fun x hx h=>?_
    have e1:=qjf hx
    unfold qcy at h
    split at h
    · refine qa7 h fun y hy h=>?_
      have e2:=qjf hy
      refine qf8 h fun _ h=>?_
      have e:=Option.some.inj h;subst e;exact e2.trans e1
    · refine qf8 h fun _ h=>?_
      have e:=Option.some.inj h;subst e;exact e1
theorem qb6 (n:Nat) (s_:qb1) (n_:Int) {r:Int × qb1} (h:qap n s_ n_ = some r):qaq prog false 56 [.ptr 0 0,.d (.int .i64 n_)] [.box [.d (.sl false (s_.code.map qat)),.d (.int .i64 s_.at_),.d (.int .u64 s_.seed)]] (fun v o new=>v = .d (.int .i64 r.1)∧o = [.box [.d (.sl false (s_.code.map qat)),.d (.int .i64 r.2.at_),.d (.int .u64 r.2.seed)]]∧new = []):=by
  have k:=qch n s_ n_ h
  rw [spec_l00Src_pick_code h] at k
  exact k
def qhy (n:Nat) (n_:Int):Option Nat :=
  grd ((IntKind.wrap .u32 (n_)).toNat < 4294967296) <|
  some (canon .f32 (IntKind.wrap .u32 (n_)).toNat)
theorem spec_l01From_ok_fr0 (fr:Bool) (n:Nat) (n_:Int) {r:Nat} (h:qhy n n_ = some r):qaq prog fr 148 [.d (.int .i64 n_)] [] (fun v o new=>v = .d (.fl .f32 r)∧o = []∧new = []):=by
  refine qaf hτ func148 rfl (by simp) (by simp) ?_
  unfold qhy at h
  refine qa6 ?_
  refine qa2 ?_
  refine qa0 hτ rfl rfl rfl ?_
  refine qa4 ?_
  refine qa6 ?_
  refine qa2 ?_
  refine qa0 hτ rfl rfl rfl ?_
  refine qa0 hτ rfl rfl rfl ?_
  refine qf8 h fun hg2 h=>?_
  refine qkr hτ rfl rfl rfl (ext170 hg2) ?_
  refine qa0 hτ rfl rfl rfl ?_
  refine qa4 ?_
  refine qa8 (qa3 [] (l:=[(2,.d (.fl .f32 (canon .f32 (IntKind.wrap .u32 (n_)).toNat)))]) (objs:=[]) rfl (by simp) rfl (by trivial) ⟨rfl,trivial,trivial⟩) ?_
  refine qal ?_
  have hr:=Option.some.inj h
  subst hr
  exact qae (.inr rfl) [] (objs':=[]) (new:=[]) rfl (by simp) (by simp) rfl (by trivial) rfl rfl (by trivial) (fun _=>⟨by simp [V.flat,V.qb7,V.qb5,D.flat],qag⟩) ⟨rfl,rfl,rfl⟩
theorem qld (n:Nat) (n_:Int) {r:Nat} (h:qhy n n_ = some r):qaq prog false 148 [.d (.int .i64 n_)] [] (fun v o new=>v = .d (.fl .f32 r)∧o = []∧new = []):=spec_l01From_ok_fr0 false n n_ h
def qkg (n:Nat):Option Nat :=
  grd ((9221120237041090561:Int).toNat < 18446744073709551616) <|
  some (canon .f64 (9221120237041090561:Int).toNat)
theorem math_NaN_ok_fr0 (fr:Bool) (n:Nat) {r:Nat} (h:qkg n = some r):qaq prog fr 171 [] [] (fun v o new=>v = .d (.fl .f64 r)∧o = []∧new = []):=by
  refine qaf hτ func171 rfl (by simp) (by simp) ?_
  unfold qkg at h
  refine qa6 ?_
  refine qa2 ?_
  refine qa0 hτ rfl rfl rfl ?_
  refine qa4 ?_
  refine qa6 ?_
  refine qa2 ?_
  refine qf8 h fun hg2 h=>?_
  refine qkr hτ rfl rfl rfl (qt7 hg2) ?_
  refine qa0 hτ rfl rfl rfl ?_
  refine qa4 ?_
  refine qa8 (qa3 [] (l:=[(0,.d (.fl .f64 (canon .f64 (9221120237041090561:Int).toNat)))]) (objs:=[]) rfl (by simp) rfl (by trivial) ⟨rfl,trivial,trivial⟩) ?_
  refine qal ?_
  have hr:=Option.some.inj h
  subst hr
  exact qae (.inr rfl) [] (objs':=[]) (new:=[]) rfl (by simp) (by simp) rfl (by trivial) rfl rfl (by trivial) (fun _=>⟨by simp [V.flat,V.qb7,V.qb5,D.flat],qag⟩) ⟨rfl,rfl,rfl⟩
theorem qo2 (n:Nat) {r:Nat} (h:qkg n = some r):qaq prog false 171 [] [] (fun v o new=>v = .d (.fl .f64 r)∧o = []∧new = []):=math_NaN_ok_fr0 false n h
def qg1 (n:Nat) (v19:Nat) (v23:Nat) (v28:Nat):Option Nat :=
  if (fcmp .geq .f64 v19 (4602678819172646912:Nat)) = true then
    some (fneg .f64 (qa1 .mul .f64 (qa1 .mul .f64 v23 (4618760256179416344:Nat)) v28))
  else
    some (qa1 .mul .f64 (qa1 .mul .f64 v23 (4618760256179416344:Nat)) v28)
def qdt (n:Nat) (v19:Nat) (v23:Nat):Nat→Nat→Int→Option Nat
  | 0,_,_=>none
  | m35 + 1,v31,v32 =>
    if v32 ≥ (1:Int) then
      (qdt n v19 v23 m35) (qa1 .sub .f64 (4607182418800017408:Nat) (qa1 .quo .f64 (qa1 .mul .f64 (qa1 .mul .f64 (qa1 .mul .f64 v23 (4618760256179416344:Nat)) (qa1 .mul .f64 v23 (4618760256179416344:Nat))) v31) (FloatKind.nearest .f64 (w64 ((w64 ((2:Int) * v32)) * (w64 ((w64 ((2:Int) * v32)) + (1:Int)))))))) (w64 (v32 - (1:Int)))
    else
      qg1 n v19 v23 v31
def qeu (n:Nat) (v19:Nat) (v23:Nat):Option Nat :=
  qdt n v19 v23 n (4607182418800017408:Nat) (8:Int)
def qet (n:Nat) (v19:Nat) (v21:Nat):Option Nat :=
  if (fcmp .gtr .f64 v21 (4598175219545276416:Nat)) = true then
    qeu n v19 (qa1 .sub .f64 (4602678819172646912:Nat) v21)
  else
    qeu n v19 v21
def qes (n:Nat) (v19:Nat):Option Nat :=
  if (fcmp .geq .f64 v19 (4602678819172646912:Nat)) = true then
    qet n v19 (qa1 .sub .f64 v19 (4602678819172646912:Nat))
  else
    qet n v19 v19
def qg0 (n:Nat) (y_:Nat):Option Nat :=
  (f2i .f64 .i64 y_).bind fun x17 =>
  if (fcmp .lss .f64 (qa1 .sub .f64 y_ (FloatKind.nearest .f64 x17)) (0:Nat)) = true then
    qes n (qa1 .add .f64 (qa1 .sub .f64 y_ (FloatKind.nearest .f64 x17)) (4607182418800017408:Nat))
  else
    qes n (qa1 .sub .f64 y_ (FloatKind.nearest .f64 x17))
def qev (n:Nat) (y_:Nat) (v47:Bool):Option Nat :=
  if v47 = true then
    some (0:Nat)
  else
    qg0 n y_
def qfz (n:Nat) (y_:Nat):Option Nat :=
  if (fcmp .neq .f64 (qa1 .sub .f64 y_ y_) (0:Nat)) = true then
    (qkg n).bind fun x14 =>
    some x14
  else
    if (fcmp .geq .f64 y_ (4841369599423283200:Nat)) = true then
      qev n y_ true
    else
      qev n y_ (fcmp .leq .f64 y_ (14064741636278059008:Nat))
theorem spec_l01SineWide_ok_fr0 (fr:Bool) (n:Nat) (y_:Nat) {r:Nat} (h:qfz n y_ = some r):qaq prog fr 149 [.d (.fl .f64 y_)] [] (fun v o new=>v = .d (.fl .f64 r)∧o = []∧new = []):=by
  refine qaf hτ func149 rfl (by simp) (by simp) ?_
  unfold qfz at h
  refine qa6 ?_
  refine qa2 ?_
  refine qa0 hτ rfl rfl rfl ?_
  refine qa4 ?_
  refine qa6 ?_
  refine qa6 ?_
  refine qa2 ?_
  refine qa0 hτ rfl rfl rfl ?_
  refine qa0 hτ rfl rfl rfl ?_
  refine qa0 hτ rfl rfl rfl ?_
  refine qa0 hτ rfl rfl rfl ?_
  refine qa4 ?_
  refine qar rfl (fun hc13=>?_) (fun hc13=>?_)
  · have h:=qcl h hc13
    refine qa6 ?_
    refine qa2 ?_
    refine qa7 h fun x14 hx14 h=>?_
    refine qab hτ false [] rfl rfl rfl (qac func171 rfl rfl) rfl rfl (by simp) trivial (by trivial) (qo2 n hx14) ?_
    rintro r0 o0 n0 ⟨rfl,rfl,rfl⟩ -
    refine qa0 hτ rfl rfl rfl ?_
    refine qa4 ?_
    refine qa8 (qa3 [] (l:=[(2,.d (.fl .f64 x14))]) (objs:=[]) rfl (by simp) rfl (by trivial) ⟨rfl,trivial,trivial⟩) ?_
    refine qal ?_
    have hr:=Option.some.inj h
    subst hr
    exact qae (.inr rfl) [] (objs':=[]) (new:=[]) rfl (by simp) (by simp) rfl (by trivial) rfl rfl (by trivial) (fun _=>⟨by simp [V.flat,V.qb7,V.qb5,D.flat],qag⟩) ⟨rfl,rfl,rfl⟩
  · have h:=qck h hc13
    refine qb9 ?_
    refine qbw (ι:=Unit) (fun _=>St.of [(0,.d (.fl .f64 y_))] [] f149.ntmps 0) (fun _=>qg0 n y_ = some r) ?_ (fun hk44=>?_)
    · rintro ⟨⟩ h
      replace h:qg0 n y_ = some r:=h
      unfold qg0 at h
      refine qa6 ?_
      refine qa2 ?_
      refine qa0 hτ rfl rfl rfl ?_
      refine qa0 hτ rfl rfl rfl ?_
      refine qa7 h fun x17 hx17 h=>?_
      refine quz rfl rfl (qvb hτ rfl rfl rfl rfl rfl rfl hx17) ?_
      refine qa0 hτ rfl rfl rfl ?_
      refine qa0 hτ rfl rfl rfl ?_
      refine qa0 hτ rfl rfl rfl ?_
      refine qa4 ?_
      refine qbw (ι:=Nat) (fun v19=>St.of [(3,.d (.fl .f64 v19))] [] f149.ntmps 0) (fun v19=>qes n v19 = some r) ?_ (fun hk42=>?_)
      · rintro v19 h
        replace h:qes n v19 = some r:=h
        unfold qes at h
        refine qa6 ?_
        refine qa2 ?_
        refine qa0 hτ rfl rfl rfl ?_
        refine qa0 hτ rfl rfl rfl ?_
        refine qa0 hτ rfl rfl rfl ?_
        refine qa4 ?_
        refine qbw (ι:=Nat) (fun v21=>St.of [(3,.d (.fl .f64 v21)),(4,.d (.bool (fcmp .geq .f64 v19 (4602678819172646912:Nat))))] [] f149.ntmps 0) (fun v21=>qet n v19 v21 = some r) ?_ (fun hk40=>?_)
        · rintro v21 h
          replace h:qet n v19 v21 = some r:=h
          unfold qet at h
          refine qbw (ι:=Nat) (fun v23=>St.of [(3,.d (.fl .f64 v23)),(4,.d (.bool (fcmp .geq .f64 v19 (4602678819172646912:Nat))))] [] f149.ntmps 0) (fun v23=>qeu n v19 v23 = some r) ?_ (fun hk38=>?_)
          · rintro v23 h
            replace h:qeu n v19 v23 = some r:=h
            unfold qeu at h
            refine qa6 ?_
            refine qa2 ?_
            refine qa0 hτ rfl rfl rfl ?_
            refine qa0 hτ rfl rfl rfl ?_
            refine qa0 hτ rfl rfl rfl ?_
            refine qa4 ?_
            refine qa6 ?_
            refine qa2 ?_
            refine qa0 hτ rfl rfl rfl ?_
            refine qa0 hτ rfl rfl rfl ?_
            refine qa0 hτ rfl rfl rfl ?_
            refine qa0 hτ rfl rfl rfl ?_
            refine qa4 ?_
            refine qa6 ?_
            refine qa8 (qa3 [] (l:=[(4,.d (.bool (fcmp .geq .f64 v19 (4602678819172646912:Nat)))),(5,.d (.fl .f64 (qa1 .mul .f64 v23 (4618760256179416344:Nat)))),(6,.d (.fl .f64 (qa1 .mul .f64 (qa1 .mul .f64 v23 (4618760256179416344:Nat)) (qa1 .mul .f64 v23 (4618760256179416344:Nat)))))]) (objs:=[]) rfl (by simp) rfl (by trivial) ⟨rfl,trivial,rfl,trivial,rfl,trivial,trivial⟩) ?_
            refine qa2 ?_
            refine qa0 hτ rfl rfl rfl ?_
            refine qa4 ?_
            refine qbw (ι:=Nat) (fun v28=>St.of [(4,.d (.bool (fcmp .geq .f64 v19 (4602678819172646912:Nat)))),(5,.d (.fl .f64 (qa1 .mul .f64 v23 (4618760256179416344:Nat)))),(7,.d (.fl .f64 v28))] [] f149.ntmps 0) (fun v28=>qg1 n v19 v23 v28 = some r) ?_ (fun hk30=>?_)
            · rintro v28 h
              replace h:qg1 n v19 v23 v28 = some r:=h
              unfold qg1 at h
              refine qa6 ?_
              refine qa6 ?_
              refine qa2 ?_
              refine qa0 hτ rfl rfl rfl ?_
              refine qa4 ?_
              refine qar rfl (fun hc29=>?_) (fun hc29=>?_)
              · have h:=qcl h hc29
                refine qa6 ?_
                refine qa2 ?_
                refine qa0 hτ rfl rfl rfl ?_
                refine qa0 hτ rfl rfl rfl ?_
                refine qa0 hτ rfl rfl rfl ?_
                refine qa0 hτ rfl rfl rfl ?_
                refine qa0 hτ rfl rfl rfl ?_
                refine qa4 ?_
                refine qa8 (qa3 [] (l:=[(2,.d (.fl .f64 (fneg .f64 (qa1 .mul .f64 (qa1 .mul .f64 v23 (4618760256179416344:Nat)) v28))))]) (objs:=[]) rfl (by simp) rfl (by trivial) ⟨rfl,trivial,trivial⟩) ?_
                refine qal ?_
                have hr:=Option.some.inj h
                subst hr
                exact qae (.inr rfl) [] (objs':=[]) (new:=[]) rfl (by simp) (by simp) rfl (by trivial) rfl rfl (by trivial) (fun _=>⟨by simp [V.flat,V.qb7,V.qb5,D.flat],qag⟩) ⟨rfl,rfl,rfl⟩
              · have h:=qck h hc29
                refine qb9 ?_
                refine qa6 ?_
                refine qa2 ?_
                refine qa0 hτ rfl rfl rfl ?_
                refine qa0 hτ rfl rfl rfl ?_
                refine qa0 hτ rfl rfl rfl ?_
                refine qa0 hτ rfl rfl rfl ?_
                refine qa4 ?_
                refine qa8 (qa3 [] (l:=[(2,.d (.fl .f64 (qa1 .mul .f64 (qa1 .mul .f64 v23 (4618760256179416344:Nat)) v28)))]) (objs:=[]) rfl (by simp) rfl (by trivial) ⟨rfl,trivial,trivial⟩) ?_
                refine qal ?_
                have hr:=Option.some.inj h
                subst hr
                exact qae (.inr rfl) [] (objs':=[]) (new:=[]) rfl (by simp) (by simp) rfl (by trivial) rfl rfl (by trivial) (fun _=>⟨by simp [V.flat,V.qb7,V.qb5,D.flat],qag⟩) ⟨rfl,rfl,rfl⟩
            · refine qa6 ?_
              refine qa6 ?_
              refine qa2 ?_
              refine qa0 hτ rfl rfl rfl ?_
              refine qa4 ?_
              refine qbo ?_
              refine qh3 (ι:=Nat × Nat × Int) (fun (m35,v31,v32)=>St.of [(4,.d (.bool (fcmp .geq .f64 v19 (4602678819172646912:Nat)))),(5,.d (.fl .f64 (qa1 .mul .f64 v23 (4618760256179416344:Nat)))),(6,.d (.fl .f64 (qa1 .mul .f64 (qa1 .mul .f64 v23 (4618760256179416344:Nat)) (qa1 .mul .f64 v23 (4618760256179416344:Nat))))),(7,.d (.fl .f64 v31)),(8,.d (.int .i64 v32))] [] f149.ntmps 0) (fun (m35,v31,v32)=>qdt n v19 v23 m35 v31 v32 = some r) (fun x=>x.1) (n,(4607182418800017408:Nat),(8:Int)) h (qa3 [] (l:=[(4,.d (.bool (fcmp .geq .f64 v19 (4602678819172646912:Nat)))),(5,.d (.fl .f64 (qa1 .mul .f64 v23 (4618760256179416344:Nat)))),(6,.d (.fl .f64 (qa1 .mul .f64 (qa1 .mul .f64 v23 (4618760256179416344:Nat)) (qa1 .mul .f64 v23 (4618760256179416344:Nat))))),(7,.d (.fl .f64 (4607182418800017408:Nat))),(8,.d (.int .i64 (8:Int)))]) (objs:=[]) rfl (by simp) rfl (by trivial) ⟨rfl,trivial,rfl,trivial,rfl,trivial,rfl,trivial,rfl,trivial,trivial⟩) ?_
              rintro ⟨m35,v31,v32⟩ h
              replace h:qdt n v19 v23 m35 v31 v32 = some r:=h
              rcases m35 with _ | m35
              · rw [qdt] at h;cases h
              rw [qdt] at h
              refine qa6 ?_
              refine qa6 ?_
              refine qa2 ?_
              refine qa0 hτ rfl rfl rfl ?_
              refine qa0 hτ rfl rfl rfl ?_
              refine qa4 ?_
              refine qar rfl (fun hc37=>?_) (fun hc37=>?_)
              · have h:=if_t h hc37
                refine qb9 ?_
                refine qa6 ?_
                refine qbo ?_
                refine qa2 ?_
                refine qa0 hτ rfl rfl rfl ?_
                refine qa0 hτ rfl rfl rfl ?_
                refine qa0 hτ rfl rfl rfl ?_
                refine qa0 hτ rfl rfl rfl ?_
                refine qa0 hτ rfl rfl rfl ?_
                refine qa0 hτ rfl rfl rfl ?_
                refine qa0 hτ rfl rfl rfl ?_
                refine qa0 hτ rfl rfl rfl ?_
                refine qa0 hτ rfl rfl rfl ?_
                refine qa0 hτ rfl rfl rfl ?_
                refine qas (qa3 [] (l:=[(4,.d (.bool (fcmp .geq .f64 v19 (4602678819172646912:Nat)))),(5,.d (.fl .f64 (qa1 .mul .f64 v23 (4618760256179416344:Nat)))),(6,.d (.fl .f64 (qa1 .mul .f64 (qa1 .mul .f64 v23 (4618760256179416344:Nat)) (qa1 .mul .f64 v23 (4618760256179416344:Nat))))),(8,.d (.int .i64 v32)),(49,.d (.fl .f64 (qa1 .mul .f64 (qa1 .mul .f64 (qa1 .mul .f64 v23 (4618760256179416344:Nat)) (qa1 .mul .f64 v23 (4618760256179416344:Nat))) v31))),(56,.d (.fl .f64 (FloatKind.nearest .f64 (w64 ((w64 ((2:Int) * v32)) * (w64 ((w64 ((2:Int) * v32)) + (1:Int))))))))]) (objs:=[]) rfl (by simp) rfl (by trivial) ⟨rfl,trivial,rfl,trivial,rfl,trivial,rfl,trivial,rfl,trivial,rfl,trivial,trivial⟩) ?_
                refine qa0 hτ rfl rfl rfl ?_
                refine qa0 hτ rfl rfl rfl ?_
                refine qa0 hτ rfl rfl rfl ?_
                refine qa4 ?_
                refine qa2 ?_
                refine qa0 hτ rfl rfl rfl ?_
                refine qa0 hτ rfl rfl rfl ?_
                refine qa0 hτ rfl rfl rfl ?_
                refine qa4 ?_
                exact ⟨(m35,(qa1 .sub .f64 (4607182418800017408:Nat) (qa1 .quo .f64 (qa1 .mul .f64 (qa1 .mul .f64 (qa1 .mul .f64 v23 (4618760256179416344:Nat)) (qa1 .mul .f64 v23 (4618760256179416344:Nat))) v31) (FloatKind.nearest .f64 (w64 ((w64 ((2:Int) * v32)) * (w64 ((w64 ((2:Int) * v32)) + (1:Int)))))))),(w64 (v32 - (1:Int)))),h,Nat.lt_succ_self m35,(qa3 [] (l:=[(4,.d (.bool (fcmp .geq .f64 v19 (4602678819172646912:Nat)))),(5,.d (.fl .f64 (qa1 .mul .f64 v23 (4618760256179416344:Nat)))),(6,.d (.fl .f64 (qa1 .mul .f64 (qa1 .mul .f64 v23 (4618760256179416344:Nat)) (qa1 .mul .f64 v23 (4618760256179416344:Nat))))),(7,.d (.fl .f64 (qa1 .sub .f64 (4607182418800017408:Nat) (qa1 .quo .f64 (qa1 .mul .f64 (qa1 .mul .f64 (qa1 .mul .f64 v23 (4618760256179416344:Nat)) (qa1 .mul .f64 v23 (4618760256179416344:Nat))) v31) (FloatKind.nearest .f64 (w64 ((w64 ((2:Int) * v32)) * (w64 ((w64 ((2:Int) * v32)) + (1:Int)))))))))),(8,.d (.int .i64 (w64 (v32 - (1:Int)))))]) (objs:=[]) rfl (by simp) rfl (by trivial) ⟨rfl,trivial,rfl,trivial,rfl,trivial,rfl,trivial,rfl,trivial,trivial⟩)⟩
              · have h:=if_f h hc37
                refine qh2 ?_
                refine qa8 (qa3 [] (l:=[(4,.d (.bool (fcmp .geq .f64 v19 (4602678819172646912:Nat)))),(5,.d (.fl .f64 (qa1 .mul .f64 v23 (4618760256179416344:Nat)))),(7,.d (.fl .f64 v31))]) (objs:=[]) rfl (by simp) rfl (by trivial) ⟨rfl,trivial,rfl,trivial,rfl,trivial,trivial⟩) ?_
                exact hk30 v31 h
          · refine qa6 ?_
            refine qa6 ?_
            refine qa2 ?_
            refine qa0 hτ rfl rfl rfl ?_
            refine qa0 hτ rfl rfl rfl ?_
            refine qa4 ?_
            refine qar rfl (fun hc39=>?_) (fun hc39=>?_)
            · have h:=qcl h hc39
              refine qa2 ?_
              refine qa0 hτ rfl rfl rfl ?_
              refine qa0 hτ rfl rfl rfl ?_
              refine qa0 hτ rfl rfl rfl ?_
              refine qa4 ?_
              refine qa8 (qa3 [] (l:=[(3,.d (.fl .f64 (qa1 .sub .f64 (4602678819172646912:Nat) v21))),(4,.d (.bool (fcmp .geq .f64 v19 (4602678819172646912:Nat))))]) (objs:=[]) rfl (by simp) rfl (by trivial) ⟨rfl,trivial,rfl,trivial,trivial⟩) ?_
              exact hk38 (qa1 .sub .f64 (4602678819172646912:Nat) v21) h
            · have h:=qck h hc39
              refine qb9 ?_
              refine qa8 (qa3 [] (l:=[(3,.d (.fl .f64 v21)),(4,.d (.bool (fcmp .geq .f64 v19 (4602678819172646912:Nat))))]) (objs:=[]) rfl (by simp) rfl (by trivial) ⟨rfl,trivial,rfl,trivial,trivial⟩) ?_
              exact hk38 v21 h
        · refine qa6 ?_
          refine qa6 ?_
          refine qa2 ?_
          refine qa0 hτ rfl rfl rfl ?_
          refine qa4 ?_
          refine qar rfl (fun hc41=>?_) (fun hc41=>?_)
          · have h:=qcl h hc41
            refine qa2 ?_
            refine qa0 hτ rfl rfl rfl ?_
            refine qa0 hτ rfl rfl rfl ?_
            refine qa0 hτ rfl rfl rfl ?_
            refine qa4 ?_
            refine qa8 (qa3 [] (l:=[(3,.d (.fl .f64 (qa1 .sub .f64 v19 (4602678819172646912:Nat)))),(4,.d (.bool (fcmp .geq .f64 v19 (4602678819172646912:Nat))))]) (objs:=[]) rfl (by simp) rfl (by trivial) ⟨rfl,trivial,rfl,trivial,trivial⟩) ?_
            exact hk40 (qa1 .sub .f64 v19 (4602678819172646912:Nat)) h
          · have h:=qck h hc41
            refine qb9 ?_
            refine qa8 (qa3 [] (l:=[(3,.d (.fl .f64 v19)),(4,.d (.bool (fcmp .geq .f64 v19 (4602678819172646912:Nat))))]) (objs:=[]) rfl (by simp) rfl (by trivial) ⟨rfl,trivial,rfl,trivial,trivial⟩) ?_
            exact hk40 v19 h
      · refine qa6 ?_
        refine qa6 ?_
        refine qa8 (qa3 [] (l:=[(3,.d (.fl .f64 (qa1 .sub .f64 y_ (FloatKind.nearest .f64 x17))))]) (objs:=[]) rfl (by simp) rfl (by trivial) ⟨rfl,trivial,trivial⟩) ?_
        refine qa2 ?_
        refine qa0 hτ rfl rfl rfl ?_
        refine qa0 hτ rfl rfl rfl ?_
        refine qa4 ?_
        refine qar rfl (fun hc43=>?_) (fun hc43=>?_)
        · have h:=qcl h hc43
          refine qa2 ?_
          refine qa0 hτ rfl rfl rfl ?_
          refine qa0 hτ rfl rfl rfl ?_
          refine qa0 hτ rfl rfl rfl ?_
          refine qa4 ?_
          refine qa8 (qa3 [] (l:=[(3,.d (.fl .f64 (qa1 .add .f64 (qa1 .sub .f64 y_ (FloatKind.nearest .f64 x17)) (4607182418800017408:Nat))))]) (objs:=[]) rfl (by simp) rfl (by trivial) ⟨rfl,trivial,trivial⟩) ?_
          exact hk42 (qa1 .add .f64 (qa1 .sub .f64 y_ (FloatKind.nearest .f64 x17)) (4607182418800017408:Nat)) h
        · have h:=qck h hc43
          refine qb9 ?_
          refine qa8 (qa3 [] (l:=[(3,.d (.fl .f64 (qa1 .sub .f64 y_ (FloatKind.nearest .f64 x17))))]) (objs:=[]) rfl (by simp) rfl (by trivial) ⟨rfl,trivial,trivial⟩) ?_
          exact hk42 (qa1 .sub .f64 y_ (FloatKind.nearest .f64 x17)) h
    · refine qa6 ?_
      refine qbw (ι:=Bool) (fun v47=>St.of [(0,.d (.fl .f64 y_)),(19,.d (.bool v47))] [] f149.ntmps 0) (fun v47=>qev n y_ v47 = some r) ?_ (fun hk49=>?_)
      · rintro v47 h
        replace h:qev n y_ v47 = some r:=h
        unfold qev at h
        refine qar rfl (fun hc48=>?_) (fun hc48=>?_)
        · have h:=qcl h hc48
          refine qa6 ?_
          refine qa2 ?_
          refine qa0 hτ rfl rfl rfl ?_
          refine qa4 ?_
          refine qa8 (qa3 [] (l:=[(2,.d (.fl .f64 (0:Nat)))]) (objs:=[]) rfl (by simp) rfl (by trivial) ⟨rfl,trivial,trivial⟩) ?_
          refine qal ?_
          have hr:=Option.some.inj h
          subst hr
          exact qae (.inr rfl) [] (objs':=[]) (new:=[]) rfl (by simp) (by simp) rfl (by trivial) rfl rfl (by trivial) (fun _=>⟨by simp [V.flat,V.qb7,V.qb5,D.flat],qag⟩) ⟨rfl,rfl,rfl⟩
        · have h:=qck h hc48
          refine qb9 ?_
          refine qa8 (qa3 [] (l:=[(0,.d (.fl .f64 y_))]) (objs:=[]) rfl (by simp) rfl (by trivial) ⟨rfl,trivial,trivial⟩) ?_
          exact hk44 () h
      · refine qa6 ?_
        refine qa2 ?_
        refine qa0 hτ rfl rfl rfl ?_
        refine qa0 hτ rfl rfl rfl ?_
        refine qa0 hτ rfl rfl rfl ?_
        refine qbr 16 rfl (fun hb50=>?_) (fun hb50=>?_)
        · have h:=qcl h hb50
          refine qaa rfl rfl ?_
          refine qaa rfl rfl ?_
          refine qa0 hτ rfl rfl rfl ?_
          refine qa4 ?_
          refine qa8 (qa3 [] (l:=[(0,.d (.fl .f64 y_)),(19,.d (.bool true))]) (objs:=[]) rfl (by simp) rfl (by trivial) ⟨rfl,trivial,rfl,trivial,trivial⟩) ?_
          exact hk49 true h
        · have h:=qck h hb50
          refine qa0 hτ rfl rfl rfl ?_
          refine qa0 hτ rfl rfl rfl ?_
          refine qa0 hτ rfl rfl rfl ?_
          refine qa4 ?_
          refine qa8 (qa3 [] (l:=[(0,.d (.fl .f64 y_)),(19,.d (.bool (fcmp .leq .f64 y_ (14064741636278059008:Nat))))]) (objs:=[]) rfl (by simp) rfl (by trivial) ⟨rfl,trivial,rfl,trivial,trivial⟩) ?_
          exact hk49 (fcmp .leq .f64 y_ (14064741636278059008:Nat)) h
theorem qk5 (n:Nat) (y_:Nat) {r:Nat} (h:qfz n y_ = some r):qaq prog false 149 [.d (.fl .f64 y_)] [] (fun v o new=>v = .d (.fl .f64 r)∧o = []∧new = []):=spec_l01SineWide_ok_fr0 false n y_ h
def qbg (n:Nat) (x_:Nat):Option Nat :=
  (qh5 .f64 .f32 x_).bind fun x2 =>
  some x2
theorem spec_l01Narrow_ok_fr0 (fr:Bool) (n:Nat) (x_:Nat) {r:Nat} (h:qbg n x_ = some r):qaq prog fr 129 [.d (.fl .f64 x_)] [] (fun v o new=>v = .d (.fl .f32 r)∧o = []∧new = []):=by
  refine qaf hτ func129 rfl (by simp) (by simp) ?_
  unfold qbg at h
  refine qa6 ?_
  refine qa2 ?_
  refine qa0 hτ rfl rfl rfl ?_
  refine qa4 ?_
  refine qa6 ?_
  refine qa2 ?_
  refine qa0 hτ rfl rfl rfl ?_
  refine qa7 h fun x2 hx2 h=>?_
  refine qa0 hτ (v:=.d (.fl .f32 x2)) rfl rfl (qfu hx2) ?_
  refine qa0 hτ rfl rfl rfl ?_
  refine qa4 ?_
  refine qa8 (qa3 [] (l:=[(2,.d (.fl .f32 x2))]) (objs:=[]) rfl (by simp) rfl (by trivial) ⟨rfl,trivial,trivial⟩) ?_
  refine qal ?_
  have hr:=Option.some.inj h
  subst hr
  exact qae (.inr rfl) [] (objs':=[]) (new:=[]) rfl (by simp) (by simp) rfl (by trivial) rfl rfl (by trivial) (fun _=>⟨by simp [V.flat,V.qb7,V.qb5,D.flat],qag⟩) ⟨rfl,rfl,rfl⟩
theorem qca (n:Nat) (x_:Nat) {r:Nat} (h:qbg n x_ = some r):qaq prog false 129 [.d (.fl .f64 x_)] [] (fun v o new=>v = .d (.fl .f32 r)∧o = []∧new = []):=spec_l01Narrow_ok_fr0 false n x_ h
def qgn (n:Nat) (v35:Nat) (v36:Int):Option Cx :=
  (qfz n (qa1 .sub .f64 (4598175219545276416:Nat) v35)).bind fun x37 =>
  (qfz n v35).bind fun x38 =>
  if v36 = (1:Int) then
    (qbg n (qa1 .sub .f64 (0:Nat) x38)).bind fun x46 =>
    (qbg n x37).bind fun x47 =>
    some (Cx.mk x46 x47)
  else
    if v36 = (2:Int) then
      (qbg n (qa1 .sub .f64 (0:Nat) x37)).bind fun x49 =>
      (qbg n (qa1 .sub .f64 (0:Nat) x38)).bind fun x50 =>
      some (Cx.mk x49 x50)
    else
      if v36 = (3:Int) then
        (qbg n x38).bind fun x52 =>
        (qbg n (qa1 .sub .f64 (0:Nat) x37)).bind fun x53 =>
        some (Cx.mk x52 x53)
      else
        (qbg n x37).bind fun x54 =>
        (qbg n x38).bind fun x55 =>
        some (Cx.mk x54 x55)
def qeh (n:Nat):Nat→Nat→Int→Option Cx
  | 0,_,_=>none
  | m61 + 1,v57,v58 =>
    if (fcmp .geq .f64 v57 (4598175219545276416:Nat)) = true then
      (qeh n m61) (qa1 .sub .f64 v57 (4598175219545276416:Nat)) (w64 (v58 + (1:Int)))
    else
      qgn n v57 v58
def qfh (n:Nat) (v30:Nat):Option Cx :=
  qeh n n v30 (0:Int)
def qgm (n:Nat) (turns_:Nat):Option Cx :=
  (f2i .f64 .i64 turns_).bind fun x28 =>
  if (fcmp .lss .f64 (qa1 .sub .f64 turns_ (FloatKind.nearest .f64 x28)) (0:Nat)) = true then
    qfh n (qa1 .add .f64 (qa1 .sub .f64 turns_ (FloatKind.nearest .f64 x28)) (4607182418800017408:Nat))
  else
    qfh n (qa1 .sub .f64 turns_ (FloatKind.nearest .f64 x28))
def qfi (n:Nat) (turns_:Nat) (v69:Bool):Option Cx :=
  if v69 = true then
    some (Cx.mk (1065353216:Nat) (0:Nat))
  else
    qgm n turns_
def qf1 (n:Nat) (turns_:Nat):Option Cx :=
  if (fcmp .neq .f64 (qa1 .sub .f64 turns_ turns_) (0:Nat)) = true then
    (qhy n (2143289344:Int)).bind fun x24 =>
    (qhy n (2143289344:Int)).bind fun x25 =>
    some (Cx.mk x24 x25)
  else
    if (fcmp .geq .f64 turns_ (4841369599423283200:Nat)) = true then
      qfi n turns_ true
    else
      qfi n turns_ (fcmp .leq .f64 turns_ (14064741636278059008:Nat))
theorem spec_l01Phasor_ok_fr0 (fr:Bool) (n:Nat) (turns_:Nat) {r:Cx} (h:qf1 n turns_ = some r):qaq prog fr 111 [.d (.fl .f64 turns_)] [] (fun v o new=>v = .d (.cx .f32 r.re r.im)∧o = []∧new = []):=by
  refine qaf hτ func111 rfl (by simp) (by simp) ?_
  unfold qf1 at h
  refine qa6 ?_
  refine qa2 ?_
  refine qa0 hτ rfl rfl rfl ?_
  refine qa4 ?_
  refine qa6 ?_
  refine qa6 ?_
  refine qa2 ?_
  refine qa0 hτ rfl rfl rfl ?_
  refine qa0 hτ rfl rfl rfl ?_
  refine qa0 hτ rfl rfl rfl ?_
  refine qa0 hτ rfl rfl rfl ?_
  refine qa4 ?_
  refine qar rfl (fun hc23=>?_) (fun hc23=>?_)
  · have h:=qcl h hc23
    refine qa6 ?_
    refine qa2 ?_
    refine qa7 h fun x24 hx24 h=>?_
    refine qab hτ false [] rfl rfl rfl (qac func148 rfl rfl) rfl rfl (by simp) ⟨trivial,trivial⟩ (by trivial) (qld n (2143289344:Int) hx24) ?_
    rintro r0 o0 n0 ⟨rfl,rfl,rfl⟩ -
    refine qa7 h fun x25 hx25 h=>?_
    refine qab hτ false [] rfl rfl rfl (qac func148 rfl rfl) rfl rfl (by simp) ⟨trivial,trivial⟩ (by trivial) (qld n (2143289344:Int) hx25) ?_
    rintro r0 o0 n0 ⟨rfl,rfl,rfl⟩ -
    refine qa0 hτ rfl rfl rfl ?_
    refine qa0 hτ rfl rfl rfl ?_
    refine qa4 ?_
    refine qa8 (qa3 [] (l:=[(2,.d (.cx .f32 x24 x25))]) (objs:=[]) rfl (by simp) rfl (by trivial) ⟨rfl,trivial,trivial⟩) ?_
    refine qal ?_
    have hr:=Option.some.inj h
    subst hr
    exact qae (.inr rfl) [] (objs':=[]) (new:=[]) rfl (by simp) (by simp) rfl (by trivial) rfl rfl (by trivial) (fun _=>⟨by simp [V.flat,V.qb7,V.qb5,D.flat],qag⟩) ⟨rfl,rfl,rfl⟩
  · have h:=qck h hc23
    refine qb9 ?_
    refine qbw (ι:=Unit) (fun _=>St.of [(0,.d (.fl .f64 turns_))] [] f111.ntmps 0) (fun _=>qgm n turns_ = some r) ?_ (fun hk66=>?_)
    · rintro ⟨⟩ h
      replace h:qgm n turns_ = some r:=h
      unfold qgm at h
      refine qa6 ?_
      refine qa2 ?_
      refine qa0 hτ rfl rfl rfl ?_
      refine qa0 hτ rfl rfl rfl ?_
      refine qa7 h fun x28 hx28 h=>?_
      refine quz rfl rfl (qvb hτ rfl rfl rfl rfl rfl rfl hx28) ?_
      refine qa0 hτ rfl rfl rfl ?_
      refine qa0 hτ rfl rfl rfl ?_
      refine qa0 hτ rfl rfl rfl ?_
      refine qa4 ?_
      refine qbw (ι:=Nat) (fun v30=>St.of [(3,.d (.fl .f64 v30))] [] f111.ntmps 0) (fun v30=>qfh n v30 = some r) ?_ (fun hk64=>?_)
      · rintro v30 h
        replace h:qfh n v30 = some r:=h
        unfold qfh at h
        refine qa6 ?_
        refine qa2 ?_
        refine qa0 hτ rfl rfl rfl ?_
        refine qa4 ?_
        refine qbw (ι:=Nat × Int) (fun (v35,v36)=>St.of [(3,.d (.fl .f64 v35)),(4,.d (.int .i64 v36))] [] f111.ntmps 0) (fun (v35,v36)=>qgn n v35 v36 = some r) ?_ (fun hk56=>?_)
        · rintro ⟨v35,v36⟩ h
          replace h:qgn n v35 v36 = some r:=h
          unfold qgn at h
          refine qa6 ?_
          refine qa2 ?_
          refine qa0 hτ rfl rfl rfl ?_
          refine qa0 hτ rfl rfl rfl ?_
          refine qa7 h fun x37 hx37 h=>?_
          refine qab hτ false [] rfl rfl rfl (qac func149 rfl rfl) rfl rfl (by simp) ⟨trivial,trivial⟩ (by trivial) (qk5 n (qa1 .sub .f64 (4598175219545276416:Nat) v35) hx37) ?_
          rintro r0 o0 n0 ⟨rfl,rfl,rfl⟩ -
          refine qa0 hτ rfl rfl rfl ?_
          refine qa4 ?_
          refine qa6 ?_
          refine qa2 ?_
          refine qa0 hτ rfl rfl rfl ?_
          refine qa7 h fun x38 hx38 h=>?_
          refine qab hτ false [] rfl rfl rfl (qac func149 rfl rfl) rfl rfl (by simp) ⟨trivial,trivial⟩ (by trivial) (qk5 n v35 hx38) ?_
          rintro r0 o0 n0 ⟨rfl,rfl,rfl⟩ -
          refine qa0 hτ rfl rfl rfl ?_
          refine qa4 ?_
          refine qa6 ?_
          refine qa6 ?_
          refine qa8 (qa3 [] (l:=[(4,.d (.int .i64 v36)),(5,.d (.fl .f64 x37)),(6,.d (.fl .f64 x38))]) (objs:=[]) rfl (by simp) rfl (by trivial) ⟨rfl,trivial,rfl,trivial,rfl,trivial,trivial⟩) ?_
          refine qa2 ?_
          refine qa0 hτ rfl rfl rfl ?_
          refine qa4 ?_
          refine qbo ?_
          refine qa6 ?_
          refine qa2 ?_
          refine qa0 hτ (v:=.d (.bool (decide (v36 = (1:Int))))) rfl rfl (qgz _ _) ?_
          refine qa0 hτ rfl rfl rfl ?_
          refine qa4 ?_
          refine qar rfl (fun hc45=>?_) (fun hc45=>?_)
          · have h:=if_t h hc45
            refine qa6 ?_
            refine qa2 ?_
            refine qa0 hτ rfl rfl rfl ?_
            refine qa0 hτ rfl rfl rfl ?_
            refine qa7 h fun x46 hx46 h=>?_
            refine qab hτ false [] rfl rfl rfl (qac func129 rfl rfl) rfl rfl (by simp) ⟨trivial,trivial⟩ (by trivial) (qca n (qa1 .sub .f64 (0:Nat) x38) hx46) ?_
            rintro r0 o0 n0 ⟨rfl,rfl,rfl⟩ -
            refine qa0 hτ rfl rfl rfl ?_
            refine qa7 h fun x47 hx47 h=>?_
            refine qab hτ false [] rfl rfl rfl (qac func129 rfl rfl) rfl rfl (by simp) ⟨trivial,trivial⟩ (by trivial) (qca n x37 hx47) ?_
            rintro r0 o0 n0 ⟨rfl,rfl,rfl⟩ -
            refine qa0 hτ rfl rfl rfl ?_
            refine qa0 hτ rfl rfl rfl ?_
            refine qa4 ?_
            refine qa8 (qa3 [] (l:=[(2,.d (.cx .f32 x46 x47))]) (objs:=[]) rfl (by simp) rfl (by trivial) ⟨rfl,trivial,trivial⟩) ?_
            refine qal ?_
            have hr:=Option.some.inj h
            subst hr
            exact qae (.inr rfl) [] (objs':=[]) (new:=[]) rfl (by simp) (by simp) rfl (by trivial) rfl rfl (by trivial) (fun _=>⟨by simp [V.flat,V.qb7,V.qb5,D.flat],qag⟩) ⟨rfl,rfl,rfl⟩
          · have h:=if_f h hc45
            refine qa6 ?_
            refine qa2 ?_
            refine qa0 hτ (v:=.d (.bool (decide (v36 = (2:Int))))) rfl rfl (qgz _ _) ?_
            refine qa0 hτ rfl rfl rfl ?_
            refine qa4 ?_
            refine qar rfl (fun hc48=>?_) (fun hc48=>?_)
            · have h:=if_t h hc48
              refine qa6 ?_
              refine qa2 ?_
              refine qa0 hτ rfl rfl rfl ?_
              refine qa0 hτ rfl rfl rfl ?_
              refine qa7 h fun x49 hx49 h=>?_
              refine qab hτ false [] rfl rfl rfl (qac func129 rfl rfl) rfl rfl (by simp) ⟨trivial,trivial⟩ (by trivial) (qca n (qa1 .sub .f64 (0:Nat) x37) hx49) ?_
              rintro r0 o0 n0 ⟨rfl,rfl,rfl⟩ -
              refine qa0 hτ rfl rfl rfl ?_
              refine qa0 hτ rfl rfl rfl ?_
              refine qa7 h fun x50 hx50 h=>?_
              refine qab hτ false [] rfl rfl rfl (qac func129 rfl rfl) rfl rfl (by simp) ⟨trivial,trivial⟩ (by trivial) (qca n (qa1 .sub .f64 (0:Nat) x38) hx50) ?_
              rintro r0 o0 n0 ⟨rfl,rfl,rfl⟩ -
              refine qa0 hτ rfl rfl rfl ?_
              refine qas (qa3 [] (l:=[(57,.d (.cx .f32 x49 x50))]) (objs:=[]) rfl (by simp) rfl (by trivial) ⟨rfl,trivial,trivial⟩) ?_
              refine qa0 hτ rfl rfl rfl ?_
              refine qa4 ?_
              refine qa8 (qa3 [] (l:=[(2,.d (.cx .f32 x49 x50))]) (objs:=[]) rfl (by simp) rfl (by trivial) ⟨rfl,trivial,trivial⟩) ?_
              refine qal ?_
              have hr:=Option.some.inj h
              subst hr
              exact qae (.inr rfl) [] (objs':=[]) (new:=[]) rfl (by simp) (by simp) rfl (by trivial) rfl rfl (by trivial) (fun _=>⟨by simp [V.flat,V.qb7,V.qb5,D.flat],qag⟩) ⟨rfl,rfl,rfl⟩
            · have h:=if_f h hc48
              refine qa6 ?_
              refine qa2 ?_
              refine qa0 hτ (v:=.d (.bool (decide (v36 = (3:Int))))) rfl rfl (qgz _ _) ?_
              refine qa0 hτ rfl rfl rfl ?_
              refine qa4 ?_
              refine qa8 (qa3 [] (l:=[(5,.d (.fl .f64 x37)),(6,.d (.fl .f64 x38)),(58,.d (.bool (decide (v36 = (3:Int)))))]) (objs:=[]) rfl (by simp) rfl (by trivial) ⟨rfl,trivial,rfl,trivial,rfl,trivial,trivial⟩) ?_
              refine qar rfl (fun hc51=>?_) (fun hc51=>?_)
              · have h:=if_t h hc51
                refine qa6 ?_
                refine qa2 ?_
                refine qa0 hτ rfl rfl rfl ?_
                refine qa7 h fun x52 hx52 h=>?_
                refine qab hτ false [] rfl rfl rfl (qac func129 rfl rfl) rfl rfl (by simp) ⟨trivial,trivial⟩ (by trivial) (qca n x38 hx52) ?_
                rintro r0 o0 n0 ⟨rfl,rfl,rfl⟩ -
                refine qa0 hτ rfl rfl rfl ?_
                refine qa0 hτ rfl rfl rfl ?_
                refine qa7 h fun x53 hx53 h=>?_
                refine qab hτ false [] rfl rfl rfl (qac func129 rfl rfl) rfl rfl (by simp) ⟨trivial,trivial⟩ (by trivial) (qca n (qa1 .sub .f64 (0:Nat) x37) hx53) ?_
                rintro r0 o0 n0 ⟨rfl,rfl,rfl⟩ -
                refine qa0 hτ rfl rfl rfl ?_
                refine qa0 hτ rfl rfl rfl ?_
                refine qa4 ?_
                refine qa8 (qa3 [] (l:=[(2,.d (.cx .f32 x52 x53))]) (objs:=[]) rfl (by simp) rfl (by trivial) ⟨rfl,trivial,trivial⟩) ?_
                refine qal ?_
                have hr:=Option.some.inj h
                subst hr
                exact qae (.inr rfl) [] (objs':=[]) (new:=[]) rfl (by simp) (by simp) rfl (by trivial) rfl rfl (by trivial) (fun _=>⟨by simp [V.flat,V.qb7,V.qb5,D.flat],qag⟩) ⟨rfl,rfl,rfl⟩
              · have h:=if_f h hc51
                refine qb9 ?_
                refine qa6 ?_
                refine qa2 ?_
                refine qa0 hτ rfl rfl rfl ?_
                refine qa7 h fun x54 hx54 h=>?_
                refine qab hτ false [] rfl rfl rfl (qac func129 rfl rfl) rfl rfl (by simp) ⟨trivial,trivial⟩ (by trivial) (qca n x37 hx54) ?_
                rintro r0 o0 n0 ⟨rfl,rfl,rfl⟩ -
                refine qa0 hτ rfl rfl rfl ?_
                refine qa7 h fun x55 hx55 h=>?_
                refine qab hτ false [] rfl rfl rfl (qac func129 rfl rfl) rfl rfl (by simp) ⟨trivial,trivial⟩ (by trivial) (qca n x38 hx55) ?_
                rintro r0 o0 n0 ⟨rfl,rfl,rfl⟩ -
                refine qa0 hτ rfl rfl rfl ?_
                refine qa0 hτ rfl rfl rfl ?_
                refine qa4 ?_
                refine qa8 (qa3 [] (l:=[(2,.d (.cx .f32 x54 x55))]) (objs:=[]) rfl (by simp) rfl (by trivial) ⟨rfl,trivial,trivial⟩) ?_
                refine qal ?_
                have hr:=Option.some.inj h
                subst hr
                exact qae (.inr rfl) [] (objs':=[]) (new:=[]) rfl (by simp) (by simp) rfl (by trivial) rfl rfl (by trivial) (fun _=>⟨by simp [V.flat,V.qb7,V.qb5,D.flat],qag⟩) ⟨rfl,rfl,rfl⟩
        · refine qa6 ?_
          refine qbo ?_
          refine qh3 (ι:=Nat × Nat × Int) (fun (m61,v57,v58)=>St.of [(3,.d (.fl .f64 v57)),(4,.d (.int .i64 v58))] [] f111.ntmps 0) (fun (m61,v57,v58)=>qeh n m61 v57 v58 = some r) (fun x=>x.1) (n,v30,(0:Int)) h (qa3 [] (l:=[(3,.d (.fl .f64 v30)),(4,.d (.int .i64 (0:Int)))]) (objs:=[]) rfl (by simp) rfl (by trivial) ⟨rfl,trivial,rfl,trivial,trivial⟩) ?_
          rintro ⟨m61,v57,v58⟩ h
          replace h:qeh n m61 v57 v58 = some r:=h
          rcases m61 with _ | m61
          · rw [qeh] at h;cases h
          rw [qeh] at h
          refine qa6 ?_
          refine qa6 ?_
          refine qa2 ?_
          refine qa0 hτ rfl rfl rfl ?_
          refine qa0 hτ rfl rfl rfl ?_
          refine qa4 ?_
          refine qar rfl (fun hc63=>?_) (fun hc63=>?_)
          · have h:=qcl h hc63
            refine qb9 ?_
            refine qbo ?_
            refine qa6 ?_
            refine qa2 ?_
            refine qa0 hτ rfl rfl rfl ?_
            refine qa0 hτ rfl rfl rfl ?_
            refine qa0 hτ rfl rfl rfl ?_
            refine qa4 ?_
            refine qa2 ?_
            refine qa0 hτ rfl rfl rfl ?_
            refine qa0 hτ rfl rfl rfl ?_
            refine qa0 hτ rfl rfl rfl ?_
            refine qa4 ?_
            exact ⟨(m61,(qa1 .sub .f64 v57 (4598175219545276416:Nat)),(w64 (v58 + (1:Int)))),h,Nat.lt_succ_self m61,(qa3 [] (l:=[(3,.d (.fl .f64 (qa1 .sub .f64 v57 (4598175219545276416:Nat)))),(4,.d (.int .i64 (w64 (v58 + (1:Int)))))]) (objs:=[]) rfl (by simp) rfl (by trivial) ⟨rfl,trivial,rfl,trivial,trivial⟩)⟩
          · have h:=qck h hc63
            refine qh2 ?_
            refine qa8 (qa3 [] (l:=[(3,.d (.fl .f64 v57)),(4,.d (.int .i64 v58))]) (objs:=[]) rfl (by simp) rfl (by trivial) ⟨rfl,trivial,rfl,trivial,trivial⟩) ?_
            exact hk56 (v57,v58) h
      · refine qa6 ?_
        refine qa6 ?_
        refine qa8 (qa3 [] (l:=[(3,.d (.fl .f64 (qa1 .sub .f64 turns_ (FloatKind.nearest .f64 x28))))]) (objs:=[]) rfl (by simp) rfl (by trivial) ⟨rfl,trivial,trivial⟩) ?_
        refine qa2 ?_
        refine qa0 hτ rfl rfl rfl ?_
        refine qa0 hτ rfl rfl rfl ?_
        refine qa4 ?_
        refine qar rfl (fun hc65=>?_) (fun hc65=>?_)
        · have h:=qcl h hc65
          refine qa2 ?_
          refine qa0 hτ rfl rfl rfl ?_
          refine qa0 hτ rfl rfl rfl ?_
          refine qa0 hτ rfl rfl rfl ?_
          refine qa4 ?_
          refine qa8 (qa3 [] (l:=[(3,.d (.fl .f64 (qa1 .add .f64 (qa1 .sub .f64 turns_ (FloatKind.nearest .f64 x28)) (4607182418800017408:Nat))))]) (objs:=[]) rfl (by simp) rfl (by trivial) ⟨rfl,trivial,trivial⟩) ?_
          exact hk64 (qa1 .add .f64 (qa1 .sub .f64 turns_ (FloatKind.nearest .f64 x28)) (4607182418800017408:Nat)) h
        · have h:=qck h hc65
          refine qb9 ?_
          refine qa8 (qa3 [] (l:=[(3,.d (.fl .f64 (qa1 .sub .f64 turns_ (FloatKind.nearest .f64 x28))))]) (objs:=[]) rfl (by simp) rfl (by trivial) ⟨rfl,trivial,trivial⟩) ?_
          exact hk64 (qa1 .sub .f64 turns_ (FloatKind.nearest .f64 x28)) h
    · refine qa6 ?_
      refine qbw (ι:=Bool) (fun v69=>St.of [(0,.d (.fl .f64 turns_)),(19,.d (.bool v69))] [] f111.ntmps 0) (fun v69=>qfi n turns_ v69 = some r) ?_ (fun hk71=>?_)
      · rintro v69 h
        replace h:qfi n turns_ v69 = some r:=h
        unfold qfi at h
        refine qar rfl (fun hc70=>?_) (fun hc70=>?_)
        · have h:=qcl h hc70
          refine qa6 ?_
          refine qa2 ?_
          refine qa0 hτ rfl rfl rfl ?_
          refine qa4 ?_
          refine qa8 (qa3 [] (l:=[(2,.d (.cx .f32 (1065353216:Nat) (0:Nat)))]) (objs:=[]) rfl (by simp) rfl (by trivial) ⟨rfl,trivial,trivial⟩) ?_
          refine qal ?_
          have hr:=Option.some.inj h
          subst hr
          exact qae (.inr rfl) [] (objs':=[]) (new:=[]) rfl (by simp) (by simp) rfl (by trivial) rfl rfl (by trivial) (fun _=>⟨by simp [V.flat,V.qb7,V.qb5,D.flat],qag⟩) ⟨rfl,rfl,rfl⟩
        · have h:=qck h hc70
          refine qb9 ?_
          refine qa8 (qa3 [] (l:=[(0,.d (.fl .f64 turns_))]) (objs:=[]) rfl (by simp) rfl (by trivial) ⟨rfl,trivial,trivial⟩) ?_
          exact hk66 () h
      · refine qa6 ?_
        refine qa2 ?_
        refine qa0 hτ rfl rfl rfl ?_
        refine qa0 hτ rfl rfl rfl ?_
        refine qa0 hτ rfl rfl rfl ?_
        refine qbr 16 rfl (fun hb72=>?_) (fun hb72=>?_)
        · have h:=qcl h hb72
          refine qaa rfl rfl ?_
          refine qaa rfl rfl ?_
          refine qa0 hτ rfl rfl rfl ?_
          refine qa4 ?_
          refine qa8 (qa3 [] (l:=[(0,.d (.fl .f64 turns_)),(19,.d (.bool true))]) (objs:=[]) rfl (by simp) rfl (by trivial) ⟨rfl,trivial,rfl,trivial,trivial⟩) ?_
          exact hk71 true h
        · have h:=qck h hb72
          refine qa0 hτ rfl rfl rfl ?_
          refine qa0 hτ rfl rfl rfl ?_
          refine qa0 hτ rfl rfl rfl ?_
          refine qa4 ?_
          refine qa8 (qa3 [] (l:=[(0,.d (.fl .f64 turns_)),(19,.d (.bool (fcmp .leq .f64 turns_ (14064741636278059008:Nat))))]) (objs:=[]) rfl (by simp) rfl (by trivial) ⟨rfl,trivial,rfl,trivial,trivial⟩) ?_
          exact hk71 (fcmp .leq .f64 turns_ (14064741636278059008:Nat)) h
theorem qhm (n:Nat) (turns_:Nat) {r:Cx} (h:qf1 n turns_ = some r):qaq prog false 111 [.d (.fl .f64 turns_)] [] (fun v o new=>v = .d (.cx .f32 r.re r.im)∧o = []∧new = []):=spec_l01Phasor_ok_fr0 false n turns_ h
def qem (n:Nat) (x_:Cx):Option Cx :=
  (qh5 .f32 .f64 x_.re).bind fun x3 =>
  (qh5 .f32 .f64 x_.im).bind fun x4 =>
  some (Cx.mk x3 x4)
theorem spec_l01Wide_ok_fr0 (fr:Bool) (n:Nat) (x_:Cx) {r:Cx} (h:qem n x_ = some r):qaq prog fr 147 [.d (.cx .f32 x_.re x_.im)] [] (fun v o new=>v = .d (.cx .f64 r.re r.im)∧o = []∧new = []):=by
  refine qaf hτ func147 rfl (by simp) (by simp) ?_
  unfold qem at h
  refine qa6 ?_
  refine qa2 ?_
  refine qa0 hτ rfl rfl rfl ?_
  refine qa4 ?_
  refine qa6 ?_
  refine qa2 ?_
  refine qa0 hτ rfl rfl rfl ?_
  refine qa0 hτ rfl rfl rfl ?_
  refine qa7 h fun x3 hx3 h=>?_
  refine qa0 hτ (v:=.d (.fl .f64 x3)) rfl rfl (qfu hx3) ?_
  refine qa0 hτ rfl rfl rfl ?_
  refine qa0 hτ rfl rfl rfl ?_
  refine qa7 h fun x4 hx4 h=>?_
  refine qa0 hτ (v:=.d (.fl .f64 x4)) rfl rfl (qfu hx4) ?_
  refine qa0 hτ rfl rfl rfl ?_
  refine qa0 hτ rfl rfl rfl ?_
  refine qa4 ?_
  refine qa8 (qa3 [] (l:=[(2,.d (.cx .f64 x3 x4))]) (objs:=[]) rfl (by simp) rfl (by trivial) ⟨rfl,trivial,trivial⟩) ?_
  refine qal ?_
  have hr:=Option.some.inj h
  subst hr
  exact qae (.inr rfl) [] (objs':=[]) (new:=[]) rfl (by simp) (by simp) rfl (by trivial) rfl rfl (by trivial) (fun _=>⟨by simp [V.flat,V.qb7,V.qb5,D.flat],qag⟩) ⟨rfl,rfl,rfl⟩
theorem qis (n:Nat) (x_:Cx) {r:Cx} (h:qem n x_ = some r):qaq prog false 147 [.d (.cx .f32 x_.re x_.im)] [] (fun v o new=>v = .d (.cx .f64 r.re r.im)∧o = []∧new = []):=spec_l01Wide_ok_fr0 false n x_ h
def qei (n:Nat) (x_:Cx) (y_:Cx):Option Cx :=
  some (Cx.mk (qa1 .sub .f64 (qa1 .mul .f64 x_.re y_.re) (qa1 .mul .f64 x_.im y_.im)) (qa1 .add .f64 (qa1 .mul .f64 x_.re y_.im) (qa1 .mul .f64 x_.im y_.re)))
theorem spec_l01WideMul_ok_fr0 (fr:Bool) (n:Nat) (x_:Cx) (y_:Cx) {r:Cx} (h:qei n x_ y_ = some r):qaq prog fr 146 [.d (.cx .f64 x_.re x_.im),.d (.cx .f64 y_.re y_.im)] [] (fun v o new=>v = .d (.cx .f64 r.re r.im)∧o = []∧new = []):=by
  refine qaf hτ func146 rfl (by simp) (by simp) ?_
  unfold qei at h
  refine qa6 ?_
  refine qa2 ?_
  refine qa0 hτ rfl rfl rfl ?_
  refine qa4 ?_
  refine qa6 ?_
  refine qa2 ?_
  refine qa0 hτ rfl rfl rfl ?_
  refine qa0 hτ rfl rfl rfl ?_
  refine qa0 hτ rfl rfl rfl ?_
  refine qa0 hτ rfl rfl rfl ?_
  refine qa0 hτ rfl rfl rfl ?_
  refine qa0 hτ rfl rfl rfl ?_
  refine qa0 hτ rfl rfl rfl ?_
  refine qa0 hτ rfl rfl rfl ?_
  refine qa0 hτ rfl rfl rfl ?_
  refine qa0 hτ rfl rfl rfl ?_
  refine qa0 hτ rfl rfl rfl ?_
  refine qas (qa3 [] (l:=[(0,.d (.cx .f64 x_.re x_.im)),(1,.d (.cx .f64 y_.re y_.im)),(17,.d (.fl .f64 (qa1 .sub .f64 (qa1 .mul .f64 x_.re y_.re) (qa1 .mul .f64 x_.im y_.im))))]) (objs:=[]) rfl (by simp) rfl (by trivial) ⟨rfl,trivial,rfl,trivial,rfl,trivial,trivial⟩) ?_
  refine qa0 hτ rfl rfl rfl ?_
  refine qa4 ?_
  refine qa6 ?_
  refine qa2 ?_
  refine qa0 hτ rfl rfl rfl ?_
  refine qa0 hτ rfl rfl rfl ?_
  refine qa0 hτ rfl rfl rfl ?_
  refine qa0 hτ rfl rfl rfl ?_
  refine qa0 hτ rfl rfl rfl ?_
  refine qa0 hτ rfl rfl rfl ?_
  refine qa0 hτ rfl rfl rfl ?_
  refine qa0 hτ rfl rfl rfl ?_
  refine qa0 hτ rfl rfl rfl ?_
  refine qa0 hτ rfl rfl rfl ?_
  refine qa0 hτ rfl rfl rfl ?_
  refine qas (qa3 [] (l:=[(5,.d (.fl .f64 (qa1 .sub .f64 (qa1 .mul .f64 x_.re y_.re) (qa1 .mul .f64 x_.im y_.im)))),(28,.d (.fl .f64 (qa1 .add .f64 (qa1 .mul .f64 x_.re y_.im) (qa1 .mul .f64 x_.im y_.re))))]) (objs:=[]) rfl (by simp) rfl (by trivial) ⟨rfl,trivial,rfl,trivial,trivial⟩) ?_
  refine qa0 hτ rfl rfl rfl ?_
  refine qa4 ?_
  refine qa6 ?_
  refine qa2 ?_
  refine qa0 hτ rfl rfl rfl ?_
  refine qa0 hτ rfl rfl rfl ?_
  refine qa0 hτ rfl rfl rfl ?_
  refine qa0 hτ rfl rfl rfl ?_
  refine qa4 ?_
  refine qa8 (qa3 [] (l:=[(4,.d (.cx .f64 (qa1 .sub .f64 (qa1 .mul .f64 x_.re y_.re) (qa1 .mul .f64 x_.im y_.im)) (qa1 .add .f64 (qa1 .mul .f64 x_.re y_.im) (qa1 .mul .f64 x_.im y_.re))))]) (objs:=[]) rfl (by simp) rfl (by trivial) ⟨rfl,trivial,trivial⟩) ?_
  refine qal ?_
  have hr:=Option.some.inj h
  subst hr
  exact qae (.inr rfl) [] (objs':=[]) (new:=[]) rfl (by simp) (by simp) rfl (by trivial) rfl rfl (by trivial) (fun _=>⟨by simp [V.flat,V.qb7,V.qb5,D.flat],qag⟩) ⟨rfl,rfl,rfl⟩
theorem qkc (n:Nat) (x_:Cx) (y_:Cx) {r:Cx} (h:qei n x_ y_ = some r):qaq prog false 146 [.d (.cx .f64 x_.re x_.im),.d (.cx .f64 y_.re y_.im)] [] (fun v o new=>v = .d (.cx .f64 r.re r.im)∧o = []∧new = []):=spec_l01WideMul_ok_fr0 false n x_ y_ h
def qgd (n:Nat) (x_:Cx):Option Cx :=
  (qbg n x_.re).bind fun x3 =>
  (qbg n x_.im).bind fun x4 =>
  some (Cx.mk x3 x4)
theorem spec_l01CNarrow_ok_fr0 (fr:Bool) (n:Nat) (x_:Cx) {r:Cx} (h:qgd n x_ = some r):qaq prog fr 145 [.d (.cx .f64 x_.re x_.im)] [] (fun v o new=>v = .d (.cx .f32 r.re r.im)∧o = []∧new = []):=by
  refine qaf hτ func145 rfl (by simp) (by simp) ?_
  unfold qgd at h
  refine qa6 ?_
  refine qa2 ?_
  refine qa0 hτ rfl rfl rfl ?_
  refine qa4 ?_
  refine qa6 ?_
  refine qa2 ?_
  refine qa0 hτ rfl rfl rfl ?_
  refine qa0 hτ rfl rfl rfl ?_
  refine qa7 h fun x3 hx3 h=>?_
  refine qab hτ false [] rfl rfl rfl (qac func129 rfl rfl) rfl rfl (by simp) ⟨trivial,trivial⟩ (by trivial) (qca n x_.re hx3) ?_
  rintro r0 o0 n0 ⟨rfl,rfl,rfl⟩ -
  refine qa0 hτ rfl rfl rfl ?_
  refine qa0 hτ rfl rfl rfl ?_
  refine qa7 h fun x4 hx4 h=>?_
  refine qab hτ false [] rfl rfl rfl (qac func129 rfl rfl) rfl rfl (by simp) ⟨trivial,trivial⟩ (by trivial) (qca n x_.im hx4) ?_
  rintro r0 o0 n0 ⟨rfl,rfl,rfl⟩ -
  refine qa0 hτ rfl rfl rfl ?_
  refine qa0 hτ rfl rfl rfl ?_
  refine qa4 ?_
  refine qa8 (qa3 [] (l:=[(2,.d (.cx .f32 x3 x4))]) (objs:=[]) rfl (by simp) rfl (by trivial) ⟨rfl,trivial,trivial⟩) ?_
  refine qal ?_
  have hr:=Option.some.inj h
  subst hr
  exact qae (.inr rfl) [] (objs':=[]) (new:=[]) rfl (by simp) (by simp) rfl (by trivial) rfl rfl (by trivial) (fun _=>⟨by simp [V.flat,V.qb7,V.qb5,D.flat],qag⟩) ⟨rfl,rfl,rfl⟩
theorem spec_l01CNarrow_ok (n:Nat) (x_:Cx) {r:Cx} (h:qgd n x_ = some r):qaq prog false 145 [.d (.cx .f64 x_.re x_.im)] [] (fun v o new=>v = .d (.cx .f32 r.re r.im)∧o = []∧new = []):=spec_l01CNarrow_ok_fr0 false n x_ h
def qc7 (n:Nat) (x_:Cx) (y_:Cx):Option Cx :=
  (qem n x_).bind fun x5 =>
  (qem n y_).bind fun x6 =>
  (qei n x5 x6).bind fun x7 =>
  (qgd n x7).bind fun x8 =>
  some x8
theorem spec_l01Mul_ok_fr0 (fr:Bool) (n:Nat) (x_:Cx) (y_:Cx) {r:Cx} (h:qc7 n x_ y_ = some r):qaq prog fr 110 [.d (.cx .f32 x_.re x_.im),.d (.cx .f32 y_.re y_.im)] [] (fun v o new=>v = .d (.cx .f32 r.re r.im)∧o = []∧new = []):=by
  refine qaf hτ func110 rfl (by simp) (by simp) ?_
  unfold qc7 at h
  refine qa6 ?_
  refine qa2 ?_
  refine qa0 hτ rfl rfl rfl ?_
  refine qa4 ?_
  refine qa6 ?_
  refine qa2 ?_
  refine qa0 hτ rfl rfl rfl ?_
  refine qa7 h fun x5 hx5 h=>?_
  refine qab hτ false [] rfl rfl rfl (qac func147 rfl rfl) rfl rfl (by simp) ⟨trivial,trivial⟩ (by trivial) (qis n x_ hx5) ?_
  rintro r0 o0 n0 ⟨rfl,rfl,rfl⟩ -
  refine qa0 hτ rfl rfl rfl ?_
  refine qa7 h fun x6 hx6 h=>?_
  refine qab hτ false [] rfl rfl rfl (qac func147 rfl rfl) rfl rfl (by simp) ⟨trivial,trivial⟩ (by trivial) (qis n y_ hx6) ?_
  rintro r0 o0 n0 ⟨rfl,rfl,rfl⟩ -
  refine qa7 h fun x7 hx7 h=>?_
  refine qab hτ false [] rfl rfl rfl (qac func146 rfl rfl) rfl rfl (by simp) ⟨trivial,trivial,trivial⟩ (by trivial) (qkc n x5 x6 hx7) ?_
  rintro r0 o0 n0 ⟨rfl,rfl,rfl⟩ -
  refine qa7 h fun x8 hx8 h=>?_
  refine qab hτ false [] rfl rfl rfl (qac func145 rfl rfl) rfl rfl (by simp) ⟨trivial,trivial⟩ (by trivial) (spec_l01CNarrow_ok n x7 hx8) ?_
  rintro r0 o0 n0 ⟨rfl,rfl,rfl⟩ -
  refine qa0 hτ rfl rfl rfl ?_
  refine qa4 ?_
  refine qa8 (qa3 [] (l:=[(4,.d (.cx .f32 x8.re x8.im))]) (objs:=[]) rfl (by simp) rfl (by trivial) ⟨rfl,trivial,trivial⟩) ?_
  refine qal ?_
  have hr:=Option.some.inj h
  subst hr
  exact qae (.inr rfl) [] (objs':=[]) (new:=[]) rfl (by simp) (by simp) rfl (by trivial) rfl rfl (by trivial) (fun _=>⟨by simp [V.flat,V.qb7,V.qb5,D.flat],qag⟩) ⟨rfl,rfl,rfl⟩
theorem qd3 (n:Nat) (x_:Cx) (y_:Cx) {r:Cx} (h:qc7 n x_ y_ = some r):qaq prog false 110 [.d (.cx .f32 x_.re x_.im),.d (.cx .f32 y_.re y_.im)] [] (fun v o new=>v = .d (.cx .f32 r.re r.im)∧o = []∧new = []):=spec_l01Mul_ok_fr0 false n x_ y_ h
def qbh (n:Nat) (x_:Cx):Option qax :=
  (qf1 n (fneg .f64 (4599676419421066581:Nat))).bind fun x5 =>
  (qc7 n x_ x5).bind fun x6 =>
  (qf1 n (4599676419421066581:Nat)).bind fun x7 =>
  (qc7 n x_ x7).bind fun x8 =>
  some (qax.mk x_ x6 x8)
theorem spec_l02Even_ok_fr0 (fr:Bool) (n:Nat) (x_:Cx) {r:qax} (h:qbh n x_ = some r):qaq prog fr 55 [.d (.cx .f32 x_.re x_.im)] [] (fun v o new=>v = .agg [.d (.cx .f32 r.A.re r.A.im),.d (.cx .f32 r.B.re r.B.im),.d (.cx .f32 r.C.re r.C.im)]∧o = []∧new = []):=by
  refine qaf hτ func55 rfl (by simp) (by simp) ?_
  unfold qbh at h
  refine qa6 ?_
  refine qa2 ?_
  refine qai hτ rfl rfl rfl ?_
  refine qa4 ?_
  refine qa6 ?_
  refine qa2 ?_
  refine qa0 hτ rfl rfl rfl ?_
  refine qa4 ?_
  refine qa6 ?_
  refine qa2 ?_
  refine qa0 hτ rfl rfl rfl ?_
  refine qa0 hτ rfl rfl rfl ?_
  refine qa0 hτ rfl rfl rfl ?_
  refine qa0 hτ rfl rfl rfl ?_
  refine qa7 h fun x5 hx5 h=>?_
  refine qab hτ false [] rfl rfl rfl (qac func111 rfl rfl) rfl rfl (by simp) ⟨trivial,trivial⟩ (by trivial) (qhm n (fneg .f64 (4599676419421066581:Nat)) hx5) ?_
  rintro r0 o0 n0 ⟨rfl,rfl,rfl⟩ -
  refine qa7 h fun x6 hx6 h=>?_
  refine qab hτ false [] rfl rfl rfl (qac func110 rfl rfl) rfl rfl (by simp) ⟨trivial,trivial,trivial⟩ (by trivial) (qd3 n x_ x5 hx6) ?_
  rintro r0 o0 n0 ⟨rfl,rfl,rfl⟩ -
  refine qa0 hτ rfl rfl rfl ?_
  refine qa0 hτ rfl rfl rfl ?_
  refine qa7 h fun x7 hx7 h=>?_
  refine qab hτ false [] rfl rfl rfl (qac func111 rfl rfl) rfl rfl (by simp) ⟨trivial,trivial⟩ (by trivial) (qhm n (4599676419421066581:Nat) hx7) ?_
  rintro r0 o0 n0 ⟨rfl,rfl,rfl⟩ -
  refine qa7 h fun x8 hx8 h=>?_
  refine qab hτ false [] rfl rfl rfl (qac func110 rfl rfl) rfl rfl (by simp) ⟨trivial,trivial,trivial⟩ (by trivial) (qd3 n x_ x7 hx8) ?_
  rintro r0 o0 n0 ⟨rfl,rfl,rfl⟩ -
  refine qas (qa3 [0] (l:=[(2,.ptr 0 0),(4,.d (.cx .f32 x_.re x_.im)),(9,.d (.cx .f32 x6.re x6.im)),(13,.d (.cx .f32 x8.re x8.im))]) (objs:=[.box [.d (.cx .f32 (0:Nat) (0:Nat)),.d (.cx .f32 (0:Nat) (0:Nat)),.d (.cx .f32 (0:Nat) (0:Nat))]]) rfl (by simp) rfl (by trivial) ⟨rfl,trivial,rfl,trivial,rfl,trivial,rfl,trivial,trivial⟩) ?_
  refine qa0 hτ rfl rfl rfl ?_
  refine qai hτ rfl rfl rfl ?_
  refine qa4 ?_
  refine qa8 (qa3 [0] (l:=[(2,.ptr 0 0)]) (objs:=[.box [.d (.cx .f32 x_.re x_.im),.d (.cx .f32 x6.re x6.im),.d (.cx .f32 x8.re x8.im)]]) rfl (by simp) rfl (by trivial) ⟨rfl,trivial,trivial⟩) ?_
  refine qal ?_
  have hr:=Option.some.inj h
  subst hr
  exact qae (.inr rfl) [] (objs':=[]) (new:=[]) rfl (by simp) (by simp) rfl (by trivial) rfl rfl (by trivial) (fun _=>⟨by simp [V.flat,V.qb7,V.qb5,D.flat],qag⟩) ⟨rfl,rfl,rfl⟩
theorem spec_l02Even_ok (n:Nat) (x_:Cx) {r:qax} (h:qbh n x_ = some r):qaq prog false 55 [.d (.cx .f32 x_.re x_.im)] [] (fun v o new=>v = .agg [.d (.cx .f32 r.A.re r.A.im),.d (.cx .f32 r.B.re r.B.im),.d (.cx .f32 r.C.re r.C.im)]∧o = []∧new = []):=spec_l02Even_ok_fr0 false n x_ h
def qeg (n:Nat) (s_:qb1) (n_:Int):Option (Bool × qb1) :=
  (qap n s_ n_).bind fun x2 =>
  some ((decide (x2.1 = (0:Int))),x2.2)
theorem qkb (n:Nat) (s_:qb1) (n_:Int) {r:Bool × qb1} (h:qeg n s_ n_ = some r):qaq prog false 70 [.ptr 0 0,.d (.int .i64 n_)] [.box [.d (.sl false (s_.code.map qat)),.d (.int .i64 s_.at_),.d (.int .u64 s_.seed)]] (fun v o new=>v = .d (.bool r.1)∧o = [.box [.d (.sl false (r.2.code.map qat)),.d (.int .i64 r.2.at_),.d (.int .u64 r.2.seed)]]∧new = []):=by
  refine qaf hτ func70 rfl (by simp) (by simp) ?_
  unfold qeg at h
  refine qa6 ?_
  refine qa2 ?_
  refine qa0 hτ rfl rfl rfl ?_
  refine qa4 ?_
  refine qa6 ?_
  refine qa2 ?_
  refine qa0 hτ rfl rfl rfl ?_
  refine qa0 hτ rfl rfl rfl ?_
  refine qa7 h fun x2 hx2 h=>?_
  refine qab hτ false [0] rfl rfl rfl (qac func56 rfl rfl) rfl rfl (by simp) ⟨trivial,trivial,trivial⟩ (by trivial) (qch n s_ n_ hx2) ?_
  rintro r0 o0 n0 ⟨rfl,rfl,rfl⟩ -
  refine qa0 hτ (v:=.d (.bool (decide (x2.1 = (0:Int))))) rfl rfl (qgz _ _) ?_
  refine qa0 hτ rfl rfl rfl ?_
  refine qa4 ?_
  refine qa8 (qa3 [0] (l:=[(4,.d (.bool (decide (x2.1 = (0:Int)))))]) (objs:=[.box [.d (.sl false (x2.2.code.map qat)),.d (.int .i64 x2.2.at_),.d (.int .u64 x2.2.seed)]]) rfl (by simp) rfl (by trivial) ⟨rfl,trivial,trivial⟩) ?_
  refine qal ?_
  have hr:=Option.some.inj h
  subst hr
  exact qae (.inr rfl) [] (objs':=[.box [.d (.sl false (x2.2.code.map qat)),.d (.int .i64 x2.2.at_),.d (.int .u64 x2.2.seed)]]) (new:=[]) rfl (by simp) (by simp) rfl (by trivial) rfl rfl (by trivial) (fun h=>nomatch h) ⟨rfl,rfl,rfl⟩
def qfy (n:Nat) (v7:Int) (v8:Int):Option Cx :=
  some (Cx.mk (qa1 .quo .f32 (FloatKind.nearest .f32 v7) (1098907648:Nat)) (qa1 .quo .f32 (FloatKind.nearest .f32 v8) (1098907648:Nat)))
def qer (n:Nat) (code_:List Int) (at_:Int):Option Cx :=
  if at_ < (code_.length:Int) then
    (getI code_ at_).bind fun x11 =>
    qfy n (w64 (((w64 (x11)).tmod (33:Int)) - (16:Int))) (w64 ((w64 ((w64 (x11)).tdiv (33:Int))) - (3:Int)))
  else
    qfy n (3:Int) (-2:Int)
theorem spec_R8Number_ok_fr0 (fr:Bool) (n:Nat) (code_:List Int) (at_:Int) {r:Cx} (h:qer n code_ at_ = some r):qaq prog fr 119 [.d (.sl false (code_.map qat)),.d (.int .i64 at_)] [] (fun v o new=>v = .d (.cx .f32 r.re r.im)∧o = []∧new = []):=by
  refine qaf hτ func119 rfl (by simp) (by simp) ?_
  unfold qer at h
  refine qa6 ?_
  refine qa2 ?_
  refine qa0 hτ rfl rfl rfl ?_
  refine qa4 ?_
  refine qa6 ?_
  refine qa2 ?_
  refine qa0 hτ rfl rfl rfl ?_
  refine qa4 ?_
  refine qa6 ?_
  refine qa2 ?_
  refine qa0 hτ rfl rfl rfl ?_
  refine qa4 ?_
  refine qbw (ι:=Int × Int) (fun (v7,v8)=>St.of [(5,.d (.int .i64 v7)),(6,.d (.int .i64 v8))] [] f119.ntmps 0) (fun (v7,v8)=>qfy n v7 v8 = some r) ?_ (fun hk9=>?_)
  · rintro ⟨v7,v8⟩ h
    replace h:qfy n v7 v8 = some r:=h
    unfold qfy at h
    refine qa6 ?_
    refine qa2 ?_
    refine qa0 hτ rfl rfl rfl ?_
    refine qa0 hτ rfl rfl rfl ?_
    refine qa0 hτ rfl rfl rfl ?_
    refine qa0 hτ rfl rfl rfl ?_
    refine qa0 hτ rfl rfl rfl ?_
    refine qa0 hτ rfl rfl rfl ?_
    refine qa0 hτ rfl rfl rfl ?_
    refine qa0 hτ rfl rfl rfl ?_
    refine qa4 ?_
    refine qa8 (qa3 [] (l:=[(4,.d (.cx .f32 (qa1 .quo .f32 (FloatKind.nearest .f32 v7) (1098907648:Nat)) (qa1 .quo .f32 (FloatKind.nearest .f32 v8) (1098907648:Nat))))]) (objs:=[]) rfl (by simp) rfl (by trivial) ⟨rfl,trivial,trivial⟩) ?_
    refine qal ?_
    have hr:=Option.some.inj h
    subst hr
    exact qae (.inr rfl) [] (objs':=[]) (new:=[]) rfl (by simp) (by simp) rfl (by trivial) rfl rfl (by trivial) (fun _=>⟨by simp [V.flat,V.qb7,V.qb5,D.flat],qag⟩) ⟨rfl,rfl,rfl⟩
  · refine qa6 ?_
    refine qa6 ?_
    refine qa2 ?_
    refine qa0 hτ rfl rfl rfl ?_
    refine qa0 hτ rfl rfl rfl ?_
    refine qa0 hτ (v:=.d (.int .i64 (code_.length:Int))) rfl rfl (Eq.trans rfl (qjj (f:=qat) code_)) ?_
    refine qa0 hτ rfl rfl rfl ?_
    refine qa4 ?_
    refine qa8 (qa3 [] (l:=[(0,.d (.sl false (code_.map qat))),(1,.d (.int .i64 at_)),(5,.d (.int .i64 (3:Int))),(6,.d (.int .i64 (-2:Int))),(10,.d (.bool (decide (at_ < (code_.length:Int)))))]) (objs:=[]) rfl (by simp) rfl (by trivial) ⟨rfl,trivial,rfl,trivial,rfl,trivial,rfl,trivial,rfl,trivial,trivial⟩) ?_
    refine qar rfl (fun hc10=>?_) (fun hc10=>?_)
    · have h:=if_t h hc10
      refine qa6 ?_
      refine qa2 ?_
      refine qa0 hτ rfl rfl rfl ?_
      refine qa0 hτ rfl rfl rfl ?_
      refine qa7 h fun x11 hx11 h=>?_
      refine qf7 hτ rfl rfl rfl (qd2 hx11).1 (qdv hx11) rfl ?_
      refine qa0 hτ rfl rfl rfl ?_
      refine qa0 hτ rfl rfl rfl ?_
      refine qfl hτ rfl rfl rfl (by decide) ?_
      refine qa0 hτ rfl rfl rfl ?_
      refine qa0 hτ rfl rfl rfl ?_
      refine qa4 ?_
      refine qa8 (qa3 [] (l:=[(0,.d (.sl false (code_.map qat))),(1,.d (.int .i64 at_)),(5,.d (.int .i64 (w64 (((w64 (x11)).tmod (33:Int)) - (16:Int)))))]) (objs:=[]) rfl (by simp) rfl (by trivial) ⟨rfl,trivial,rfl,trivial,rfl,trivial,trivial⟩) ?_
      refine qa2 ?_
      refine qa0 hτ rfl rfl rfl ?_
      refine qa0 hτ rfl rfl rfl ?_
      refine qf7 hτ rfl rfl rfl (qd2 hx11).1 (qdv hx11) rfl ?_
      refine qa0 hτ rfl rfl rfl ?_
      refine qa0 hτ rfl rfl rfl ?_
      refine qfl hτ rfl rfl rfl (by decide) ?_
      refine qa0 hτ rfl rfl rfl ?_
      refine qa0 hτ rfl rfl rfl ?_
      refine qa4 ?_
      refine qa8 (qa3 [] (l:=[(5,.d (.int .i64 (w64 (((w64 (x11)).tmod (33:Int)) - (16:Int))))),(6,.d (.int .i64 (w64 ((w64 ((w64 (x11)).tdiv (33:Int))) - (3:Int)))))]) (objs:=[]) rfl (by simp) rfl (by trivial) ⟨rfl,trivial,rfl,trivial,trivial⟩) ?_
      exact hk9 ((w64 (((w64 (x11)).tmod (33:Int)) - (16:Int))),(w64 ((w64 ((w64 (x11)).tdiv (33:Int))) - (3:Int)))) h
    · have h:=if_f h hc10
      refine qb9 ?_
      refine qa8 (qa3 [] (l:=[(5,.d (.int .i64 (3:Int))),(6,.d (.int .i64 (-2:Int)))]) (objs:=[]) rfl (by simp) rfl (by trivial) ⟨rfl,trivial,rfl,trivial,trivial⟩) ?_
      exact hk9 ((3:Int),(-2:Int)) h
theorem qb8 (n:Nat) (code_:List Int) (at_:Int) {r:Cx} (h:qer n code_ at_ = some r):qaq prog false 119 [.d (.sl false (code_.map qat)),.d (.int .i64 at_)] [] (fun v o new=>v = .d (.cx .f32 r.re r.im)∧o = []∧new = []):=spec_R8Number_ok_fr0 false n code_ at_ h
def qi2 (n:Nat) (s_:qb1) (v107:Cx) (v118:Cx) (v127:Int) (v128:Int) (v129:Cx):Option (qax × qb1) :=
  some ((qax.mk v107 v118 v129),(qb1.mk s_.code v127 v128))
def qgs (n:Nat) (s_:qb1) (v107:Cx) (v116:Int) (v117:Int) (v118:Cx):Option (qax × qb1) :=
  (qap n (qb1.mk s_.code v116 v117) (40:Int)).bind fun x131 =>
  (qer n s_.code x131.1).bind fun x132 =>
  qi2 n s_ v107 v118 x131.2.at_ x131.2.seed x132
def qgr (n:Nat) (s_:qb1) (v105:Int) (v106:Int) (v107:Cx):Option (qax × qb1) :=
  (qap n (qb1.mk s_.code v105 v106) (40:Int)).bind fun x134 =>
  (qer n s_.code x134.1).bind fun x135 =>
  qgs n s_ v107 x134.2.at_ x134.2.seed x135
def qio (n:Nat) (s_:qb1):Option (qax × qb1) :=
  (qap n s_ (40:Int)).bind fun x137 =>
  (qer n s_.code x137.1).bind fun x138 =>
  qgr n s_ x137.2.at_ x137.2.seed x138
theorem spec_r8Load_ok (n:Nat) (s_:qb1) {r:qax × qb1} (h:qio n s_ = some r):qaq prog false 71 [.ptr 0 0] [.box [.d (.sl false (s_.code.map qat)),.d (.int .i64 s_.at_),.d (.int .u64 s_.seed)]] (fun v o new=>v = .agg [.d (.cx .f32 r.1.A.re r.1.A.im),.d (.cx .f32 r.1.B.re r.1.B.im),.d (.cx .f32 r.1.C.re r.1.C.im)]∧o = [.box [.d (.sl false (r.2.code.map qat)),.d (.int .i64 r.2.at_),.d (.int .u64 r.2.seed)]]∧new = []):=by
  refine qaf hτ func71 rfl (by simp) (by simp) ?_
  unfold qio at h
  refine qa6 ?_
  refine qa2 ?_
  refine qai hτ rfl rfl rfl ?_
  refine qa4 ?_
  refine qbw (ι:=Int × Int × Cx) (fun (v105,v106,v107)=>St.of [(0,.ptr 0 0),(2,.ptr 1 0),(3,.ptr 2 0)] [.box [.d (.sl false (s_.code.map qat)),.d (.int .i64 v105),.d (.int .u64 v106)],.box [.d (.cx .f32 (0:Nat) (0:Nat)),.d (.cx .f32 (0:Nat) (0:Nat)),.d (.cx .f32 (0:Nat) (0:Nat))],.box [.d (.cx .f32 v107.re v107.im),.d (.cx .f32 (0:Nat) (0:Nat)),.d (.cx .f32 (0:Nat) (0:Nat))]] f71.ntmps 1) (fun (v105,v106,v107)=>qgr n s_ v105 v106 v107 = some r) ?_ (fun hk136=>?_)
  · rintro ⟨v105,v106,v107⟩ h
    replace h:qgr n s_ v105 v106 v107 = some r:=h
    unfold qgr at h
    refine qbw (ι:=Int × Int × Cx) (fun (v116,v117,v118)=>St.of [(0,.ptr 0 0),(2,.ptr 1 0),(3,.ptr 2 0)] [.box [.d (.sl false (s_.code.map qat)),.d (.int .i64 v116),.d (.int .u64 v117)],.box [.d (.cx .f32 (0:Nat) (0:Nat)),.d (.cx .f32 (0:Nat) (0:Nat)),.d (.cx .f32 (0:Nat) (0:Nat))],.box [.d (.cx .f32 v107.re v107.im),.d (.cx .f32 v118.re v118.im),.d (.cx .f32 (0:Nat) (0:Nat))]] f71.ntmps 1) (fun (v116,v117,v118)=>qgs n s_ v107 v116 v117 v118 = some r) ?_ (fun hk133=>?_)
    · rintro ⟨v116,v117,v118⟩ h
      replace h:qgs n s_ v107 v116 v117 v118 = some r:=h
      unfold qgs at h
      refine qbw (ι:=Int × Int × Cx) (fun (v127,v128,v129)=>St.of [(2,.ptr 1 0),(3,.ptr 2 0)] [.box [.d (.sl false (s_.code.map qat)),.d (.int .i64 v127),.d (.int .u64 v128)],.box [.d (.cx .f32 (0:Nat) (0:Nat)),.d (.cx .f32 (0:Nat) (0:Nat)),.d (.cx .f32 (0:Nat) (0:Nat))],.box [.d (.cx .f32 v107.re v107.im),.d (.cx .f32 v118.re v118.im),.d (.cx .f32 v129.re v129.im)]] f71.ntmps 1) (fun (v127,v128,v129)=>qi2 n s_ v107 v118 v127 v128 v129 = some r) ?_ (fun hk130=>?_)
      · rintro ⟨v127,v128,v129⟩ h
        replace h:qi2 n s_ v107 v118 v127 v128 v129 = some r:=h
        unfold qi2 at h
        refine qa6 ?_
        refine qa2 ?_
        refine qa0 hτ rfl rfl rfl ?_
        refine qai hτ rfl rfl rfl ?_
        refine qa4 ?_
        refine qa8 (qa3 [0,1] (l:=[(2,.ptr 1 0)]) (objs:=[.box [.d (.sl false (s_.code.map qat)),.d (.int .i64 v127),.d (.int .u64 v128)],.box [.d (.cx .f32 v107.re v107.im),.d (.cx .f32 v118.re v118.im),.d (.cx .f32 v129.re v129.im)]]) rfl (by simp) rfl (by trivial) ⟨rfl,trivial,trivial⟩) ?_
        refine qal ?_
        have hr:=Option.some.inj h
        subst hr
        exact qae (.inr rfl) [] (objs':=[.box [.d (.sl false (s_.code.map qat)),.d (.int .i64 v127),.d (.int .u64 v128)]]) (new:=[]) rfl (by simp) (by simp) rfl (by trivial) rfl rfl (by trivial) (fun h=>nomatch h) ⟨rfl,rfl,rfl⟩
      · refine qa6 ?_
        refine qmm mixed ?_
        refine qa5 hτ [] 0 rfl rfl rfl rfl rfl ?_
        refine qa5 hτ [] 1 rfl rfl rfl rfl rfl ?_
        refine qa5 hτ [] 4 rfl rfl rfl rfl rfl ?_
        refine qg6 [2,5] (by kernel_rfl) fun _ hfs=>⟨?_,?_,trivial⟩
        · refine qa5 hτ [0] 2 rfl rfl rfl rfl rfl ?_
          refine qbn hfs (by kernel_rfl) fun _=>?_
          refine qg6 [3,5] (by kernel_rfl) fun _ hfs=>⟨?_,?_,trivial⟩
          · refine qa5 hτ [0] 3 rfl rfl rfl rfl rfl ?_
            refine qbn hfs (by kernel_rfl) fun _=>?_
            refine qa7 h fun x131 hx131 h=>?_
            refine qak hτ false [0] [1,2] 5 rfl rfl rfl rfl (qac func56 rfl rfl) rfl rfl (by simp) ⟨trivial,trivial,trivial⟩ (by trivial) (qb6 n (qb1.mk s_.code v116 v117) (40:Int) hx131) ⟨rfl,rfl,trivial⟩ ?_
            refine qa7 h fun x132 hx132 h=>?_
            refine qak hτ false [] [0,1,2] 6 rfl rfl rfl rfl (qac func119 rfl rfl) rfl rfl (by simp) ⟨trivial,trivial,trivial⟩ (by trivial) (qb8 n s_.code x131.1 hx132) ⟨rfl,rfl,rfl,trivial⟩ ?_
            refine qa5 hτ [2] 7 rfl rfl rfl rfl rfl ?_
            refine qbe hτ [0,1] 8 rfl rfl rfl rfl ⟨rfl,rfl,trivial⟩ ?_
            refine qdk (by kernel_rfl) ?_
            refine qa8 (qa3 [0,1,2] (l:=[(2,.ptr 1 0),(3,.ptr 2 0)]) (objs:=[.box [.d (.sl false (s_.code.map qat)),.d (.int .i64 x131.2.at_),.d (.int .u64 x131.2.seed)],.box [.d (.cx .f32 (0:Nat) (0:Nat)),.d (.cx .f32 (0:Nat) (0:Nat)),.d (.cx .f32 (0:Nat) (0:Nat))],.box [.d (.cx .f32 v107.re v107.im),.d (.cx .f32 v118.re v118.im),.d (.cx .f32 x132.re x132.im)]]) rfl (by simp) rfl (by trivial) ⟨rfl,trivial,rfl,trivial,trivial⟩) ?_
            exact hk130 (x131.2.at_,x131.2.seed,x132) h
          · refine qa7 h fun x131 hx131 h=>?_
            refine qak hτ false [0] [1,2] 5 rfl rfl rfl rfl (qac func56 rfl rfl) rfl rfl (by simp) ⟨trivial,trivial,trivial⟩ (by trivial) (qb6 n (qb1.mk s_.code v116 v117) (40:Int) hx131) ⟨rfl,rfl,trivial⟩ ?_
            refine qbn hfs (by kernel_rfl) fun _=>?_
            refine qa5 hτ [0] 3 rfl rfl rfl rfl rfl ?_
            refine qa7 h fun x132 hx132 h=>?_
            refine qak hτ false [] [0,1,2] 6 rfl rfl rfl rfl (qac func119 rfl rfl) rfl rfl (by simp) ⟨trivial,trivial,trivial⟩ (by trivial) (qb8 n s_.code x131.1 hx132) ⟨rfl,rfl,rfl,trivial⟩ ?_
            refine qa5 hτ [2] 7 rfl rfl rfl rfl rfl ?_
            refine qbe hτ [0,1] 8 rfl rfl rfl rfl ⟨rfl,rfl,trivial⟩ ?_
            refine qdk (by kernel_rfl) ?_
            refine qa8 (qa3 [0,1,2] (l:=[(2,.ptr 1 0),(3,.ptr 2 0)]) (objs:=[.box [.d (.sl false (s_.code.map qat)),.d (.int .i64 x131.2.at_),.d (.int .u64 x131.2.seed)],.box [.d (.cx .f32 (0:Nat) (0:Nat)),.d (.cx .f32 (0:Nat) (0:Nat)),.d (.cx .f32 (0:Nat) (0:Nat))],.box [.d (.cx .f32 v107.re v107.im),.d (.cx .f32 v118.re v118.im),.d (.cx .f32 x132.re x132.im)]]) rfl (by simp) rfl (by trivial) ⟨rfl,trivial,rfl,trivial,trivial⟩) ?_
            exact hk130 (x131.2.at_,x131.2.seed,x132) h
        · refine qa7 h fun x131 hx131 h=>?_
          refine qak hτ false [0] [1,2] 5 rfl rfl rfl rfl (qac func56 rfl rfl) rfl rfl (by simp) ⟨trivial,trivial,trivial⟩ (by trivial) (qb6 n (qb1.mk s_.code v116 v117) (40:Int) hx131) ⟨rfl,rfl,trivial⟩ ?_
          refine qbn hfs (by kernel_rfl) fun _=>?_
          refine qa5 hτ [0] 2 rfl rfl rfl rfl rfl ?_
          refine qa5 hτ [0] 3 rfl rfl rfl rfl rfl ?_
          refine qa7 h fun x132 hx132 h=>?_
          refine qak hτ false [] [0,1,2] 6 rfl rfl rfl rfl (qac func119 rfl rfl) rfl rfl (by simp) ⟨trivial,trivial,trivial⟩ (by trivial) (qb8 n s_.code x131.1 hx132) ⟨rfl,rfl,rfl,trivial⟩ ?_
          refine qa5 hτ [2] 7 rfl rfl rfl rfl rfl ?_
          refine qbe hτ [0,1] 8 rfl rfl rfl rfl ⟨rfl,rfl,trivial⟩ ?_
          refine qdk (by kernel_rfl) ?_
          refine qa8 (qa3 [0,1,2] (l:=[(2,.ptr 1 0),(3,.ptr 2 0)]) (objs:=[.box [.d (.sl false (s_.code.map qat)),.d (.int .i64 x131.2.at_),.d (.int .u64 x131.2.seed)],.box [.d (.cx .f32 (0:Nat) (0:Nat)),.d (.cx .f32 (0:Nat) (0:Nat)),.d (.cx .f32 (0:Nat) (0:Nat))],.box [.d (.cx .f32 v107.re v107.im),.d (.cx .f32 v118.re v118.im),.d (.cx .f32 x132.re x132.im)]]) rfl (by simp) rfl (by trivial) ⟨rfl,trivial,rfl,trivial,trivial⟩) ?_
          exact hk130 (x131.2.at_,x131.2.seed,x132) h
    · refine qa6 ?_
      refine qmm mixed ?_
      refine qa5 hτ [] 0 rfl rfl rfl rfl rfl ?_
      refine qa5 hτ [] 1 rfl rfl rfl rfl rfl ?_
      refine qa5 hτ [] 4 rfl rfl rfl rfl rfl ?_
      refine qg6 [2,5] (by kernel_rfl) fun _ hfs=>⟨?_,?_,trivial⟩
      · refine qa5 hτ [0] 2 rfl rfl rfl rfl rfl ?_
        refine qbn hfs (by kernel_rfl) fun _=>?_
        refine qg6 [3,5] (by kernel_rfl) fun _ hfs=>⟨?_,?_,trivial⟩
        · refine qa5 hτ [0] 3 rfl rfl rfl rfl rfl ?_
          refine qbn hfs (by kernel_rfl) fun _=>?_
          refine qa7 h fun x134 hx134 h=>?_
          refine qak hτ false [0] [1,2] 5 rfl rfl rfl rfl (qac func56 rfl rfl) rfl rfl (by simp) ⟨trivial,trivial,trivial⟩ (by trivial) (qb6 n (qb1.mk s_.code v105 v106) (40:Int) hx134) ⟨rfl,rfl,trivial⟩ ?_
          refine qa7 h fun x135 hx135 h=>?_
          refine qak hτ false [] [0,1,2] 6 rfl rfl rfl rfl (qac func119 rfl rfl) rfl rfl (by simp) ⟨trivial,trivial,trivial⟩ (by trivial) (qb8 n s_.code x134.1 hx135) ⟨rfl,rfl,rfl,trivial⟩ ?_
          refine qa5 hτ [2] 7 rfl rfl rfl rfl rfl ?_
          refine qbe hτ [0,1] 8 rfl rfl rfl rfl ⟨rfl,rfl,trivial⟩ ?_
          refine qdk (by kernel_rfl) ?_
          refine qa8 (qa3 [0,1,2] (l:=[(0,.ptr 0 0),(2,.ptr 1 0),(3,.ptr 2 0)]) (objs:=[.box [.d (.sl false (s_.code.map qat)),.d (.int .i64 x134.2.at_),.d (.int .u64 x134.2.seed)],.box [.d (.cx .f32 (0:Nat) (0:Nat)),.d (.cx .f32 (0:Nat) (0:Nat)),.d (.cx .f32 (0:Nat) (0:Nat))],.box [.d (.cx .f32 v107.re v107.im),.d (.cx .f32 x135.re x135.im),.d (.cx .f32 (0:Nat) (0:Nat))]]) rfl (by simp) rfl (by trivial) ⟨rfl,trivial,rfl,trivial,rfl,trivial,trivial⟩) ?_
          exact hk133 (x134.2.at_,x134.2.seed,x135) h
        · refine qa7 h fun x134 hx134 h=>?_
          refine qak hτ false [0] [1,2] 5 rfl rfl rfl rfl (qac func56 rfl rfl) rfl rfl (by simp) ⟨trivial,trivial,trivial⟩ (by trivial) (qb6 n (qb1.mk s_.code v105 v106) (40:Int) hx134) ⟨rfl,rfl,trivial⟩ ?_
          refine qbn hfs (by kernel_rfl) fun _=>?_
          refine qa5 hτ [0] 3 rfl rfl rfl rfl rfl ?_
          refine qa7 h fun x135 hx135 h=>?_
          refine qak hτ false [] [0,1,2] 6 rfl rfl rfl rfl (qac func119 rfl rfl) rfl rfl (by simp) ⟨trivial,trivial,trivial⟩ (by trivial) (qb8 n s_.code x134.1 hx135) ⟨rfl,rfl,rfl,trivial⟩ ?_
          refine qa5 hτ [2] 7 rfl rfl rfl rfl rfl ?_
          refine qbe hτ [0,1] 8 rfl rfl rfl rfl ⟨rfl,rfl,trivial⟩ ?_
          refine qdk (by kernel_rfl) ?_
          refine qa8 (qa3 [0,1,2] (l:=[(0,.ptr 0 0),(2,.ptr 1 0),(3,.ptr 2 0)]) (objs:=[.box [.d (.sl false (s_.code.map qat)),.d (.int .i64 x134.2.at_),.d (.int .u64 x134.2.seed)],.box [.d (.cx .f32 (0:Nat) (0:Nat)),.d (.cx .f32 (0:Nat) (0:Nat)),.d (.cx .f32 (0:Nat) (0:Nat))],.box [.d (.cx .f32 v107.re v107.im),.d (.cx .f32 x135.re x135.im),.d (.cx .f32 (0:Nat) (0:Nat))]]) rfl (by simp) rfl (by trivial) ⟨rfl,trivial,rfl,trivial,rfl,trivial,trivial⟩) ?_
          exact hk133 (x134.2.at_,x134.2.seed,x135) h
      · refine qa7 h fun x134 hx134 h=>?_
        refine qak hτ false [0] [1,2] 5 rfl rfl rfl rfl (qac func56 rfl rfl) rfl rfl (by simp) ⟨trivial,trivial,trivial⟩ (by trivial) (qb6 n (qb1.mk s_.code v105 v106) (40:Int) hx134) ⟨rfl,rfl,trivial⟩ ?_
        refine qbn hfs (by kernel_rfl) fun _=>?_
        refine qa5 hτ [0] 2 rfl rfl rfl rfl rfl ?_
        refine qa5 hτ [0] 3 rfl rfl rfl rfl rfl ?_
        refine qa7 h fun x135 hx135 h=>?_
        refine qak hτ false [] [0,1,2] 6 rfl rfl rfl rfl (qac func119 rfl rfl) rfl rfl (by simp) ⟨trivial,trivial,trivial⟩ (by trivial) (qb8 n s_.code x134.1 hx135) ⟨rfl,rfl,rfl,trivial⟩ ?_
        refine qa5 hτ [2] 7 rfl rfl rfl rfl rfl ?_
        refine qbe hτ [0,1] 8 rfl rfl rfl rfl ⟨rfl,rfl,trivial⟩ ?_
        refine qdk (by kernel_rfl) ?_
        refine qa8 (qa3 [0,1,2] (l:=[(0,.ptr 0 0),(2,.ptr 1 0),(3,.ptr 2 0)]) (objs:=[.box [.d (.sl false (s_.code.map qat)),.d (.int .i64 x134.2.at_),.d (.int .u64 x134.2.seed)],.box [.d (.cx .f32 (0:Nat) (0:Nat)),.d (.cx .f32 (0:Nat) (0:Nat)),.d (.cx .f32 (0:Nat) (0:Nat))],.box [.d (.cx .f32 v107.re v107.im),.d (.cx .f32 x135.re x135.im),.d (.cx .f32 (0:Nat) (0:Nat))]]) rfl (by simp) rfl (by trivial) ⟨rfl,trivial,rfl,trivial,rfl,trivial,trivial⟩) ?_
        exact hk133 (x134.2.at_,x134.2.seed,x135) h
  · refine qa6 ?_
    refine qmm mixed ?_
    refine qa5 hτ [] 0 rfl rfl rfl rfl rfl ?_
    refine qa5 hτ [] 1 rfl rfl rfl rfl rfl ?_
    refine qa5 hτ [] 4 rfl rfl rfl rfl rfl ?_
    refine qg6 [2,5,8] (by kernel_rfl) fun _ hfs=>⟨?_,?_,?_,trivial⟩
    · refine qa5 hτ [0] 2 rfl rfl rfl rfl rfl ?_
      refine qbn hfs (by kernel_rfl) fun _=>?_
      refine qg6 [3,5,8] (by kernel_rfl) fun _ hfs=>⟨?_,?_,?_,trivial⟩
      · refine qa5 hτ [0] 3 rfl rfl rfl rfl rfl ?_
        refine qbn hfs (by kernel_rfl) fun _=>?_
        refine qg6 [5,8] (by kernel_rfl) fun _ hfs=>⟨?_,?_,trivial⟩
        · refine qa7 h fun x137 hx137 h=>?_
          refine qak hτ false [0] [1] 5 rfl rfl rfl rfl (qac func56 rfl rfl) rfl rfl (by simp) ⟨trivial,trivial,trivial⟩ (by trivial) (qb6 n s_ (40:Int) hx137) ⟨rfl,trivial⟩ ?_
          refine qbn hfs (by kernel_rfl) fun _=>?_
          refine qg6 [6,8] (by kernel_rfl) fun _ hfs=>⟨?_,?_,trivial⟩
          · refine qa7 h fun x138 hx138 h=>?_
            refine qak hτ false [] [0,1] 6 rfl rfl rfl rfl (qac func119 rfl rfl) rfl rfl (by simp) ⟨trivial,trivial,trivial⟩ (by trivial) (qb8 n s_.code x137.1 hx138) ⟨rfl,rfl,trivial⟩ ?_
            refine qbn hfs (by kernel_rfl) fun _=>?_
            refine qa5 hτ [] 7 rfl rfl rfl rfl rfl ?_
            refine qbe hτ [0,1] 8 rfl rfl rfl rfl ⟨rfl,rfl,trivial⟩ ?_
            refine qbe hτ [0,1] 9 rfl rfl rfl rfl ⟨rfl,rfl,trivial⟩ ?_
            refine qdk (by kernel_rfl) ?_
            refine qa8 (qa3 [0,1,2] (l:=[(0,.ptr 0 0),(2,.ptr 1 0),(3,.ptr 2 0)]) (objs:=[.box [.d (.sl false (s_.code.map qat)),.d (.int .i64 x137.2.at_),.d (.int .u64 x137.2.seed)],.box [.d (.cx .f32 (0:Nat) (0:Nat)),.d (.cx .f32 (0:Nat) (0:Nat)),.d (.cx .f32 (0:Nat) (0:Nat))],.box [.d (.cx .f32 x138.re x138.im),.d (.cx .f32 (0:Nat) (0:Nat)),.d (.cx .f32 (0:Nat) (0:Nat))]]) rfl (by simp) rfl (by trivial) ⟨rfl,trivial,rfl,trivial,rfl,trivial,trivial⟩) ?_
            exact hk136 (x137.2.at_,x137.2.seed,x138) h
          · refine qbe hτ [0,1] 8 rfl rfl rfl rfl ⟨rfl,rfl,trivial⟩ ?_
            refine qbn hfs (by kernel_rfl) fun _=>?_
            refine qa7 h fun x138 hx138 h=>?_
            refine qak hτ false [] [0,1,2] 6 rfl rfl rfl rfl (qac func119 rfl rfl) rfl rfl (by simp) ⟨trivial,trivial,trivial⟩ (by trivial) (qb8 n s_.code x137.1 hx138) ⟨rfl,rfl,rfl,trivial⟩ ?_
            refine qa5 hτ [] 7 rfl rfl rfl rfl rfl ?_
            refine qbe hτ [0,1] 9 rfl rfl rfl rfl ⟨rfl,rfl,trivial⟩ ?_
            refine qdk (by kernel_rfl) ?_
            refine qa8 (qa3 [0,1,2] (l:=[(0,.ptr 0 0),(2,.ptr 1 0),(3,.ptr 2 0)]) (objs:=[.box [.d (.sl false (s_.code.map qat)),.d (.int .i64 x137.2.at_),.d (.int .u64 x137.2.seed)],.box [.d (.cx .f32 (0:Nat) (0:Nat)),.d (.cx .f32 (0:Nat) (0:Nat)),.d (.cx .f32 (0:Nat) (0:Nat))],.box [.d (.cx .f32 x138.re x138.im),.d (.cx .f32 (0:Nat) (0:Nat)),.d (.cx .f32 (0:Nat) (0:Nat))]]) rfl (by simp) rfl (by trivial) ⟨rfl,trivial,rfl,trivial,rfl,trivial,trivial⟩) ?_
            exact hk136 (x137.2.at_,x137.2.seed,x138) h
        · refine qbe hτ [0,1] 8 rfl rfl rfl rfl ⟨rfl,rfl,trivial⟩ ?_
          refine qbn hfs (by kernel_rfl) fun _=>?_
          refine qa7 h fun x137 hx137 h=>?_
          refine qak hτ false [0] [1,2] 5 rfl rfl rfl rfl (qac func56 rfl rfl) rfl rfl (by simp) ⟨trivial,trivial,trivial⟩ (by trivial) (qb6 n s_ (40:Int) hx137) ⟨rfl,rfl,trivial⟩ ?_
          refine qa7 h fun x138 hx138 h=>?_
          refine qak hτ false [] [0,1,2] 6 rfl rfl rfl rfl (qac func119 rfl rfl) rfl rfl (by simp) ⟨trivial,trivial,trivial⟩ (by trivial) (qb8 n s_.code x137.1 hx138) ⟨rfl,rfl,rfl,trivial⟩ ?_
          refine qa5 hτ [] 7 rfl rfl rfl rfl rfl ?_
          refine qbe hτ [0,1] 9 rfl rfl rfl rfl ⟨rfl,rfl,trivial⟩ ?_
          refine qdk (by kernel_rfl) ?_
          refine qa8 (qa3 [0,1,2] (l:=[(0,.ptr 0 0),(2,.ptr 1 0),(3,.ptr 2 0)]) (objs:=[.box [.d (.sl false (s_.code.map qat)),.d (.int .i64 x137.2.at_),.d (.int .u64 x137.2.seed)],.box [.d (.cx .f32 (0:Nat) (0:Nat)),.d (.cx .f32 (0:Nat) (0:Nat)),.d (.cx .f32 (0:Nat) (0:Nat))],.box [.d (.cx .f32 x138.re x138.im),.d (.cx .f32 (0:Nat) (0:Nat)),.d (.cx .f32 (0:Nat) (0:Nat))]]) rfl (by simp) rfl (by trivial) ⟨rfl,trivial,rfl,trivial,rfl,trivial,trivial⟩) ?_
          exact hk136 (x137.2.at_,x137.2.seed,x138) h
      · refine qa7 h fun x137 hx137 h=>?_
        refine qak hτ false [0] [1] 5 rfl rfl rfl rfl (qac func56 rfl rfl) rfl rfl (by simp) ⟨trivial,trivial,trivial⟩ (by trivial) (qb6 n s_ (40:Int) hx137) ⟨rfl,trivial⟩ ?_
        refine qbn hfs (by kernel_rfl) fun _=>?_
        refine qg6 [3,8] (by kernel_rfl) fun _ hfs=>⟨?_,?_,trivial⟩
        · refine qa5 hτ [0] 3 rfl rfl rfl rfl rfl ?_
          refine qbn hfs (by kernel_rfl) fun _=>?_
          refine qg6 [6,8] (by kernel_rfl) fun _ hfs=>⟨?_,?_,trivial⟩
          · refine qa7 h fun x138 hx138 h=>?_
            refine qak hτ false [] [0,1] 6 rfl rfl rfl rfl (qac func119 rfl rfl) rfl rfl (by simp) ⟨trivial,trivial,trivial⟩ (by trivial) (qb8 n s_.code x137.1 hx138) ⟨rfl,rfl,trivial⟩ ?_
            refine qbn hfs (by kernel_rfl) fun _=>?_
            refine qa5 hτ [] 7 rfl rfl rfl rfl rfl ?_
            refine qbe hτ [0,1] 8 rfl rfl rfl rfl ⟨rfl,rfl,trivial⟩ ?_
            refine qbe hτ [0,1] 9 rfl rfl rfl rfl ⟨rfl,rfl,trivial⟩ ?_
            refine qdk (by kernel_rfl) ?_
            refine qa8 (qa3 [0,1,2] (l:=[(0,.ptr 0 0),(2,.ptr 1 0),(3,.ptr 2 0)]) (objs:=[.box [.d (.sl false (s_.code.map qat)),.d (.int .i64 x137.2.at_),.d (.int .u64 x137.2.seed)],.box [.d (.cx .f32 (0:Nat) (0:Nat)),.d (.cx .f32 (0:Nat) (0:Nat)),.d (.cx .f32 (0:Nat) (0:Nat))],.box [.d (.cx .f32 x138.re x138.im),.d (.cx .f32 (0:Nat) (0:Nat)),.d (.cx .f32 (0:Nat) (0:Nat))]]) rfl (by simp) rfl (by trivial) ⟨rfl,trivial,rfl,trivial,rfl,trivial,trivial⟩) ?_
            exact hk136 (x137.2.at_,x137.2.seed,x138) h
          · refine qbe hτ [0,1] 8 rfl rfl rfl rfl ⟨rfl,rfl,trivial⟩ ?_
            refine qbn hfs (by kernel_rfl) fun _=>?_
            refine qa7 h fun x138 hx138 h=>?_
            refine qak hτ false [] [0,1,2] 6 rfl rfl rfl rfl (qac func119 rfl rfl) rfl rfl (by simp) ⟨trivial,trivial,trivial⟩ (by trivial) (qb8 n s_.code x137.1 hx138) ⟨rfl,rfl,rfl,trivial⟩ ?_
            refine qa5 hτ [] 7 rfl rfl rfl rfl rfl ?_
            refine qbe hτ [0,1] 9 rfl rfl rfl rfl ⟨rfl,rfl,trivial⟩ ?_
            refine qdk (by kernel_rfl) ?_
            refine qa8 (qa3 [0,1,2] (l:=[(0,.ptr 0 0),(2,.ptr 1 0),(3,.ptr 2 0)]) (objs:=[.box [.d (.sl false (s_.code.map qat)),.d (.int .i64 x137.2.at_),.d (.int .u64 x137.2.seed)],.box [.d (.cx .f32 (0:Nat) (0:Nat)),.d (.cx .f32 (0:Nat) (0:Nat)),.d (.cx .f32 (0:Nat) (0:Nat))],.box [.d (.cx .f32 x138.re x138.im),.d (.cx .f32 (0:Nat) (0:Nat)),.d (.cx .f32 (0:Nat) (0:Nat))]]) rfl (by simp) rfl (by trivial) ⟨rfl,trivial,rfl,trivial,rfl,trivial,trivial⟩) ?_
            exact hk136 (x137.2.at_,x137.2.seed,x138) h
        · refine qbe hτ [0,1] 8 rfl rfl rfl rfl ⟨rfl,rfl,trivial⟩ ?_
          refine qbn hfs (by kernel_rfl) fun _=>?_
          refine qa5 hτ [0] 3 rfl rfl rfl rfl rfl ?_
          refine qa7 h fun x138 hx138 h=>?_
          refine qak hτ false [] [0,1,2] 6 rfl rfl rfl rfl (qac func119 rfl rfl) rfl rfl (by simp) ⟨trivial,trivial,trivial⟩ (by trivial) (qb8 n s_.code x137.1 hx138) ⟨rfl,rfl,rfl,trivial⟩ ?_
          refine qa5 hτ [] 7 rfl rfl rfl rfl rfl ?_
          refine qbe hτ [0,1] 9 rfl rfl rfl rfl ⟨rfl,rfl,trivial⟩ ?_
          refine qdk (by kernel_rfl) ?_
          refine qa8 (qa3 [0,1,2] (l:=[(0,.ptr 0 0),(2,.ptr 1 0),(3,.ptr 2 0)]) (objs:=[.box [.d (.sl false (s_.code.map qat)),.d (.int .i64 x137.2.at_),.d (.int .u64 x137.2.seed)],.box [.d (.cx .f32 (0:Nat) (0:Nat)),.d (.cx .f32 (0:Nat) (0:Nat)),.d (.cx .f32 (0:Nat) (0:Nat))],.box [.d (.cx .f32 x138.re x138.im),.d (.cx .f32 (0:Nat) (0:Nat)),.d (.cx .f32 (0:Nat) (0:Nat))]]) rfl (by simp) rfl (by trivial) ⟨rfl,trivial,rfl,trivial,rfl,trivial,trivial⟩) ?_
          exact hk136 (x137.2.at_,x137.2.seed,x138) h
      · refine qbe hτ [0,1] 8 rfl rfl rfl rfl ⟨rfl,rfl,trivial⟩ ?_
        refine qbn hfs (by kernel_rfl) fun _=>?_
        refine qg6 [3,5] (by kernel_rfl) fun _ hfs=>⟨?_,?_,trivial⟩
        · refine qa5 hτ [0] 3 rfl rfl rfl rfl rfl ?_
          refine qbn hfs (by kernel_rfl) fun _=>?_
          refine qa7 h fun x137 hx137 h=>?_
          refine qak hτ false [0] [1,2] 5 rfl rfl rfl rfl (qac func56 rfl rfl) rfl rfl (by simp) ⟨trivial,trivial,trivial⟩ (by trivial) (qb6 n s_ (40:Int) hx137) ⟨rfl,rfl,trivial⟩ ?_
          refine qa7 h fun x138 hx138 h=>?_
          refine qak hτ false [] [0,1,2] 6 rfl rfl rfl rfl (qac func119 rfl rfl) rfl rfl (by simp) ⟨trivial,trivial,trivial⟩ (by trivial) (qb8 n s_.code x137.1 hx138) ⟨rfl,rfl,rfl,trivial⟩ ?_
          refine qa5 hτ [] 7 rfl rfl rfl rfl rfl ?_
          refine qbe hτ [0,1] 9 rfl rfl rfl rfl ⟨rfl,rfl,trivial⟩ ?_
          refine qdk (by kernel_rfl) ?_
          refine qa8 (qa3 [0,1,2] (l:=[(0,.ptr 0 0),(2,.ptr 1 0),(3,.ptr 2 0)]) (objs:=[.box [.d (.sl false (s_.code.map qat)),.d (.int .i64 x137.2.at_),.d (.int .u64 x137.2.seed)],.box [.d (.cx .f32 (0:Nat) (0:Nat)),.d (.cx .f32 (0:Nat) (0:Nat)),.d (.cx .f32 (0:Nat) (0:Nat))],.box [.d (.cx .f32 x138.re x138.im),.d (.cx .f32 (0:Nat) (0:Nat)),.d (.cx .f32 (0:Nat) (0:Nat))]]) rfl (by simp) rfl (by trivial) ⟨rfl,trivial,rfl,trivial,rfl,trivial,trivial⟩) ?_
          exact hk136 (x137.2.at_,x137.2.seed,x138) h
        · refine qa7 h fun x137 hx137 h=>?_
          refine qak hτ false [0] [1,2] 5 rfl rfl rfl rfl (qac func56 rfl rfl) rfl rfl (by simp) ⟨trivial,trivial,trivial⟩ (by trivial) (qb6 n s_ (40:Int) hx137) ⟨rfl,rfl,trivial⟩ ?_
          refine qbn hfs (by kernel_rfl) fun _=>?_
          refine qa5 hτ [0] 3 rfl rfl rfl rfl rfl ?_
          refine qa7 h fun x138 hx138 h=>?_
          refine qak hτ false [] [0,1,2] 6 rfl rfl rfl rfl (qac func119 rfl rfl) rfl rfl (by simp) ⟨trivial,trivial,trivial⟩ (by trivial) (qb8 n s_.code x137.1 hx138) ⟨rfl,rfl,rfl,trivial⟩ ?_
          refine qa5 hτ [] 7 rfl rfl rfl rfl rfl ?_
          refine qbe hτ [0,1] 9 rfl rfl rfl rfl ⟨rfl,rfl,trivial⟩ ?_
          refine qdk (by kernel_rfl) ?_
          refine qa8 (qa3 [0,1,2] (l:=[(0,.ptr 0 0),(2,.ptr 1 0),(3,.ptr 2 0)]) (objs:=[.box [.d (.sl false (s_.code.map qat)),.d (.int .i64 x137.2.at_),.d (.int .u64 x137.2.seed)],.box [.d (.cx .f32 (0:Nat) (0:Nat)),.d (.cx .f32 (0:Nat) (0:Nat)),.d (.cx .f32 (0:Nat) (0:Nat))],.box [.d (.cx .f32 x138.re x138.im),.d (.cx .f32 (0:Nat) (0:Nat)),.d (.cx .f32 (0:Nat) (0:Nat))]]) rfl (by simp) rfl (by trivial) ⟨rfl,trivial,rfl,trivial,rfl,trivial,trivial⟩) ?_
          exact hk136 (x137.2.at_,x137.2.seed,x138) h
    · refine qa7 h fun x137 hx137 h=>?_
      refine qak hτ false [0] [1] 5 rfl rfl rfl rfl (qac func56 rfl rfl) rfl rfl (by simp) ⟨trivial,trivial,trivial⟩ (by trivial) (qb6 n s_ (40:Int) hx137) ⟨rfl,trivial⟩ ?_
      refine qbn hfs (by kernel_rfl) fun _=>?_
      refine qg6 [2,8] (by kernel_rfl) fun _ hfs=>⟨?_,?_,trivial⟩
      · refine qa5 hτ [0] 2 rfl rfl rfl rfl rfl ?_
        refine qbn hfs (by kernel_rfl) fun _=>?_
        refine qg6 [3,8] (by kernel_rfl) fun _ hfs=>⟨?_,?_,trivial⟩
        · refine qa5 hτ [0] 3 rfl rfl rfl rfl rfl ?_
          refine qbn hfs (by kernel_rfl) fun _=>?_
          refine qg6 [6,8] (by kernel_rfl) fun _ hfs=>⟨?_,?_,trivial⟩
          · refine qa7 h fun x138 hx138 h=>?_
            refine qak hτ false [] [0,1] 6 rfl rfl rfl rfl (qac func119 rfl rfl) rfl rfl (by simp) ⟨trivial,trivial,trivial⟩ (by trivial) (qb8 n s_.code x137.1 hx138) ⟨rfl,rfl,trivial⟩ ?_
            refine qbn hfs (by kernel_rfl) fun _=>?_
            refine qa5 hτ [] 7 rfl rfl rfl rfl rfl ?_
            refine qbe hτ [0,1] 8 rfl rfl rfl rfl ⟨rfl,rfl,trivial⟩ ?_
            refine qbe hτ [0,1] 9 rfl rfl rfl rfl ⟨rfl,rfl,trivial⟩ ?_
            refine qdk (by kernel_rfl) ?_
            refine qa8 (qa3 [0,1,2] (l:=[(0,.ptr 0 0),(2,.ptr 1 0),(3,.ptr 2 0)]) (objs:=[.box [.d (.sl false (s_.code.map qat)),.d (.int .i64 x137.2.at_),.d (.int .u64 x137.2.seed)],.box [.d (.cx .f32 (0:Nat) (0:Nat)),.d (.cx .f32 (0:Nat) (0:Nat)),.d (.cx .f32 (0:Nat) (0:Nat))],.box [.d (.cx .f32 x138.re x138.im),.d (.cx .f32 (0:Nat) (0:Nat)),.d (.cx .f32 (0:Nat) (0:Nat))]]) rfl (by simp) rfl (by trivial) ⟨rfl,trivial,rfl,trivial,rfl,trivial,trivial⟩) ?_
            exact hk136 (x137.2.at_,x137.2.seed,x138) h
          · refine qbe hτ [0,1] 8 rfl rfl rfl rfl ⟨rfl,rfl,trivial⟩ ?_
            refine qbn hfs (by kernel_rfl) fun _=>?_
            refine qa7 h fun x138 hx138 h=>?_
            refine qak hτ false [] [0,1,2] 6 rfl rfl rfl rfl (qac func119 rfl rfl) rfl rfl (by simp) ⟨trivial,trivial,trivial⟩ (by trivial) (qb8 n s_.code x137.1 hx138) ⟨rfl,rfl,rfl,trivial⟩ ?_
            refine qa5 hτ [] 7 rfl rfl rfl rfl rfl ?_
            refine qbe hτ [0,1] 9 rfl rfl rfl rfl ⟨rfl,rfl,trivial⟩ ?_
            refine qdk (by kernel_rfl) ?_
            refine qa8 (qa3 [0,1,2] (l:=[(0,.ptr 0 0),(2,.ptr 1 0),(3,.ptr 2 0)]) (objs:=[.box [.d (.sl false (s_.code.map qat)),.d (.int .i64 x137.2.at_),.d (.int .u64 x137.2.seed)],.box [.d (.cx .f32 (0:Nat) (0:Nat)),.d (.cx .f32 (0:Nat) (0:Nat)),.d (.cx .f32 (0:Nat) (0:Nat))],.box [.d (.cx .f32 x138.re x138.im),.d (.cx .f32 (0:Nat) (0:Nat)),.d (.cx .f32 (0:Nat) (0:Nat))]]) rfl (by simp) rfl (by trivial) ⟨rfl,trivial,rfl,trivial,rfl,trivial,trivial⟩) ?_
            exact hk136 (x137.2.at_,x137.2.seed,x138) h
        · refine qbe hτ [0,1] 8 rfl rfl rfl rfl ⟨rfl,rfl,trivial⟩ ?_
          refine qbn hfs (by kernel_rfl) fun _=>?_
          refine qa5 hτ [0] 3 rfl rfl rfl rfl rfl ?_
          refine qa7 h fun x138 hx138 h=>?_
          refine qak hτ false [] [0,1,2] 6 rfl rfl rfl rfl (qac func119 rfl rfl) rfl rfl (by simp) ⟨trivial,trivial,trivial⟩ (by trivial) (qb8 n s_.code x137.1 hx138) ⟨rfl,rfl,rfl,trivial⟩ ?_
          refine qa5 hτ [] 7 rfl rfl rfl rfl rfl ?_
          refine qbe hτ [0,1] 9 rfl rfl rfl rfl ⟨rfl,rfl,trivial⟩ ?_
          refine qdk (by kernel_rfl) ?_
          refine qa8 (qa3 [0,1,2] (l:=[(0,.ptr 0 0),(2,.ptr 1 0),(3,.ptr 2 0)]) (objs:=[.box [.d (.sl false (s_.code.map qat)),.d (.int .i64 x137.2.at_),.d (.int .u64 x137.2.seed)],.box [.d (.cx .f32 (0:Nat) (0:Nat)),.d (.cx .f32 (0:Nat) (0:Nat)),.d (.cx .f32 (0:Nat) (0:Nat))],.box [.d (.cx .f32 x138.re x138.im),.d (.cx .f32 (0:Nat) (0:Nat)),.d (.cx .f32 (0:Nat) (0:Nat))]]) rfl (by simp) rfl (by trivial) ⟨rfl,trivial,rfl,trivial,rfl,trivial,trivial⟩) ?_
          exact hk136 (x137.2.at_,x137.2.seed,x138) h
      · refine qbe hτ [0,1] 8 rfl rfl rfl rfl ⟨rfl,rfl,trivial⟩ ?_
        refine qbn hfs (by kernel_rfl) fun _=>?_
        refine qa5 hτ [0] 2 rfl rfl rfl rfl rfl ?_
        refine qa5 hτ [0] 3 rfl rfl rfl rfl rfl ?_
        refine qa7 h fun x138 hx138 h=>?_
        refine qak hτ false [] [0,1,2] 6 rfl rfl rfl rfl (qac func119 rfl rfl) rfl rfl (by simp) ⟨trivial,trivial,trivial⟩ (by trivial) (qb8 n s_.code x137.1 hx138) ⟨rfl,rfl,rfl,trivial⟩ ?_
        refine qa5 hτ [] 7 rfl rfl rfl rfl rfl ?_
        refine qbe hτ [0,1] 9 rfl rfl rfl rfl ⟨rfl,rfl,trivial⟩ ?_
        refine qdk (by kernel_rfl) ?_
        refine qa8 (qa3 [0,1,2] (l:=[(0,.ptr 0 0),(2,.ptr 1 0),(3,.ptr 2 0)]) (objs:=[.box [.d (.sl false (s_.code.map qat)),.d (.int .i64 x137.2.at_),.d (.int .u64 x137.2.seed)],.box [.d (.cx .f32 (0:Nat) (0:Nat)),.d (.cx .f32 (0:Nat) (0:Nat)),.d (.cx .f32 (0:Nat) (0:Nat))],.box [.d (.cx .f32 x138.re x138.im),.d (.cx .f32 (0:Nat) (0:Nat)),.d (.cx .f32 (0:Nat) (0:Nat))]]) rfl (by simp) rfl (by trivial) ⟨rfl,trivial,rfl,trivial,rfl,trivial,trivial⟩) ?_
        exact hk136 (x137.2.at_,x137.2.seed,x138) h
    · refine qbe hτ [0,1] 8 rfl rfl rfl rfl ⟨rfl,rfl,trivial⟩ ?_
      refine qbn hfs (by kernel_rfl) fun _=>?_
      refine qg6 [2,5] (by kernel_rfl) fun _ hfs=>⟨?_,?_,trivial⟩
      · refine qa5 hτ [0] 2 rfl rfl rfl rfl rfl ?_
        refine qbn hfs (by kernel_rfl) fun _=>?_
        refine qg6 [3,5] (by kernel_rfl) fun _ hfs=>⟨?_,?_,trivial⟩
        · refine qa5 hτ [0] 3 rfl rfl rfl rfl rfl ?_
          refine qbn hfs (by kernel_rfl) fun _=>?_
          refine qa7 h fun x137 hx137 h=>?_
          refine qak hτ false [0] [1,2] 5 rfl rfl rfl rfl (qac func56 rfl rfl) rfl rfl (by simp) ⟨trivial,trivial,trivial⟩ (by trivial) (qb6 n s_ (40:Int) hx137) ⟨rfl,rfl,trivial⟩ ?_
          refine qa7 h fun x138 hx138 h=>?_
          refine qak hτ false [] [0,1,2] 6 rfl rfl rfl rfl (qac func119 rfl rfl) rfl rfl (by simp) ⟨trivial,trivial,trivial⟩ (by trivial) (qb8 n s_.code x137.1 hx138) ⟨rfl,rfl,rfl,trivial⟩ ?_
          refine qa5 hτ [] 7 rfl rfl rfl rfl rfl ?_
          refine qbe hτ [0,1] 9 rfl rfl rfl rfl ⟨rfl,rfl,trivial⟩ ?_
          refine qdk (by kernel_rfl) ?_
          refine qa8 (qa3 [0,1,2] (l:=[(0,.ptr 0 0),(2,.ptr 1 0),(3,.ptr 2 0)]) (objs:=[.box [.d (.sl false (s_.code.map qat)),.d (.int .i64 x137.2.at_),.d (.int .u64 x137.2.seed)],.box [.d (.cx .f32 (0:Nat) (0:Nat)),.d (.cx .f32 (0:Nat) (0:Nat)),.d (.cx .f32 (0:Nat) (0:Nat))],.box [.d (.cx .f32 x138.re x138.im),.d (.cx .f32 (0:Nat) (0:Nat)),.d (.cx .f32 (0:Nat) (0:Nat))]]) rfl (by simp) rfl (by trivial) ⟨rfl,trivial,rfl,trivial,rfl,trivial,trivial⟩) ?_
          exact hk136 (x137.2.at_,x137.2.seed,x138) h
        · refine qa7 h fun x137 hx137 h=>?_
          refine qak hτ false [0] [1,2] 5 rfl rfl rfl rfl (qac func56 rfl rfl) rfl rfl (by simp) ⟨trivial,trivial,trivial⟩ (by trivial) (qb6 n s_ (40:Int) hx137) ⟨rfl,rfl,trivial⟩ ?_
          refine qbn hfs (by kernel_rfl) fun _=>?_
          refine qa5 hτ [0] 3 rfl rfl rfl rfl rfl ?_
          refine qa7 h fun x138 hx138 h=>?_
          refine qak hτ false [] [0,1,2] 6 rfl rfl rfl rfl (qac func119 rfl rfl) rfl rfl (by simp) ⟨trivial,trivial,trivial⟩ (by trivial) (qb8 n s_.code x137.1 hx138) ⟨rfl,rfl,rfl,trivial⟩ ?_
          refine qa5 hτ [] 7 rfl rfl rfl rfl rfl ?_
          refine qbe hτ [0,1] 9 rfl rfl rfl rfl ⟨rfl,rfl,trivial⟩ ?_
          refine qdk (by kernel_rfl) ?_
          refine qa8 (qa3 [0,1,2] (l:=[(0,.ptr 0 0),(2,.ptr 1 0),(3,.ptr 2 0)]) (objs:=[.box [.d (.sl false (s_.code.map qat)),.d (.int .i64 x137.2.at_),.d (.int .u64 x137.2.seed)],.box [.d (.cx .f32 (0:Nat) (0:Nat)),.d (.cx .f32 (0:Nat) (0:Nat)),.d (.cx .f32 (0:Nat) (0:Nat))],.box [.d (.cx .f32 x138.re x138.im),.d (.cx .f32 (0:Nat) (0:Nat)),.d (.cx .f32 (0:Nat) (0:Nat))]]) rfl (by simp) rfl (by trivial) ⟨rfl,trivial,rfl,trivial,rfl,trivial,trivial⟩) ?_
          exact hk136 (x137.2.at_,x137.2.seed,x138) h
      · refine qa7 h fun x137 hx137 h=>?_
        refine qak hτ false [0] [1,2] 5 rfl rfl rfl rfl (qac func56 rfl rfl) rfl rfl (by simp) ⟨trivial,trivial,trivial⟩ (by trivial) (qb6 n s_ (40:Int) hx137) ⟨rfl,rfl,trivial⟩ ?_
        refine qbn hfs (by kernel_rfl) fun _=>?_
        refine qa5 hτ [0] 2 rfl rfl rfl rfl rfl ?_
        refine qa5 hτ [0] 3 rfl rfl rfl rfl rfl ?_
        refine qa7 h fun x138 hx138 h=>?_
        refine qak hτ false [] [0,1,2] 6 rfl rfl rfl rfl (qac func119 rfl rfl) rfl rfl (by simp) ⟨trivial,trivial,trivial⟩ (by trivial) (qb8 n s_.code x137.1 hx138) ⟨rfl,rfl,rfl,trivial⟩ ?_
        refine qa5 hτ [] 7 rfl rfl rfl rfl rfl ?_
        refine qbe hτ [0,1] 9 rfl rfl rfl rfl ⟨rfl,rfl,trivial⟩ ?_
        refine qdk (by kernel_rfl) ?_
        refine qa8 (qa3 [0,1,2] (l:=[(0,.ptr 0 0),(2,.ptr 1 0),(3,.ptr 2 0)]) (objs:=[.box [.d (.sl false (s_.code.map qat)),.d (.int .i64 x137.2.at_),.d (.int .u64 x137.2.seed)],.box [.d (.cx .f32 (0:Nat) (0:Nat)),.d (.cx .f32 (0:Nat) (0:Nat)),.d (.cx .f32 (0:Nat) (0:Nat))],.box [.d (.cx .f32 x138.re x138.im),.d (.cx .f32 (0:Nat) (0:Nat)),.d (.cx .f32 (0:Nat) (0:Nat))]]) rfl (by simp) rfl (by trivial) ⟨rfl,trivial,rfl,trivial,rfl,trivial,trivial⟩) ?_
        exact hk136 (x137.2.at_,x137.2.seed,x138) h
def qgy (n:Nat) (x75:qax) (v145:List SBus):Option qan :=
  some (qan.mk x75 v145)
def qfx (n:Nat) (k216:List Int→Int→Int→List SBus→Int→Option qan) (v180:Int) (v247:List Int) (v248:Int) (v249:Int) (v250:List SBus):Option qan :=
  k216 v247 v248 v249 v250 (w64 (v180 + (1:Int)))
def qdi (n:Nat) (k216:List Int→Int→Int→List SBus→Int→Option qan) (v179:List SBus) (v180:Int) (v270:Int) (v271:Cx) (v272:Cx) (x273:Int × qb1) (v285:List Int) (v286:Int) (v287:Int) (v288:Cx) (v289:Cx) (v290:Cx):Option qan :=
  (qap n (qb1.mk v285 v286 v287) (30:Int)).bind fun x291 =>
  grd (room (v179.length + 1) 64) <|
  qfx n k216 v180 x291.2.code x291.2.at_ x291.2.seed (v179 ++ [(SBus.mk v270 v271 v272 x273.1 (qax.mk v288 v289 v290) x291.1)])
def qe3 (n:Nat) (k216:List Int→Int→Int→List SBus→Int→Option qan) (v179:List SBus) (v180:Int) (v267:List Int) (v268:Int) (v269:Int) (v270:Int) (v271:Cx) (v272:Cx):Option qan :=
  (qap n (qb1.mk v267 v268 v269) (3:Int)).bind fun x273 =>
  (qeg n x273.2 (3:Int)).bind fun x294 =>
  if x294.1 = true then
    qdi n k216 v179 v180 v270 v271 v272 x273 x294.2.code x294.2.at_ x294.2.seed (Cx.mk (0:Nat) (0:Nat)) (Cx.mk (0:Nat) (0:Nat)) (Cx.mk (0:Nat) (0:Nat))
  else
    (qio n x294.2).bind fun x296 =>
    if x273.1 = (2:Int) then
      qdi n k216 v179 v180 v270 v271 v272 x273 x296.2.code x296.2.at_ x296.2.seed (Cx.mk (1090519040:Nat) (0:Nat)) (Cx.mk (1090519040:Nat) (1082130432:Nat)) (Cx.mk (1098907648:Nat) (1073741824:Nat))
    else
      qdi n k216 v179 v180 v270 v271 v272 x273 x296.2.code x296.2.at_ x296.2.seed x296.1.A x296.1.B x296.1.C
def qe4 (n:Nat) (k216:List Int→Int→Int→List SBus→Int→Option qan) (v179:List SBus) (v180:Int) (v306:List Int) (v307:Int) (v308:Int) (v309:Int):Option qan :=
  (qap n (qb1.mk v306 v307 v308) (4:Int)).bind fun x310 =>
  (qap n x310.2 (5:Int)).bind fun x311 =>
  (qap n x311.2 (3:Int)).bind fun x312 =>
  qe3 n k216 v179 v180 x312.2.code x312.2.at_ x312.2.seed v309 (Cx.mk (qa1 .quo .f32 (FloatKind.nearest .f32 (w64 ((1:Int) + x310.1))) (1098907648:Nat)) (qa1 .quo .f32 (FloatKind.nearest .f32 x311.1) (1098907648:Nat))) (Cx.mk (0:Nat) (qa1 .quo .f32 (FloatKind.nearest .f32 x312.1) (1098907648:Nat)))
def qau (n:Nat) (x75:qax) (x76:Int × qb1):Nat→List Int→Int→Int→List SBus→Int→Option qan
  | 0,_,_,_,_,_=>none
  | m215 + 1,v176,v177,v178,v179,v180 =>
    if v180 < (w64 ((1:Int) + x76.1)) then
      if v180 > (0:Int) then
        (qeg n (qb1.mk v176 v177 v178) (2:Int)).bind fun x314 =>
        if x314.1 = true then
          (qap n x314.2 v180).bind fun x316 =>
          qe4 n (qau n x75 x76 m215) v179 v180 x316.2.code x316.2.at_ x316.2.seed x316.1
        else
          qe4 n (qau n x75 x76 m215) v179 v180 x314.2.code x314.2.at_ x314.2.seed (w64 (v180 - (1:Int)))
      else
        qe3 n (qau n x75 x76 m215) v179 v180 v176 v177 v178 (w64 (v180 - (1:Int))) (Cx.mk (0:Nat) (0:Nat)) (Cx.mk (0:Nat) (0:Nat))
    else
      qgy n x75 v179
def qgc (n:Nat) (code_:List Int):Option qan :=
  (qj1 n code_).bind fun x73 =>
  (qap n x73 (8:Int)).bind fun x74 =>
  (qbh n (Cx.mk (FloatKind.nearest .f32 (w64 ((8:Int) + x74.1))) (0:Nat))).bind fun x75 =>
  (qap n x74.2 (6:Int)).bind fun x76 =>
  qau n x75 x76 n x76.2.code x76.2.at_ x76.2.seed ([]:List SBus) (0:Int)
theorem spec_R8Feeder_ok_fr0 (fr:Bool) (n:Nat) (code_:List Int) {r:qan} (h:qgc n code_ = some r):qaq prog fr 18 [.d (.sl false (code_.map qat))] [] (fun v o new=>v = .agg [.d (.cx .f32 r.Source.A.re r.Source.A.im),.d (.cx .f32 r.Source.B.re r.Source.B.im),.d (.cx .f32 r.Source.C.re r.Source.C.im),.row 0 r.qad.length 0 r.qad.length]∧o = []∧new = [.row 8 (r.qad.map qaj)]):=by
  refine qaf hτ func18 rfl (by simp) (by simp) ?_
  unfold qgc at h
  refine qa6 ?_
  refine qa2 ?_
  refine qai hτ rfl rfl rfl ?_
  refine qa4 ?_
  refine qa6 ?_
  refine qa2 ?_
  refine qa0 hτ rfl rfl rfl ?_
  refine qa7 h fun x73 hx73 h=>?_
  refine qab hτ false [] rfl rfl rfl (qac func54 rfl rfl) rfl rfl (by simp) ⟨trivial,trivial⟩ (by trivial) (spec_l00From_ok n code_ hx73) ?_
  rintro r0 o0 n0 ⟨rfl,rfl,rfl⟩ -
  refine qa0 hτ rfl rfl rfl ?_
  refine qa4 ?_
  refine qa6 ?_
  refine qa2 ?_
  refine qa0 hτ rfl rfl rfl ?_
  refine qa7 h fun x74 hx74 h=>?_
  refine qab hτ false [1] rfl rfl rfl (qac func56 rfl rfl) rfl rfl (by simp) ⟨trivial,trivial,trivial⟩ (by trivial) (qch n x73 (8:Int) hx74) ?_
  rintro r0 o0 n0 ⟨rfl,rfl,rfl⟩ -
  refine qa0 hτ rfl rfl rfl ?_
  refine qa0 hτ rfl rfl rfl ?_
  refine qa0 hτ rfl rfl rfl ?_
  refine qa7 h fun x75 hx75 h=>?_
  refine qab hτ false [] rfl rfl rfl (qac func55 rfl rfl) rfl rfl (by simp) ⟨trivial,trivial⟩ (by trivial) (spec_l02Even_ok n (Cx.mk (FloatKind.nearest .f32 (w64 ((8:Int) + x74.1))) (0:Nat)) hx75) ?_
  rintro r0 o0 n0 ⟨rfl,rfl,rfl⟩ -
  refine qai hτ rfl rfl rfl ?_
  refine qa0 hτ rfl rfl rfl ?_
  refine qas (qa3 [0,1,2] (l:=[(2,.ptr 0 0),(3,.ptr 1 0),(18,.agg [.d (.cx .f32 x75.A.re x75.A.im),.d (.cx .f32 x75.B.re x75.B.im),.d (.cx .f32 x75.C.re x75.C.im),.row 2 (([]:List SBus).length) 0 (([]:List SBus).length)])]) (objs:=[.box [.d (.cx .f32 (0:Nat) (0:Nat)),.d (.cx .f32 (0:Nat) (0:Nat)),.d (.cx .f32 (0:Nat) (0:Nat)),.d (.nils)],.box [.d (.sl false (x74.2.code.map qat)),.d (.int .i64 x74.2.at_),.d (.int .u64 x74.2.seed)],.row 8 (([]:List SBus).map qaj)]) rfl (by simp) rfl (by trivial) ⟨rfl,trivial,rfl,trivial,rfl,(by trivial),trivial⟩) ?_
  refine qai hτ rfl rfl rfl ?_
  refine qai hτ rfl rfl rfl ?_
  refine qa4 ?_
  refine qa6 ?_
  refine qa2 ?_
  refine qa0 hτ rfl rfl rfl ?_
  refine qa7 h fun x76 hx76 h=>?_
  refine qab hτ false [1] rfl rfl rfl (qac func56 rfl rfl) rfl rfl (by simp) ⟨trivial,trivial,trivial⟩ (by trivial) (qch n x74.2 (6:Int) hx76) ?_
  rintro r0 o0 n0 ⟨rfl,rfl,rfl⟩ -
  refine qa0 hτ rfl rfl rfl ?_
  refine qa0 hτ rfl rfl rfl ?_
  refine qa4 ?_
  refine qbw (ι:=List SBus) (fun v145=>St.of [(2,.ptr 0 0),(4,.ptr 1 0)] [.box [.d (.cx .f32 (0:Nat) (0:Nat)),.d (.cx .f32 (0:Nat) (0:Nat)),.d (.cx .f32 (0:Nat) (0:Nat)),.d (.nils)],.box [.d (.cx .f32 x75.A.re x75.A.im),.d (.cx .f32 x75.B.re x75.B.im),.d (.cx .f32 x75.C.re x75.C.im),.row 2 v145.length 0 v145.length],.row 8 (v145.map qaj)] f18.ntmps 0) (fun v145=>qgy n x75 v145 = some r) ?_ (fun hk146=>?_)
  · rintro v145 h
    replace h:qgy n x75 v145 = some r:=h
    unfold qgy at h
    refine qa6 ?_
    refine qa2 ?_
    refine qa0 hτ rfl rfl rfl ?_
    refine qai hτ rfl rfl rfl ?_
    refine qa4 ?_
    refine qa8 (qa3 [0,2] (l:=[(2,.ptr 0 0)]) (objs:=[.box [.d (.cx .f32 x75.A.re x75.A.im),.d (.cx .f32 x75.B.re x75.B.im),.d (.cx .f32 x75.C.re x75.C.im),.row 1 v145.length 0 v145.length],.row 8 (v145.map qaj)]) rfl (by simp) rfl (by trivial) ⟨rfl,trivial,trivial⟩) ?_
    refine qal ?_
    have hr:=Option.some.inj h
    subst hr
    exact qae (.inr rfl) [1] (objs':=[]) (new:=[.row 8 (v145.map qaj)]) rfl (by simp) (by simp) rfl (by trivial) rfl rfl (by trivial) (fun _=>⟨by simp [V.flat,V.qb7,V.qb5,D.flat],(ql4 (qm8 eSBus_flat _) qag)⟩) ⟨rfl,rfl,rfl⟩
  · refine qa6 ?_
    refine qa6 ?_
    refine qa8 (qa3 [0,1,3,2] (l:=[(2,.ptr 0 0),(3,.ptr 1 0),(4,.ptr 2 0),(5,.d (.int .i64 (w64 ((1:Int) + x76.1))))]) (objs:=[.box [.d (.cx .f32 (0:Nat) (0:Nat)),.d (.cx .f32 (0:Nat) (0:Nat)),.d (.cx .f32 (0:Nat) (0:Nat)),.d (.nils)],.box [.d (.sl false (x76.2.code.map qat)),.d (.int .i64 x76.2.at_),.d (.int .u64 x76.2.seed)],.box [.d (.cx .f32 x75.A.re x75.A.im),.d (.cx .f32 x75.B.re x75.B.im),.d (.cx .f32 x75.C.re x75.C.im),.row 3 (([]:List SBus).length) 0 (([]:List SBus).length)],.row 8 (([]:List SBus).map qaj)]) rfl (by simp) rfl (by trivial) ⟨rfl,trivial,rfl,trivial,rfl,trivial,rfl,trivial,trivial⟩) ?_
    refine qa2 ?_
    refine qa0 hτ rfl rfl rfl ?_
    refine qa4 ?_
    refine qbo ?_
    refine qh3 (ι:=Nat × List Int × Int × Int × List SBus × Int) (fun (m215,v176,v177,v178,v179,v180)=>St.of [(2,.ptr 0 0),(3,.ptr 1 0),(4,.ptr 2 0),(5,.d (.int .i64 (w64 ((1:Int) + x76.1)))),(6,.d (.int .i64 v180))] [.box [.d (.cx .f32 (0:Nat) (0:Nat)),.d (.cx .f32 (0:Nat) (0:Nat)),.d (.cx .f32 (0:Nat) (0:Nat)),.d (.nils)],.box [.d (.sl false (v176.map qat)),.d (.int .i64 v177),.d (.int .u64 v178)],.box [.d (.cx .f32 x75.A.re x75.A.im),.d (.cx .f32 x75.B.re x75.B.im),.d (.cx .f32 x75.C.re x75.C.im),.row 3 v179.length 0 v179.length],.row 8 (v179.map qaj)] f18.ntmps 0) (fun (m215,v176,v177,v178,v179,v180)=>qau n x75 x76 m215 v176 v177 v178 v179 v180 = some r) (fun x=>x.1) (n,x76.2.code,x76.2.at_,x76.2.seed,([]:List SBus),(0:Int)) h (qa3 [0,1,2,3] (l:=[(2,.ptr 0 0),(3,.ptr 1 0),(4,.ptr 2 0),(5,.d (.int .i64 (w64 ((1:Int) + x76.1)))),(6,.d (.int .i64 (0:Int)))]) (objs:=[.box [.d (.cx .f32 (0:Nat) (0:Nat)),.d (.cx .f32 (0:Nat) (0:Nat)),.d (.cx .f32 (0:Nat) (0:Nat)),.d (.nils)],.box [.d (.sl false (x76.2.code.map qat)),.d (.int .i64 x76.2.at_),.d (.int .u64 x76.2.seed)],.box [.d (.cx .f32 x75.A.re x75.A.im),.d (.cx .f32 x75.B.re x75.B.im),.d (.cx .f32 x75.C.re x75.C.im),.row 3 (([]:List SBus).length) 0 (([]:List SBus).length)],.row 8 (([]:List SBus).map qaj)]) rfl (by simp) rfl (by trivial) ⟨rfl,trivial,rfl,trivial,rfl,trivial,rfl,trivial,rfl,trivial,trivial⟩) ?_
    rintro ⟨m215,v176,v177,v178,v179,v180⟩ h
    replace h:qau n x75 x76 m215 v176 v177 v178 v179 v180 = some r:=h
    rcases m215 with _ | m215
    · rw [qau] at h;cases h
    rw [qau] at h
    refine qa6 ?_
    refine qa6 ?_
    refine qa2 ?_
    refine qa0 hτ rfl rfl rfl ?_
    refine qa0 hτ rfl rfl rfl ?_
    refine qa0 hτ rfl rfl rfl ?_
    refine qa4 ?_
    refine qar rfl (fun hc217=>?_) (fun hc217=>?_)
    · have h:=if_t h hc217
      refine qb9 ?_
      refine qbw (ι:=List Int × Int × Int × List SBus) (fun (v247,v248,v249,v250)=>St.of [(2,.ptr 0 0),(3,.ptr 1 0),(4,.ptr 2 0),(5,.d (.int .i64 (w64 ((1:Int) + x76.1)))),(6,.d (.int .i64 v180))] [.box [.d (.cx .f32 (0:Nat) (0:Nat)),.d (.cx .f32 (0:Nat) (0:Nat)),.d (.cx .f32 (0:Nat) (0:Nat)),.d (.nils)],.box [.d (.sl false (v247.map qat)),.d (.int .i64 v248),.d (.int .u64 v249)],.box [.d (.cx .f32 x75.A.re x75.A.im),.d (.cx .f32 x75.B.re x75.B.im),.d (.cx .f32 x75.C.re x75.C.im),.row 3 v250.length 0 v250.length],.row 8 (v250.map qaj)] f18.ntmps 0) (fun (v247,v248,v249,v250)=>qfx n (qau n x75 x76 m215) v180 v247 v248 v249 v250 = some r) ?_ (fun hk251=>?_)
      · rintro ⟨v247,v248,v249,v250⟩ h
        replace h:qfx n (qau n x75 x76 m215) v180 v247 v248 v249 v250 = some r:=h
        unfold qfx at h
        refine qa2 ?_
        refine qa0 hτ rfl rfl rfl ?_
        refine qa0 hτ rfl rfl rfl ?_
        refine qa0 hτ rfl rfl rfl ?_
        refine qa4 ?_
        exact ⟨(m215,v247,v248,v249,v250,(w64 (v180 + (1:Int)))),h,Nat.lt_succ_self m215,(qa3 [0,1,2,3] (l:=[(2,.ptr 0 0),(3,.ptr 1 0),(4,.ptr 2 0),(5,.d (.int .i64 (w64 ((1:Int) + x76.1)))),(6,.d (.int .i64 (w64 (v180 + (1:Int)))))]) (objs:=[.box [.d (.cx .f32 (0:Nat) (0:Nat)),.d (.cx .f32 (0:Nat) (0:Nat)),.d (.cx .f32 (0:Nat) (0:Nat)),.d (.nils)],.box [.d (.sl false (v247.map qat)),.d (.int .i64 v248),.d (.int .u64 v249)],.box [.d (.cx .f32 x75.A.re x75.A.im),.d (.cx .f32 x75.B.re x75.B.im),.d (.cx .f32 x75.C.re x75.C.im),.row 3 v250.length 0 v250.length],.row 8 (v250.map qaj)]) rfl (by simp) rfl (by trivial) ⟨rfl,trivial,rfl,trivial,rfl,trivial,rfl,trivial,rfl,trivial,trivial⟩)⟩
      · refine qa6 ?_
        refine qbo ?_
        refine qa6 ?_
        refine qa2 ?_
        refine qa0 hτ rfl rfl rfl ?_
        refine qa0 hτ rfl rfl rfl ?_
        refine qa0 hτ rfl rfl rfl ?_
        refine qai hτ rfl rfl rfl ?_
        refine qai hτ rfl rfl rfl ?_
        refine qa4 ?_
        refine qbw (ι:=List Int × Int × Int × Int × Cx × Cx) (fun (v267,v268,v269,v270,v271,v272)=>St.of [(2,.ptr 0 0),(3,.ptr 1 0),(4,.ptr 2 0),(5,.d (.int .i64 (w64 ((1:Int) + x76.1)))),(6,.d (.int .i64 v180)),(7,.ptr 4 0)] [.box [.d (.cx .f32 (0:Nat) (0:Nat)),.d (.cx .f32 (0:Nat) (0:Nat)),.d (.cx .f32 (0:Nat) (0:Nat)),.d (.nils)],.box [.d (.sl false (v267.map qat)),.d (.int .i64 v268),.d (.int .u64 v269)],.box [.d (.cx .f32 x75.A.re x75.A.im),.d (.cx .f32 x75.B.re x75.B.im),.d (.cx .f32 x75.C.re x75.C.im),.row 3 v179.length 0 v179.length],.row 8 (v179.map qaj),.box [.d (.int .i64 v270),.d (.cx .f32 v271.re v271.im),.d (.cx .f32 v272.re v272.im),.d (.int .i64 (0:Int)),.d (.cx .f32 (0:Nat) (0:Nat)),.d (.cx .f32 (0:Nat) (0:Nat)),.d (.cx .f32 (0:Nat) (0:Nat)),.d (.int .i64 (0:Int))]] f18.ntmps 0) (fun (v267,v268,v269,v270,v271,v272)=>qe3 n (qau n x75 x76 m215) v179 v180 v267 v268 v269 v270 v271 v272 = some r) ?_ (fun hk298=>?_)
        · rintro ⟨v267,v268,v269,v270,v271,v272⟩ h
          replace h:qe3 n (qau n x75 x76 m215) v179 v180 v267 v268 v269 v270 v271 v272 = some r:=h
          unfold qe3 at h
          refine qa6 ?_
          refine qa2 ?_
          refine qa0 hτ rfl rfl rfl ?_
          refine qa7 h fun x273 hx273 h=>?_
          refine qab hτ false [1] rfl rfl rfl (qac func56 rfl rfl) rfl rfl (by simp) ⟨trivial,trivial,trivial⟩ (by trivial) (qch n (qb1.mk v267 v268 v269) (3:Int) hx273) ?_
          rintro r0 o0 n0 ⟨rfl,rfl,rfl⟩ -
          refine qa0 hτ rfl rfl rfl ?_
          refine qai hτ rfl rfl rfl ?_
          refine qa4 ?_
          refine qbw (ι:=List Int × Int × Int × Cx × Cx × Cx) (fun (v285,v286,v287,v288,v289,v290)=>St.of [(2,.ptr 0 0),(3,.ptr 1 0),(4,.ptr 2 0),(5,.d (.int .i64 (w64 ((1:Int) + x76.1)))),(6,.d (.int .i64 v180)),(7,.ptr 4 0)] [.box [.d (.cx .f32 (0:Nat) (0:Nat)),.d (.cx .f32 (0:Nat) (0:Nat)),.d (.cx .f32 (0:Nat) (0:Nat)),.d (.nils)],.box [.d (.sl false (v285.map qat)),.d (.int .i64 v286),.d (.int .u64 v287)],.box [.d (.cx .f32 x75.A.re x75.A.im),.d (.cx .f32 x75.B.re x75.B.im),.d (.cx .f32 x75.C.re x75.C.im),.row 3 v179.length 0 v179.length],.row 8 (v179.map qaj),.box [.d (.int .i64 v270),.d (.cx .f32 v271.re v271.im),.d (.cx .f32 v272.re v272.im),.d (.int .i64 x273.1),.d (.cx .f32 v288.re v288.im),.d (.cx .f32 v289.re v289.im),.d (.cx .f32 v290.re v290.im),.d (.int .i64 (0:Int))]] f18.ntmps 0) (fun (v285,v286,v287,v288,v289,v290)=>qdi n (qau n x75 x76 m215) v179 v180 v270 v271 v272 x273 v285 v286 v287 v288 v289 v290 = some r) ?_ (fun hk293=>?_)
          · rintro ⟨v285,v286,v287,v288,v289,v290⟩ h
            replace h:qdi n (qau n x75 x76 m215) v179 v180 v270 v271 v272 x273 v285 v286 v287 v288 v289 v290 = some r:=h
            unfold qdi at h
            refine qa6 ?_
            refine qa2 ?_
            refine qa0 hτ rfl rfl rfl ?_
            refine qa7 h fun x291 hx291 h=>?_
            refine qab hτ false [1] rfl rfl rfl (qac func56 rfl rfl) rfl rfl (by simp) ⟨trivial,trivial,trivial⟩ (by trivial) (qch n (qb1.mk v285 v286 v287) (30:Int) hx291) ?_
            rintro r0 o0 n0 ⟨rfl,rfl,rfl⟩ -
            refine qa0 hτ rfl rfl rfl ?_
            refine qai hτ rfl rfl rfl ?_
            refine qa4 ?_
            refine qa2 ?_
            refine qa0 hτ rfl rfl rfl ?_
            refine qa0 hτ rfl rfl rfl ?_
            refine qa0 hτ rfl rfl rfl ?_
            refine qai hτ rfl rfl rfl ?_
            refine qf8 h fun hg292 h=>?_
            refine ql1 hτ rfl rfl (Eq.trans rfl (or_append (f:=qaj) v179 [(SBus.mk v270 v271 v272 x273.1 (qax.mk v288 v289 v290) x291.1)] rfl)) ⟨⟨rfl,Nat.le_of_ble_eq_true rfl⟩,qd8 _,rfl,rfl,hg292,by decide,(all1 rfl)⟩ ?_
            refine qa0 hτ rfl rfl rfl ?_
            refine qai hτ rfl rfl rfl ?_
            refine qa4 ?_
            refine qa8 (qa3 [0,1,2,3] (l:=[(2,.ptr 0 0),(3,.ptr 1 0),(4,.ptr 2 0),(5,.d (.int .i64 (w64 ((1:Int) + x76.1)))),(6,.d (.int .i64 v180))]) (objs:=[.box [.d (.cx .f32 (0:Nat) (0:Nat)),.d (.cx .f32 (0:Nat) (0:Nat)),.d (.cx .f32 (0:Nat) (0:Nat)),.d (.nils)],.box [.d (.sl false (x291.2.code.map qat)),.d (.int .i64 x291.2.at_),.d (.int .u64 x291.2.seed)],.box [.d (.cx .f32 x75.A.re x75.A.im),.d (.cx .f32 x75.B.re x75.B.im),.d (.cx .f32 x75.C.re x75.C.im),.row 3 ((v179 ++ [(SBus.mk v270 v271 v272 x273.1 (qax.mk v288 v289 v290) x291.1)]).length) 0 ((v179 ++ [(SBus.mk v270 v271 v272 x273.1 (qax.mk v288 v289 v290) x291.1)]).length)],.row 8 ((v179 ++ [(SBus.mk v270 v271 v272 x273.1 (qax.mk v288 v289 v290) x291.1)]).map qaj)]) rfl (by simp) rfl (by trivial) ⟨rfl,trivial,rfl,trivial,rfl,trivial,rfl,trivial,rfl,trivial,trivial⟩) ?_
            exact hk251 (x291.2.code,x291.2.at_,x291.2.seed,(v179 ++ [(SBus.mk v270 v271 v272 x273.1 (qax.mk v288 v289 v290) x291.1)])) h
          · refine qa6 ?_
            refine qa6 ?_
            refine qa2 ?_
            refine qa0 hτ rfl rfl rfl ?_
            refine qa7 h fun x294 hx294 h=>?_
            refine qab hτ false [1] rfl rfl rfl (qac func70 rfl rfl) rfl rfl (by simp) ⟨trivial,trivial,trivial⟩ (by trivial) (qkb n x273.2 (3:Int) hx294) ?_
            rintro r0 o0 n0 ⟨rfl,rfl,rfl⟩ -
            refine qa0 hτ rfl rfl rfl ?_
            refine qa4 ?_
            refine qa8 (qa3 [0,1,2,3,4] (l:=[(2,.ptr 0 0),(3,.ptr 1 0),(4,.ptr 2 0),(5,.d (.int .i64 (w64 ((1:Int) + x76.1)))),(6,.d (.int .i64 v180)),(7,.ptr 4 0),(61,.d (.bool (!x294.1)))]) (objs:=[.box [.d (.cx .f32 (0:Nat) (0:Nat)),.d (.cx .f32 (0:Nat) (0:Nat)),.d (.cx .f32 (0:Nat) (0:Nat)),.d (.nils)],.box [.d (.sl false (x294.2.code.map qat)),.d (.int .i64 x294.2.at_),.d (.int .u64 x294.2.seed)],.box [.d (.cx .f32 x75.A.re x75.A.im),.d (.cx .f32 x75.B.re x75.B.im),.d (.cx .f32 x75.C.re x75.C.im),.row 3 v179.length 0 v179.length],.row 8 (v179.map qaj),.box [.d (.int .i64 v270),.d (.cx .f32 v271.re v271.im),.d (.cx .f32 v272.re v272.im),.d (.int .i64 x273.1),.d (.cx .f32 (0:Nat) (0:Nat)),.d (.cx .f32 (0:Nat) (0:Nat)),.d (.cx .f32 (0:Nat) (0:Nat)),.d (.int .i64 (0:Int))]]) rfl (by simp) rfl (by trivial) ⟨rfl,trivial,rfl,trivial,rfl,trivial,rfl,trivial,rfl,trivial,rfl,trivial,rfl,trivial,trivial⟩) ?_
            refine qar rfl (fun hc295=>?_) (fun hc295=>?_)
            · have hc295:=qjc hc295
              have h:=qck h hc295
              refine qa6 ?_
              refine qa2 ?_
              refine qa0 hτ rfl rfl rfl ?_
              refine qa7 h fun x296 hx296 h=>?_
              refine qab hτ false [1] rfl rfl rfl (qac func71 rfl rfl) rfl rfl (by simp) ⟨trivial,trivial⟩ (by trivial) (spec_r8Load_ok n x294.2 hx296) ?_
              rintro r0 o0 n0 ⟨rfl,rfl,rfl⟩ -
              refine qa0 hτ rfl rfl rfl ?_
              refine qai hτ rfl rfl rfl ?_
              refine qa4 ?_
              refine qa6 ?_
              refine qa2 ?_
              refine qa0 hτ rfl rfl rfl ?_
              refine qa0 hτ rfl rfl rfl ?_
              refine qa0 hτ (v:=.d (.bool (decide (x273.1 = (2:Int))))) rfl rfl (qgz _ _) ?_
              refine qa4 ?_
              refine qa8 (qa3 [0,1,2,3,4] (l:=[(2,.ptr 0 0),(3,.ptr 1 0),(4,.ptr 2 0),(5,.d (.int .i64 (w64 ((1:Int) + x76.1)))),(6,.d (.int .i64 v180)),(7,.ptr 4 0),(67,.d (.bool (decide (x273.1 = (2:Int)))))]) (objs:=[.box [.d (.cx .f32 (0:Nat) (0:Nat)),.d (.cx .f32 (0:Nat) (0:Nat)),.d (.cx .f32 (0:Nat) (0:Nat)),.d (.nils)],.box [.d (.sl false (x296.2.code.map qat)),.d (.int .i64 x296.2.at_),.d (.int .u64 x296.2.seed)],.box [.d (.cx .f32 x75.A.re x75.A.im),.d (.cx .f32 x75.B.re x75.B.im),.d (.cx .f32 x75.C.re x75.C.im),.row 3 v179.length 0 v179.length],.row 8 (v179.map qaj),.box [.d (.int .i64 v270),.d (.cx .f32 v271.re v271.im),.d (.cx .f32 v272.re v272.im),.d (.int .i64 x273.1),.d (.cx .f32 x296.1.A.re x296.1.A.im),.d (.cx .f32 x296.1.B.re x296.1.B.im),.d (.cx .f32 x296.1.C.re x296.1.C.im),.d (.int .i64 (0:Int))]]) rfl (by simp) rfl (by trivial) ⟨rfl,trivial,rfl,trivial,rfl,trivial,rfl,trivial,rfl,trivial,rfl,trivial,rfl,trivial,trivial⟩) ?_
              refine qar rfl (fun hc297=>?_) (fun hc297=>?_)
              · have h:=if_t h hc297
                refine qa2 ?_
                refine qa0 hτ rfl rfl rfl ?_
                refine qa0 hτ rfl rfl rfl ?_
                refine qai hτ rfl rfl rfl ?_
                refine qa4 ?_
                refine qa8 (qa3 [0,1,2,3,4] (l:=[(2,.ptr 0 0),(3,.ptr 1 0),(4,.ptr 2 0),(5,.d (.int .i64 (w64 ((1:Int) + x76.1)))),(6,.d (.int .i64 v180)),(7,.ptr 4 0)]) (objs:=[.box [.d (.cx .f32 (0:Nat) (0:Nat)),.d (.cx .f32 (0:Nat) (0:Nat)),.d (.cx .f32 (0:Nat) (0:Nat)),.d (.nils)],.box [.d (.sl false (x296.2.code.map qat)),.d (.int .i64 x296.2.at_),.d (.int .u64 x296.2.seed)],.box [.d (.cx .f32 x75.A.re x75.A.im),.d (.cx .f32 x75.B.re x75.B.im),.d (.cx .f32 x75.C.re x75.C.im),.row 3 v179.length 0 v179.length],.row 8 (v179.map qaj),.box [.d (.int .i64 v270),.d (.cx .f32 v271.re v271.im),.d (.cx .f32 v272.re v272.im),.d (.int .i64 x273.1),.d (.cx .f32 (1090519040:Nat) (0:Nat)),.d (.cx .f32 (1090519040:Nat) (1082130432:Nat)),.d (.cx .f32 (1098907648:Nat) (1073741824:Nat)),.d (.int .i64 (0:Int))]]) rfl (by simp) rfl (by trivial) ⟨rfl,trivial,rfl,trivial,rfl,trivial,rfl,trivial,rfl,trivial,rfl,trivial,trivial⟩) ?_
                exact hk293 (x296.2.code,x296.2.at_,x296.2.seed,(Cx.mk (1090519040:Nat) (0:Nat)),(Cx.mk (1090519040:Nat) (1082130432:Nat)),(Cx.mk (1098907648:Nat) (1073741824:Nat))) h
              · have h:=if_f h hc297
                refine qb9 ?_
                refine qa8 (qa3 [0,1,2,3,4] (l:=[(2,.ptr 0 0),(3,.ptr 1 0),(4,.ptr 2 0),(5,.d (.int .i64 (w64 ((1:Int) + x76.1)))),(6,.d (.int .i64 v180)),(7,.ptr 4 0)]) (objs:=[.box [.d (.cx .f32 (0:Nat) (0:Nat)),.d (.cx .f32 (0:Nat) (0:Nat)),.d (.cx .f32 (0:Nat) (0:Nat)),.d (.nils)],.box [.d (.sl false (x296.2.code.map qat)),.d (.int .i64 x296.2.at_),.d (.int .u64 x296.2.seed)],.box [.d (.cx .f32 x75.A.re x75.A.im),.d (.cx .f32 x75.B.re x75.B.im),.d (.cx .f32 x75.C.re x75.C.im),.row 3 v179.length 0 v179.length],.row 8 (v179.map qaj),.box [.d (.int .i64 v270),.d (.cx .f32 v271.re v271.im),.d (.cx .f32 v272.re v272.im),.d (.int .i64 x273.1),.d (.cx .f32 x296.1.A.re x296.1.A.im),.d (.cx .f32 x296.1.B.re x296.1.B.im),.d (.cx .f32 x296.1.C.re x296.1.C.im),.d (.int .i64 (0:Int))]]) rfl (by simp) rfl (by trivial) ⟨rfl,trivial,rfl,trivial,rfl,trivial,rfl,trivial,rfl,trivial,rfl,trivial,trivial⟩) ?_
                exact hk293 (x296.2.code,x296.2.at_,x296.2.seed,x296.1.A,x296.1.B,x296.1.C) h
            · have hc295:=qjb hc295
              have h:=qcl h hc295
              refine qb9 ?_
              refine qa8 (qa3 [0,1,2,3,4] (l:=[(2,.ptr 0 0),(3,.ptr 1 0),(4,.ptr 2 0),(5,.d (.int .i64 (w64 ((1:Int) + x76.1)))),(6,.d (.int .i64 v180)),(7,.ptr 4 0)]) (objs:=[.box [.d (.cx .f32 (0:Nat) (0:Nat)),.d (.cx .f32 (0:Nat) (0:Nat)),.d (.cx .f32 (0:Nat) (0:Nat)),.d (.nils)],.box [.d (.sl false (x294.2.code.map qat)),.d (.int .i64 x294.2.at_),.d (.int .u64 x294.2.seed)],.box [.d (.cx .f32 x75.A.re x75.A.im),.d (.cx .f32 x75.B.re x75.B.im),.d (.cx .f32 x75.C.re x75.C.im),.row 3 v179.length 0 v179.length],.row 8 (v179.map qaj),.box [.d (.int .i64 v270),.d (.cx .f32 v271.re v271.im),.d (.cx .f32 v272.re v272.im),.d (.int .i64 x273.1),.d (.cx .f32 (0:Nat) (0:Nat)),.d (.cx .f32 (0:Nat) (0:Nat)),.d (.cx .f32 (0:Nat) (0:Nat)),.d (.int .i64 (0:Int))]]) rfl (by simp) rfl (by trivial) ⟨rfl,trivial,rfl,trivial,rfl,trivial,rfl,trivial,rfl,trivial,rfl,trivial,trivial⟩) ?_
              exact hk293 (x294.2.code,x294.2.at_,x294.2.seed,(Cx.mk (0:Nat) (0:Nat)),(Cx.mk (0:Nat) (0:Nat)),(Cx.mk (0:Nat) (0:Nat))) h
        · refine qa6 ?_
          refine qa6 ?_
          refine qa8 (qa3 [0,1,2,3,4] (l:=[(2,.ptr 0 0),(3,.ptr 1 0),(4,.ptr 2 0),(5,.d (.int .i64 (w64 ((1:Int) + x76.1)))),(6,.d (.int .i64 v180)),(7,.ptr 4 0)]) (objs:=[.box [.d (.cx .f32 (0:Nat) (0:Nat)),.d (.cx .f32 (0:Nat) (0:Nat)),.d (.cx .f32 (0:Nat) (0:Nat)),.d (.nils)],.box [.d (.sl false (v176.map qat)),.d (.int .i64 v177),.d (.int .u64 v178)],.box [.d (.cx .f32 x75.A.re x75.A.im),.d (.cx .f32 x75.B.re x75.B.im),.d (.cx .f32 x75.C.re x75.C.im),.row 3 v179.length 0 v179.length],.row 8 (v179.map qaj),.box [.d (.int .i64 (w64 (v180 - (1:Int)))),.d (.cx .f32 (0:Nat) (0:Nat)),.d (.cx .f32 (0:Nat) (0:Nat)),.d (.int .i64 (0:Int)),.d (.cx .f32 (0:Nat) (0:Nat)),.d (.cx .f32 (0:Nat) (0:Nat)),.d (.cx .f32 (0:Nat) (0:Nat)),.d (.int .i64 (0:Int))]]) rfl (by simp) rfl (by trivial) ⟨rfl,trivial,rfl,trivial,rfl,trivial,rfl,trivial,rfl,trivial,rfl,trivial,trivial⟩) ?_
          refine qa2 ?_
          refine qa0 hτ rfl rfl rfl ?_
          refine qa0 hτ rfl rfl rfl ?_
          refine qa4 ?_
          refine qar rfl (fun hc299=>?_) (fun hc299=>?_)
          · have h:=if_t h hc299
            refine qbw (ι:=List Int × Int × Int × Int) (fun (v306,v307,v308,v309)=>St.of [(2,.ptr 0 0),(3,.ptr 1 0),(4,.ptr 2 0),(5,.d (.int .i64 (w64 ((1:Int) + x76.1)))),(6,.d (.int .i64 v180)),(7,.ptr 4 0)] [.box [.d (.cx .f32 (0:Nat) (0:Nat)),.d (.cx .f32 (0:Nat) (0:Nat)),.d (.cx .f32 (0:Nat) (0:Nat)),.d (.nils)],.box [.d (.sl false (v306.map qat)),.d (.int .i64 v307),.d (.int .u64 v308)],.box [.d (.cx .f32 x75.A.re x75.A.im),.d (.cx .f32 x75.B.re x75.B.im),.d (.cx .f32 x75.C.re x75.C.im),.row 3 v179.length 0 v179.length],.row 8 (v179.map qaj),.box [.d (.int .i64 v309),.d (.cx .f32 (0:Nat) (0:Nat)),.d (.cx .f32 (0:Nat) (0:Nat)),.d (.int .i64 (0:Int)),.d (.cx .f32 (0:Nat) (0:Nat)),.d (.cx .f32 (0:Nat) (0:Nat)),.d (.cx .f32 (0:Nat) (0:Nat)),.d (.int .i64 (0:Int))]] f18.ntmps 0) (fun (v306,v307,v308,v309)=>qe4 n (qau n x75 x76 m215) v179 v180 v306 v307 v308 v309 = some r) ?_ (fun hk313=>?_)
            · rintro ⟨v306,v307,v308,v309⟩ h
              replace h:qe4 n (qau n x75 x76 m215) v179 v180 v306 v307 v308 v309 = some r:=h
              unfold qe4 at h
              refine qa6 ?_
              refine qa2 ?_
              refine qa0 hτ rfl rfl rfl ?_
              refine qa7 h fun x310 hx310 h=>?_
              refine qab hτ false [1] rfl rfl rfl (qac func56 rfl rfl) rfl rfl (by simp) ⟨trivial,trivial,trivial⟩ (by trivial) (qch n (qb1.mk v306 v307 v308) (4:Int) hx310) ?_
              rintro r0 o0 n0 ⟨rfl,rfl,rfl⟩ -
              refine qa0 hτ rfl rfl rfl ?_
              refine qa0 hτ rfl rfl rfl ?_
              refine qa0 hτ rfl rfl rfl ?_
              refine qa0 hτ rfl rfl rfl ?_
              refine qa4 ?_
              refine qa6 ?_
              refine qa8 (qa3 [0,1,2,3,4] (l:=[(2,.ptr 0 0),(3,.ptr 1 0),(4,.ptr 2 0),(5,.d (.int .i64 (w64 ((1:Int) + x76.1)))),(6,.d (.int .i64 v180)),(7,.ptr 4 0),(8,.d (.fl .f32 (qa1 .quo .f32 (FloatKind.nearest .f32 (w64 ((1:Int) + x310.1))) (1098907648:Nat))))]) (objs:=[.box [.d (.cx .f32 (0:Nat) (0:Nat)),.d (.cx .f32 (0:Nat) (0:Nat)),.d (.cx .f32 (0:Nat) (0:Nat)),.d (.nils)],.box [.d (.sl false (x310.2.code.map qat)),.d (.int .i64 x310.2.at_),.d (.int .u64 x310.2.seed)],.box [.d (.cx .f32 x75.A.re x75.A.im),.d (.cx .f32 x75.B.re x75.B.im),.d (.cx .f32 x75.C.re x75.C.im),.row 3 v179.length 0 v179.length],.row 8 (v179.map qaj),.box [.d (.int .i64 v309),.d (.cx .f32 (0:Nat) (0:Nat)),.d (.cx .f32 (0:Nat) (0:Nat)),.d (.int .i64 (0:Int)),.d (.cx .f32 (0:Nat) (0:Nat)),.d (.cx .f32 (0:Nat) (0:Nat)),.d (.cx .f32 (0:Nat) (0:Nat)),.d (.int .i64 (0:Int))]]) rfl (by simp) rfl (by trivial) ⟨rfl,trivial,rfl,trivial,rfl,trivial,rfl,trivial,rfl,trivial,rfl,trivial,rfl,trivial,trivial⟩) ?_
              refine qa2 ?_
              refine qa0 hτ rfl rfl rfl ?_
              refine qa0 hτ rfl rfl rfl ?_
              refine qa7 h fun x311 hx311 h=>?_
              refine qab hτ false [1] rfl rfl rfl (qac func56 rfl rfl) rfl rfl (by simp) ⟨trivial,trivial,trivial⟩ (by trivial) (qch n x310.2 (5:Int) hx311) ?_
              rintro r0 o0 n0 ⟨rfl,rfl,rfl⟩ -
              refine qa0 hτ rfl rfl rfl ?_
              refine qa0 hτ rfl rfl rfl ?_
              refine qa0 hτ rfl rfl rfl ?_
              refine qa0 hτ rfl rfl rfl ?_
              refine qai hτ rfl rfl rfl ?_
              refine qa4 ?_
              refine qa8 (qa3 [0,1,2,3,4] (l:=[(2,.ptr 0 0),(3,.ptr 1 0),(4,.ptr 2 0),(5,.d (.int .i64 (w64 ((1:Int) + x76.1)))),(6,.d (.int .i64 v180)),(7,.ptr 4 0)]) (objs:=[.box [.d (.cx .f32 (0:Nat) (0:Nat)),.d (.cx .f32 (0:Nat) (0:Nat)),.d (.cx .f32 (0:Nat) (0:Nat)),.d (.nils)],.box [.d (.sl false (x311.2.code.map qat)),.d (.int .i64 x311.2.at_),.d (.int .u64 x311.2.seed)],.box [.d (.cx .f32 x75.A.re x75.A.im),.d (.cx .f32 x75.B.re x75.B.im),.d (.cx .f32 x75.C.re x75.C.im),.row 3 v179.length 0 v179.length],.row 8 (v179.map qaj),.box [.d (.int .i64 v309),.d (.cx .f32 (qa1 .quo .f32 (FloatKind.nearest .f32 (w64 ((1:Int) + x310.1))) (1098907648:Nat)) (qa1 .quo .f32 (FloatKind.nearest .f32 x311.1) (1098907648:Nat))),.d (.cx .f32 (0:Nat) (0:Nat)),.d (.int .i64 (0:Int)),.d (.cx .f32 (0:Nat) (0:Nat)),.d (.cx .f32 (0:Nat) (0:Nat)),.d (.cx .f32 (0:Nat) (0:Nat)),.d (.int .i64 (0:Int))]]) rfl (by simp) rfl (by trivial) ⟨rfl,trivial,rfl,trivial,rfl,trivial,rfl,trivial,rfl,trivial,rfl,trivial,trivial⟩) ?_
              refine qa2 ?_
              refine qa0 hτ rfl rfl rfl ?_
              refine qa7 h fun x312 hx312 h=>?_
              refine qab hτ false [1] rfl rfl rfl (qac func56 rfl rfl) rfl rfl (by simp) ⟨trivial,trivial,trivial⟩ (by trivial) (qch n x311.2 (3:Int) hx312) ?_
              rintro r0 o0 n0 ⟨rfl,rfl,rfl⟩ -
              refine qa0 hτ rfl rfl rfl ?_
              refine qa0 hτ rfl rfl rfl ?_
              refine qa0 hτ rfl rfl rfl ?_
              refine qa0 hτ rfl rfl rfl ?_
              refine qai hτ rfl rfl rfl ?_
              refine qa4 ?_
              refine qa8 (qa3 [0,1,2,3,4] (l:=[(2,.ptr 0 0),(3,.ptr 1 0),(4,.ptr 2 0),(5,.d (.int .i64 (w64 ((1:Int) + x76.1)))),(6,.d (.int .i64 v180)),(7,.ptr 4 0)]) (objs:=[.box [.d (.cx .f32 (0:Nat) (0:Nat)),.d (.cx .f32 (0:Nat) (0:Nat)),.d (.cx .f32 (0:Nat) (0:Nat)),.d (.nils)],.box [.d (.sl false (x312.2.code.map qat)),.d (.int .i64 x312.2.at_),.d (.int .u64 x312.2.seed)],.box [.d (.cx .f32 x75.A.re x75.A.im),.d (.cx .f32 x75.B.re x75.B.im),.d (.cx .f32 x75.C.re x75.C.im),.row 3 v179.length 0 v179.length],.row 8 (v179.map qaj),.box [.d (.int .i64 v309),.d (.cx .f32 (qa1 .quo .f32 (FloatKind.nearest .f32 (w64 ((1:Int) + x310.1))) (1098907648:Nat)) (qa1 .quo .f32 (FloatKind.nearest .f32 x311.1) (1098907648:Nat))),.d (.cx .f32 (0:Nat) (qa1 .quo .f32 (FloatKind.nearest .f32 x312.1) (1098907648:Nat))),.d (.int .i64 (0:Int)),.d (.cx .f32 (0:Nat) (0:Nat)),.d (.cx .f32 (0:Nat) (0:Nat)),.d (.cx .f32 (0:Nat) (0:Nat)),.d (.int .i64 (0:Int))]]) rfl (by simp) rfl (by trivial) ⟨rfl,trivial,rfl,trivial,rfl,trivial,rfl,trivial,rfl,trivial,rfl,trivial,trivial⟩) ?_
              exact hk298 (x312.2.code,x312.2.at_,x312.2.seed,v309,(Cx.mk (qa1 .quo .f32 (FloatKind.nearest .f32 (w64 ((1:Int) + x310.1))) (1098907648:Nat)) (qa1 .quo .f32 (FloatKind.nearest .f32 x311.1) (1098907648:Nat))),(Cx.mk (0:Nat) (qa1 .quo .f32 (FloatKind.nearest .f32 x312.1) (1098907648:Nat)))) h
            · refine qa6 ?_
              refine qa6 ?_
              refine qa2 ?_
              refine qa0 hτ rfl rfl rfl ?_
              refine qa7 h fun x314 hx314 h=>?_
              refine qab hτ false [1] rfl rfl rfl (qac func70 rfl rfl) rfl rfl (by simp) ⟨trivial,trivial,trivial⟩ (by trivial) (qkb n (qb1.mk v176 v177 v178) (2:Int) hx314) ?_
              rintro r0 o0 n0 ⟨rfl,rfl,rfl⟩ -
              refine qa4 ?_
              refine qar rfl (fun hc315=>?_) (fun hc315=>?_)
              · have h:=qcl h hc315
                refine qa2 ?_
                refine qa0 hτ rfl rfl rfl ?_
                refine qa0 hτ rfl rfl rfl ?_
                refine qa7 h fun x316 hx316 h=>?_
                refine qab hτ false [1] rfl rfl rfl (qac func56 rfl rfl) rfl rfl (by simp) ⟨trivial,trivial,trivial⟩ (by trivial) (qch n x314.2 v180 hx316) ?_
                rintro r0 o0 n0 ⟨rfl,rfl,rfl⟩ -
                refine qa0 hτ rfl rfl rfl ?_
                refine qai hτ rfl rfl rfl ?_
                refine qa4 ?_
                refine qa8 (qa3 [0,1,2,3,4] (l:=[(2,.ptr 0 0),(3,.ptr 1 0),(4,.ptr 2 0),(5,.d (.int .i64 (w64 ((1:Int) + x76.1)))),(6,.d (.int .i64 v180)),(7,.ptr 4 0)]) (objs:=[.box [.d (.cx .f32 (0:Nat) (0:Nat)),.d (.cx .f32 (0:Nat) (0:Nat)),.d (.cx .f32 (0:Nat) (0:Nat)),.d (.nils)],.box [.d (.sl false (x316.2.code.map qat)),.d (.int .i64 x316.2.at_),.d (.int .u64 x316.2.seed)],.box [.d (.cx .f32 x75.A.re x75.A.im),.d (.cx .f32 x75.B.re x75.B.im),.d (.cx .f32 x75.C.re x75.C.im),.row 3 v179.length 0 v179.length],.row 8 (v179.map qaj),.box [.d (.int .i64 x316.1),.d (.cx .f32 (0:Nat) (0:Nat)),.d (.cx .f32 (0:Nat) (0:Nat)),.d (.int .i64 (0:Int)),.d (.cx .f32 (0:Nat) (0:Nat)),.d (.cx .f32 (0:Nat) (0:Nat)),.d (.cx .f32 (0:Nat) (0:Nat)),.d (.int .i64 (0:Int))]]) rfl (by simp) rfl (by trivial) ⟨rfl,trivial,rfl,trivial,rfl,trivial,rfl,trivial,rfl,trivial,rfl,trivial,trivial⟩) ?_
                exact hk313 (x316.2.code,x316.2.at_,x316.2.seed,x316.1) h
              · have h:=qck h hc315
                refine qb9 ?_
                refine qa8 (qa3 [0,1,2,3,4] (l:=[(2,.ptr 0 0),(3,.ptr 1 0),(4,.ptr 2 0),(5,.d (.int .i64 (w64 ((1:Int) + x76.1)))),(6,.d (.int .i64 v180)),(7,.ptr 4 0)]) (objs:=[.box [.d (.cx .f32 (0:Nat) (0:Nat)),.d (.cx .f32 (0:Nat) (0:Nat)),.d (.cx .f32 (0:Nat) (0:Nat)),.d (.nils)],.box [.d (.sl false (x314.2.code.map qat)),.d (.int .i64 x314.2.at_),.d (.int .u64 x314.2.seed)],.box [.d (.cx .f32 x75.A.re x75.A.im),.d (.cx .f32 x75.B.re x75.B.im),.d (.cx .f32 x75.C.re x75.C.im),.row 3 v179.length 0 v179.length],.row 8 (v179.map qaj),.box [.d (.int .i64 (w64 (v180 - (1:Int)))),.d (.cx .f32 (0:Nat) (0:Nat)),.d (.cx .f32 (0:Nat) (0:Nat)),.d (.int .i64 (0:Int)),.d (.cx .f32 (0:Nat) (0:Nat)),.d (.cx .f32 (0:Nat) (0:Nat)),.d (.cx .f32 (0:Nat) (0:Nat)),.d (.int .i64 (0:Int))]]) rfl (by simp) rfl (by trivial) ⟨rfl,trivial,rfl,trivial,rfl,trivial,rfl,trivial,rfl,trivial,rfl,trivial,trivial⟩) ?_
                exact hk313 (x314.2.code,x314.2.at_,x314.2.seed,(w64 (v180 - (1:Int)))) h
          · have h:=if_f h hc299
            refine qb9 ?_
            refine qa8 (qa3 [0,1,2,3,4] (l:=[(2,.ptr 0 0),(3,.ptr 1 0),(4,.ptr 2 0),(5,.d (.int .i64 (w64 ((1:Int) + x76.1)))),(6,.d (.int .i64 v180)),(7,.ptr 4 0)]) (objs:=[.box [.d (.cx .f32 (0:Nat) (0:Nat)),.d (.cx .f32 (0:Nat) (0:Nat)),.d (.cx .f32 (0:Nat) (0:Nat)),.d (.nils)],.box [.d (.sl false (v176.map qat)),.d (.int .i64 v177),.d (.int .u64 v178)],.box [.d (.cx .f32 x75.A.re x75.A.im),.d (.cx .f32 x75.B.re x75.B.im),.d (.cx .f32 x75.C.re x75.C.im),.row 3 v179.length 0 v179.length],.row 8 (v179.map qaj),.box [.d (.int .i64 (w64 (v180 - (1:Int)))),.d (.cx .f32 (0:Nat) (0:Nat)),.d (.cx .f32 (0:Nat) (0:Nat)),.d (.int .i64 (0:Int)),.d (.cx .f32 (0:Nat) (0:Nat)),.d (.cx .f32 (0:Nat) (0:Nat)),.d (.cx .f32 (0:Nat) (0:Nat)),.d (.int .i64 (0:Int))]]) rfl (by simp) rfl (by trivial) ⟨rfl,trivial,rfl,trivial,rfl,trivial,rfl,trivial,rfl,trivial,rfl,trivial,trivial⟩) ?_
            exact hk298 (v176,v177,v178,(w64 (v180 - (1:Int))),(Cx.mk (0:Nat) (0:Nat)),(Cx.mk (0:Nat) (0:Nat))) h
    · have h:=if_f h hc217
      refine qh2 ?_
      refine qa8 (qa3 [0,2,3] (l:=[(2,.ptr 0 0),(4,.ptr 1 0)]) (objs:=[.box [.d (.cx .f32 (0:Nat) (0:Nat)),.d (.cx .f32 (0:Nat) (0:Nat)),.d (.cx .f32 (0:Nat) (0:Nat)),.d (.nils)],.box [.d (.cx .f32 x75.A.re x75.A.im),.d (.cx .f32 x75.B.re x75.B.im),.d (.cx .f32 x75.C.re x75.C.im),.row 2 v179.length 0 v179.length],.row 8 (v179.map qaj)]) rfl (by simp) rfl (by trivial) ⟨rfl,trivial,rfl,trivial,trivial⟩) ?_
      exact hk146 v179 h
theorem spec_R8Feeder_ok (n:Nat) (code_:List Int) {r:qan} (h:qgc n code_ = some r):qaq prog false 18 [.d (.sl false (code_.map qat))] [] (fun v o new=>v = .agg [.d (.cx .f32 r.Source.A.re r.Source.A.im),.d (.cx .f32 r.Source.B.re r.Source.B.im),.d (.cx .f32 r.Source.C.re r.Source.C.im),.row 0 r.qad.length 0 r.qad.length]∧o = []∧new = [.row 8 (r.qad.map qaj)]):=spec_R8Feeder_ok_fr0 false n code_ h
def qhw (n:Nat) (code_:List Int) (k_:Int) (n_:Int):Option Int :=
  (getI code_ k_).bind fun x7 =>
  grd (n_ ≠ 0) <|
  some ((w64 (x7)).tmod n_)
def qg4 (n:Nat) (code_:List Int) (k_:Int) (n_:Int) (v12:Bool):Option Int :=
  if v12 = true then
    some (0:Int)
  else
    qhw n code_ k_ n_
def qh9 (n:Nat) (code_:List Int) (k_:Int) (n_:Int):Option Int :=
  if n_ ≤ (1:Int) then
    qg4 n code_ k_ n_ true
  else
    qg4 n code_ k_ n_ (decide (k_ ≥ (code_.length:Int)))
theorem laws_r8At_ok_fr0 (fr:Bool) (n:Nat) (code_:List Int) (k_:Int) (n_:Int) {r:Int} (h:qh9 n code_ k_ n_ = some r):qaq prog fr 19 [.d (.sl false (code_.map qat)),.d (.int .i64 k_),.d (.int .i64 n_)] [] (fun v o new=>v = .d (.int .i64 r)∧o = []∧new = []):=by
  refine qaf hτ func19 rfl (by simp) (by simp) ?_
  unfold qh9 at h
  refine qa6 ?_
  refine qa2 ?_
  refine qa0 hτ rfl rfl rfl ?_
  refine qa4 ?_
  refine qbw (ι:=Unit) (fun _=>St.of [(0,.d (.sl false (code_.map qat))),(1,.d (.int .i64 k_)),(2,.d (.int .i64 n_))] [] f19.ntmps 0) (fun _=>qhw n code_ k_ n_ = some r) ?_ (fun hk9=>?_)
  · rintro ⟨⟩ h
    replace h:qhw n code_ k_ n_ = some r:=h
    unfold qhw at h
    refine qa6 ?_
    refine qa2 ?_
    refine qa0 hτ rfl rfl rfl ?_
    refine qa0 hτ rfl rfl rfl ?_
    refine qa7 h fun x7 hx7 h=>?_
    refine qf7 hτ rfl rfl rfl (qd2 hx7).1 (qdv hx7) rfl ?_
    refine qa0 hτ rfl rfl rfl ?_
    refine qa0 hτ rfl rfl rfl ?_
    refine qa0 hτ rfl rfl rfl ?_
    refine qf8 h fun hg8 h=>?_
    refine qfl hτ rfl rfl rfl hg8 ?_
    refine qa0 hτ rfl rfl rfl ?_
    refine qa4 ?_
    refine qa8 (qa3 [] (l:=[(6,.d (.int .i64 ((w64 (x7)).tmod n_)))]) (objs:=[]) rfl (by simp) rfl (by trivial) ⟨rfl,trivial,trivial⟩) ?_
    refine qal ?_
    have hr:=Option.some.inj h
    subst hr
    exact qae (.inr rfl) [] (objs':=[]) (new:=[]) rfl (by simp) (by simp) rfl (by trivial) rfl rfl (by trivial) (fun _=>⟨by simp [V.flat,V.qb7,V.qb5,D.flat],qag⟩) ⟨rfl,rfl,rfl⟩
  · refine qa6 ?_
    refine qbw (ι:=Bool) (fun v12=>St.of [(0,.d (.sl false (code_.map qat))),(1,.d (.int .i64 k_)),(2,.d (.int .i64 n_)),(14,.d (.bool v12))] [] f19.ntmps 0) (fun v12=>qg4 n code_ k_ n_ v12 = some r) ?_ (fun hk14=>?_)
    · rintro v12 h
      replace h:qg4 n code_ k_ n_ v12 = some r:=h
      unfold qg4 at h
      refine qar rfl (fun hc13=>?_) (fun hc13=>?_)
      · have h:=qcl h hc13
        refine qa6 ?_
        refine qa2 ?_
        refine qa0 hτ rfl rfl rfl ?_
        refine qa4 ?_
        refine qa8 (qa3 [] (l:=[(6,.d (.int .i64 (0:Int)))]) (objs:=[]) rfl (by simp) rfl (by trivial) ⟨rfl,trivial,trivial⟩) ?_
        refine qal ?_
        have hr:=Option.some.inj h
        subst hr
        exact qae (.inr rfl) [] (objs':=[]) (new:=[]) rfl (by simp) (by simp) rfl (by trivial) rfl rfl (by trivial) (fun _=>⟨by simp [V.flat,V.qb7,V.qb5,D.flat],qag⟩) ⟨rfl,rfl,rfl⟩
      · have h:=qck h hc13
        refine qb9 ?_
        refine qa8 (qa3 [] (l:=[(0,.d (.sl false (code_.map qat))),(1,.d (.int .i64 k_)),(2,.d (.int .i64 n_))]) (objs:=[]) rfl (by simp) rfl (by trivial) ⟨rfl,trivial,rfl,trivial,rfl,trivial,trivial⟩) ?_
        exact hk9 () h
    · refine qa6 ?_
      refine qa2 ?_
      refine qa0 hτ rfl rfl rfl ?_
      refine qa0 hτ rfl rfl rfl ?_
      refine qa0 hτ rfl rfl rfl ?_
      refine qbr 9 rfl (fun hb15=>?_) (fun hb15=>?_)
      · have h:=if_t h hb15
        refine qaa rfl rfl ?_
        refine qaa rfl rfl ?_
        refine qaa rfl rfl ?_
        refine qaa rfl rfl ?_
        refine qa0 hτ rfl rfl rfl ?_
        refine qa4 ?_
        refine qa8 (qa3 [] (l:=[(0,.d (.sl false (code_.map qat))),(1,.d (.int .i64 k_)),(2,.d (.int .i64 n_)),(14,.d (.bool true))]) (objs:=[]) rfl (by simp) rfl (by trivial) ⟨rfl,trivial,rfl,trivial,rfl,trivial,rfl,trivial,trivial⟩) ?_
        exact hk14 true h
      · have h:=if_f h hb15
        refine qa0 hτ rfl rfl rfl ?_
        refine qa0 hτ rfl rfl rfl ?_
        refine qa0 hτ (v:=.d (.int .i64 (code_.length:Int))) rfl rfl (Eq.trans rfl (qjj (f:=qat) code_)) ?_
        refine qa0 hτ rfl rfl rfl ?_
        refine qa0 hτ rfl rfl rfl ?_
        refine qa4 ?_
        refine qa8 (qa3 [] (l:=[(0,.d (.sl false (code_.map qat))),(1,.d (.int .i64 k_)),(2,.d (.int .i64 n_)),(14,.d (.bool (decide (k_ ≥ (code_.length:Int)))))]) (objs:=[]) rfl (by simp) rfl (by trivial) ⟨rfl,trivial,rfl,trivial,rfl,trivial,rfl,trivial,trivial⟩) ?_
        exact hk14 (decide (k_ ≥ (code_.length:Int))) h
theorem ql6 (n:Nat) (code_:List Int) (k_:Int) (n_:Int) {r:Int} (h:qh9 n code_ k_ n_ = some r):qaq prog false 19 [.d (.sl false (code_.map qat)),.d (.int .i64 k_),.d (.int .i64 n_)] [] (fun v o new=>v = .d (.int .i64 r)∧o = []∧new = []):=laws_r8At_ok_fr0 false n code_ k_ n_ h
def qh7 (n:Nat) (n_:Int) (low_:Int) (high_:Int):Option Bool :=
  if n_ ≥ low_ then
    some (decide (n_ ≤ high_))
  else
    some false
theorem impl_in_ok_fr0 (fr:Bool) (n:Nat) (n_:Int) (low_:Int) (high_:Int) {r:Bool} (h:qh7 n n_ low_ high_ = some r):qaq prog fr 58 [.d (.int .i64 n_),.d (.int .i64 low_),.d (.int .i64 high_)] [] (fun v o new=>v = .d (.bool r)∧o = []∧new = []):=by
  refine qaf hτ func58 rfl (by simp) (by simp) ?_
  unfold qh7 at h
  refine qa6 ?_
  refine qa2 ?_
  refine qa0 hτ rfl rfl rfl ?_
  refine qa4 ?_
  refine qa6 ?_
  refine qa2 ?_
  refine qa0 hτ rfl rfl rfl ?_
  refine qa0 hτ rfl rfl rfl ?_
  refine qa0 hτ rfl rfl rfl ?_
  refine qa0 hτ rfl rfl rfl ?_
  refine qbr 10 rfl (fun hb3=>?_) (fun hb3=>?_)
  · have h:=if_t h hb3
    refine qa0 hτ rfl rfl rfl ?_
    refine qa0 hτ rfl rfl rfl ?_
    refine qa0 hτ rfl rfl rfl ?_
    refine qa0 hτ rfl rfl rfl ?_
    refine qa0 hτ rfl rfl rfl ?_
    refine qa4 ?_
    refine qa8 (qa3 [] (l:=[(6,.d (.bool (decide (n_ ≤ high_))))]) (objs:=[]) rfl (by simp) rfl (by trivial) ⟨rfl,trivial,trivial⟩) ?_
    refine qal ?_
    have hr:=Option.some.inj h
    subst hr
    exact qae (.inr rfl) [] (objs':=[]) (new:=[]) rfl (by simp) (by simp) rfl (by trivial) rfl rfl (by trivial) (fun _=>⟨by simp [V.flat,V.qb7,V.qb5,D.flat],qag⟩) ⟨rfl,rfl,rfl⟩
  · have h:=if_f h hb3
    refine qaa rfl rfl ?_
    refine qaa rfl rfl ?_
    refine qaa rfl rfl ?_
    refine qa0 hτ rfl rfl rfl ?_
    refine qa0 hτ rfl rfl rfl ?_
    refine qa4 ?_
    refine qa8 (qa3 [] (l:=[(6,.d (.bool false))]) (objs:=[]) rfl (by simp) rfl (by trivial) ⟨rfl,trivial,trivial⟩) ?_
    refine qal ?_
    have hr:=Option.some.inj h
    subst hr
    exact qae (.inr rfl) [] (objs':=[]) (new:=[]) rfl (by simp) (by simp) rfl (by trivial) rfl rfl (by trivial) (fun _=>⟨by simp [V.flat,V.qb7,V.qb5,D.flat],qag⟩) ⟨rfl,rfl,rfl⟩
theorem qjo (n:Nat) (n_:Int) (low_:Int) (high_:Int) {r:Bool} (h:qh7 n n_ low_ high_ = some r):qaq prog false 58 [.d (.int .i64 n_),.d (.int .i64 low_),.d (.int .i64 high_)] [] (fun v o new=>v = .d (.bool r)∧o = []∧new = []):=impl_in_ok_fr0 false n n_ low_ high_ h
def qik (n:Nat) (kind_:Int):Option Bool :=
  (qh7 n kind_ (0:Int) (2:Int)).bind fun x2 =>
  some x2
theorem impl_kindOk_ok_fr0 (fr:Bool) (n:Nat) (kind_:Int) {r:Bool} (h:qik n kind_ = some r):qaq prog fr 67 [.d (.int .i64 kind_)] [] (fun v o new=>v = .d (.bool r)∧o = []∧new = []):=by
  refine qaf hτ func67 rfl (by simp) (by simp) ?_
  unfold qik at h
  refine qa6 ?_
  refine qa2 ?_
  refine qa0 hτ rfl rfl rfl ?_
  refine qa4 ?_
  refine qa6 ?_
  refine qa2 ?_
  refine qa0 hτ rfl rfl rfl ?_
  refine qa7 h fun x2 hx2 h=>?_
  refine qab hτ false [] rfl rfl rfl (qac func58 rfl rfl) rfl rfl (by simp) ⟨trivial,trivial,trivial,trivial⟩ (by trivial) (qjo n kind_ (0:Int) (2:Int) hx2) ?_
  rintro r0 o0 n0 ⟨rfl,rfl,rfl⟩ -
  refine qa0 hτ rfl rfl rfl ?_
  refine qa4 ?_
  refine qa8 (qa3 [] (l:=[(2,.d (.bool x2))]) (objs:=[]) rfl (by simp) rfl (by trivial) ⟨rfl,trivial,trivial⟩) ?_
  refine qal ?_
  have hr:=Option.some.inj h
  subst hr
  exact qae (.inr rfl) [] (objs':=[]) (new:=[]) rfl (by simp) (by simp) rfl (by trivial) rfl rfl (by trivial) (fun _=>⟨by simp [V.flat,V.qb7,V.qb5,D.flat],qag⟩) ⟨rfl,rfl,rfl⟩
theorem impl_kindOk_ok (n:Nat) (kind_:Int) {r:Bool} (h:qik n kind_ = some r):qaq prog false 67 [.d (.int .i64 kind_)] [] (fun v o new=>v = .d (.bool r)∧o = []∧new = []):=impl_kindOk_ok_fr0 false n kind_ h
def qeo (n:Nat) (f_:qan):Option Bool :=
  (qh7 n (f_.qad.length:Int) (1:Int) (16:Int)).bind fun x58 =>
  some x58
def qdq (n:Nat) (k89:Int→Option Bool) (v73:Int):Option Bool :=
  k89 (w64 (v73 + (1:Int)))
def qd9 (n:Nat) (k89:Int→Option Bool) (v73:Int) (v122:Bool):Option Bool :=
  if v122 = true then
    some false
  else
    qdq n k89 v73
def qce (n:Nat) (k89:Int→Option Bool) (v73:Int) (x105:SBus) (v117:Bool):Option Bool :=
  if v117 = true then
    some false
  else
    if v73 > (0:Int) then
      (qh7 n x105.qd1 (0:Int) (w64 (v73 - (1:Int)))).bind fun x126 =>
      qd9 n k89 v73 (!x126)
    else
      qd9 n k89 v73 false
def qdr (n:Nat) (k89:Int→Option Bool) (v73:Int) (x105:SBus) (v110:Bool):Option Bool :=
  if v110 = true then
    some false
  else
    if v73 = (0:Int) then
      if x105.qd1 = (-1:Int) then
        if (fcmp .eql .f32 x105.Own.re (0:Nat) && fcmp .eql .f32 x105.Own.im (0:Nat)) = true then
          qce n k89 v73 x105 (!(fcmp .eql .f32 x105.Shared.re (0:Nat) && fcmp .eql .f32 x105.Shared.im (0:Nat)))
        else
          qce n k89 v73 x105 true
      else
        qce n k89 v73 x105 true
    else
      qce n k89 v73 x105 false
def qaw (n:Nat) (f_:qan):Nat→Int→Option Bool
  | 0,_=>none
  | m88 + 1,v73 =>
    if v73 < (f_.qad.length:Int) then
      (getI f_.qad v73).bind fun x105 =>
      (qik n x105.Kind).bind fun x132 =>
      if x132 = true then
        (qh7 n x105.qbb (0:Int) (1000000:Int)).bind fun x134 =>
        qdr n (qaw n f_ m88) v73 x105 (!x134)
      else
        qdr n (qaw n f_ m88) v73 x105 true
    else
      qeo n f_
def qez (n:Nat) (f_:qan):Option Bool :=
  qaw n f_ n (0:Int)
theorem impl_ValidFeeder_ok_fr0 (fr:Bool) (n:Nat) (f_:qan) {r:Bool} (h:qez n f_ = some r):qaq prog fr 13 [.agg [.d (.cx .f32 f_.Source.A.re f_.Source.A.im),.d (.cx .f32 f_.Source.B.re f_.Source.B.im),.d (.cx .f32 f_.Source.C.re f_.Source.C.im),.d (.sl false (f_.qad.map qaj))]] [] (fun v o new=>v = .d (.bool r)∧o = []∧new = []):=by
  refine qaf hτ func13 rfl (by simp) (by simp) ?_
  unfold qez at h
  refine qa6 ?_
  refine qa2 ?_
  refine qai hτ rfl rfl rfl ?_
  refine qa0 hτ rfl rfl rfl ?_
  refine qa4 ?_
  refine qbw (ι:=Unit) (fun _=>St.of [(1,.ptr 0 0)] [.box [.d (.cx .f32 f_.Source.A.re f_.Source.A.im),.d (.cx .f32 f_.Source.B.re f_.Source.B.im),.d (.cx .f32 f_.Source.C.re f_.Source.C.im),.d (.sl false (f_.qad.map qaj))]] f13.ntmps 0) (fun _=>qeo n f_ = some r) ?_ (fun hk59=>?_)
  · rintro ⟨⟩ h
    replace h:qeo n f_ = some r:=h
    unfold qeo at h
    refine qa6 ?_
    refine qa2 ?_
    refine qa0 hτ rfl rfl rfl ?_
    refine qa0 hτ rfl rfl rfl ?_
    refine qa0 hτ (v:=.d (.int .i64 (f_.qad.length:Int))) rfl rfl (Eq.trans rfl (qjj (f:=qaj) f_.qad)) ?_
    refine qa7 h fun x58 hx58 h=>?_
    refine qab hτ false [] rfl rfl rfl (qac func58 rfl rfl) rfl rfl (by simp) ⟨trivial,trivial,trivial,trivial⟩ (by trivial) (qjo n (f_.qad.length:Int) (1:Int) (16:Int) hx58) ?_
    rintro r0 o0 n0 ⟨rfl,rfl,rfl⟩ -
    refine qa0 hτ rfl rfl rfl ?_
    refine qa4 ?_
    refine qa8 (qa3 [] (l:=[(2,.d (.bool x58))]) (objs:=[]) rfl (by simp) rfl (by trivial) ⟨rfl,trivial,trivial⟩) ?_
    refine qal ?_
    have hr:=Option.some.inj h
    subst hr
    exact qae (.inr rfl) [] (objs':=[]) (new:=[]) rfl (by simp) (by simp) rfl (by trivial) rfl rfl (by trivial) (fun _=>⟨by simp [V.flat,V.qb7,V.qb5,D.flat],qag⟩) ⟨rfl,rfl,rfl⟩
  · refine qa6 ?_
    refine qa6 ?_
    refine qa2 ?_
    refine qa0 hτ rfl rfl rfl ?_
    refine qa0 hτ rfl rfl rfl ?_
    refine qa0 hτ (v:=.d (.int .i64 (f_.qad.length:Int))) rfl rfl (Eq.trans rfl (qjj (f:=qaj) f_.qad)) ?_
    refine qa0 hτ rfl rfl rfl ?_
    refine qa4 ?_
    refine qbo ?_
    refine qh3 (ι:=Nat × Int) (fun (m88,v73)=>St.of [(1,.ptr 0 0),(6,.d (.sl false (f_.qad.map qaj))),(7,.d (.int .i64 (f_.qad.length:Int))),(8,.d (.int .i64 v73))] [.box [.d (.cx .f32 f_.Source.A.re f_.Source.A.im),.d (.cx .f32 f_.Source.B.re f_.Source.B.im),.d (.cx .f32 f_.Source.C.re f_.Source.C.im),.d (.sl false (f_.qad.map qaj))]] f13.ntmps 0) (fun (m88,v73)=>qaw n f_ m88 v73 = some r) (fun x=>x.1) (n,(0:Int)) h (qa3 [0] (l:=[(1,.ptr 0 0),(6,.d (.sl false (f_.qad.map qaj))),(7,.d (.int .i64 (f_.qad.length:Int))),(8,.d (.int .i64 (0:Int)))]) (objs:=[.box [.d (.cx .f32 f_.Source.A.re f_.Source.A.im),.d (.cx .f32 f_.Source.B.re f_.Source.B.im),.d (.cx .f32 f_.Source.C.re f_.Source.C.im),.d (.sl false (f_.qad.map qaj))]]) rfl (by simp) rfl (by trivial) ⟨rfl,trivial,rfl,trivial,rfl,trivial,rfl,trivial,trivial⟩) ?_
    rintro ⟨m88,v73⟩ h
    replace h:qaw n f_ m88 v73 = some r:=h
    rcases m88 with _ | m88
    · rw [qaw] at h;cases h
    rw [qaw] at h
    refine qa6 ?_
    refine qa2 ?_
    refine qa0 hτ rfl rfl rfl ?_
    refine qa4 ?_
    refine qa6 ?_
    refine qar rfl (fun hc90=>?_) (fun hc90=>?_)
    · have h:=if_t h hc90
      refine qb9 ?_
      refine qbw (ι:=Unit) (fun _=>St.of [(1,.ptr 0 0),(6,.d (.sl false (f_.qad.map qaj))),(7,.d (.int .i64 (f_.qad.length:Int))),(8,.d (.int .i64 v73))] [.box [.d (.cx .f32 f_.Source.A.re f_.Source.A.im),.d (.cx .f32 f_.Source.B.re f_.Source.B.im),.d (.cx .f32 f_.Source.C.re f_.Source.C.im),.d (.sl false (f_.qad.map qaj))]] f13.ntmps 0) (fun _=>qdq n (qaw n f_ m88) v73 = some r) ?_ (fun hk104=>?_)
      · rintro ⟨⟩ h
        replace h:qdq n (qaw n f_ m88) v73 = some r:=h
        unfold qdq at h
        refine qa2 ?_
        refine qa0 hτ rfl rfl rfl ?_
        refine qa0 hτ rfl rfl rfl ?_
        refine qa4 ?_
        exact ⟨(m88,(w64 (v73 + (1:Int)))),h,Nat.lt_succ_self m88,(qa3 [0] (l:=[(1,.ptr 0 0),(6,.d (.sl false (f_.qad.map qaj))),(7,.d (.int .i64 (f_.qad.length:Int))),(8,.d (.int .i64 (w64 (v73 + (1:Int)))))]) (objs:=[.box [.d (.cx .f32 f_.Source.A.re f_.Source.A.im),.d (.cx .f32 f_.Source.B.re f_.Source.B.im),.d (.cx .f32 f_.Source.C.re f_.Source.C.im),.d (.sl false (f_.qad.map qaj))]]) rfl (by simp) rfl (by trivial) ⟨rfl,trivial,rfl,trivial,rfl,trivial,rfl,trivial,trivial⟩)⟩
      · refine qa6 ?_
        refine qbo ?_
        refine qa6 ?_
        refine qa2 ?_
        refine qa0 hτ rfl rfl rfl ?_
        refine qa7 h fun x105 hx105 h=>?_
        refine qf7 hτ rfl rfl rfl (qd2 hx105).1 (qdv hx105) rfl ?_
        refine qa0 hτ rfl rfl rfl ?_
        refine qai hτ rfl rfl rfl ?_
        refine qa0 hτ rfl rfl rfl ?_
        refine qai hτ rfl rfl rfl ?_
        refine qa4 ?_
        refine qbo ?_
        refine qbw (ι:=Bool) (fun v110=>St.of [(1,.ptr 0 0),(3,.d (.int .i64 v73)),(4,.ptr 1 0),(6,.d (.sl false (f_.qad.map qaj))),(7,.d (.int .i64 (f_.qad.length:Int))),(8,.d (.int .i64 v73)),(13,.d (.bool v110))] [.box [.d (.cx .f32 f_.Source.A.re f_.Source.A.im),.d (.cx .f32 f_.Source.B.re f_.Source.B.im),.d (.cx .f32 f_.Source.C.re f_.Source.C.im),.d (.sl false (f_.qad.map qaj))],.box [.d (.int .i64 x105.qd1),.d (.cx .f32 x105.Own.re x105.Own.im),.d (.cx .f32 x105.Shared.re x105.Shared.im),.d (.int .i64 x105.Kind),.d (.cx .f32 x105.Load.A.re x105.Load.A.im),.d (.cx .f32 x105.Load.B.re x105.Load.B.im),.d (.cx .f32 x105.Load.C.re x105.Load.C.im),.d (.int .i64 x105.qbb)]] f13.ntmps 0) (fun v110=>qdr n (qaw n f_ m88) v73 x105 v110 = some r) ?_ (fun hk131=>?_)
        · rintro v110 h
          replace h:qdr n (qaw n f_ m88) v73 x105 v110 = some r:=h
          unfold qdr at h
          refine qar rfl (fun hc111=>?_) (fun hc111=>?_)
          · have h:=qcl h hc111
            refine qa6 ?_
            refine qa2 ?_
            refine qa0 hτ rfl rfl rfl ?_
            refine qa4 ?_
            refine qa8 (qa3 [] (l:=[(2,.d (.bool false))]) (objs:=[]) rfl (by simp) rfl (by trivial) ⟨rfl,trivial,trivial⟩) ?_
            refine qal ?_
            have hr:=Option.some.inj h
            subst hr
            exact qae (.inr rfl) [] (objs':=[]) (new:=[]) rfl (by simp) (by simp) rfl (by trivial) rfl rfl (by trivial) (fun _=>⟨by simp [V.flat,V.qb7,V.qb5,D.flat],qag⟩) ⟨rfl,rfl,rfl⟩
          · have h:=qck h hc111
            refine qbw (ι:=Bool) (fun v117=>St.of [(1,.ptr 0 0),(3,.d (.int .i64 v73)),(4,.ptr 1 0),(6,.d (.sl false (f_.qad.map qaj))),(7,.d (.int .i64 (f_.qad.length:Int))),(8,.d (.int .i64 v73)),(24,.d (.bool v117))] [.box [.d (.cx .f32 f_.Source.A.re f_.Source.A.im),.d (.cx .f32 f_.Source.B.re f_.Source.B.im),.d (.cx .f32 f_.Source.C.re f_.Source.C.im),.d (.sl false (f_.qad.map qaj))],.box [.d (.int .i64 x105.qd1),.d (.cx .f32 x105.Own.re x105.Own.im),.d (.cx .f32 x105.Shared.re x105.Shared.im),.d (.int .i64 x105.Kind),.d (.cx .f32 x105.Load.A.re x105.Load.A.im),.d (.cx .f32 x105.Load.B.re x105.Load.B.im),.d (.cx .f32 x105.Load.C.re x105.Load.C.im),.d (.int .i64 x105.qbb)]] f13.ntmps 0) (fun v117=>qce n (qaw n f_ m88) v73 x105 v117 = some r) ?_ (fun hk127=>?_)
            · rintro v117 h
              replace h:qce n (qaw n f_ m88) v73 x105 v117 = some r:=h
              unfold qce at h
              refine qar rfl (fun hc118=>?_) (fun hc118=>?_)
              · have h:=qcl h hc118
                refine qa6 ?_
                refine qa2 ?_
                refine qa0 hτ rfl rfl rfl ?_
                refine qa4 ?_
                refine qa8 (qa3 [] (l:=[(2,.d (.bool false))]) (objs:=[]) rfl (by simp) rfl (by trivial) ⟨rfl,trivial,trivial⟩) ?_
                refine qal ?_
                have hr:=Option.some.inj h
                subst hr
                exact qae (.inr rfl) [] (objs':=[]) (new:=[]) rfl (by simp) (by simp) rfl (by trivial) rfl rfl (by trivial) (fun _=>⟨by simp [V.flat,V.qb7,V.qb5,D.flat],qag⟩) ⟨rfl,rfl,rfl⟩
              · have h:=qck h hc118
                refine qbw (ι:=Bool) (fun v122=>St.of [(1,.ptr 0 0),(6,.d (.sl false (f_.qad.map qaj))),(7,.d (.int .i64 (f_.qad.length:Int))),(8,.d (.int .i64 v73)),(42,.d (.bool v122))] [.box [.d (.cx .f32 f_.Source.A.re f_.Source.A.im),.d (.cx .f32 f_.Source.B.re f_.Source.B.im),.d (.cx .f32 f_.Source.C.re f_.Source.C.im),.d (.sl false (f_.qad.map qaj))]] f13.ntmps 0) (fun v122=>qd9 n (qaw n f_ m88) v73 v122 = some r) ?_ (fun hk124=>?_)
                · rintro v122 h
                  replace h:qd9 n (qaw n f_ m88) v73 v122 = some r:=h
                  unfold qd9 at h
                  refine qar rfl (fun hc123=>?_) (fun hc123=>?_)
                  · have h:=qcl h hc123
                    refine qa6 ?_
                    refine qa2 ?_
                    refine qa0 hτ rfl rfl rfl ?_
                    refine qa4 ?_
                    refine qa8 (qa3 [] (l:=[(2,.d (.bool false))]) (objs:=[]) rfl (by simp) rfl (by trivial) ⟨rfl,trivial,trivial⟩) ?_
                    refine qal ?_
                    have hr:=Option.some.inj h
                    subst hr
                    exact qae (.inr rfl) [] (objs':=[]) (new:=[]) rfl (by simp) (by simp) rfl (by trivial) rfl rfl (by trivial) (fun _=>⟨by simp [V.flat,V.qb7,V.qb5,D.flat],qag⟩) ⟨rfl,rfl,rfl⟩
                  · have h:=qck h hc123
                    refine qb9 ?_
                    refine qa8 (qa3 [0] (l:=[(1,.ptr 0 0),(6,.d (.sl false (f_.qad.map qaj))),(7,.d (.int .i64 (f_.qad.length:Int))),(8,.d (.int .i64 v73))]) (objs:=[.box [.d (.cx .f32 f_.Source.A.re f_.Source.A.im),.d (.cx .f32 f_.Source.B.re f_.Source.B.im),.d (.cx .f32 f_.Source.C.re f_.Source.C.im),.d (.sl false (f_.qad.map qaj))]]) rfl (by simp) rfl (by trivial) ⟨rfl,trivial,rfl,trivial,rfl,trivial,rfl,trivial,trivial⟩) ?_
                    exact hk104 () h
                · refine qa6 ?_
                  refine qa2 ?_
                  refine qa0 hτ rfl rfl rfl ?_
                  refine qa0 hτ rfl rfl rfl ?_
                  refine qa0 hτ rfl rfl rfl ?_
                  refine qbr 45 rfl (fun hb125=>?_) (fun hb125=>?_)
                  · have h:=if_t h hb125
                    refine qa0 hτ rfl rfl rfl ?_
                    refine qa0 hτ rfl rfl rfl ?_
                    refine qa0 hτ rfl rfl rfl ?_
                    refine qa0 hτ rfl rfl rfl ?_
                    refine qa7 h fun x126 hx126 h=>?_
                    refine qab hτ false [] rfl rfl rfl (qac func58 rfl rfl) rfl rfl (by simp) ⟨trivial,trivial,trivial,trivial⟩ (by trivial) (qjo n x105.qd1 (0:Int) (w64 (v73 - (1:Int))) hx126) ?_
                    rintro r0 o0 n0 ⟨rfl,rfl,rfl⟩ -
                    refine qa0 hτ rfl rfl rfl ?_
                    refine qa0 hτ rfl rfl rfl ?_
                    refine qa0 hτ rfl rfl rfl ?_
                    refine qa4 ?_
                    refine qa8 (qa3 [0] (l:=[(1,.ptr 0 0),(6,.d (.sl false (f_.qad.map qaj))),(7,.d (.int .i64 (f_.qad.length:Int))),(8,.d (.int .i64 v73)),(42,.d (.bool (!x126)))]) (objs:=[.box [.d (.cx .f32 f_.Source.A.re f_.Source.A.im),.d (.cx .f32 f_.Source.B.re f_.Source.B.im),.d (.cx .f32 f_.Source.C.re f_.Source.C.im),.d (.sl false (f_.qad.map qaj))]]) rfl (by simp) rfl (by trivial) ⟨rfl,trivial,rfl,trivial,rfl,trivial,rfl,trivial,rfl,trivial,trivial⟩) ?_
                    exact hk124 (!x126) h
                  · have h:=if_f h hb125
                    refine qaa rfl rfl ?_
                    refine qaa rfl rfl ?_
                    refine qaa rfl rfl ?_
                    refine qaa rfl rfl ?_
                    refine qaa rfl rfl ?_
                    refine qaa rfl rfl ?_
                    refine qa0 hτ rfl rfl rfl ?_
                    refine qa0 hτ rfl rfl rfl ?_
                    refine qa4 ?_
                    refine qa8 (qa3 [0] (l:=[(1,.ptr 0 0),(6,.d (.sl false (f_.qad.map qaj))),(7,.d (.int .i64 (f_.qad.length:Int))),(8,.d (.int .i64 v73)),(42,.d (.bool false))]) (objs:=[.box [.d (.cx .f32 f_.Source.A.re f_.Source.A.im),.d (.cx .f32 f_.Source.B.re f_.Source.B.im),.d (.cx .f32 f_.Source.C.re f_.Source.C.im),.d (.sl false (f_.qad.map qaj))]]) rfl (by simp) rfl (by trivial) ⟨rfl,trivial,rfl,trivial,rfl,trivial,rfl,trivial,rfl,trivial,trivial⟩) ?_
                    exact hk124 false h
            · refine qa6 ?_
              refine qa2 ?_
              refine qa0 hτ rfl rfl rfl ?_
              refine qa0 hτ (v:=.d (.bool (decide (v73 = (0:Int))))) rfl rfl (qgz _ _) ?_
              refine qa0 hτ rfl rfl rfl ?_
              refine qbr 27 rfl (fun hb128=>?_) (fun hb128=>?_)
              · have h:=if_t h hb128
                refine qa0 hτ rfl rfl rfl ?_
                refine qa0 hτ rfl rfl rfl ?_
                refine qa0 hτ (v:=.d (.bool (!(decide (x105.qd1 = (-1:Int)))))) rfl rfl (qua _ _) ?_
                refine qa0 hτ rfl rfl rfl ?_
                refine qbr 31 rfl (fun hb129=>?_) (fun hb129=>?_)
                · have hb129:=qjc hb129
                  have h:=if_f h hb129
                  refine qaa rfl rfl ?_
                  refine qaa rfl rfl ?_
                  refine qaa rfl rfl ?_
                  refine qa0 hτ rfl rfl rfl ?_
                  refine qa0 hτ rfl rfl rfl ?_
                  refine qas (qa3 [0,1] (l:=[(1,.ptr 0 0),(3,.d (.int .i64 v73)),(4,.ptr 1 0),(6,.d (.sl false (f_.qad.map qaj))),(7,.d (.int .i64 (f_.qad.length:Int))),(8,.d (.int .i64 v73)),(27,.d (.bool true)),(36,.d (.bool true))]) (objs:=[.box [.d (.cx .f32 f_.Source.A.re f_.Source.A.im),.d (.cx .f32 f_.Source.B.re f_.Source.B.im),.d (.cx .f32 f_.Source.C.re f_.Source.C.im),.d (.sl false (f_.qad.map qaj))],.box [.d (.int .i64 x105.qd1),.d (.cx .f32 x105.Own.re x105.Own.im),.d (.cx .f32 x105.Shared.re x105.Shared.im),.d (.int .i64 x105.Kind),.d (.cx .f32 x105.Load.A.re x105.Load.A.im),.d (.cx .f32 x105.Load.B.re x105.Load.B.im),.d (.cx .f32 x105.Load.C.re x105.Load.C.im),.d (.int .i64 x105.qbb)]]) rfl (by simp) rfl (by trivial) ⟨rfl,trivial,rfl,trivial,rfl,trivial,rfl,trivial,rfl,trivial,rfl,trivial,rfl,trivial,rfl,trivial,trivial⟩) ?_
                  refine qaa rfl rfl ?_
                  refine qaa rfl rfl ?_
                  refine qaa rfl rfl ?_
                  refine qa0 hτ rfl rfl rfl ?_
                  refine qa0 hτ rfl rfl rfl ?_
                  refine qa0 hτ rfl rfl rfl ?_
                  refine qa4 ?_
                  refine qa8 (qa3 [0,1] (l:=[(1,.ptr 0 0),(3,.d (.int .i64 v73)),(4,.ptr 1 0),(6,.d (.sl false (f_.qad.map qaj))),(7,.d (.int .i64 (f_.qad.length:Int))),(8,.d (.int .i64 v73)),(24,.d (.bool true))]) (objs:=[.box [.d (.cx .f32 f_.Source.A.re f_.Source.A.im),.d (.cx .f32 f_.Source.B.re f_.Source.B.im),.d (.cx .f32 f_.Source.C.re f_.Source.C.im),.d (.sl false (f_.qad.map qaj))],.box [.d (.int .i64 x105.qd1),.d (.cx .f32 x105.Own.re x105.Own.im),.d (.cx .f32 x105.Shared.re x105.Shared.im),.d (.int .i64 x105.Kind),.d (.cx .f32 x105.Load.A.re x105.Load.A.im),.d (.cx .f32 x105.Load.B.re x105.Load.B.im),.d (.cx .f32 x105.Load.C.re x105.Load.C.im),.d (.int .i64 x105.qbb)]]) rfl (by simp) rfl (by trivial) ⟨rfl,trivial,rfl,trivial,rfl,trivial,rfl,trivial,rfl,trivial,rfl,trivial,rfl,trivial,trivial⟩) ?_
                  exact hk127 true h
                · have hb129:=qjb hb129
                  have h:=if_t h hb129
                  refine qa0 hτ rfl rfl rfl ?_
                  refine qa0 hτ rfl rfl rfl ?_
                  refine qa0 hτ rfl rfl rfl ?_
                  refine qa0 hτ rfl rfl rfl ?_
                  refine qa0 hτ rfl rfl rfl ?_
                  refine qas (qa3 [0,1] (l:=[(1,.ptr 0 0),(3,.d (.int .i64 v73)),(4,.ptr 1 0),(6,.d (.sl false (f_.qad.map qaj))),(7,.d (.int .i64 (f_.qad.length:Int))),(8,.d (.int .i64 v73)),(27,.d (.bool true)),(36,.d (.bool (!(fcmp .eql .f32 x105.Own.re (0:Nat) && fcmp .eql .f32 x105.Own.im (0:Nat)))))]) (objs:=[.box [.d (.cx .f32 f_.Source.A.re f_.Source.A.im),.d (.cx .f32 f_.Source.B.re f_.Source.B.im),.d (.cx .f32 f_.Source.C.re f_.Source.C.im),.d (.sl false (f_.qad.map qaj))],.box [.d (.int .i64 x105.qd1),.d (.cx .f32 x105.Own.re x105.Own.im),.d (.cx .f32 x105.Shared.re x105.Shared.im),.d (.int .i64 x105.Kind),.d (.cx .f32 x105.Load.A.re x105.Load.A.im),.d (.cx .f32 x105.Load.B.re x105.Load.B.im),.d (.cx .f32 x105.Load.C.re x105.Load.C.im),.d (.int .i64 x105.qbb)]]) rfl (by simp) rfl (by trivial) ⟨rfl,trivial,rfl,trivial,rfl,trivial,rfl,trivial,rfl,trivial,rfl,trivial,rfl,trivial,rfl,trivial,trivial⟩) ?_
                  refine qbr 36 rfl (fun hb130=>?_) (fun hb130=>?_)
                  · have hb130:=qjc hb130
                    have h:=qck h hb130
                    refine qaa rfl rfl ?_
                    refine qaa rfl rfl ?_
                    refine qaa rfl rfl ?_
                    refine qa0 hτ rfl rfl rfl ?_
                    refine qa0 hτ rfl rfl rfl ?_
                    refine qa0 hτ rfl rfl rfl ?_
                    refine qa4 ?_
                    refine qa8 (qa3 [0,1] (l:=[(1,.ptr 0 0),(3,.d (.int .i64 v73)),(4,.ptr 1 0),(6,.d (.sl false (f_.qad.map qaj))),(7,.d (.int .i64 (f_.qad.length:Int))),(8,.d (.int .i64 v73)),(24,.d (.bool true))]) (objs:=[.box [.d (.cx .f32 f_.Source.A.re f_.Source.A.im),.d (.cx .f32 f_.Source.B.re f_.Source.B.im),.d (.cx .f32 f_.Source.C.re f_.Source.C.im),.d (.sl false (f_.qad.map qaj))],.box [.d (.int .i64 x105.qd1),.d (.cx .f32 x105.Own.re x105.Own.im),.d (.cx .f32 x105.Shared.re x105.Shared.im),.d (.int .i64 x105.Kind),.d (.cx .f32 x105.Load.A.re x105.Load.A.im),.d (.cx .f32 x105.Load.B.re x105.Load.B.im),.d (.cx .f32 x105.Load.C.re x105.Load.C.im),.d (.int .i64 x105.qbb)]]) rfl (by simp) rfl (by trivial) ⟨rfl,trivial,rfl,trivial,rfl,trivial,rfl,trivial,rfl,trivial,rfl,trivial,rfl,trivial,trivial⟩) ?_
                    exact hk127 true h
                  · have hb130:=qjb hb130
                    have h:=qcl h hb130
                    refine qa0 hτ rfl rfl rfl ?_
                    refine qa0 hτ rfl rfl rfl ?_
                    refine qa0 hτ rfl rfl rfl ?_
                    refine qa0 hτ rfl rfl rfl ?_
                    refine qa0 hτ rfl rfl rfl ?_
                    refine qa0 hτ rfl rfl rfl ?_
                    refine qa4 ?_
                    refine qa8 (qa3 [0,1] (l:=[(1,.ptr 0 0),(3,.d (.int .i64 v73)),(4,.ptr 1 0),(6,.d (.sl false (f_.qad.map qaj))),(7,.d (.int .i64 (f_.qad.length:Int))),(8,.d (.int .i64 v73)),(24,.d (.bool (!(fcmp .eql .f32 x105.Shared.re (0:Nat) && fcmp .eql .f32 x105.Shared.im (0:Nat)))))]) (objs:=[.box [.d (.cx .f32 f_.Source.A.re f_.Source.A.im),.d (.cx .f32 f_.Source.B.re f_.Source.B.im),.d (.cx .f32 f_.Source.C.re f_.Source.C.im),.d (.sl false (f_.qad.map qaj))],.box [.d (.int .i64 x105.qd1),.d (.cx .f32 x105.Own.re x105.Own.im),.d (.cx .f32 x105.Shared.re x105.Shared.im),.d (.int .i64 x105.Kind),.d (.cx .f32 x105.Load.A.re x105.Load.A.im),.d (.cx .f32 x105.Load.B.re x105.Load.B.im),.d (.cx .f32 x105.Load.C.re x105.Load.C.im),.d (.int .i64 x105.qbb)]]) rfl (by simp) rfl (by trivial) ⟨rfl,trivial,rfl,trivial,rfl,trivial,rfl,trivial,rfl,trivial,rfl,trivial,rfl,trivial,trivial⟩) ?_
                    exact hk127 (!(fcmp .eql .f32 x105.Shared.re (0:Nat) && fcmp .eql .f32 x105.Shared.im (0:Nat))) h
              · have h:=if_f h hb128
                refine qaa rfl rfl ?_
                refine qaa rfl rfl ?_
                refine qaa rfl rfl ?_
                refine qaa rfl rfl ?_
                refine qaa rfl rfl ?_
                refine qaa rfl rfl ?_
                refine qaa rfl rfl ?_
                refine qaa rfl rfl ?_
                refine qaa rfl rfl ?_
                refine qas (qa3 [0,1] (l:=[(1,.ptr 0 0),(3,.d (.int .i64 v73)),(4,.ptr 1 0),(6,.d (.sl false (f_.qad.map qaj))),(7,.d (.int .i64 (f_.qad.length:Int))),(8,.d (.int .i64 v73)),(27,.d (.bool false)),(36,.und)]) (objs:=[.box [.d (.cx .f32 f_.Source.A.re f_.Source.A.im),.d (.cx .f32 f_.Source.B.re f_.Source.B.im),.d (.cx .f32 f_.Source.C.re f_.Source.C.im),.d (.sl false (f_.qad.map qaj))],.box [.d (.int .i64 x105.qd1),.d (.cx .f32 x105.Own.re x105.Own.im),.d (.cx .f32 x105.Shared.re x105.Shared.im),.d (.int .i64 x105.Kind),.d (.cx .f32 x105.Load.A.re x105.Load.A.im),.d (.cx .f32 x105.Load.B.re x105.Load.B.im),.d (.cx .f32 x105.Load.C.re x105.Load.C.im),.d (.int .i64 x105.qbb)]]) rfl (by simp) rfl (by trivial) ⟨rfl,trivial,rfl,trivial,rfl,trivial,rfl,trivial,rfl,trivial,rfl,trivial,rfl,trivial,rfl,trivial,trivial⟩) ?_
                refine qaa rfl rfl ?_
                refine qaa rfl rfl ?_
                refine qaa rfl rfl ?_
                refine qaa rfl rfl ?_
                refine qa0 hτ rfl rfl rfl ?_
                refine qa0 hτ rfl rfl rfl ?_
                refine qa4 ?_
                refine qa8 (qa3 [0,1] (l:=[(1,.ptr 0 0),(3,.d (.int .i64 v73)),(4,.ptr 1 0),(6,.d (.sl false (f_.qad.map qaj))),(7,.d (.int .i64 (f_.qad.length:Int))),(8,.d (.int .i64 v73)),(24,.d (.bool false))]) (objs:=[.box [.d (.cx .f32 f_.Source.A.re f_.Source.A.im),.d (.cx .f32 f_.Source.B.re f_.Source.B.im),.d (.cx .f32 f_.Source.C.re f_.Source.C.im),.d (.sl false (f_.qad.map qaj))],.box [.d (.int .i64 x105.qd1),.d (.cx .f32 x105.Own.re x105.Own.im),.d (.cx .f32 x105.Shared.re x105.Shared.im),.d (.int .i64 x105.Kind),.d (.cx .f32 x105.Load.A.re x105.Load.A.im),.d (.cx .f32 x105.Load.B.re x105.Load.B.im),.d (.cx .f32 x105.Load.C.re x105.Load.C.im),.d (.int .i64 x105.qbb)]]) rfl (by simp) rfl (by trivial) ⟨rfl,trivial,rfl,trivial,rfl,trivial,rfl,trivial,rfl,trivial,rfl,trivial,rfl,trivial,trivial⟩) ?_
                exact hk127 false h
        · refine qa6 ?_
          refine qa8 (qa3 [0,1] (l:=[(1,.ptr 0 0),(3,.d (.int .i64 v73)),(4,.ptr 1 0),(6,.d (.sl false (f_.qad.map qaj))),(7,.d (.int .i64 (f_.qad.length:Int))),(8,.d (.int .i64 v73))]) (objs:=[.box [.d (.cx .f32 f_.Source.A.re f_.Source.A.im),.d (.cx .f32 f_.Source.B.re f_.Source.B.im),.d (.cx .f32 f_.Source.C.re f_.Source.C.im),.d (.sl false (f_.qad.map qaj))],.box [.d (.int .i64 x105.qd1),.d (.cx .f32 x105.Own.re x105.Own.im),.d (.cx .f32 x105.Shared.re x105.Shared.im),.d (.int .i64 x105.Kind),.d (.cx .f32 x105.Load.A.re x105.Load.A.im),.d (.cx .f32 x105.Load.B.re x105.Load.B.im),.d (.cx .f32 x105.Load.C.re x105.Load.C.im),.d (.int .i64 x105.qbb)]]) rfl (by simp) rfl (by trivial) ⟨rfl,trivial,rfl,trivial,rfl,trivial,rfl,trivial,rfl,trivial,rfl,trivial,trivial⟩) ?_
          refine qa2 ?_
          refine qa0 hτ rfl rfl rfl ?_
          refine qa0 hτ rfl rfl rfl ?_
          refine qa7 h fun x132 hx132 h=>?_
          refine qab hτ false [] rfl rfl rfl (qac func67 rfl rfl) rfl rfl (by simp) ⟨trivial,trivial⟩ (by trivial) (impl_kindOk_ok n x105.Kind hx132) ?_
          rintro r0 o0 n0 ⟨rfl,rfl,rfl⟩ -
          refine qa0 hτ rfl rfl rfl ?_
          refine qa0 hτ rfl rfl rfl ?_
          refine qbr 18 rfl (fun hb133=>?_) (fun hb133=>?_)
          · have hb133:=qjc hb133
            have h:=qck h hb133
            refine qaa rfl rfl ?_
            refine qaa rfl rfl ?_
            refine qaa rfl rfl ?_
            refine qaa rfl rfl ?_
            refine qa0 hτ rfl rfl rfl ?_
            refine qa0 hτ rfl rfl rfl ?_
            refine qa4 ?_
            refine qa8 (qa3 [0,1] (l:=[(1,.ptr 0 0),(3,.d (.int .i64 v73)),(4,.ptr 1 0),(6,.d (.sl false (f_.qad.map qaj))),(7,.d (.int .i64 (f_.qad.length:Int))),(8,.d (.int .i64 v73)),(13,.d (.bool true))]) (objs:=[.box [.d (.cx .f32 f_.Source.A.re f_.Source.A.im),.d (.cx .f32 f_.Source.B.re f_.Source.B.im),.d (.cx .f32 f_.Source.C.re f_.Source.C.im),.d (.sl false (f_.qad.map qaj))],.box [.d (.int .i64 x105.qd1),.d (.cx .f32 x105.Own.re x105.Own.im),.d (.cx .f32 x105.Shared.re x105.Shared.im),.d (.int .i64 x105.Kind),.d (.cx .f32 x105.Load.A.re x105.Load.A.im),.d (.cx .f32 x105.Load.B.re x105.Load.B.im),.d (.cx .f32 x105.Load.C.re x105.Load.C.im),.d (.int .i64 x105.qbb)]]) rfl (by simp) rfl (by trivial) ⟨rfl,trivial,rfl,trivial,rfl,trivial,rfl,trivial,rfl,trivial,rfl,trivial,rfl,trivial,trivial⟩) ?_
            exact hk131 true h
          · have hb133:=qjb hb133
            have h:=qcl h hb133
            refine qa0 hτ rfl rfl rfl ?_
            refine qa0 hτ rfl rfl rfl ?_
            refine qa7 h fun x134 hx134 h=>?_
            refine qab hτ false [] rfl rfl rfl (qac func58 rfl rfl) rfl rfl (by simp) ⟨trivial,trivial,trivial,trivial⟩ (by trivial) (qjo n x105.qbb (0:Int) (1000000:Int) hx134) ?_
            rintro r0 o0 n0 ⟨rfl,rfl,rfl⟩ -
            refine qa0 hτ rfl rfl rfl ?_
            refine qa0 hτ rfl rfl rfl ?_
            refine qa0 hτ rfl rfl rfl ?_
            refine qa4 ?_
            refine qa8 (qa3 [0,1] (l:=[(1,.ptr 0 0),(3,.d (.int .i64 v73)),(4,.ptr 1 0),(6,.d (.sl false (f_.qad.map qaj))),(7,.d (.int .i64 (f_.qad.length:Int))),(8,.d (.int .i64 v73)),(13,.d (.bool (!x134)))]) (objs:=[.box [.d (.cx .f32 f_.Source.A.re f_.Source.A.im),.d (.cx .f32 f_.Source.B.re f_.Source.B.im),.d (.cx .f32 f_.Source.C.re f_.Source.C.im),.d (.sl false (f_.qad.map qaj))],.box [.d (.int .i64 x105.qd1),.d (.cx .f32 x105.Own.re x105.Own.im),.d (.cx .f32 x105.Shared.re x105.Shared.im),.d (.int .i64 x105.Kind),.d (.cx .f32 x105.Load.A.re x105.Load.A.im),.d (.cx .f32 x105.Load.B.re x105.Load.B.im),.d (.cx .f32 x105.Load.C.re x105.Load.C.im),.d (.int .i64 x105.qbb)]]) rfl (by simp) rfl (by trivial) ⟨rfl,trivial,rfl,trivial,rfl,trivial,rfl,trivial,rfl,trivial,rfl,trivial,rfl,trivial,trivial⟩) ?_
            exact hk131 (!x134) h
    · have h:=if_f h hc90
      refine qh2 ?_
      refine qa8 (qa3 [0] (l:=[(1,.ptr 0 0)]) (objs:=[.box [.d (.cx .f32 f_.Source.A.re f_.Source.A.im),.d (.cx .f32 f_.Source.B.re f_.Source.B.im),.d (.cx .f32 f_.Source.C.re f_.Source.C.im),.d (.sl false (f_.qad.map qaj))]]) rfl (by simp) rfl (by trivial) ⟨rfl,trivial,trivial⟩) ?_
      exact hk59 () h
theorem qjv (n:Nat) (f_:qan) {r:Bool} (h:qez n f_ = some r):qaq prog false 13 [.agg [.d (.cx .f32 f_.Source.A.re f_.Source.A.im),.d (.cx .f32 f_.Source.B.re f_.Source.B.im),.d (.cx .f32 f_.Source.C.re f_.Source.C.im),.d (.sl false (f_.qad.map qaj))]] [] (fun v o new=>v = .d (.bool r)∧o = []∧new = []):=impl_ValidFeeder_ok_fr0 false n f_ h
def qec (n:Nat) (f_:qan) (bus_:Int):Option Bool :=
  (qez n f_).bind fun x5 =>
  if x5 = true then
    (qh7 n bus_ (0:Int) (w64 ((f_.qad.length:Int) - (1:Int)))).bind fun x7 =>
    some x7
  else
    some false
theorem qii (n:Nat) (f_:qan) (bus_:Int) {r:Bool} (h:qec n f_ bus_ = some r):qaq prog false 57 [.ptr 0 0,.d (.int .i64 bus_)] [.box [.d (.cx .f32 f_.Source.A.re f_.Source.A.im),.d (.cx .f32 f_.Source.B.re f_.Source.B.im),.d (.cx .f32 f_.Source.C.re f_.Source.C.im),.d (.sl false (f_.qad.map qaj))]] (fun v o new=>v = .d (.bool r)∧o = [.box [.d (.cx .f32 f_.Source.A.re f_.Source.A.im),.d (.cx .f32 f_.Source.B.re f_.Source.B.im),.d (.cx .f32 f_.Source.C.re f_.Source.C.im),.d (.sl false (f_.qad.map qaj))]]∧new = []):=by
  refine qaf hτ func57 rfl (by simp) (by simp) ?_
  unfold qec at h
  refine qa6 ?_
  refine qa2 ?_
  refine qa0 hτ rfl rfl rfl ?_
  refine qa4 ?_
  refine qa6 ?_
  refine qa2 ?_
  refine qa0 hτ rfl rfl rfl ?_
  refine qa0 hτ rfl rfl rfl ?_
  refine qa0 hτ rfl rfl rfl ?_
  refine qa7 h fun x5 hx5 h=>?_
  refine qab hτ false [] rfl rfl rfl (qac func13 rfl rfl) rfl rfl (by simp) ⟨(by trivial),trivial⟩ (by trivial) (qjv n f_ hx5) ?_
  rintro r0 o0 n0 ⟨rfl,rfl,rfl⟩ -
  refine qa0 hτ rfl rfl rfl ?_
  refine qbr 9 rfl (fun hb6=>?_) (fun hb6=>?_)
  · have h:=qcl h hb6
    refine qa0 hτ rfl rfl rfl ?_
    refine qa0 hτ rfl rfl rfl ?_
    refine qa0 hτ rfl rfl rfl ?_
    refine qa0 hτ rfl rfl rfl ?_
    refine qa0 hτ rfl rfl rfl ?_
    refine qa0 hτ (v:=.d (.int .i64 (f_.qad.length:Int))) rfl rfl (Eq.trans rfl (qjj (f:=qaj) f_.qad)) ?_
    refine qas (qa3 [0] (l:=[(9,.d (.bool true)),(10,.d (.int .i64 bus_)),(15,.d (.int .i64 (f_.qad.length:Int)))]) (objs:=[.box [.d (.cx .f32 f_.Source.A.re f_.Source.A.im),.d (.cx .f32 f_.Source.B.re f_.Source.B.im),.d (.cx .f32 f_.Source.C.re f_.Source.C.im),.d (.sl false (f_.qad.map qaj))]]) rfl (by simp) rfl (by trivial) ⟨rfl,trivial,rfl,trivial,rfl,trivial,trivial⟩) ?_
    refine qa0 hτ rfl rfl rfl ?_
    refine qa7 h fun x7 hx7 h=>?_
    refine qab hτ false [] rfl rfl rfl (qac func58 rfl rfl) rfl rfl (by simp) ⟨trivial,trivial,trivial,trivial⟩ (by trivial) (qjo n bus_ (0:Int) (w64 ((f_.qad.length:Int) - (1:Int))) hx7) ?_
    rintro r0 o0 n0 ⟨rfl,rfl,rfl⟩ -
    refine qa0 hτ rfl rfl rfl ?_
    refine qa0 hτ rfl rfl rfl ?_
    refine qa4 ?_
    refine qa8 (qa3 [0] (l:=[(4,.d (.bool x7))]) (objs:=[.box [.d (.cx .f32 f_.Source.A.re f_.Source.A.im),.d (.cx .f32 f_.Source.B.re f_.Source.B.im),.d (.cx .f32 f_.Source.C.re f_.Source.C.im),.d (.sl false (f_.qad.map qaj))]]) rfl (by simp) rfl (by trivial) ⟨rfl,trivial,trivial⟩) ?_
    refine qal ?_
    have hr:=Option.some.inj h
    subst hr
    exact qae (.inr rfl) [] (objs':=[.box [.d (.cx .f32 f_.Source.A.re f_.Source.A.im),.d (.cx .f32 f_.Source.B.re f_.Source.B.im),.d (.cx .f32 f_.Source.C.re f_.Source.C.im),.d (.sl false (f_.qad.map qaj))]]) (new:=[]) rfl (by simp) (by simp) rfl (by trivial) rfl rfl (by trivial) (fun h=>nomatch h) ⟨rfl,rfl,rfl⟩
  · have h:=qck h hb6
    refine qaa rfl rfl ?_
    refine qaa rfl rfl ?_
    refine qaa rfl rfl ?_
    refine qaa rfl rfl ?_
    refine qaa rfl rfl ?_
    refine qaa rfl rfl ?_
    refine qas (qa3 [0] (l:=[(9,.d (.bool false)),(10,.und),(15,.und)]) (objs:=[.box [.d (.cx .f32 f_.Source.A.re f_.Source.A.im),.d (.cx .f32 f_.Source.B.re f_.Source.B.im),.d (.cx .f32 f_.Source.C.re f_.Source.C.im),.d (.sl false (f_.qad.map qaj))]]) rfl (by simp) rfl (by trivial) ⟨rfl,trivial,rfl,trivial,rfl,trivial,trivial⟩) ?_
    refine qaa rfl rfl ?_
    refine qaa rfl rfl ?_
    refine qa0 hτ rfl rfl rfl ?_
    refine qa0 hτ rfl rfl rfl ?_
    refine qa4 ?_
    refine qa8 (qa3 [0] (l:=[(4,.d (.bool false))]) (objs:=[.box [.d (.cx .f32 f_.Source.A.re f_.Source.A.im),.d (.cx .f32 f_.Source.B.re f_.Source.B.im),.d (.cx .f32 f_.Source.C.re f_.Source.C.im),.d (.sl false (f_.qad.map qaj))]]) rfl (by simp) rfl (by trivial) ⟨rfl,trivial,trivial⟩) ?_
    refine qal ?_
    have hr:=Option.some.inj h
    subst hr
    exact qae (.inr rfl) [] (objs':=[.box [.d (.cx .f32 f_.Source.A.re f_.Source.A.im),.d (.cx .f32 f_.Source.B.re f_.Source.B.im),.d (.cx .f32 f_.Source.C.re f_.Source.C.im),.d (.sl false (f_.qad.map qaj))]]) (new:=[]) rfl (by simp) (by simp) rfl (by trivial) rfl rfl (by trivial) (fun h=>nomatch h) ⟨rfl,rfl,rfl⟩
def qda (n:Nat):Nat→List Int→Int→Int→Option (List Int)
  | 0,_,_,_=>none
  | m25 + 1,v16,v17,v18 =>
    if v17 < v18 then
      (getI v16 v18).bind fun x28 =>
      (getI v16 v17).bind fun x29 =>
      (getI (v16.set v17.toNat x28) v18).bind fun x30 =>
      (qda n m25) ((v16.set v17.toNat x28).set v18.toNat x29) (w64 (v17 + (1:Int))) (w64 (v18 - (1:Int)))
    else
      some v16
def qfp (n:Nat) (s_:List Int):Option (List Int) :=
  qda n n s_ (0:Int) (w64 ((s_.length:Int) - (1:Int)))
theorem slices_Reverse_ok_fr0 (fr:Bool) (n:Nat) (s_:List Int) {r:List Int} (h:qfp n s_ = some r):qaq prog fr 120 [.row 0 s_.length 0 s_.length] [.row 1 (s_.map qav)] (fun v o new=>v = .tup []∧o = [.row 1 (r.map qav)]∧new = []):=by
  refine qaf hτ func120 rfl (by simp) (by simp) ?_
  unfold qfp at h
  refine qa6 ?_
  refine qa2 ?_
  refine qa0 hτ rfl rfl rfl ?_
  refine qfl hτ rfl rfl rfl (qd8 _) ?_
  refine qa0 hτ rfl rfl rfl ?_
  refine qa0 hτ rfl rfl rfl ?_
  refine qa0 hτ rfl rfl rfl ?_
  refine qa4 ?_
  refine qbo ?_
  refine qh3 (ι:=Nat × List Int × Int × Int) (fun (m25,v16,v17,v18)=>St.of [(0,.row 0 v16.length 0 v16.length),(2,.d (.int .i64 v17)),(3,.d (.int .i64 v18))] [.row 1 (v16.map qav)] f120.ntmps 1) (fun (m25,v16,v17,v18)=>qda n m25 v16 v17 v18 = some r) (fun x=>x.1) (n,s_,(0:Int),(w64 ((s_.length:Int) - (1:Int)))) h (qa3 [0] (l:=[(0,.row 0 s_.length 0 s_.length),(2,.d (.int .i64 (0:Int))),(3,.d (.int .i64 (w64 ((s_.length:Int) - (1:Int)))))]) (objs:=[.row 1 (s_.map qav)]) rfl (by simp) rfl (by trivial) ⟨rfl,trivial,rfl,trivial,rfl,trivial,trivial⟩) ?_
  rintro ⟨m25,v16,v17,v18⟩ h
  replace h:qda n m25 v16 v17 v18 = some r:=h
  rcases m25 with _ | m25
  · rw [qda] at h;cases h
  rw [qda] at h
  refine qa6 ?_
  refine qa6 ?_
  refine qa2 ?_
  refine qa0 hτ rfl rfl rfl ?_
  refine qa0 hτ rfl rfl rfl ?_
  refine qa0 hτ rfl rfl rfl ?_
  refine qa4 ?_
  refine qar rfl (fun hc27=>?_) (fun hc27=>?_)
  · have h:=if_t h hc27
    refine qb9 ?_
    refine qa6 ?_
    refine qbo ?_
    refine qd7 ?_
    refine qa5 hτ [] 0 rfl rfl rfl rfl rfl ?_
    refine qa5 hτ [] 1 rfl rfl rfl rfl rfl ?_
    refine qa5 hτ [] 2 rfl rfl rfl rfl rfl ?_
    refine qa5 hτ [] 3 rfl rfl rfl rfl rfl ?_
    refine qa5 hτ [] 4 rfl rfl rfl rfl rfl ?_
    refine qa5 hτ [] 5 rfl rfl rfl rfl rfl ?_
    refine qa7 h fun x28 hx28 h=>?_
    refine qg7 hτ [0] 6 rfl rfl rfl rfl rfl (qg3 hx28) ?_
    refine qf6 hτ [0] 7 rfl rfl rfl rfl rfl (qd8 _) (qhd hx28) rfl ?_
    refine qa5 hτ [] 8 rfl rfl rfl rfl rfl ?_
    refine qa5 hτ [] 9 rfl rfl rfl rfl rfl ?_
    refine qa7 h fun x29 hx29 h=>?_
    refine qg7 hτ [0] 10 rfl rfl rfl rfl rfl (qg3 hx29) ?_
    refine qf6 hτ [0] 11 rfl rfl rfl rfl rfl (qd8 _) (qhd hx29) rfl ?_
    refine qg7 hτ [0] 12 rfl rfl rfl rfl rfl (qg3 hx29) ?_
    refine qoo hτ [] 13 rfl rfl rfl rfl (qd8 _) (qhd hx29) (qto (f:=qav) (l:=v16) (i:=v17) (y:=x28) rfl) trivial ?_
    refine qa7 h fun x30 hx30 h=>?_
    refine qg7 hτ [0] 14 rfl rfl rfl rfl rfl (row_needL hx30 (by simp)) ?_
    refine qoo hτ [] 15 rfl rfl rfl rfl (by simp) (qhd hx30) (qto (f:=qav) (l:=(v16.set v17.toNat x28)) (i:=v18) (y:=x29) rfl) trivial ?_
    refine qbk mixed (by kernel_rfl) ?_
    refine qa8 (qa3 [0] (l:=[(0,.row 0 (((v16.set v17.toNat x28).set v18.toNat x29).length) 0 (((v16.set v17.toNat x28).set v18.toNat x29).length)),(2,.d (.int .i64 v17)),(3,.d (.int .i64 v18))]) (objs:=[.row 1 (((v16.set v17.toNat x28).set v18.toNat x29).map qav)]) rfl (by simp) rfl (by trivial) ⟨(qs2 rfl (by simp)),trivial,rfl,trivial,rfl,trivial,trivial⟩) ?_
    refine qa2 ?_
    refine qa0 hτ rfl rfl rfl ?_
    refine qa0 hτ rfl rfl rfl ?_
    refine qa0 hτ rfl rfl rfl ?_
    refine qa0 hτ rfl rfl rfl ?_
    refine qa0 hτ rfl rfl rfl ?_
    refine qa0 hτ rfl rfl rfl ?_
    refine qa4 ?_
    exact ⟨(m25,((v16.set v17.toNat x28).set v18.toNat x29),(w64 (v17 + (1:Int))),(w64 (v18 - (1:Int)))),h,Nat.lt_succ_self m25,(qa3 [0] (l:=[(0,.row 0 (((v16.set v17.toNat x28).set v18.toNat x29).length) 0 (((v16.set v17.toNat x28).set v18.toNat x29).length)),(2,.d (.int .i64 (w64 (v17 + (1:Int))))),(3,.d (.int .i64 (w64 (v18 - (1:Int)))))]) (objs:=[.row 1 (((v16.set v17.toNat x28).set v18.toNat x29).map qav)]) rfl (by simp) rfl (by trivial) ⟨rfl,trivial,rfl,trivial,rfl,trivial,trivial⟩)⟩
  · have h:=if_f h hc27
    refine qh2 ?_
    have hr:=Option.some.inj h
    subst hr
    exact qae (.inl rfl) [] (objs':=[.row 1 (v16.map qav)]) (new:=[]) rfl (by simp) (by simp) rfl (by trivial) rfl rfl (by trivial) (fun _=>⟨by simp [V.flat,V.qb7,V.qb5,D.flat],(ql4 (qm8 eInti64_flat _) qag)⟩) ⟨rfl,rfl,rfl⟩
theorem slices_Reverse_ok (n:Nat) (s_:List Int) {r:List Int} (h:qfp n s_ = some r):qaq prog false 120 [.row 0 s_.length 0 s_.length] [.row 1 (s_.map qav)] (fun v o new=>v = .tup []∧o = [.row 1 (r.map qav)]∧new = []):=slices_Reverse_ok_fr0 false n s_ h
def qdo (n:Nat) (v19:List Int):Option (List Int) :=
  (qfp n v19).bind fun x20 =>
  grd (x20.length = v19.length) <|
  some x20
def qcd (n:Nat) (f_:qan):Nat→Int→List Int→Option (List Int)
  | 0,_,_=>none
  | m31 + 1,v25,v26 =>
    if v25 ≥ (0:Int) then
      grd (room (v26.length + 1) 8) <|
      (getI f_.qad v25).bind fun x35 =>
      (qcd n f_ m31) x35.qd1 (v26 ++ [v25])
    else
      qdo n v26
def qe0 (n:Nat) (f_:qan) (bus_:Int):Option (List Int) :=
  qcd n f_ n bus_ ([]:List Int)
theorem qi7 (n:Nat) (f_:qan) (bus_:Int) {r:List Int} (h:qe0 n f_ bus_ = some r):qaq prog false 73 [.ptr 0 0,.d (.int .i64 bus_)] [.box [.d (.cx .f32 f_.Source.A.re f_.Source.A.im),.d (.cx .f32 f_.Source.B.re f_.Source.B.im),.d (.cx .f32 f_.Source.C.re f_.Source.C.im),.d (.sl false (f_.qad.map qaj))]] (fun v o new=>v = .row 1 r.length 0 r.length∧o = [.box [.d (.cx .f32 f_.Source.A.re f_.Source.A.im),.d (.cx .f32 f_.Source.B.re f_.Source.B.im),.d (.cx .f32 f_.Source.C.re f_.Source.C.im),.d (.sl false (f_.qad.map qaj))]]∧new = [.row 1 (r.map qav)]):=by
  refine qaf hτ func73 rfl (by simp) (by simp) ?_
  unfold qe0 at h
  refine qa6 ?_
  refine qa2 ?_
  refine qa0 hτ rfl rfl rfl ?_
  refine qa4 ?_
  refine qa6 ?_
  refine qa2 ?_
  refine qai hτ rfl rfl rfl ?_
  refine qa0 hτ rfl rfl rfl ?_
  refine qa4 ?_
  refine qbw (ι:=List Int) (fun v19=>St.of [(5,.row 1 v19.length 0 v19.length)] [.box [.d (.cx .f32 f_.Source.A.re f_.Source.A.im),.d (.cx .f32 f_.Source.B.re f_.Source.B.im),.d (.cx .f32 f_.Source.C.re f_.Source.C.im),.d (.sl false (f_.qad.map qaj))],.row 1 (v19.map qav)] f73.ntmps 1) (fun v19=>qdo n v19 = some r) ?_ (fun hk22=>?_)
  · rintro v19 h
    replace h:qdo n v19 = some r:=h
    unfold qdo at h
    refine qa6 ?_
    refine qa2 ?_
    refine qa0 hτ rfl rfl rfl ?_
    refine qa7 h fun x20 hx20 h=>?_
    refine qab hτ false [1] rfl rfl rfl (qac func120 rfl rfl) rfl rfl (by simp) ⟨trivial,trivial⟩ (by trivial) (slices_Reverse_ok n v19 hx20) ?_
    rintro r0 o0 n0 ⟨rfl,rfl,rfl⟩ -
    refine qf8 h fun hg21 h=>?_
    refine qa4 ?_
    refine qa6 ?_
    refine qa2 ?_
    refine qa0 hτ rfl rfl rfl ?_
    refine qa0 hτ rfl rfl rfl ?_
    refine qa4 ?_
    refine qa8 (qa3 [0,1] (l:=[(4,.row 1 x20.length 0 x20.length)]) (objs:=[.box [.d (.cx .f32 f_.Source.A.re f_.Source.A.im),.d (.cx .f32 f_.Source.B.re f_.Source.B.im),.d (.cx .f32 f_.Source.C.re f_.Source.C.im),.d (.sl false (f_.qad.map qaj))],.row 1 (x20.map qav)]) rfl (by simp) rfl (by trivial) ⟨(qs2 rfl (by simp [hg21])),trivial,trivial⟩) ?_
    refine qal ?_
    have hr:=Option.some.inj h
    subst hr
    exact qae (.inr rfl) [1] (objs':=[.box [.d (.cx .f32 f_.Source.A.re f_.Source.A.im),.d (.cx .f32 f_.Source.B.re f_.Source.B.im),.d (.cx .f32 f_.Source.C.re f_.Source.C.im),.d (.sl false (f_.qad.map qaj))]]) (new:=[.row 1 (x20.map qav)]) rfl (by simp) (by simp) rfl (by trivial) rfl rfl (by trivial) (fun h=>nomatch h) ⟨rfl,rfl,rfl⟩
  · refine qa6 ?_
    refine qbo ?_
    refine qh3 (ι:=Nat × Int × List Int) (fun (m31,v25,v26)=>St.of [(0,.ptr 0 0),(1,.d (.int .i64 v25)),(5,.row 1 v26.length 0 v26.length)] [.box [.d (.cx .f32 f_.Source.A.re f_.Source.A.im),.d (.cx .f32 f_.Source.B.re f_.Source.B.im),.d (.cx .f32 f_.Source.C.re f_.Source.C.im),.d (.sl false (f_.qad.map qaj))],.row 1 (v26.map qav)] f73.ntmps 1) (fun (m31,v25,v26)=>qcd n f_ m31 v25 v26 = some r) (fun x=>x.1) (n,bus_,([]:List Int)) h (qa3 [0,1] (l:=[(0,.ptr 0 0),(1,.d (.int .i64 bus_)),(5,.row 1 (([]:List Int).length) 0 (([]:List Int).length))]) (objs:=[.box [.d (.cx .f32 f_.Source.A.re f_.Source.A.im),.d (.cx .f32 f_.Source.B.re f_.Source.B.im),.d (.cx .f32 f_.Source.C.re f_.Source.C.im),.d (.sl false (f_.qad.map qaj))],.row 1 (([]:List Int).map qav)]) rfl (by simp) rfl (by trivial) ⟨rfl,trivial,rfl,trivial,rfl,trivial,trivial⟩) ?_
    rintro ⟨m31,v25,v26⟩ h
    replace h:qcd n f_ m31 v25 v26 = some r:=h
    rcases m31 with _ | m31
    · rw [qcd] at h;cases h
    rw [qcd] at h
    refine qa6 ?_
    refine qa6 ?_
    refine qa2 ?_
    refine qa0 hτ rfl rfl rfl ?_
    refine qa0 hτ rfl rfl rfl ?_
    refine qa4 ?_
    refine qar rfl (fun hc33=>?_) (fun hc33=>?_)
    · have h:=if_t h hc33
      refine qb9 ?_
      refine qa6 ?_
      refine qbo ?_
      refine qa2 ?_
      refine qa0 hτ rfl rfl rfl ?_
      refine qa0 hτ rfl rfl rfl ?_
      refine qai hτ rfl rfl rfl ?_
      refine qf8 h fun hg34 h=>?_
      refine ql1 hτ rfl rfl (Eq.trans rfl (or_append (f:=qav) v26 [v25] rfl)) ⟨⟨rfl,Nat.le_of_ble_eq_true rfl⟩,qd8 _,rfl,rfl,hg34,by decide,(all1 rfl)⟩ ?_
      refine qa0 hτ rfl rfl rfl ?_
      refine qa4 ?_
      refine qa8 (qa3 [0,1] (l:=[(0,.ptr 0 0),(1,.d (.int .i64 v25)),(5,.row 1 ((v26 ++ [v25]).length) 0 ((v26 ++ [v25]).length))]) (objs:=[.box [.d (.cx .f32 f_.Source.A.re f_.Source.A.im),.d (.cx .f32 f_.Source.B.re f_.Source.B.im),.d (.cx .f32 f_.Source.C.re f_.Source.C.im),.d (.sl false (f_.qad.map qaj))],.row 1 ((v26 ++ [v25]).map qav)]) rfl (by simp) rfl (by trivial) ⟨rfl,trivial,rfl,trivial,rfl,trivial,trivial⟩) ?_
      refine qa2 ?_
      refine qa0 hτ rfl rfl rfl ?_
      refine qa0 hτ rfl rfl rfl ?_
      refine qa0 hτ rfl rfl rfl ?_
      refine qa0 hτ rfl rfl rfl ?_
      refine qa0 hτ rfl rfl rfl ?_
      refine qa7 h fun x35 hx35 h=>?_
      refine qf7 hτ rfl rfl rfl (qd2 hx35).1 (qdv hx35) rfl ?_
      refine qa0 hτ rfl rfl rfl ?_
      refine qa0 hτ rfl rfl rfl ?_
      refine qa0 hτ rfl rfl rfl ?_
      refine qa4 ?_
      exact ⟨(m31,x35.qd1,(v26 ++ [v25])),h,Nat.lt_succ_self m31,(qa3 [0,1] (l:=[(0,.ptr 0 0),(1,.d (.int .i64 x35.qd1)),(5,.row 1 ((v26 ++ [v25]).length) 0 ((v26 ++ [v25]).length))]) (objs:=[.box [.d (.cx .f32 f_.Source.A.re f_.Source.A.im),.d (.cx .f32 f_.Source.B.re f_.Source.B.im),.d (.cx .f32 f_.Source.C.re f_.Source.C.im),.d (.sl false (f_.qad.map qaj))],.row 1 ((v26 ++ [v25]).map qav)]) rfl (by simp) rfl (by trivial) ⟨rfl,trivial,rfl,trivial,rfl,trivial,trivial⟩)⟩
    · have h:=if_f h hc33
      refine qh2 ?_
      refine qa8 (qa3 [0,1] (l:=[(5,.row 1 v26.length 0 v26.length)]) (objs:=[.box [.d (.cx .f32 f_.Source.A.re f_.Source.A.im),.d (.cx .f32 f_.Source.B.re f_.Source.B.im),.d (.cx .f32 f_.Source.C.re f_.Source.C.im),.d (.sl false (f_.qad.map qaj))],.row 1 (v26.map qav)]) rfl (by simp) rfl (by trivial) ⟨rfl,trivial,trivial⟩) ?_
      exact hk22 v26 h
end Go.Proofs.Ytdnkjocenbepaaa.AWN
