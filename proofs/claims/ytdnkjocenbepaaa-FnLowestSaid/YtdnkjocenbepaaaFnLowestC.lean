/- Models and contracts, printed by program. -/
import Derived.Test.YtdnkjocenbepaaaFnLowestB
set_option linter.unusedVariables false
set_option linter.unusedSimpArgs false
set_option linter.unusedSectionVars false
set_option maxHeartbeats 2000000
namespace Go.Proofs.Ytdnkjocenbepaaa.AWN
open Go Go.Proofs.Try
def qaq (x:Int):List D:=[.int .u8 x]
@[simp] theorem eIntu8_len (x:Int):(qaq x).length = 1:=rfl
structure qdy where
  code:List Int
  at_:Int
  seed:Int
deriving DecidableEq
structure qa7 where
  A:Cx
  B:Cx
  C:Cx
deriving DecidableEq
structure SBus where
  qar:Int
  Own:Cx
  Shared:Cx
  Kind:Int
  Load:qa7
  qan:Int
deriving DecidableEq
def qaf (x:SBus):List D:=[.int .i64 x.qar,.cx .f32 x.Own.re x.Own.im,.cx .f32 x.Shared.re x.Shared.im,.int .i64 x.Kind,.cx .f32 x.Load.A.re x.Load.A.im,.cx .f32 x.Load.B.re x.Load.B.im,.cx .f32 x.Load.C.re x.Load.C.im,.int .i64 x.qan]
@[simp] theorem eSBus_len (x:SBus):(qaf x).length = 8:=rfl
theorem qjk (x:SBus):∀ c ∈ qaf x,c.flat:=by simp [qaf,D.flat]
structure qam where
  Source:qa7
  qa9:List SBus
deriving DecidableEq
def qa1 (x:qa7):List D:=[.cx .f32 x.A.re x.A.im,.cx .f32 x.B.re x.B.im,.cx .f32 x.C.re x.C.im]
@[simp] theorem eSPhases_len (x:qa7):(qa1 x).length = 3:=rfl
theorem qid (x:qa7):∀ c ∈ qa1 x,c.flat:=by simp [qa1,D.flat]
structure qco where
  qa3:List qa7
  qae:List qa7
  Rounds:Int
  qaw:Bool
deriving DecidableEq
def qbq (x:Nat):List D:=[.fl .f32 x]
@[simp] theorem eNatf32_len (x:Nat):(qbq x).length = 1:=rfl
theorem qlc (x:Nat):∀ c ∈ qbq x,c.flat:=by simp [qbq,D.flat]
def qb9 (x:Int):List D:=[.int .i64 x]
@[simp] theorem eInti64_len (x:Int):(qb9 x).length = 1:=rfl
theorem qlb (x:Int):∀ c ∈ qb9 x,c.flat:=by simp [qb9,D.flat]
structure qks where
  a0:Cx
  a1:Cx
  a2:Cx
deriving DecidableEq
def ql7 (x:Cx):List D:=[.cx .f32 x.re x.im]
@[simp] theorem eCxf32_len (x:Cx):(ql7 x).length = 1:=rfl
theorem ext137 {x:Int} (hx:x.toNat < 18446744073709551616):qmu prog 137 [.d (.int .u64 x)] (.d (.fl .f64 (canon .f64 x.toNat))):=qsf (e:=Extern.MathFloatBits.float64frombits) func137 rfl rfl (by kernel_rfl) (by kernel_rfl) fun W hb H ok vals h=>qng (k:=.f64) (fun _=>rfl) hx h
theorem ext156 {x:Nat}:qmu prog 156 [.d (.fl .f64 x)] (.d (.fl .f64 (qk2 x))):=qsf (e:=Extern.MathSqrt.sqrt) func156 rfl rfl (by kernel_rfl) (by kernel_rfl) fun W hb H ok vals h=>sqrt_run h
theorem ext170 {x:Int} (hx:x.toNat < 4294967296):qmu prog 170 [.d (.int .u32 x)] (.d (.fl .f32 (canon .f32 x.toNat))):=qsf (e:=Extern.MathFloatBits.float32frombits) func170 rfl rfl (by kernel_rfl) (by kernel_rfl) fun W hb H ok vals h=>qng (k:=.f32) (fun _=>rfl) hx h
def qgx (n:Nat) (code_:List Int) (more_:List Int):Option Bool :=
  if (code_.length:Int) > (1048576:Int) then
    some true
  else
    some (decide ((more_.length:Int) > (1048576:Int)))
theorem laws_b10Long_ok_fr0 (fr:Bool) (n:Nat) (code_:List Int) (more_:List Int) {r:Bool} (h:qgx n code_ more_ = some r):qb0 prog fr 8 [.d (.sl false (code_.map qaq)),.d (.sl false (more_.map qaq))] [] (fun v o new=>v = .d (.bool r)∧o = []∧new = []):=by
  refine qal hτ func8 rfl (by simp) (by simp) ?_
  unfold qgx at h
  refine qaa ?_
  refine qa2 ?_
  refine qa0 hτ rfl rfl rfl ?_
  refine qa6 ?_
  refine qaa ?_
  refine qa2 ?_
  refine qa0 hτ rfl rfl rfl ?_
  refine qa0 hτ (v:=.d (.int .i64 (code_.length:Int))) rfl rfl (Eq.trans rfl (qfx (f:=qaq) code_)) ?_
  refine qa0 hτ rfl rfl rfl ?_
  refine qa0 hτ rfl rfl rfl ?_
  refine qb4 8 rfl (fun hb3=>?_) (fun hb3=>?_)
  · have h:=if_t h hb3
    refine qa4 rfl rfl ?_
    refine qa4 rfl rfl ?_
    refine qa4 rfl rfl ?_
    refine qa0 hτ rfl rfl rfl ?_
    refine qa0 hτ rfl rfl rfl ?_
    refine qa6 ?_
    refine qab (qa5 [] (l:=[(4,.d (.bool true))]) (objs:=[]) rfl (by simp) rfl (by trivial) ⟨rfl,trivial,trivial⟩) ?_
    refine qas ?_
    have hr:=Option.some.inj h
    subst hr
    exact qah (.inr rfl) [] (objs':=[]) (new:=[]) rfl (by simp) (by simp) rfl (by trivial) rfl rfl (by trivial) (fun _=>⟨by simp [V.flat,V.qbh,V.qb7,D.flat],qao⟩) ⟨rfl,rfl,rfl⟩
  · have h:=if_f h hb3
    refine qa0 hτ rfl rfl rfl ?_
    refine qa0 hτ (v:=.d (.int .i64 (more_.length:Int))) rfl rfl (Eq.trans rfl (qfx (f:=qaq) more_)) ?_
    refine qa0 hτ rfl rfl rfl ?_
    refine qa0 hτ rfl rfl rfl ?_
    refine qa0 hτ rfl rfl rfl ?_
    refine qa6 ?_
    refine qab (qa5 [] (l:=[(4,.d (.bool (decide ((more_.length:Int) > (1048576:Int)))))]) (objs:=[]) rfl (by simp) rfl (by trivial) ⟨rfl,trivial,trivial⟩) ?_
    refine qas ?_
    have hr:=Option.some.inj h
    subst hr
    exact qah (.inr rfl) [] (objs':=[]) (new:=[]) rfl (by simp) (by simp) rfl (by trivial) rfl rfl (by trivial) (fun _=>⟨by simp [V.flat,V.qbh,V.qb7,D.flat],qao⟩) ⟨rfl,rfl,rfl⟩
theorem laws_b10Long_ok (n:Nat) (code_:List Int) (more_:List Int) {r:Bool} (h:qgx n code_ more_ = some r):qb0 prog false 8 [.d (.sl false (code_.map qaq)),.d (.sl false (more_.map qaq))] [] (fun v o new=>v = .d (.bool r)∧o = []∧new = []):=laws_b10Long_ok_fr0 false n code_ more_ h
def qix (n:Nat) (code_:List Int):Option qdy :=
  some (qdy.mk code_ (0:Int) (0:Int))
theorem spec_l00From_ok (n:Nat) (code_:List Int) {r:qdy} (h:qix n code_ = some r):qb0 prog false 54 [.d (.sl false (code_.map qaq))] [] (fun v o new=>v = .ptr 0 0∧o = []∧new = [.box [.d (.sl false (r.code.map qaq)),.d (.int .i64 r.at_),.d (.int .u64 r.seed)]]):=by
  refine qal hτ func54 rfl (by simp) (by simp) ?_
  unfold qix at h
  refine qaa ?_
  refine qa2 ?_
  refine qa0 hτ rfl rfl rfl ?_
  refine qa6 ?_
  refine qaa ?_
  refine qa2 ?_
  refine qa0 hτ rfl rfl rfl ?_
  refine qa0 hτ rfl rfl rfl ?_
  refine qak hτ rfl rfl rfl ?_
  refine qa0 hτ rfl rfl rfl ?_
  refine qa6 ?_
  refine qab (qa5 [0] (l:=[(2,.ptr 0 0)]) (objs:=[.box [.d (.sl false (code_.map qaq)),.d (.int .i64 (0:Int)),.d (.int .u64 (0:Int))]]) rfl (by simp) rfl (by trivial) ⟨rfl,trivial,trivial⟩) ?_
  refine qas ?_
  have hr:=Option.some.inj h
  subst hr
  exact qah (.inr rfl) [0] (objs':=[]) (new:=[.box [.d (.sl false (code_.map qaq)),.d (.int .i64 (0:Int)),.d (.int .u64 (0:Int))]]) rfl (by simp) (by simp) rfl (by trivial) rfl rfl (by trivial) (fun h=>nomatch h) ⟨rfl,rfl,rfl⟩
def qcz (n:Nat) (s_:qdy) (v5:Int):Option (Int × qdy) :=
  if (w64 (s_.at_ + (1:Int))) ≤ (s_.code.length:Int) then
    some (v5,(qdy.mk s_.code (w64 (s_.at_ + (1:Int))) (IntKind.wrap .u64 ((IntKind.wrap .u64 ((IntKind.wrap .u64 (s_.seed * (6364136223846793005:Int))) + (IntKind.wrap .u64 (v5)))) + (1442695040888963407:Int)))))
  else
    some ((w64 ((qdi .and .u64 ((IntKind.wrap .u64 ((IntKind.wrap .u64 ((IntKind.wrap .u64 (s_.seed * (6364136223846793005:Int))) + (IntKind.wrap .u64 (v5)))) + (1442695040888963407:Int))).fdiv (2 ^ min (40:Int).toNat (IntKind.bits .u64))) (255:Int)))),(qdy.mk s_.code (w64 (s_.at_ + (1:Int))) (IntKind.wrap .u64 ((IntKind.wrap .u64 ((IntKind.wrap .u64 (s_.seed * (6364136223846793005:Int))) + (IntKind.wrap .u64 (v5)))) + (1442695040888963407:Int)))))
def qem (n:Nat) (s_:qdy):Option (Int × qdy) :=
  if s_.at_ < (s_.code.length:Int) then
    (getI s_.code s_.at_).bind fun x9 =>
    qcz n s_ (w64 (x9))
  else
    qcz n s_ (0:Int)
theorem qjz (n:Nat) (s_:qdy) {r:Int × qdy} (h:qem n s_ = some r):qb0 prog false 112 [.ptr 0 0] [.box [.d (.sl false (s_.code.map qaq)),.d (.int .i64 s_.at_),.d (.int .u64 s_.seed)]] (fun v o new=>v = .d (.int .i64 r.1)∧o = [.box [.d (.sl false (r.2.code.map qaq)),.d (.int .i64 r.2.at_),.d (.int .u64 r.2.seed)]]∧new = []):=by
  refine qal hτ func112 rfl (by simp) (by simp) ?_
  unfold qem at h
  refine qaa ?_
  refine qa2 ?_
  refine qa0 hτ rfl rfl rfl ?_
  refine qa6 ?_
  refine qaa ?_
  refine qa2 ?_
  refine qa0 hτ rfl rfl rfl ?_
  refine qa6 ?_
  refine qc7 (ι:=Int) (fun v5=>St.of [(0,.ptr 0 0),(3,.d (.int .i64 v5))] [.box [.d (.sl false (s_.code.map qaq)),.d (.int .i64 s_.at_),.d (.int .u64 s_.seed)]] f112.ntmps 1) (fun v5=>qcz n s_ v5 = some r) ?_ (fun hk7=>?_)
  · rintro v5 h
    replace h:qcz n s_ v5 = some r:=h
    unfold qcz at h
    refine qaa ?_
    refine qa2 ?_
    refine qa0 hτ rfl rfl rfl ?_
    refine qa0 hτ rfl rfl rfl ?_
    refine qa0 hτ rfl rfl rfl ?_
    refine qa0 hτ rfl rfl rfl ?_
    refine qa0 hτ rfl rfl rfl ?_
    refine qa0 hτ rfl rfl rfl ?_
    refine qa0 hτ rfl rfl rfl ?_
    refine qak hτ rfl rfl rfl ?_
    refine qa6 ?_
    refine qaa ?_
    refine qab (qa5 [0] (l:=[(0,.ptr 0 0),(3,.d (.int .i64 v5))]) (objs:=[.box [.d (.sl false (s_.code.map qaq)),.d (.int .i64 (w64 (s_.at_ + (1:Int)))),.d (.int .u64 s_.seed)]]) rfl (by simp) rfl (by trivial) ⟨rfl,trivial,rfl,trivial,trivial⟩) ?_
    refine qa2 ?_
    refine qa0 hτ rfl rfl rfl ?_
    refine qa0 hτ rfl rfl rfl ?_
    refine qa0 hτ rfl rfl rfl ?_
    refine qa0 hτ rfl rfl rfl ?_
    refine qa0 hτ rfl rfl rfl ?_
    refine qa0 hτ rfl rfl rfl ?_
    refine qa0 hτ rfl rfl rfl ?_
    refine qa0 hτ rfl rfl rfl ?_
    refine qa0 hτ rfl rfl rfl ?_
    refine qa0 hτ rfl rfl rfl ?_
    refine qa0 hτ rfl rfl rfl ?_
    refine qa0 hτ rfl rfl rfl ?_
    refine qap (qa5 [0] (l:=[(0,.ptr 0 0),(3,.d (.int .i64 v5)),(41,.d (.int .u64 (IntKind.wrap .u64 ((IntKind.wrap .u64 ((IntKind.wrap .u64 (s_.seed * (6364136223846793005:Int))) + (IntKind.wrap .u64 (v5)))) + (1442695040888963407:Int))))),(43,.ptr 0 2)]) (objs:=[.box [.d (.sl false (s_.code.map qaq)),.d (.int .i64 (w64 (s_.at_ + (1:Int)))),.d (.int .u64 s_.seed)]]) rfl (by simp) rfl (by trivial) ⟨rfl,trivial,rfl,trivial,rfl,trivial,rfl,trivial,trivial⟩) ?_
    refine qak hτ rfl rfl rfl ?_
    refine qa6 ?_
    refine qaa ?_
    refine qaa ?_
    refine qcv ?_
    refine qad hτ [] 0 rfl rfl rfl rfl rfl ?_
    refine qad hτ [] 1 rfl rfl rfl rfl rfl ?_
    refine qad hτ [0] 2 rfl rfl rfl rfl rfl ?_
    refine qad hτ [0] 3 rfl rfl rfl rfl rfl ?_
    refine qad hτ [] 4 rfl rfl rfl rfl rfl ?_
    refine qad hτ [] 5 rfl rfl rfl rfl rfl ?_
    refine qad hτ [0] 6 rfl rfl rfl rfl rfl ?_
    refine qad hτ [0] 7 rfl rfl rfl rfl rfl ?_
    refine qad hτ (v:=.d (.int .i64 (s_.code.length:Int))) [] 8 rfl rfl rfl rfl (Eq.trans rfl (qfx (f:=qaq) s_.code)) ?_
    refine qad hτ [] 9 rfl rfl rfl rfl rfl ?_
    refine qd4 mixed (by kernel_rfl) ?_
    refine qab (qa5 [0] (l:=[(0,.ptr 0 0),(3,.d (.int .i64 v5)),(53,.d (.bool (decide ((w64 (s_.at_ + (1:Int))) ≤ (s_.code.length:Int)))))]) (objs:=[.box [.d (.sl false (s_.code.map qaq)),.d (.int .i64 (w64 (s_.at_ + (1:Int)))),.d (.int .u64 (IntKind.wrap .u64 ((IntKind.wrap .u64 ((IntKind.wrap .u64 (s_.seed * (6364136223846793005:Int))) + (IntKind.wrap .u64 (v5)))) + (1442695040888963407:Int))))]]) rfl (by simp) rfl (by trivial) ⟨rfl,trivial,rfl,trivial,rfl,trivial,trivial⟩) ?_
    refine qaz rfl (fun hc6=>?_) (fun hc6=>?_)
    · have h:=if_t h hc6
      refine qaa ?_
      refine qa2 ?_
      refine qa0 hτ rfl rfl rfl ?_
      refine qa0 hτ rfl rfl rfl ?_
      refine qa6 ?_
      refine qab (qa5 [0] (l:=[(2,.d (.int .i64 v5))]) (objs:=[.box [.d (.sl false (s_.code.map qaq)),.d (.int .i64 (w64 (s_.at_ + (1:Int)))),.d (.int .u64 (IntKind.wrap .u64 ((IntKind.wrap .u64 ((IntKind.wrap .u64 (s_.seed * (6364136223846793005:Int))) + (IntKind.wrap .u64 (v5)))) + (1442695040888963407:Int))))]]) rfl (by simp) rfl (by trivial) ⟨rfl,trivial,trivial⟩) ?_
      refine qas ?_
      have hr:=Option.some.inj h
      subst hr
      exact qah (.inr rfl) [] (objs':=[.box [.d (.sl false (s_.code.map qaq)),.d (.int .i64 (w64 (s_.at_ + (1:Int)))),.d (.int .u64 (IntKind.wrap .u64 ((IntKind.wrap .u64 ((IntKind.wrap .u64 (s_.seed * (6364136223846793005:Int))) + (IntKind.wrap .u64 (v5)))) + (1442695040888963407:Int))))]]) (new:=[]) rfl (by simp) (by simp) rfl (by trivial) rfl rfl (by trivial) (fun h=>nomatch h) ⟨rfl,rfl,rfl⟩
    · have h:=if_f h hc6
      refine qb3 ?_
      refine qaa ?_
      refine qa2 ?_
      refine qa0 hτ rfl rfl rfl ?_
      refine qa0 hτ rfl rfl rfl ?_
      refine qa0 hτ rfl rfl rfl ?_
      refine qa0 hτ rfl rfl rfl ?_
      refine qbl hτ rfl rfl rfl (by decide) ?_
      refine qa0 hτ rfl rfl rfl ?_
      refine qa0 hτ rfl rfl rfl ?_
      refine qa0 hτ rfl rfl rfl ?_
      refine qa6 ?_
      refine qab (qa5 [0] (l:=[(2,.d (.int .i64 (w64 ((qdi .and .u64 ((IntKind.wrap .u64 ((IntKind.wrap .u64 ((IntKind.wrap .u64 (s_.seed * (6364136223846793005:Int))) + (IntKind.wrap .u64 (v5)))) + (1442695040888963407:Int))).fdiv (2 ^ min (40:Int).toNat (IntKind.bits .u64))) (255:Int))))))]) (objs:=[.box [.d (.sl false (s_.code.map qaq)),.d (.int .i64 (w64 (s_.at_ + (1:Int)))),.d (.int .u64 (IntKind.wrap .u64 ((IntKind.wrap .u64 ((IntKind.wrap .u64 (s_.seed * (6364136223846793005:Int))) + (IntKind.wrap .u64 (v5)))) + (1442695040888963407:Int))))]]) rfl (by simp) rfl (by trivial) ⟨rfl,trivial,trivial⟩) ?_
      refine qas ?_
      have hr:=Option.some.inj h
      subst hr
      exact qah (.inr rfl) [] (objs':=[.box [.d (.sl false (s_.code.map qaq)),.d (.int .i64 (w64 (s_.at_ + (1:Int)))),.d (.int .u64 (IntKind.wrap .u64 ((IntKind.wrap .u64 ((IntKind.wrap .u64 (s_.seed * (6364136223846793005:Int))) + (IntKind.wrap .u64 (v5)))) + (1442695040888963407:Int))))]]) (new:=[]) rfl (by simp) (by simp) rfl (by trivial) rfl rfl (by trivial) (fun h=>nomatch h) ⟨rfl,rfl,rfl⟩
  · refine qaa ?_
    refine qaa ?_
    refine qcv ?_
    refine qad hτ [] 0 rfl rfl rfl rfl rfl ?_
    refine qad hτ [] 1 rfl rfl rfl rfl rfl ?_
    refine qad hτ [0] 2 rfl rfl rfl rfl rfl ?_
    refine qad hτ [0] 3 rfl rfl rfl rfl rfl ?_
    refine qad hτ [] 4 rfl rfl rfl rfl rfl ?_
    refine qad hτ [] 5 rfl rfl rfl rfl rfl ?_
    refine qad hτ [0] 6 rfl rfl rfl rfl rfl ?_
    refine qad hτ [0] 7 rfl rfl rfl rfl rfl ?_
    refine qad hτ (v:=.d (.int .i64 (s_.code.length:Int))) [] 8 rfl rfl rfl rfl (Eq.trans rfl (qfx (f:=qaq) s_.code)) ?_
    refine qad hτ [] 9 rfl rfl rfl rfl rfl ?_
    refine qd4 mixed (by kernel_rfl) ?_
    refine qab (qa5 [0] (l:=[(0,.ptr 0 0),(3,.d (.int .i64 (0:Int))),(13,.d (.bool (decide (s_.at_ < (s_.code.length:Int)))))]) (objs:=[.box [.d (.sl false (s_.code.map qaq)),.d (.int .i64 s_.at_),.d (.int .u64 s_.seed)]]) rfl (by simp) rfl (by trivial) ⟨rfl,trivial,rfl,trivial,rfl,trivial,trivial⟩) ?_
    refine qaz rfl (fun hc8=>?_) (fun hc8=>?_)
    · have h:=if_t h hc8
      refine qcv ?_
      refine qad hτ [] 0 rfl rfl rfl rfl rfl ?_
      refine qad hτ [] 1 rfl rfl rfl rfl rfl ?_
      refine qad hτ [0] 2 rfl rfl rfl rfl rfl ?_
      refine qad hτ [0] 3 rfl rfl rfl rfl rfl ?_
      refine qad hτ [] 4 rfl rfl rfl rfl rfl ?_
      refine qad hτ [] 5 rfl rfl rfl rfl rfl ?_
      refine qad hτ [0] 6 rfl rfl rfl rfl rfl ?_
      refine qad hτ [0] 7 rfl rfl rfl rfl rfl ?_
      refine qac h fun x9 hx9 h=>?_
      refine qg1 hτ [] 8 rfl rfl rfl rfl rfl (qd3 hx9).1 (qeu hx9) rfl ?_
      refine qad hτ [] 9 rfl rfl rfl rfl rfl ?_
      refine qad hτ [] 10 rfl rfl rfl rfl rfl ?_
      refine qad hτ [] 11 rfl rfl rfl rfl rfl ?_
      refine qd4 mixed (by kernel_rfl) ?_
      refine qab (qa5 [0] (l:=[(0,.ptr 0 0),(3,.d (.int .i64 (w64 (x9))))]) (objs:=[.box [.d (.sl false (s_.code.map qaq)),.d (.int .i64 s_.at_),.d (.int .u64 s_.seed)]]) rfl (by simp) rfl (by trivial) ⟨rfl,trivial,rfl,trivial,trivial⟩) ?_
      exact hk7 (w64 (x9)) h
    · have h:=if_f h hc8
      refine qb3 ?_
      refine qab (qa5 [0] (l:=[(0,.ptr 0 0),(3,.d (.int .i64 (0:Int)))]) (objs:=[.box [.d (.sl false (s_.code.map qaq)),.d (.int .i64 s_.at_),.d (.int .u64 s_.seed)]]) rfl (by simp) rfl (by trivial) ⟨rfl,trivial,rfl,trivial,trivial⟩) ?_
      exact hk7 (0:Int) h
def qd0 (n:Nat) (n_:Int) (v15:List Int) (v16:Int) (v17:Int) (v18:Int):Option (Int × qdy) :=
  grd (n_ ≠ 0) <|
  some ((v18.tmod n_),(qdy.mk v15 v16 v17))
def qb6 (n:Nat) (s_:qdy) (n_:Int):Option (Int × qdy) :=
  if n_ ≤ (1:Int) then
    some ((0:Int),s_)
  else
    (qem n s_).bind fun x9 =>
    if n_ > (200:Int) then
      (qem n x9.2).bind fun x22 =>
      qd0 n n_ x22.2.code x22.2.at_ x22.2.seed (w64 ((w64 (x9.1 * (256:Int))) + x22.1))
    else
      qd0 n n_ x9.2.code x9.2.at_ x9.2.seed x9.1
theorem qby (n:Nat) (s_:qdy) (n_:Int) {r:Int × qdy} (h:qb6 n s_ n_ = some r):qb0 prog false 56 [.ptr 0 0,.d (.int .i64 n_)] [.box [.d (.sl false (s_.code.map qaq)),.d (.int .i64 s_.at_),.d (.int .u64 s_.seed)]] (fun v o new=>v = .d (.int .i64 r.1)∧o = [.box [.d (.sl false (r.2.code.map qaq)),.d (.int .i64 r.2.at_),.d (.int .u64 r.2.seed)]]∧new = []):=by
  refine qal hτ func56 rfl (by simp) (by simp) ?_
  unfold qb6 at h
  refine qaa ?_
  refine qa2 ?_
  refine qa0 hτ rfl rfl rfl ?_
  refine qa6 ?_
  refine qaa ?_
  refine qaa ?_
  refine qa2 ?_
  refine qa0 hτ rfl rfl rfl ?_
  refine qa0 hτ rfl rfl rfl ?_
  refine qa6 ?_
  refine qaz rfl (fun hc8=>?_) (fun hc8=>?_)
  · have h:=if_t h hc8
    refine qaa ?_
    refine qa2 ?_
    refine qa0 hτ rfl rfl rfl ?_
    refine qa6 ?_
    refine qab (qa5 [0] (l:=[(4,.d (.int .i64 (0:Int)))]) (objs:=[.box [.d (.sl false (s_.code.map qaq)),.d (.int .i64 s_.at_),.d (.int .u64 s_.seed)]]) rfl (by simp) rfl (by trivial) ⟨rfl,trivial,trivial⟩) ?_
    refine qas ?_
    have hr:=Option.some.inj h
    subst hr
    exact qah (.inr rfl) [] (objs':=[.box [.d (.sl false (s_.code.map qaq)),.d (.int .i64 s_.at_),.d (.int .u64 s_.seed)]]) (new:=[]) rfl (by simp) (by simp) rfl (by trivial) rfl rfl (by trivial) (fun h=>nomatch h) ⟨rfl,rfl,rfl⟩
  · have h:=if_f h hc8
    refine qb3 ?_
    refine qaa ?_
    refine qa2 ?_
    refine qa0 hτ rfl rfl rfl ?_
    refine qac h fun x9 hx9 h=>?_
    refine qag hτ false [0] rfl rfl rfl (qai func112 rfl rfl) rfl rfl (by simp) ⟨trivial,trivial⟩ (by trivial) (qjz n s_ hx9) ?_
    rintro r0 o0 n0 ⟨rfl,rfl,rfl⟩ -
    refine qa0 hτ rfl rfl rfl ?_
    refine qa6 ?_
    refine qc7 (ι:=List Int × Int × Int × Int) (fun (v15,v16,v17,v18)=>St.of [(1,.d (.int .i64 n_)),(5,.d (.int .i64 v18))] [.box [.d (.sl false (v15.map qaq)),.d (.int .i64 v16),.d (.int .u64 v17)]] f56.ntmps 1) (fun (v15,v16,v17,v18)=>qd0 n n_ v15 v16 v17 v18 = some r) ?_ (fun hk20=>?_)
    · rintro ⟨v15,v16,v17,v18⟩ h
      replace h:qd0 n n_ v15 v16 v17 v18 = some r:=h
      unfold qd0 at h
      refine qaa ?_
      refine qa2 ?_
      refine qa0 hτ rfl rfl rfl ?_
      refine qa0 hτ rfl rfl rfl ?_
      refine qd6 h fun hg19 h=>?_
      refine qbl hτ rfl rfl rfl hg19 ?_
      refine qa0 hτ rfl rfl rfl ?_
      refine qa6 ?_
      refine qab (qa5 [0] (l:=[(4,.d (.int .i64 (v18.tmod n_)))]) (objs:=[.box [.d (.sl false (v15.map qaq)),.d (.int .i64 v16),.d (.int .u64 v17)]]) rfl (by simp) rfl (by trivial) ⟨rfl,trivial,trivial⟩) ?_
      refine qas ?_
      have hr:=Option.some.inj h
      subst hr
      exact qah (.inr rfl) [] (objs':=[.box [.d (.sl false (v15.map qaq)),.d (.int .i64 v16),.d (.int .u64 v17)]]) (new:=[]) rfl (by simp) (by simp) rfl (by trivial) rfl rfl (by trivial) (fun h=>nomatch h) ⟨rfl,rfl,rfl⟩
    · refine qaa ?_
      refine qaa ?_
      refine qab (qa5 [0] (l:=[(0,.ptr 0 0),(1,.d (.int .i64 n_)),(5,.d (.int .i64 x9.1))]) (objs:=[.box [.d (.sl false (x9.2.code.map qaq)),.d (.int .i64 x9.2.at_),.d (.int .u64 x9.2.seed)]]) rfl (by simp) rfl (by trivial) ⟨rfl,trivial,rfl,trivial,rfl,trivial,trivial⟩) ?_
      refine qa2 ?_
      refine qa0 hτ rfl rfl rfl ?_
      refine qa0 hτ rfl rfl rfl ?_
      refine qa6 ?_
      refine qaz rfl (fun hc21=>?_) (fun hc21=>?_)
      · have h:=if_t h hc21
        refine qa2 ?_
        refine qa0 hτ rfl rfl rfl ?_
        refine qa0 hτ rfl rfl rfl ?_
        refine qa0 hτ rfl rfl rfl ?_
        refine qac h fun x22 hx22 h=>?_
        refine qag hτ false [0] rfl rfl rfl (qai func112 rfl rfl) rfl rfl (by simp) ⟨trivial,trivial⟩ (by trivial) (qjz n x9.2 hx22) ?_
        rintro r0 o0 n0 ⟨rfl,rfl,rfl⟩ -
        refine qa0 hτ rfl rfl rfl ?_
        refine qa0 hτ rfl rfl rfl ?_
        refine qa6 ?_
        refine qab (qa5 [0] (l:=[(1,.d (.int .i64 n_)),(5,.d (.int .i64 (w64 ((w64 (x9.1 * (256:Int))) + x22.1))))]) (objs:=[.box [.d (.sl false (x22.2.code.map qaq)),.d (.int .i64 x22.2.at_),.d (.int .u64 x22.2.seed)]]) rfl (by simp) rfl (by trivial) ⟨rfl,trivial,rfl,trivial,trivial⟩) ?_
        exact hk20 (x22.2.code,x22.2.at_,x22.2.seed,(w64 ((w64 (x9.1 * (256:Int))) + x22.1))) h
      · have h:=if_f h hc21
        refine qb3 ?_
        refine qab (qa5 [0] (l:=[(1,.d (.int .i64 n_)),(5,.d (.int .i64 x9.1))]) (objs:=[.box [.d (.sl false (x9.2.code.map qaq)),.d (.int .i64 x9.2.at_),.d (.int .u64 x9.2.seed)]]) rfl (by simp) rfl (by trivial) ⟨rfl,trivial,rfl,trivial,trivial⟩) ?_
        exact hk20 (x9.2.code,x9.2.at_,x9.2.seed,x9.1) h
def qhr (n:Nat) (n_:Int):Option Nat :=
  grd ((IntKind.wrap .u32 (n_)).toNat < 4294967296) <|
  some (canon .f32 (IntKind.wrap .u32 (n_)).toNat)
theorem spec_l01From_ok_fr0 (fr:Bool) (n:Nat) (n_:Int) {r:Nat} (h:qhr n n_ = some r):qb0 prog fr 148 [.d (.int .i64 n_)] [] (fun v o new=>v = .d (.fl .f32 r)∧o = []∧new = []):=by
  refine qal hτ func148 rfl (by simp) (by simp) ?_
  unfold qhr at h
  refine qaa ?_
  refine qa2 ?_
  refine qa0 hτ rfl rfl rfl ?_
  refine qa6 ?_
  refine qaa ?_
  refine qa2 ?_
  refine qa0 hτ rfl rfl rfl ?_
  refine qa0 hτ rfl rfl rfl ?_
  refine qd6 h fun hg2 h=>?_
  refine qsb hτ rfl rfl rfl (ext170 hg2) ?_
  refine qa0 hτ rfl rfl rfl ?_
  refine qa6 ?_
  refine qab (qa5 [] (l:=[(2,.d (.fl .f32 (canon .f32 (IntKind.wrap .u32 (n_)).toNat)))]) (objs:=[]) rfl (by simp) rfl (by trivial) ⟨rfl,trivial,trivial⟩) ?_
  refine qas ?_
  have hr:=Option.some.inj h
  subst hr
  exact qah (.inr rfl) [] (objs':=[]) (new:=[]) rfl (by simp) (by simp) rfl (by trivial) rfl rfl (by trivial) (fun _=>⟨by simp [V.flat,V.qbh,V.qb7,D.flat],qao⟩) ⟨rfl,rfl,rfl⟩
theorem qlk (n:Nat) (n_:Int) {r:Nat} (h:qhr n n_ = some r):qb0 prog false 148 [.d (.int .i64 n_)] [] (fun v o new=>v = .d (.fl .f32 r)∧o = []∧new = []):=spec_l01From_ok_fr0 false n n_ h
def qlt (n:Nat):Option Nat :=
  grd ((9221120237041090561:Int).toNat < 18446744073709551616) <|
  some (canon .f64 (9221120237041090561:Int).toNat)
theorem math_NaN_ok_fr0 (fr:Bool) (n:Nat) {r:Nat} (h:qlt n = some r):qb0 prog fr 171 [] [] (fun v o new=>v = .d (.fl .f64 r)∧o = []∧new = []):=by
  refine qal hτ func171 rfl (by simp) (by simp) ?_
  unfold qlt at h
  refine qaa ?_
  refine qa2 ?_
  refine qa0 hτ rfl rfl rfl ?_
  refine qa6 ?_
  refine qaa ?_
  refine qa2 ?_
  refine qd6 h fun hg2 h=>?_
  refine qsb hτ rfl rfl rfl (ext137 hg2) ?_
  refine qa0 hτ rfl rfl rfl ?_
  refine qa6 ?_
  refine qab (qa5 [] (l:=[(0,.d (.fl .f64 (canon .f64 (9221120237041090561:Int).toNat)))]) (objs:=[]) rfl (by simp) rfl (by trivial) ⟨rfl,trivial,trivial⟩) ?_
  refine qas ?_
  have hr:=Option.some.inj h
  subst hr
  exact qah (.inr rfl) [] (objs':=[]) (new:=[]) rfl (by simp) (by simp) rfl (by trivial) rfl rfl (by trivial) (fun _=>⟨by simp [V.flat,V.qbh,V.qb7,D.flat],qao⟩) ⟨rfl,rfl,rfl⟩
theorem math_NaN_ok (n:Nat) {r:Nat} (h:qlt n = some r):qb0 prog false 171 [] [] (fun v o new=>v = .d (.fl .f64 r)∧o = []∧new = []):=math_NaN_ok_fr0 false n h
def qfw (n:Nat) (v19:Nat) (v23:Nat) (v28:Nat):Option Nat :=
  if (fcmp .geq .f64 v19 (4602678819172646912:Nat)) = true then
    some (fneg .f64 (qa8 .mul .f64 (qa8 .mul .f64 v23 (4618760256179416344:Nat)) v28))
  else
    some (qa8 .mul .f64 (qa8 .mul .f64 v23 (4618760256179416344:Nat)) v28)
def qdo (n:Nat) (v19:Nat) (v23:Nat):Nat→Nat→Int→Option Nat
  | 0,_,_=>none
  | m35 + 1,v31,v32 =>
    if v32 ≥ (1:Int) then
      (qdo n v19 v23 m35) (qa8 .sub .f64 (4607182418800017408:Nat) (qa8 .quo .f64 (qa8 .mul .f64 (qa8 .mul .f64 (qa8 .mul .f64 v23 (4618760256179416344:Nat)) (qa8 .mul .f64 v23 (4618760256179416344:Nat))) v31) (FloatKind.nearest .f64 (w64 ((w64 ((2:Int) * v32)) * (w64 ((w64 ((2:Int) * v32)) + (1:Int)))))))) (w64 (v32 - (1:Int)))
    else
      qfw n v19 v23 v31
def qec (n:Nat) (v19:Nat) (v23:Nat):Option Nat :=
  qdo n v19 v23 n (4607182418800017408:Nat) (8:Int)
def qeb (n:Nat) (v19:Nat) (v21:Nat):Option Nat :=
  if (fcmp .gtr .f64 v21 (4598175219545276416:Nat)) = true then
    qec n v19 (qa8 .sub .f64 (4602678819172646912:Nat) v21)
  else
    qec n v19 v21
def qea (n:Nat) (v19:Nat):Option Nat :=
  if (fcmp .geq .f64 v19 (4602678819172646912:Nat)) = true then
    qeb n v19 (qa8 .sub .f64 v19 (4602678819172646912:Nat))
  else
    qeb n v19 v19
def qfv (n:Nat) (y_:Nat):Option Nat :=
  (f2i .f64 .i64 y_).bind fun x17 =>
  if (fcmp .lss .f64 (qa8 .sub .f64 y_ (FloatKind.nearest .f64 x17)) (0:Nat)) = true then
    qea n (qa8 .add .f64 (qa8 .sub .f64 y_ (FloatKind.nearest .f64 x17)) (4607182418800017408:Nat))
  else
    qea n (qa8 .sub .f64 y_ (FloatKind.nearest .f64 x17))
def qee (n:Nat) (y_:Nat) (v47:Bool):Option Nat :=
  if v47 = true then
    some (0:Nat)
  else
    qfv n y_
def qfu (n:Nat) (y_:Nat):Option Nat :=
  if (fcmp .neq .f64 (qa8 .sub .f64 y_ y_) (0:Nat)) = true then
    (qlt n).bind fun x14 =>
    some x14
  else
    if (fcmp .geq .f64 y_ (4841369599423283200:Nat)) = true then
      qee n y_ true
    else
      qee n y_ (fcmp .leq .f64 y_ (14064741636278059008:Nat))
theorem spec_l01SineWide_ok_fr0 (fr:Bool) (n:Nat) (y_:Nat) {r:Nat} (h:qfu n y_ = some r):qb0 prog fr 149 [.d (.fl .f64 y_)] [] (fun v o new=>v = .d (.fl .f64 r)∧o = []∧new = []):=by
  refine qal hτ func149 rfl (by simp) (by simp) ?_
  unfold qfu at h
  refine qaa ?_
  refine qa2 ?_
  refine qa0 hτ rfl rfl rfl ?_
  refine qa6 ?_
  refine qaa ?_
  refine qaa ?_
  refine qa2 ?_
  refine qa0 hτ rfl rfl rfl ?_
  refine qa0 hτ rfl rfl rfl ?_
  refine qa0 hτ rfl rfl rfl ?_
  refine qa0 hτ rfl rfl rfl ?_
  refine qa6 ?_
  refine qaz rfl (fun hc13=>?_) (fun hc13=>?_)
  · have h:=qcq h hc13
    refine qaa ?_
    refine qa2 ?_
    refine qac h fun x14 hx14 h=>?_
    refine qag hτ false [] rfl rfl rfl (qai func171 rfl rfl) rfl rfl (by simp) trivial (by trivial) (math_NaN_ok n hx14) ?_
    rintro r0 o0 n0 ⟨rfl,rfl,rfl⟩ -
    refine qa0 hτ rfl rfl rfl ?_
    refine qa6 ?_
    refine qab (qa5 [] (l:=[(2,.d (.fl .f64 x14))]) (objs:=[]) rfl (by simp) rfl (by trivial) ⟨rfl,trivial,trivial⟩) ?_
    refine qas ?_
    have hr:=Option.some.inj h
    subst hr
    exact qah (.inr rfl) [] (objs':=[]) (new:=[]) rfl (by simp) (by simp) rfl (by trivial) rfl rfl (by trivial) (fun _=>⟨by simp [V.flat,V.qbh,V.qb7,D.flat],qao⟩) ⟨rfl,rfl,rfl⟩
  · have h:=qcp h hc13
    refine qb3 ?_
    refine qc7 (ι:=Unit) (fun _=>St.of [(0,.d (.fl .f64 y_))] [] f149.ntmps 0) (fun _=>qfv n y_ = some r) ?_ (fun hk44=>?_)
    · rintro ⟨⟩ h
      replace h:qfv n y_ = some r:=h
      unfold qfv at h
      refine qaa ?_
      refine qa2 ?_
      refine qa0 hτ rfl rfl rfl ?_
      refine qa0 hτ rfl rfl rfl ?_
      refine qac h fun x17 hx17 h=>?_
      refine qw7 rfl rfl (qwh hτ rfl rfl rfl rfl rfl rfl hx17) ?_
      refine qa0 hτ rfl rfl rfl ?_
      refine qa0 hτ rfl rfl rfl ?_
      refine qa0 hτ rfl rfl rfl ?_
      refine qa6 ?_
      refine qc7 (ι:=Nat) (fun v19=>St.of [(3,.d (.fl .f64 v19))] [] f149.ntmps 0) (fun v19=>qea n v19 = some r) ?_ (fun hk42=>?_)
      · rintro v19 h
        replace h:qea n v19 = some r:=h
        unfold qea at h
        refine qaa ?_
        refine qa2 ?_
        refine qa0 hτ rfl rfl rfl ?_
        refine qa0 hτ rfl rfl rfl ?_
        refine qa0 hτ rfl rfl rfl ?_
        refine qa6 ?_
        refine qc7 (ι:=Nat) (fun v21=>St.of [(3,.d (.fl .f64 v21)),(4,.d (.bool (fcmp .geq .f64 v19 (4602678819172646912:Nat))))] [] f149.ntmps 0) (fun v21=>qeb n v19 v21 = some r) ?_ (fun hk40=>?_)
        · rintro v21 h
          replace h:qeb n v19 v21 = some r:=h
          unfold qeb at h
          refine qc7 (ι:=Nat) (fun v23=>St.of [(3,.d (.fl .f64 v23)),(4,.d (.bool (fcmp .geq .f64 v19 (4602678819172646912:Nat))))] [] f149.ntmps 0) (fun v23=>qec n v19 v23 = some r) ?_ (fun hk38=>?_)
          · rintro v23 h
            replace h:qec n v19 v23 = some r:=h
            unfold qec at h
            refine qaa ?_
            refine qa2 ?_
            refine qa0 hτ rfl rfl rfl ?_
            refine qa0 hτ rfl rfl rfl ?_
            refine qa0 hτ rfl rfl rfl ?_
            refine qa6 ?_
            refine qaa ?_
            refine qa2 ?_
            refine qa0 hτ rfl rfl rfl ?_
            refine qa0 hτ rfl rfl rfl ?_
            refine qa0 hτ rfl rfl rfl ?_
            refine qa0 hτ rfl rfl rfl ?_
            refine qa6 ?_
            refine qaa ?_
            refine qab (qa5 [] (l:=[(4,.d (.bool (fcmp .geq .f64 v19 (4602678819172646912:Nat)))),(5,.d (.fl .f64 (qa8 .mul .f64 v23 (4618760256179416344:Nat)))),(6,.d (.fl .f64 (qa8 .mul .f64 (qa8 .mul .f64 v23 (4618760256179416344:Nat)) (qa8 .mul .f64 v23 (4618760256179416344:Nat)))))]) (objs:=[]) rfl (by simp) rfl (by trivial) ⟨rfl,trivial,rfl,trivial,rfl,trivial,trivial⟩) ?_
            refine qa2 ?_
            refine qa0 hτ rfl rfl rfl ?_
            refine qa6 ?_
            refine qc7 (ι:=Nat) (fun v28=>St.of [(4,.d (.bool (fcmp .geq .f64 v19 (4602678819172646912:Nat)))),(5,.d (.fl .f64 (qa8 .mul .f64 v23 (4618760256179416344:Nat)))),(7,.d (.fl .f64 v28))] [] f149.ntmps 0) (fun v28=>qfw n v19 v23 v28 = some r) ?_ (fun hk30=>?_)
            · rintro v28 h
              replace h:qfw n v19 v23 v28 = some r:=h
              unfold qfw at h
              refine qaa ?_
              refine qaa ?_
              refine qa2 ?_
              refine qa0 hτ rfl rfl rfl ?_
              refine qa6 ?_
              refine qaz rfl (fun hc29=>?_) (fun hc29=>?_)
              · have h:=qcq h hc29
                refine qaa ?_
                refine qa2 ?_
                refine qa0 hτ rfl rfl rfl ?_
                refine qa0 hτ rfl rfl rfl ?_
                refine qa0 hτ rfl rfl rfl ?_
                refine qa0 hτ rfl rfl rfl ?_
                refine qa0 hτ rfl rfl rfl ?_
                refine qa6 ?_
                refine qab (qa5 [] (l:=[(2,.d (.fl .f64 (fneg .f64 (qa8 .mul .f64 (qa8 .mul .f64 v23 (4618760256179416344:Nat)) v28))))]) (objs:=[]) rfl (by simp) rfl (by trivial) ⟨rfl,trivial,trivial⟩) ?_
                refine qas ?_
                have hr:=Option.some.inj h
                subst hr
                exact qah (.inr rfl) [] (objs':=[]) (new:=[]) rfl (by simp) (by simp) rfl (by trivial) rfl rfl (by trivial) (fun _=>⟨by simp [V.flat,V.qbh,V.qb7,D.flat],qao⟩) ⟨rfl,rfl,rfl⟩
              · have h:=qcp h hc29
                refine qb3 ?_
                refine qaa ?_
                refine qa2 ?_
                refine qa0 hτ rfl rfl rfl ?_
                refine qa0 hτ rfl rfl rfl ?_
                refine qa0 hτ rfl rfl rfl ?_
                refine qa0 hτ rfl rfl rfl ?_
                refine qa6 ?_
                refine qab (qa5 [] (l:=[(2,.d (.fl .f64 (qa8 .mul .f64 (qa8 .mul .f64 v23 (4618760256179416344:Nat)) v28)))]) (objs:=[]) rfl (by simp) rfl (by trivial) ⟨rfl,trivial,trivial⟩) ?_
                refine qas ?_
                have hr:=Option.some.inj h
                subst hr
                exact qah (.inr rfl) [] (objs':=[]) (new:=[]) rfl (by simp) (by simp) rfl (by trivial) rfl rfl (by trivial) (fun _=>⟨by simp [V.flat,V.qbh,V.qb7,D.flat],qao⟩) ⟨rfl,rfl,rfl⟩
            · refine qaa ?_
              refine qaa ?_
              refine qa2 ?_
              refine qa0 hτ rfl rfl rfl ?_
              refine qa6 ?_
              refine qba ?_
              refine qfd (ι:=Nat × Nat × Int) (fun (m35,v31,v32)=>St.of [(4,.d (.bool (fcmp .geq .f64 v19 (4602678819172646912:Nat)))),(5,.d (.fl .f64 (qa8 .mul .f64 v23 (4618760256179416344:Nat)))),(6,.d (.fl .f64 (qa8 .mul .f64 (qa8 .mul .f64 v23 (4618760256179416344:Nat)) (qa8 .mul .f64 v23 (4618760256179416344:Nat))))),(7,.d (.fl .f64 v31)),(8,.d (.int .i64 v32))] [] f149.ntmps 0) (fun (m35,v31,v32)=>qdo n v19 v23 m35 v31 v32 = some r) (fun x=>x.1) (n,(4607182418800017408:Nat),(8:Int)) h (qa5 [] (l:=[(4,.d (.bool (fcmp .geq .f64 v19 (4602678819172646912:Nat)))),(5,.d (.fl .f64 (qa8 .mul .f64 v23 (4618760256179416344:Nat)))),(6,.d (.fl .f64 (qa8 .mul .f64 (qa8 .mul .f64 v23 (4618760256179416344:Nat)) (qa8 .mul .f64 v23 (4618760256179416344:Nat))))),(7,.d (.fl .f64 (4607182418800017408:Nat))),(8,.d (.int .i64 (8:Int)))]) (objs:=[]) rfl (by simp) rfl (by trivial) ⟨rfl,trivial,rfl,trivial,rfl,trivial,rfl,trivial,rfl,trivial,trivial⟩) ?_
              rintro ⟨m35,v31,v32⟩ h
              replace h:qdo n v19 v23 m35 v31 v32 = some r:=h
              rcases m35 with _ | m35
              · rw [qdo] at h;cases h
              rw [qdo] at h
              refine qaa ?_
              refine qaa ?_
              refine qa2 ?_
              refine qa0 hτ rfl rfl rfl ?_
              refine qa0 hτ rfl rfl rfl ?_
              refine qa6 ?_
              refine qaz rfl (fun hc37=>?_) (fun hc37=>?_)
              · have h:=if_t h hc37
                refine qb3 ?_
                refine qaa ?_
                refine qba ?_
                refine qa2 ?_
                refine qa0 hτ rfl rfl rfl ?_
                refine qa0 hτ rfl rfl rfl ?_
                refine qa0 hτ rfl rfl rfl ?_
                refine qa0 hτ rfl rfl rfl ?_
                refine qa0 hτ rfl rfl rfl ?_
                refine qa0 hτ rfl rfl rfl ?_
                refine qa0 hτ rfl rfl rfl ?_
                refine qa0 hτ rfl rfl rfl ?_
                refine qa0 hτ rfl rfl rfl ?_
                refine qa0 hτ rfl rfl rfl ?_
                refine qap (qa5 [] (l:=[(4,.d (.bool (fcmp .geq .f64 v19 (4602678819172646912:Nat)))),(5,.d (.fl .f64 (qa8 .mul .f64 v23 (4618760256179416344:Nat)))),(6,.d (.fl .f64 (qa8 .mul .f64 (qa8 .mul .f64 v23 (4618760256179416344:Nat)) (qa8 .mul .f64 v23 (4618760256179416344:Nat))))),(8,.d (.int .i64 v32)),(49,.d (.fl .f64 (qa8 .mul .f64 (qa8 .mul .f64 (qa8 .mul .f64 v23 (4618760256179416344:Nat)) (qa8 .mul .f64 v23 (4618760256179416344:Nat))) v31))),(56,.d (.fl .f64 (FloatKind.nearest .f64 (w64 ((w64 ((2:Int) * v32)) * (w64 ((w64 ((2:Int) * v32)) + (1:Int))))))))]) (objs:=[]) rfl (by simp) rfl (by trivial) ⟨rfl,trivial,rfl,trivial,rfl,trivial,rfl,trivial,rfl,trivial,rfl,trivial,trivial⟩) ?_
                refine qa0 hτ rfl rfl rfl ?_
                refine qa0 hτ rfl rfl rfl ?_
                refine qa0 hτ rfl rfl rfl ?_
                refine qa6 ?_
                refine qa2 ?_
                refine qa0 hτ rfl rfl rfl ?_
                refine qa0 hτ rfl rfl rfl ?_
                refine qa0 hτ rfl rfl rfl ?_
                refine qa6 ?_
                exact ⟨(m35,(qa8 .sub .f64 (4607182418800017408:Nat) (qa8 .quo .f64 (qa8 .mul .f64 (qa8 .mul .f64 (qa8 .mul .f64 v23 (4618760256179416344:Nat)) (qa8 .mul .f64 v23 (4618760256179416344:Nat))) v31) (FloatKind.nearest .f64 (w64 ((w64 ((2:Int) * v32)) * (w64 ((w64 ((2:Int) * v32)) + (1:Int)))))))),(w64 (v32 - (1:Int)))),h,Nat.lt_succ_self m35,(qa5 [] (l:=[(4,.d (.bool (fcmp .geq .f64 v19 (4602678819172646912:Nat)))),(5,.d (.fl .f64 (qa8 .mul .f64 v23 (4618760256179416344:Nat)))),(6,.d (.fl .f64 (qa8 .mul .f64 (qa8 .mul .f64 v23 (4618760256179416344:Nat)) (qa8 .mul .f64 v23 (4618760256179416344:Nat))))),(7,.d (.fl .f64 (qa8 .sub .f64 (4607182418800017408:Nat) (qa8 .quo .f64 (qa8 .mul .f64 (qa8 .mul .f64 (qa8 .mul .f64 v23 (4618760256179416344:Nat)) (qa8 .mul .f64 v23 (4618760256179416344:Nat))) v31) (FloatKind.nearest .f64 (w64 ((w64 ((2:Int) * v32)) * (w64 ((w64 ((2:Int) * v32)) + (1:Int)))))))))),(8,.d (.int .i64 (w64 (v32 - (1:Int)))))]) (objs:=[]) rfl (by simp) rfl (by trivial) ⟨rfl,trivial,rfl,trivial,rfl,trivial,rfl,trivial,rfl,trivial,trivial⟩)⟩
              · have h:=if_f h hc37
                refine qfc ?_
                refine qab (qa5 [] (l:=[(4,.d (.bool (fcmp .geq .f64 v19 (4602678819172646912:Nat)))),(5,.d (.fl .f64 (qa8 .mul .f64 v23 (4618760256179416344:Nat)))),(7,.d (.fl .f64 v31))]) (objs:=[]) rfl (by simp) rfl (by trivial) ⟨rfl,trivial,rfl,trivial,rfl,trivial,trivial⟩) ?_
                exact hk30 v31 h
          · refine qaa ?_
            refine qaa ?_
            refine qa2 ?_
            refine qa0 hτ rfl rfl rfl ?_
            refine qa0 hτ rfl rfl rfl ?_
            refine qa6 ?_
            refine qaz rfl (fun hc39=>?_) (fun hc39=>?_)
            · have h:=qcq h hc39
              refine qa2 ?_
              refine qa0 hτ rfl rfl rfl ?_
              refine qa0 hτ rfl rfl rfl ?_
              refine qa0 hτ rfl rfl rfl ?_
              refine qa6 ?_
              refine qab (qa5 [] (l:=[(3,.d (.fl .f64 (qa8 .sub .f64 (4602678819172646912:Nat) v21))),(4,.d (.bool (fcmp .geq .f64 v19 (4602678819172646912:Nat))))]) (objs:=[]) rfl (by simp) rfl (by trivial) ⟨rfl,trivial,rfl,trivial,trivial⟩) ?_
              exact hk38 (qa8 .sub .f64 (4602678819172646912:Nat) v21) h
            · have h:=qcp h hc39
              refine qb3 ?_
              refine qab (qa5 [] (l:=[(3,.d (.fl .f64 v21)),(4,.d (.bool (fcmp .geq .f64 v19 (4602678819172646912:Nat))))]) (objs:=[]) rfl (by simp) rfl (by trivial) ⟨rfl,trivial,rfl,trivial,trivial⟩) ?_
              exact hk38 v21 h
        · refine qaa ?_
          refine qaa ?_
          refine qa2 ?_
          refine qa0 hτ rfl rfl rfl ?_
          refine qa6 ?_
          refine qaz rfl (fun hc41=>?_) (fun hc41=>?_)
          · have h:=qcq h hc41
            refine qa2 ?_
            refine qa0 hτ rfl rfl rfl ?_
            refine qa0 hτ rfl rfl rfl ?_
            refine qa0 hτ rfl rfl rfl ?_
            refine qa6 ?_
            refine qab (qa5 [] (l:=[(3,.d (.fl .f64 (qa8 .sub .f64 v19 (4602678819172646912:Nat)))),(4,.d (.bool (fcmp .geq .f64 v19 (4602678819172646912:Nat))))]) (objs:=[]) rfl (by simp) rfl (by trivial) ⟨rfl,trivial,rfl,trivial,trivial⟩) ?_
            exact hk40 (qa8 .sub .f64 v19 (4602678819172646912:Nat)) h
          · have h:=qcp h hc41
            refine qb3 ?_
            refine qab (qa5 [] (l:=[(3,.d (.fl .f64 v19)),(4,.d (.bool (fcmp .geq .f64 v19 (4602678819172646912:Nat))))]) (objs:=[]) rfl (by simp) rfl (by trivial) ⟨rfl,trivial,rfl,trivial,trivial⟩) ?_
            exact hk40 v19 h
      · refine qaa ?_
        refine qaa ?_
        refine qab (qa5 [] (l:=[(3,.d (.fl .f64 (qa8 .sub .f64 y_ (FloatKind.nearest .f64 x17))))]) (objs:=[]) rfl (by simp) rfl (by trivial) ⟨rfl,trivial,trivial⟩) ?_
        refine qa2 ?_
        refine qa0 hτ rfl rfl rfl ?_
        refine qa0 hτ rfl rfl rfl ?_
        refine qa6 ?_
        refine qaz rfl (fun hc43=>?_) (fun hc43=>?_)
        · have h:=qcq h hc43
          refine qa2 ?_
          refine qa0 hτ rfl rfl rfl ?_
          refine qa0 hτ rfl rfl rfl ?_
          refine qa0 hτ rfl rfl rfl ?_
          refine qa6 ?_
          refine qab (qa5 [] (l:=[(3,.d (.fl .f64 (qa8 .add .f64 (qa8 .sub .f64 y_ (FloatKind.nearest .f64 x17)) (4607182418800017408:Nat))))]) (objs:=[]) rfl (by simp) rfl (by trivial) ⟨rfl,trivial,trivial⟩) ?_
          exact hk42 (qa8 .add .f64 (qa8 .sub .f64 y_ (FloatKind.nearest .f64 x17)) (4607182418800017408:Nat)) h
        · have h:=qcp h hc43
          refine qb3 ?_
          refine qab (qa5 [] (l:=[(3,.d (.fl .f64 (qa8 .sub .f64 y_ (FloatKind.nearest .f64 x17))))]) (objs:=[]) rfl (by simp) rfl (by trivial) ⟨rfl,trivial,trivial⟩) ?_
          exact hk42 (qa8 .sub .f64 y_ (FloatKind.nearest .f64 x17)) h
    · refine qaa ?_
      refine qc7 (ι:=Bool) (fun v47=>St.of [(0,.d (.fl .f64 y_)),(19,.d (.bool v47))] [] f149.ntmps 0) (fun v47=>qee n y_ v47 = some r) ?_ (fun hk49=>?_)
      · rintro v47 h
        replace h:qee n y_ v47 = some r:=h
        unfold qee at h
        refine qaz rfl (fun hc48=>?_) (fun hc48=>?_)
        · have h:=qcq h hc48
          refine qaa ?_
          refine qa2 ?_
          refine qa0 hτ rfl rfl rfl ?_
          refine qa6 ?_
          refine qab (qa5 [] (l:=[(2,.d (.fl .f64 (0:Nat)))]) (objs:=[]) rfl (by simp) rfl (by trivial) ⟨rfl,trivial,trivial⟩) ?_
          refine qas ?_
          have hr:=Option.some.inj h
          subst hr
          exact qah (.inr rfl) [] (objs':=[]) (new:=[]) rfl (by simp) (by simp) rfl (by trivial) rfl rfl (by trivial) (fun _=>⟨by simp [V.flat,V.qbh,V.qb7,D.flat],qao⟩) ⟨rfl,rfl,rfl⟩
        · have h:=qcp h hc48
          refine qb3 ?_
          refine qab (qa5 [] (l:=[(0,.d (.fl .f64 y_))]) (objs:=[]) rfl (by simp) rfl (by trivial) ⟨rfl,trivial,trivial⟩) ?_
          exact hk44 () h
      · refine qaa ?_
        refine qa2 ?_
        refine qa0 hτ rfl rfl rfl ?_
        refine qa0 hτ rfl rfl rfl ?_
        refine qa0 hτ rfl rfl rfl ?_
        refine qb4 16 rfl (fun hb50=>?_) (fun hb50=>?_)
        · have h:=qcq h hb50
          refine qa4 rfl rfl ?_
          refine qa4 rfl rfl ?_
          refine qa0 hτ rfl rfl rfl ?_
          refine qa6 ?_
          refine qab (qa5 [] (l:=[(0,.d (.fl .f64 y_)),(19,.d (.bool true))]) (objs:=[]) rfl (by simp) rfl (by trivial) ⟨rfl,trivial,rfl,trivial,trivial⟩) ?_
          exact hk49 true h
        · have h:=qcp h hb50
          refine qa0 hτ rfl rfl rfl ?_
          refine qa0 hτ rfl rfl rfl ?_
          refine qa0 hτ rfl rfl rfl ?_
          refine qa6 ?_
          refine qab (qa5 [] (l:=[(0,.d (.fl .f64 y_)),(19,.d (.bool (fcmp .leq .f64 y_ (14064741636278059008:Nat))))]) (objs:=[]) rfl (by simp) rfl (by trivial) ⟨rfl,trivial,rfl,trivial,trivial⟩) ?_
          exact hk49 (fcmp .leq .f64 y_ (14064741636278059008:Nat)) h
theorem qk0 (n:Nat) (y_:Nat) {r:Nat} (h:qfu n y_ = some r):qb0 prog false 149 [.d (.fl .f64 y_)] [] (fun v o new=>v = .d (.fl .f64 r)∧o = []∧new = []):=spec_l01SineWide_ok_fr0 false n y_ h
def qbw (n:Nat) (x_:Nat):Option Nat :=
  (qgo .f64 .f32 x_).bind fun x2 =>
  some x2
theorem spec_l01Narrow_ok_fr0 (fr:Bool) (n:Nat) (x_:Nat) {r:Nat} (h:qbw n x_ = some r):qb0 prog fr 129 [.d (.fl .f64 x_)] [] (fun v o new=>v = .d (.fl .f32 r)∧o = []∧new = []):=by
  refine qal hτ func129 rfl (by simp) (by simp) ?_
  unfold qbw at h
  refine qaa ?_
  refine qa2 ?_
  refine qa0 hτ rfl rfl rfl ?_
  refine qa6 ?_
  refine qaa ?_
  refine qa2 ?_
  refine qa0 hτ rfl rfl rfl ?_
  refine qac h fun x2 hx2 h=>?_
  refine qa0 hτ (v:=.d (.fl .f32 x2)) rfl rfl (qge hx2) ?_
  refine qa0 hτ rfl rfl rfl ?_
  refine qa6 ?_
  refine qab (qa5 [] (l:=[(2,.d (.fl .f32 x2))]) (objs:=[]) rfl (by simp) rfl (by trivial) ⟨rfl,trivial,trivial⟩) ?_
  refine qas ?_
  have hr:=Option.some.inj h
  subst hr
  exact qah (.inr rfl) [] (objs':=[]) (new:=[]) rfl (by simp) (by simp) rfl (by trivial) rfl rfl (by trivial) (fun _=>⟨by simp [V.flat,V.qbh,V.qb7,D.flat],qao⟩) ⟨rfl,rfl,rfl⟩
theorem qce (n:Nat) (x_:Nat) {r:Nat} (h:qbw n x_ = some r):qb0 prog false 129 [.d (.fl .f64 x_)] [] (fun v o new=>v = .d (.fl .f32 r)∧o = []∧new = []):=spec_l01Narrow_ok_fr0 false n x_ h
def qgk (n:Nat) (v35:Nat) (v36:Int):Option Cx :=
  (qfu n (qa8 .sub .f64 (4598175219545276416:Nat) v35)).bind fun x37 =>
  (qfu n v35).bind fun x38 =>
  if v36 = (1:Int) then
    (qbw n (qa8 .sub .f64 (0:Nat) x38)).bind fun x46 =>
    (qbw n x37).bind fun x47 =>
    some (Cx.mk x46 x47)
  else
    if v36 = (2:Int) then
      (qbw n (qa8 .sub .f64 (0:Nat) x37)).bind fun x49 =>
      (qbw n (qa8 .sub .f64 (0:Nat) x38)).bind fun x50 =>
      some (Cx.mk x49 x50)
    else
      if v36 = (3:Int) then
        (qbw n x38).bind fun x52 =>
        (qbw n (qa8 .sub .f64 (0:Nat) x37)).bind fun x53 =>
        some (Cx.mk x52 x53)
      else
        (qbw n x37).bind fun x54 =>
        (qbw n x38).bind fun x55 =>
        some (Cx.mk x54 x55)
def qe4 (n:Nat):Nat→Nat→Int→Option Cx
  | 0,_,_=>none
  | m61 + 1,v57,v58 =>
    if (fcmp .geq .f64 v57 (4598175219545276416:Nat)) = true then
      (qe4 n m61) (qa8 .sub .f64 v57 (4598175219545276416:Nat)) (w64 (v58 + (1:Int)))
    else
      qgk n v57 v58
def qf6 (n:Nat) (v30:Nat):Option Cx :=
  qe4 n n v30 (0:Int)
def qgj (n:Nat) (turns_:Nat):Option Cx :=
  (f2i .f64 .i64 turns_).bind fun x28 =>
  if (fcmp .lss .f64 (qa8 .sub .f64 turns_ (FloatKind.nearest .f64 x28)) (0:Nat)) = true then
    qf6 n (qa8 .add .f64 (qa8 .sub .f64 turns_ (FloatKind.nearest .f64 x28)) (4607182418800017408:Nat))
  else
    qf6 n (qa8 .sub .f64 turns_ (FloatKind.nearest .f64 x28))
def qf7 (n:Nat) (turns_:Nat) (v69:Bool):Option Cx :=
  if v69 = true then
    some (Cx.mk (1065353216:Nat) (0:Nat))
  else
    qgj n turns_
def qgs (n:Nat) (turns_:Nat):Option Cx :=
  if (fcmp .neq .f64 (qa8 .sub .f64 turns_ turns_) (0:Nat)) = true then
    (qhr n (2143289344:Int)).bind fun x24 =>
    (qhr n (2143289344:Int)).bind fun x25 =>
    some (Cx.mk x24 x25)
  else
    if (fcmp .geq .f64 turns_ (4841369599423283200:Nat)) = true then
      qf7 n turns_ true
    else
      qf7 n turns_ (fcmp .leq .f64 turns_ (14064741636278059008:Nat))
theorem spec_l01Phasor_ok_fr0 (fr:Bool) (n:Nat) (turns_:Nat) {r:Cx} (h:qgs n turns_ = some r):qb0 prog fr 111 [.d (.fl .f64 turns_)] [] (fun v o new=>v = .d (.cx .f32 r.re r.im)∧o = []∧new = []):=by
  refine qal hτ func111 rfl (by simp) (by simp) ?_
  unfold qgs at h
  refine qaa ?_
  refine qa2 ?_
  refine qa0 hτ rfl rfl rfl ?_
  refine qa6 ?_
  refine qaa ?_
  refine qaa ?_
  refine qa2 ?_
  refine qa0 hτ rfl rfl rfl ?_
  refine qa0 hτ rfl rfl rfl ?_
  refine qa0 hτ rfl rfl rfl ?_
  refine qa0 hτ rfl rfl rfl ?_
  refine qa6 ?_
  refine qaz rfl (fun hc23=>?_) (fun hc23=>?_)
  · have h:=qcq h hc23
    refine qaa ?_
    refine qa2 ?_
    refine qac h fun x24 hx24 h=>?_
    refine qag hτ false [] rfl rfl rfl (qai func148 rfl rfl) rfl rfl (by simp) ⟨trivial,trivial⟩ (by trivial) (qlk n (2143289344:Int) hx24) ?_
    rintro r0 o0 n0 ⟨rfl,rfl,rfl⟩ -
    refine qac h fun x25 hx25 h=>?_
    refine qag hτ false [] rfl rfl rfl (qai func148 rfl rfl) rfl rfl (by simp) ⟨trivial,trivial⟩ (by trivial) (qlk n (2143289344:Int) hx25) ?_
    rintro r0 o0 n0 ⟨rfl,rfl,rfl⟩ -
    refine qa0 hτ rfl rfl rfl ?_
    refine qa0 hτ rfl rfl rfl ?_
    refine qa6 ?_
    refine qab (qa5 [] (l:=[(2,.d (.cx .f32 x24 x25))]) (objs:=[]) rfl (by simp) rfl (by trivial) ⟨rfl,trivial,trivial⟩) ?_
    refine qas ?_
    have hr:=Option.some.inj h
    subst hr
    exact qah (.inr rfl) [] (objs':=[]) (new:=[]) rfl (by simp) (by simp) rfl (by trivial) rfl rfl (by trivial) (fun _=>⟨by simp [V.flat,V.qbh,V.qb7,D.flat],qao⟩) ⟨rfl,rfl,rfl⟩
  · have h:=qcp h hc23
    refine qb3 ?_
    refine qc7 (ι:=Unit) (fun _=>St.of [(0,.d (.fl .f64 turns_))] [] f111.ntmps 0) (fun _=>qgj n turns_ = some r) ?_ (fun hk66=>?_)
    · rintro ⟨⟩ h
      replace h:qgj n turns_ = some r:=h
      unfold qgj at h
      refine qaa ?_
      refine qa2 ?_
      refine qa0 hτ rfl rfl rfl ?_
      refine qa0 hτ rfl rfl rfl ?_
      refine qac h fun x28 hx28 h=>?_
      refine qw7 rfl rfl (qwh hτ rfl rfl rfl rfl rfl rfl hx28) ?_
      refine qa0 hτ rfl rfl rfl ?_
      refine qa0 hτ rfl rfl rfl ?_
      refine qa0 hτ rfl rfl rfl ?_
      refine qa6 ?_
      refine qc7 (ι:=Nat) (fun v30=>St.of [(3,.d (.fl .f64 v30))] [] f111.ntmps 0) (fun v30=>qf6 n v30 = some r) ?_ (fun hk64=>?_)
      · rintro v30 h
        replace h:qf6 n v30 = some r:=h
        unfold qf6 at h
        refine qaa ?_
        refine qa2 ?_
        refine qa0 hτ rfl rfl rfl ?_
        refine qa6 ?_
        refine qc7 (ι:=Nat × Int) (fun (v35,v36)=>St.of [(3,.d (.fl .f64 v35)),(4,.d (.int .i64 v36))] [] f111.ntmps 0) (fun (v35,v36)=>qgk n v35 v36 = some r) ?_ (fun hk56=>?_)
        · rintro ⟨v35,v36⟩ h
          replace h:qgk n v35 v36 = some r:=h
          unfold qgk at h
          refine qaa ?_
          refine qa2 ?_
          refine qa0 hτ rfl rfl rfl ?_
          refine qa0 hτ rfl rfl rfl ?_
          refine qac h fun x37 hx37 h=>?_
          refine qag hτ false [] rfl rfl rfl (qai func149 rfl rfl) rfl rfl (by simp) ⟨trivial,trivial⟩ (by trivial) (qk0 n (qa8 .sub .f64 (4598175219545276416:Nat) v35) hx37) ?_
          rintro r0 o0 n0 ⟨rfl,rfl,rfl⟩ -
          refine qa0 hτ rfl rfl rfl ?_
          refine qa6 ?_
          refine qaa ?_
          refine qa2 ?_
          refine qa0 hτ rfl rfl rfl ?_
          refine qac h fun x38 hx38 h=>?_
          refine qag hτ false [] rfl rfl rfl (qai func149 rfl rfl) rfl rfl (by simp) ⟨trivial,trivial⟩ (by trivial) (qk0 n v35 hx38) ?_
          rintro r0 o0 n0 ⟨rfl,rfl,rfl⟩ -
          refine qa0 hτ rfl rfl rfl ?_
          refine qa6 ?_
          refine qaa ?_
          refine qaa ?_
          refine qab (qa5 [] (l:=[(4,.d (.int .i64 v36)),(5,.d (.fl .f64 x37)),(6,.d (.fl .f64 x38))]) (objs:=[]) rfl (by simp) rfl (by trivial) ⟨rfl,trivial,rfl,trivial,rfl,trivial,trivial⟩) ?_
          refine qa2 ?_
          refine qa0 hτ rfl rfl rfl ?_
          refine qa6 ?_
          refine qba ?_
          refine qaa ?_
          refine qa2 ?_
          refine qa0 hτ (v:=.d (.bool (decide (v36 = (1:Int))))) rfl rfl (qhu _ _) ?_
          refine qa0 hτ rfl rfl rfl ?_
          refine qa6 ?_
          refine qaz rfl (fun hc45=>?_) (fun hc45=>?_)
          · have h:=if_t h hc45
            refine qaa ?_
            refine qa2 ?_
            refine qa0 hτ rfl rfl rfl ?_
            refine qa0 hτ rfl rfl rfl ?_
            refine qac h fun x46 hx46 h=>?_
            refine qag hτ false [] rfl rfl rfl (qai func129 rfl rfl) rfl rfl (by simp) ⟨trivial,trivial⟩ (by trivial) (qce n (qa8 .sub .f64 (0:Nat) x38) hx46) ?_
            rintro r0 o0 n0 ⟨rfl,rfl,rfl⟩ -
            refine qa0 hτ rfl rfl rfl ?_
            refine qac h fun x47 hx47 h=>?_
            refine qag hτ false [] rfl rfl rfl (qai func129 rfl rfl) rfl rfl (by simp) ⟨trivial,trivial⟩ (by trivial) (qce n x37 hx47) ?_
            rintro r0 o0 n0 ⟨rfl,rfl,rfl⟩ -
            refine qa0 hτ rfl rfl rfl ?_
            refine qa0 hτ rfl rfl rfl ?_
            refine qa6 ?_
            refine qab (qa5 [] (l:=[(2,.d (.cx .f32 x46 x47))]) (objs:=[]) rfl (by simp) rfl (by trivial) ⟨rfl,trivial,trivial⟩) ?_
            refine qas ?_
            have hr:=Option.some.inj h
            subst hr
            exact qah (.inr rfl) [] (objs':=[]) (new:=[]) rfl (by simp) (by simp) rfl (by trivial) rfl rfl (by trivial) (fun _=>⟨by simp [V.flat,V.qbh,V.qb7,D.flat],qao⟩) ⟨rfl,rfl,rfl⟩
          · have h:=if_f h hc45
            refine qaa ?_
            refine qa2 ?_
            refine qa0 hτ (v:=.d (.bool (decide (v36 = (2:Int))))) rfl rfl (qhu _ _) ?_
            refine qa0 hτ rfl rfl rfl ?_
            refine qa6 ?_
            refine qaz rfl (fun hc48=>?_) (fun hc48=>?_)
            · have h:=if_t h hc48
              refine qaa ?_
              refine qa2 ?_
              refine qa0 hτ rfl rfl rfl ?_
              refine qa0 hτ rfl rfl rfl ?_
              refine qac h fun x49 hx49 h=>?_
              refine qag hτ false [] rfl rfl rfl (qai func129 rfl rfl) rfl rfl (by simp) ⟨trivial,trivial⟩ (by trivial) (qce n (qa8 .sub .f64 (0:Nat) x37) hx49) ?_
              rintro r0 o0 n0 ⟨rfl,rfl,rfl⟩ -
              refine qa0 hτ rfl rfl rfl ?_
              refine qa0 hτ rfl rfl rfl ?_
              refine qac h fun x50 hx50 h=>?_
              refine qag hτ false [] rfl rfl rfl (qai func129 rfl rfl) rfl rfl (by simp) ⟨trivial,trivial⟩ (by trivial) (qce n (qa8 .sub .f64 (0:Nat) x38) hx50) ?_
              rintro r0 o0 n0 ⟨rfl,rfl,rfl⟩ -
              refine qa0 hτ rfl rfl rfl ?_
              refine qap (qa5 [] (l:=[(57,.d (.cx .f32 x49 x50))]) (objs:=[]) rfl (by simp) rfl (by trivial) ⟨rfl,trivial,trivial⟩) ?_
              refine qa0 hτ rfl rfl rfl ?_
              refine qa6 ?_
              refine qab (qa5 [] (l:=[(2,.d (.cx .f32 x49 x50))]) (objs:=[]) rfl (by simp) rfl (by trivial) ⟨rfl,trivial,trivial⟩) ?_
              refine qas ?_
              have hr:=Option.some.inj h
              subst hr
              exact qah (.inr rfl) [] (objs':=[]) (new:=[]) rfl (by simp) (by simp) rfl (by trivial) rfl rfl (by trivial) (fun _=>⟨by simp [V.flat,V.qbh,V.qb7,D.flat],qao⟩) ⟨rfl,rfl,rfl⟩
            · have h:=if_f h hc48
              refine qaa ?_
              refine qa2 ?_
              refine qa0 hτ (v:=.d (.bool (decide (v36 = (3:Int))))) rfl rfl (qhu _ _) ?_
              refine qa0 hτ rfl rfl rfl ?_
              refine qa6 ?_
              refine qab (qa5 [] (l:=[(5,.d (.fl .f64 x37)),(6,.d (.fl .f64 x38)),(58,.d (.bool (decide (v36 = (3:Int)))))]) (objs:=[]) rfl (by simp) rfl (by trivial) ⟨rfl,trivial,rfl,trivial,rfl,trivial,trivial⟩) ?_
              refine qaz rfl (fun hc51=>?_) (fun hc51=>?_)
              · have h:=if_t h hc51
                refine qaa ?_
                refine qa2 ?_
                refine qa0 hτ rfl rfl rfl ?_
                refine qac h fun x52 hx52 h=>?_
                refine qag hτ false [] rfl rfl rfl (qai func129 rfl rfl) rfl rfl (by simp) ⟨trivial,trivial⟩ (by trivial) (qce n x38 hx52) ?_
                rintro r0 o0 n0 ⟨rfl,rfl,rfl⟩ -
                refine qa0 hτ rfl rfl rfl ?_
                refine qa0 hτ rfl rfl rfl ?_
                refine qac h fun x53 hx53 h=>?_
                refine qag hτ false [] rfl rfl rfl (qai func129 rfl rfl) rfl rfl (by simp) ⟨trivial,trivial⟩ (by trivial) (qce n (qa8 .sub .f64 (0:Nat) x37) hx53) ?_
                rintro r0 o0 n0 ⟨rfl,rfl,rfl⟩ -
                refine qa0 hτ rfl rfl rfl ?_
                refine qa0 hτ rfl rfl rfl ?_
                refine qa6 ?_
                refine qab (qa5 [] (l:=[(2,.d (.cx .f32 x52 x53))]) (objs:=[]) rfl (by simp) rfl (by trivial) ⟨rfl,trivial,trivial⟩) ?_
                refine qas ?_
                have hr:=Option.some.inj h
                subst hr
                exact qah (.inr rfl) [] (objs':=[]) (new:=[]) rfl (by simp) (by simp) rfl (by trivial) rfl rfl (by trivial) (fun _=>⟨by simp [V.flat,V.qbh,V.qb7,D.flat],qao⟩) ⟨rfl,rfl,rfl⟩
              · have h:=if_f h hc51
                refine qb3 ?_
                refine qaa ?_
                refine qa2 ?_
                refine qa0 hτ rfl rfl rfl ?_
                refine qac h fun x54 hx54 h=>?_
                refine qag hτ false [] rfl rfl rfl (qai func129 rfl rfl) rfl rfl (by simp) ⟨trivial,trivial⟩ (by trivial) (qce n x37 hx54) ?_
                rintro r0 o0 n0 ⟨rfl,rfl,rfl⟩ -
                refine qa0 hτ rfl rfl rfl ?_
                refine qac h fun x55 hx55 h=>?_
                refine qag hτ false [] rfl rfl rfl (qai func129 rfl rfl) rfl rfl (by simp) ⟨trivial,trivial⟩ (by trivial) (qce n x38 hx55) ?_
                rintro r0 o0 n0 ⟨rfl,rfl,rfl⟩ -
                refine qa0 hτ rfl rfl rfl ?_
                refine qa0 hτ rfl rfl rfl ?_
                refine qa6 ?_
                refine qab (qa5 [] (l:=[(2,.d (.cx .f32 x54 x55))]) (objs:=[]) rfl (by simp) rfl (by trivial) ⟨rfl,trivial,trivial⟩) ?_
                refine qas ?_
                have hr:=Option.some.inj h
                subst hr
                exact qah (.inr rfl) [] (objs':=[]) (new:=[]) rfl (by simp) (by simp) rfl (by trivial) rfl rfl (by trivial) (fun _=>⟨by simp [V.flat,V.qbh,V.qb7,D.flat],qao⟩) ⟨rfl,rfl,rfl⟩
        · refine qaa ?_
          refine qba ?_
          refine qfd (ι:=Nat × Nat × Int) (fun (m61,v57,v58)=>St.of [(3,.d (.fl .f64 v57)),(4,.d (.int .i64 v58))] [] f111.ntmps 0) (fun (m61,v57,v58)=>qe4 n m61 v57 v58 = some r) (fun x=>x.1) (n,v30,(0:Int)) h (qa5 [] (l:=[(3,.d (.fl .f64 v30)),(4,.d (.int .i64 (0:Int)))]) (objs:=[]) rfl (by simp) rfl (by trivial) ⟨rfl,trivial,rfl,trivial,trivial⟩) ?_
          rintro ⟨m61,v57,v58⟩ h
          replace h:qe4 n m61 v57 v58 = some r:=h
          rcases m61 with _ | m61
          · rw [qe4] at h;cases h
          rw [qe4] at h
          refine qaa ?_
          refine qaa ?_
          refine qa2 ?_
          refine qa0 hτ rfl rfl rfl ?_
          refine qa0 hτ rfl rfl rfl ?_
          refine qa6 ?_
          refine qaz rfl (fun hc63=>?_) (fun hc63=>?_)
          · have h:=qcq h hc63
            refine qb3 ?_
            refine qba ?_
            refine qaa ?_
            refine qa2 ?_
            refine qa0 hτ rfl rfl rfl ?_
            refine qa0 hτ rfl rfl rfl ?_
            refine qa0 hτ rfl rfl rfl ?_
            refine qa6 ?_
            refine qa2 ?_
            refine qa0 hτ rfl rfl rfl ?_
            refine qa0 hτ rfl rfl rfl ?_
            refine qa0 hτ rfl rfl rfl ?_
            refine qa6 ?_
            exact ⟨(m61,(qa8 .sub .f64 v57 (4598175219545276416:Nat)),(w64 (v58 + (1:Int)))),h,Nat.lt_succ_self m61,(qa5 [] (l:=[(3,.d (.fl .f64 (qa8 .sub .f64 v57 (4598175219545276416:Nat)))),(4,.d (.int .i64 (w64 (v58 + (1:Int)))))]) (objs:=[]) rfl (by simp) rfl (by trivial) ⟨rfl,trivial,rfl,trivial,trivial⟩)⟩
          · have h:=qcp h hc63
            refine qfc ?_
            refine qab (qa5 [] (l:=[(3,.d (.fl .f64 v57)),(4,.d (.int .i64 v58))]) (objs:=[]) rfl (by simp) rfl (by trivial) ⟨rfl,trivial,rfl,trivial,trivial⟩) ?_
            exact hk56 (v57,v58) h
      · refine qaa ?_
        refine qaa ?_
        refine qab (qa5 [] (l:=[(3,.d (.fl .f64 (qa8 .sub .f64 turns_ (FloatKind.nearest .f64 x28))))]) (objs:=[]) rfl (by simp) rfl (by trivial) ⟨rfl,trivial,trivial⟩) ?_
        refine qa2 ?_
        refine qa0 hτ rfl rfl rfl ?_
        refine qa0 hτ rfl rfl rfl ?_
        refine qa6 ?_
        refine qaz rfl (fun hc65=>?_) (fun hc65=>?_)
        · have h:=qcq h hc65
          refine qa2 ?_
          refine qa0 hτ rfl rfl rfl ?_
          refine qa0 hτ rfl rfl rfl ?_
          refine qa0 hτ rfl rfl rfl ?_
          refine qa6 ?_
          refine qab (qa5 [] (l:=[(3,.d (.fl .f64 (qa8 .add .f64 (qa8 .sub .f64 turns_ (FloatKind.nearest .f64 x28)) (4607182418800017408:Nat))))]) (objs:=[]) rfl (by simp) rfl (by trivial) ⟨rfl,trivial,trivial⟩) ?_
          exact hk64 (qa8 .add .f64 (qa8 .sub .f64 turns_ (FloatKind.nearest .f64 x28)) (4607182418800017408:Nat)) h
        · have h:=qcp h hc65
          refine qb3 ?_
          refine qab (qa5 [] (l:=[(3,.d (.fl .f64 (qa8 .sub .f64 turns_ (FloatKind.nearest .f64 x28))))]) (objs:=[]) rfl (by simp) rfl (by trivial) ⟨rfl,trivial,trivial⟩) ?_
          exact hk64 (qa8 .sub .f64 turns_ (FloatKind.nearest .f64 x28)) h
    · refine qaa ?_
      refine qc7 (ι:=Bool) (fun v69=>St.of [(0,.d (.fl .f64 turns_)),(19,.d (.bool v69))] [] f111.ntmps 0) (fun v69=>qf7 n turns_ v69 = some r) ?_ (fun hk71=>?_)
      · rintro v69 h
        replace h:qf7 n turns_ v69 = some r:=h
        unfold qf7 at h
        refine qaz rfl (fun hc70=>?_) (fun hc70=>?_)
        · have h:=qcq h hc70
          refine qaa ?_
          refine qa2 ?_
          refine qa0 hτ rfl rfl rfl ?_
          refine qa6 ?_
          refine qab (qa5 [] (l:=[(2,.d (.cx .f32 (1065353216:Nat) (0:Nat)))]) (objs:=[]) rfl (by simp) rfl (by trivial) ⟨rfl,trivial,trivial⟩) ?_
          refine qas ?_
          have hr:=Option.some.inj h
          subst hr
          exact qah (.inr rfl) [] (objs':=[]) (new:=[]) rfl (by simp) (by simp) rfl (by trivial) rfl rfl (by trivial) (fun _=>⟨by simp [V.flat,V.qbh,V.qb7,D.flat],qao⟩) ⟨rfl,rfl,rfl⟩
        · have h:=qcp h hc70
          refine qb3 ?_
          refine qab (qa5 [] (l:=[(0,.d (.fl .f64 turns_))]) (objs:=[]) rfl (by simp) rfl (by trivial) ⟨rfl,trivial,trivial⟩) ?_
          exact hk66 () h
      · refine qaa ?_
        refine qa2 ?_
        refine qa0 hτ rfl rfl rfl ?_
        refine qa0 hτ rfl rfl rfl ?_
        refine qa0 hτ rfl rfl rfl ?_
        refine qb4 16 rfl (fun hb72=>?_) (fun hb72=>?_)
        · have h:=qcq h hb72
          refine qa4 rfl rfl ?_
          refine qa4 rfl rfl ?_
          refine qa0 hτ rfl rfl rfl ?_
          refine qa6 ?_
          refine qab (qa5 [] (l:=[(0,.d (.fl .f64 turns_)),(19,.d (.bool true))]) (objs:=[]) rfl (by simp) rfl (by trivial) ⟨rfl,trivial,rfl,trivial,trivial⟩) ?_
          exact hk71 true h
        · have h:=qcp h hb72
          refine qa0 hτ rfl rfl rfl ?_
          refine qa0 hτ rfl rfl rfl ?_
          refine qa0 hτ rfl rfl rfl ?_
          refine qa6 ?_
          refine qab (qa5 [] (l:=[(0,.d (.fl .f64 turns_)),(19,.d (.bool (fcmp .leq .f64 turns_ (14064741636278059008:Nat))))]) (objs:=[]) rfl (by simp) rfl (by trivial) ⟨rfl,trivial,rfl,trivial,trivial⟩) ?_
          exact hk71 (fcmp .leq .f64 turns_ (14064741636278059008:Nat)) h
theorem qkq (n:Nat) (turns_:Nat) {r:Cx} (h:qgs n turns_ = some r):qb0 prog false 111 [.d (.fl .f64 turns_)] [] (fun v o new=>v = .d (.cx .f32 r.re r.im)∧o = []∧new = []):=spec_l01Phasor_ok_fr0 false n turns_ h
def qht (n:Nat) (x_:Cx):Option Cx :=
  (qgo .f32 .f64 x_.re).bind fun x3 =>
  (qgo .f32 .f64 x_.im).bind fun x4 =>
  some (Cx.mk x3 x4)
theorem spec_l01Wide_ok_fr0 (fr:Bool) (n:Nat) (x_:Cx) {r:Cx} (h:qht n x_ = some r):qb0 prog fr 147 [.d (.cx .f32 x_.re x_.im)] [] (fun v o new=>v = .d (.cx .f64 r.re r.im)∧o = []∧new = []):=by
  refine qal hτ func147 rfl (by simp) (by simp) ?_
  unfold qht at h
  refine qaa ?_
  refine qa2 ?_
  refine qa0 hτ rfl rfl rfl ?_
  refine qa6 ?_
  refine qaa ?_
  refine qa2 ?_
  refine qa0 hτ rfl rfl rfl ?_
  refine qa0 hτ rfl rfl rfl ?_
  refine qac h fun x3 hx3 h=>?_
  refine qa0 hτ (v:=.d (.fl .f64 x3)) rfl rfl (qge hx3) ?_
  refine qa0 hτ rfl rfl rfl ?_
  refine qa0 hτ rfl rfl rfl ?_
  refine qac h fun x4 hx4 h=>?_
  refine qa0 hτ (v:=.d (.fl .f64 x4)) rfl rfl (qge hx4) ?_
  refine qa0 hτ rfl rfl rfl ?_
  refine qa0 hτ rfl rfl rfl ?_
  refine qa6 ?_
  refine qab (qa5 [] (l:=[(2,.d (.cx .f64 x3 x4))]) (objs:=[]) rfl (by simp) rfl (by trivial) ⟨rfl,trivial,trivial⟩) ?_
  refine qas ?_
  have hr:=Option.some.inj h
  subst hr
  exact qah (.inr rfl) [] (objs':=[]) (new:=[]) rfl (by simp) (by simp) rfl (by trivial) rfl rfl (by trivial) (fun _=>⟨by simp [V.flat,V.qbh,V.qb7,D.flat],qao⟩) ⟨rfl,rfl,rfl⟩
theorem qll (n:Nat) (x_:Cx) {r:Cx} (h:qht n x_ = some r):qb0 prog false 147 [.d (.cx .f32 x_.re x_.im)] [] (fun v o new=>v = .d (.cx .f64 r.re r.im)∧o = []∧new = []):=spec_l01Wide_ok_fr0 false n x_ h
def qhg (n:Nat) (x_:Cx) (y_:Cx):Option Cx :=
  some (Cx.mk (qa8 .sub .f64 (qa8 .mul .f64 x_.re y_.re) (qa8 .mul .f64 x_.im y_.im)) (qa8 .add .f64 (qa8 .mul .f64 x_.re y_.im) (qa8 .mul .f64 x_.im y_.re)))
theorem spec_l01WideMul_ok_fr0 (fr:Bool) (n:Nat) (x_:Cx) (y_:Cx) {r:Cx} (h:qhg n x_ y_ = some r):qb0 prog fr 146 [.d (.cx .f64 x_.re x_.im),.d (.cx .f64 y_.re y_.im)] [] (fun v o new=>v = .d (.cx .f64 r.re r.im)∧o = []∧new = []):=by
  refine qal hτ func146 rfl (by simp) (by simp) ?_
  unfold qhg at h
  refine qaa ?_
  refine qa2 ?_
  refine qa0 hτ rfl rfl rfl ?_
  refine qa6 ?_
  refine qaa ?_
  refine qa2 ?_
  refine qa0 hτ rfl rfl rfl ?_
  refine qa0 hτ rfl rfl rfl ?_
  refine qa0 hτ rfl rfl rfl ?_
  refine qa0 hτ rfl rfl rfl ?_
  refine qa0 hτ rfl rfl rfl ?_
  refine qa0 hτ rfl rfl rfl ?_
  refine qa0 hτ rfl rfl rfl ?_
  refine qa0 hτ rfl rfl rfl ?_
  refine qa0 hτ rfl rfl rfl ?_
  refine qa0 hτ rfl rfl rfl ?_
  refine qa0 hτ rfl rfl rfl ?_
  refine qap (qa5 [] (l:=[(0,.d (.cx .f64 x_.re x_.im)),(1,.d (.cx .f64 y_.re y_.im)),(17,.d (.fl .f64 (qa8 .sub .f64 (qa8 .mul .f64 x_.re y_.re) (qa8 .mul .f64 x_.im y_.im))))]) (objs:=[]) rfl (by simp) rfl (by trivial) ⟨rfl,trivial,rfl,trivial,rfl,trivial,trivial⟩) ?_
  refine qa0 hτ rfl rfl rfl ?_
  refine qa6 ?_
  refine qaa ?_
  refine qa2 ?_
  refine qa0 hτ rfl rfl rfl ?_
  refine qa0 hτ rfl rfl rfl ?_
  refine qa0 hτ rfl rfl rfl ?_
  refine qa0 hτ rfl rfl rfl ?_
  refine qa0 hτ rfl rfl rfl ?_
  refine qa0 hτ rfl rfl rfl ?_
  refine qa0 hτ rfl rfl rfl ?_
  refine qa0 hτ rfl rfl rfl ?_
  refine qa0 hτ rfl rfl rfl ?_
  refine qa0 hτ rfl rfl rfl ?_
  refine qa0 hτ rfl rfl rfl ?_
  refine qap (qa5 [] (l:=[(5,.d (.fl .f64 (qa8 .sub .f64 (qa8 .mul .f64 x_.re y_.re) (qa8 .mul .f64 x_.im y_.im)))),(28,.d (.fl .f64 (qa8 .add .f64 (qa8 .mul .f64 x_.re y_.im) (qa8 .mul .f64 x_.im y_.re))))]) (objs:=[]) rfl (by simp) rfl (by trivial) ⟨rfl,trivial,rfl,trivial,trivial⟩) ?_
  refine qa0 hτ rfl rfl rfl ?_
  refine qa6 ?_
  refine qaa ?_
  refine qa2 ?_
  refine qa0 hτ rfl rfl rfl ?_
  refine qa0 hτ rfl rfl rfl ?_
  refine qa0 hτ rfl rfl rfl ?_
  refine qa0 hτ rfl rfl rfl ?_
  refine qa6 ?_
  refine qab (qa5 [] (l:=[(4,.d (.cx .f64 (qa8 .sub .f64 (qa8 .mul .f64 x_.re y_.re) (qa8 .mul .f64 x_.im y_.im)) (qa8 .add .f64 (qa8 .mul .f64 x_.re y_.im) (qa8 .mul .f64 x_.im y_.re))))]) (objs:=[]) rfl (by simp) rfl (by trivial) ⟨rfl,trivial,trivial⟩) ?_
  refine qas ?_
  have hr:=Option.some.inj h
  subst hr
  exact qah (.inr rfl) [] (objs':=[]) (new:=[]) rfl (by simp) (by simp) rfl (by trivial) rfl rfl (by trivial) (fun _=>⟨by simp [V.flat,V.qbh,V.qb7,D.flat],qao⟩) ⟨rfl,rfl,rfl⟩
theorem spec_l01WideMul_ok (n:Nat) (x_:Cx) (y_:Cx) {r:Cx} (h:qhg n x_ y_ = some r):qb0 prog false 146 [.d (.cx .f64 x_.re x_.im),.d (.cx .f64 y_.re y_.im)] [] (fun v o new=>v = .d (.cx .f64 r.re r.im)∧o = []∧new = []):=spec_l01WideMul_ok_fr0 false n x_ y_ h
def qhf (n:Nat) (x_:Cx):Option Cx :=
  (qbw n x_.re).bind fun x3 =>
  (qbw n x_.im).bind fun x4 =>
  some (Cx.mk x3 x4)
theorem spec_l01CNarrow_ok_fr0 (fr:Bool) (n:Nat) (x_:Cx) {r:Cx} (h:qhf n x_ = some r):qb0 prog fr 145 [.d (.cx .f64 x_.re x_.im)] [] (fun v o new=>v = .d (.cx .f32 r.re r.im)∧o = []∧new = []):=by
  refine qal hτ func145 rfl (by simp) (by simp) ?_
  unfold qhf at h
  refine qaa ?_
  refine qa2 ?_
  refine qa0 hτ rfl rfl rfl ?_
  refine qa6 ?_
  refine qaa ?_
  refine qa2 ?_
  refine qa0 hτ rfl rfl rfl ?_
  refine qa0 hτ rfl rfl rfl ?_
  refine qac h fun x3 hx3 h=>?_
  refine qag hτ false [] rfl rfl rfl (qai func129 rfl rfl) rfl rfl (by simp) ⟨trivial,trivial⟩ (by trivial) (qce n x_.re hx3) ?_
  rintro r0 o0 n0 ⟨rfl,rfl,rfl⟩ -
  refine qa0 hτ rfl rfl rfl ?_
  refine qa0 hτ rfl rfl rfl ?_
  refine qac h fun x4 hx4 h=>?_
  refine qag hτ false [] rfl rfl rfl (qai func129 rfl rfl) rfl rfl (by simp) ⟨trivial,trivial⟩ (by trivial) (qce n x_.im hx4) ?_
  rintro r0 o0 n0 ⟨rfl,rfl,rfl⟩ -
  refine qa0 hτ rfl rfl rfl ?_
  refine qa0 hτ rfl rfl rfl ?_
  refine qa6 ?_
  refine qab (qa5 [] (l:=[(2,.d (.cx .f32 x3 x4))]) (objs:=[]) rfl (by simp) rfl (by trivial) ⟨rfl,trivial,trivial⟩) ?_
  refine qas ?_
  have hr:=Option.some.inj h
  subst hr
  exact qah (.inr rfl) [] (objs':=[]) (new:=[]) rfl (by simp) (by simp) rfl (by trivial) rfl rfl (by trivial) (fun _=>⟨by simp [V.flat,V.qbh,V.qb7,D.flat],qao⟩) ⟨rfl,rfl,rfl⟩
theorem spec_l01CNarrow_ok (n:Nat) (x_:Cx) {r:Cx} (h:qhf n x_ = some r):qb0 prog false 145 [.d (.cx .f64 x_.re x_.im)] [] (fun v o new=>v = .d (.cx .f32 r.re r.im)∧o = []∧new = []):=spec_l01CNarrow_ok_fr0 false n x_ h
def qif (n:Nat) (x_:Cx) (y_:Cx):Option Cx :=
  (qht n x_).bind fun x5 =>
  (qht n y_).bind fun x6 =>
  (qhg n x5 x6).bind fun x7 =>
  (qhf n x7).bind fun x8 =>
  some x8
theorem spec_l01Mul_ok_fr0 (fr:Bool) (n:Nat) (x_:Cx) (y_:Cx) {r:Cx} (h:qif n x_ y_ = some r):qb0 prog fr 110 [.d (.cx .f32 x_.re x_.im),.d (.cx .f32 y_.re y_.im)] [] (fun v o new=>v = .d (.cx .f32 r.re r.im)∧o = []∧new = []):=by
  refine qal hτ func110 rfl (by simp) (by simp) ?_
  unfold qif at h
  refine qaa ?_
  refine qa2 ?_
  refine qa0 hτ rfl rfl rfl ?_
  refine qa6 ?_
  refine qaa ?_
  refine qa2 ?_
  refine qa0 hτ rfl rfl rfl ?_
  refine qac h fun x5 hx5 h=>?_
  refine qag hτ false [] rfl rfl rfl (qai func147 rfl rfl) rfl rfl (by simp) ⟨trivial,trivial⟩ (by trivial) (qll n x_ hx5) ?_
  rintro r0 o0 n0 ⟨rfl,rfl,rfl⟩ -
  refine qa0 hτ rfl rfl rfl ?_
  refine qac h fun x6 hx6 h=>?_
  refine qag hτ false [] rfl rfl rfl (qai func147 rfl rfl) rfl rfl (by simp) ⟨trivial,trivial⟩ (by trivial) (qll n y_ hx6) ?_
  rintro r0 o0 n0 ⟨rfl,rfl,rfl⟩ -
  refine qac h fun x7 hx7 h=>?_
  refine qag hτ false [] rfl rfl rfl (qai func146 rfl rfl) rfl rfl (by simp) ⟨trivial,trivial,trivial⟩ (by trivial) (spec_l01WideMul_ok n x5 x6 hx7) ?_
  rintro r0 o0 n0 ⟨rfl,rfl,rfl⟩ -
  refine qac h fun x8 hx8 h=>?_
  refine qag hτ false [] rfl rfl rfl (qai func145 rfl rfl) rfl rfl (by simp) ⟨trivial,trivial⟩ (by trivial) (spec_l01CNarrow_ok n x7 hx8) ?_
  rintro r0 o0 n0 ⟨rfl,rfl,rfl⟩ -
  refine qa0 hτ rfl rfl rfl ?_
  refine qa6 ?_
  refine qab (qa5 [] (l:=[(4,.d (.cx .f32 x8.re x8.im))]) (objs:=[]) rfl (by simp) rfl (by trivial) ⟨rfl,trivial,trivial⟩) ?_
  refine qas ?_
  have hr:=Option.some.inj h
  subst hr
  exact qah (.inr rfl) [] (objs':=[]) (new:=[]) rfl (by simp) (by simp) rfl (by trivial) rfl rfl (by trivial) (fun _=>⟨by simp [V.flat,V.qbh,V.qb7,D.flat],qao⟩) ⟨rfl,rfl,rfl⟩
theorem qlx (n:Nat) (x_:Cx) (y_:Cx) {r:Cx} (h:qif n x_ y_ = some r):qb0 prog false 110 [.d (.cx .f32 x_.re x_.im),.d (.cx .f32 y_.re y_.im)] [] (fun v o new=>v = .d (.cx .f32 r.re r.im)∧o = []∧new = []):=spec_l01Mul_ok_fr0 false n x_ y_ h
def qev (n:Nat) (x_:Cx):Option qa7 :=
  (qgs n (fneg .f64 (4599676419421066581:Nat))).bind fun x5 =>
  (qif n x_ x5).bind fun x6 =>
  (qgs n (4599676419421066581:Nat)).bind fun x7 =>
  (qif n x_ x7).bind fun x8 =>
  some (qa7.mk x_ x6 x8)
theorem spec_l02Even_ok_fr0 (fr:Bool) (n:Nat) (x_:Cx) {r:qa7} (h:qev n x_ = some r):qb0 prog fr 55 [.d (.cx .f32 x_.re x_.im)] [] (fun v o new=>v = .agg [.d (.cx .f32 r.A.re r.A.im),.d (.cx .f32 r.B.re r.B.im),.d (.cx .f32 r.C.re r.C.im)]∧o = []∧new = []):=by
  refine qal hτ func55 rfl (by simp) (by simp) ?_
  unfold qev at h
  refine qaa ?_
  refine qa2 ?_
  refine qak hτ rfl rfl rfl ?_
  refine qa6 ?_
  refine qaa ?_
  refine qa2 ?_
  refine qa0 hτ rfl rfl rfl ?_
  refine qa6 ?_
  refine qaa ?_
  refine qa2 ?_
  refine qa0 hτ rfl rfl rfl ?_
  refine qa0 hτ rfl rfl rfl ?_
  refine qa0 hτ rfl rfl rfl ?_
  refine qa0 hτ rfl rfl rfl ?_
  refine qac h fun x5 hx5 h=>?_
  refine qag hτ false [] rfl rfl rfl (qai func111 rfl rfl) rfl rfl (by simp) ⟨trivial,trivial⟩ (by trivial) (qkq n (fneg .f64 (4599676419421066581:Nat)) hx5) ?_
  rintro r0 o0 n0 ⟨rfl,rfl,rfl⟩ -
  refine qac h fun x6 hx6 h=>?_
  refine qag hτ false [] rfl rfl rfl (qai func110 rfl rfl) rfl rfl (by simp) ⟨trivial,trivial,trivial⟩ (by trivial) (qlx n x_ x5 hx6) ?_
  rintro r0 o0 n0 ⟨rfl,rfl,rfl⟩ -
  refine qa0 hτ rfl rfl rfl ?_
  refine qa0 hτ rfl rfl rfl ?_
  refine qac h fun x7 hx7 h=>?_
  refine qag hτ false [] rfl rfl rfl (qai func111 rfl rfl) rfl rfl (by simp) ⟨trivial,trivial⟩ (by trivial) (qkq n (4599676419421066581:Nat) hx7) ?_
  rintro r0 o0 n0 ⟨rfl,rfl,rfl⟩ -
  refine qac h fun x8 hx8 h=>?_
  refine qag hτ false [] rfl rfl rfl (qai func110 rfl rfl) rfl rfl (by simp) ⟨trivial,trivial,trivial⟩ (by trivial) (qlx n x_ x7 hx8) ?_
  rintro r0 o0 n0 ⟨rfl,rfl,rfl⟩ -
  refine qap (qa5 [0] (l:=[(2,.ptr 0 0),(4,.d (.cx .f32 x_.re x_.im)),(9,.d (.cx .f32 x6.re x6.im)),(13,.d (.cx .f32 x8.re x8.im))]) (objs:=[.box [.d (.cx .f32 (0:Nat) (0:Nat)),.d (.cx .f32 (0:Nat) (0:Nat)),.d (.cx .f32 (0:Nat) (0:Nat))]]) rfl (by simp) rfl (by trivial) ⟨rfl,trivial,rfl,trivial,rfl,trivial,rfl,trivial,trivial⟩) ?_
  refine qa0 hτ rfl rfl rfl ?_
  refine qak hτ rfl rfl rfl ?_
  refine qa6 ?_
  refine qab (qa5 [0] (l:=[(2,.ptr 0 0)]) (objs:=[.box [.d (.cx .f32 x_.re x_.im),.d (.cx .f32 x6.re x6.im),.d (.cx .f32 x8.re x8.im)]]) rfl (by simp) rfl (by trivial) ⟨rfl,trivial,trivial⟩) ?_
  refine qas ?_
  have hr:=Option.some.inj h
  subst hr
  exact qah (.inr rfl) [] (objs':=[]) (new:=[]) rfl (by simp) (by simp) rfl (by trivial) rfl rfl (by trivial) (fun _=>⟨by simp [V.flat,V.qbh,V.qb7,D.flat],qao⟩) ⟨rfl,rfl,rfl⟩
theorem spec_l02Even_ok (n:Nat) (x_:Cx) {r:qa7} (h:qev n x_ = some r):qb0 prog false 55 [.d (.cx .f32 x_.re x_.im)] [] (fun v o new=>v = .agg [.d (.cx .f32 r.A.re r.A.im),.d (.cx .f32 r.B.re r.B.im),.d (.cx .f32 r.C.re r.C.im)]∧o = []∧new = []):=spec_l02Even_ok_fr0 false n x_ h
def qhe (n:Nat) (x37:qa7) (v69:List SBus):Option qam :=
  some (qam.mk x37 v69)
def qdn (n:Nat) (x37:qa7):Nat→List Int→Int→Int→List SBus→Int→Option qam
  | 0,_,_,_,_,_=>none
  | m102 + 1,v82,v83,v84,v85,v86 =>
    if v86 > (0:Int) then
      (qb6 n (qdy.mk v82 v83 v84) (v85.length:Int)).bind fun x105 =>
      (qb6 n x105.2 (4:Int)).bind fun x106 =>
      (qb6 n x106.2 (4:Int)).bind fun x107 =>
      (qb6 n x107.2 (2:Int)).bind fun x108 =>
      (qb6 n x108.2 (9:Int)).bind fun x109 =>
      (qb6 n x109.2 (3:Int)).bind fun x110 =>
      (qb6 n x110.2 (9:Int)).bind fun x111 =>
      (qb6 n x111.2 (9:Int)).bind fun x112 =>
      (qb6 n x112.2 (30:Int)).bind fun x113 =>
      grd (room (v85.length + 1) 64) <|
      (qdn n x37 m102) x113.2.code x113.2.at_ x113.2.seed (v85 ++ [(SBus.mk x105.1 (Cx.mk (qa8 .quo .f32 (FloatKind.nearest .f32 (w64 ((1:Int) + x106.1))) (1115684864:Nat)) (qa8 .quo .f32 (FloatKind.nearest .f32 x107.1) (1115684864:Nat))) (Cx.mk (0:Nat) (0:Nat)) x108.1 (qa7.mk (Cx.mk (qa8 .quo .f32 (FloatKind.nearest .f32 x109.1) (1082130432:Nat)) (qa8 .quo .f32 (FloatKind.nearest .f32 x110.1) (1082130432:Nat))) (Cx.mk (qa8 .quo .f32 (FloatKind.nearest .f32 x111.1) (1082130432:Nat)) (0:Nat)) (Cx.mk (qa8 .quo .f32 (FloatKind.nearest .f32 x112.1) (1082130432:Nat)) (0:Nat))) x113.1)]) (w64 (v86 - (1:Int)))
    else
      qhe n x37 v85
def qgy (n:Nat) (code_:List Int):Option qam :=
  (qix n code_).bind fun x35 =>
  (qb6 n x35 (16:Int)).bind fun x36 =>
  (qev n (Cx.mk (FloatKind.nearest .f32 (w64 ((16:Int) + x36.1))) (0:Nat))).bind fun x37 =>
  (qb6 n x36.2 (5:Int)).bind fun x71 =>
  qdn n x37 n x71.2.code x71.2.at_ x71.2.seed [(SBus.mk (-1:Int) (Cx.mk (0:Nat) (0:Nat)) (Cx.mk (0:Nat) (0:Nat)) (0:Int) (qa7.mk (Cx.mk (0:Nat) (0:Nat)) (Cx.mk (0:Nat) (0:Nat)) (Cx.mk (0:Nat) (0:Nat))) (0:Int))] (w64 ((1:Int) + x71.1))
theorem spec_B10Mild_ok_fr0 (fr:Bool) (n:Nat) (code_:List Int) {r:qam} (h:qgy n code_ = some r):qb0 prog fr 9 [.d (.sl false (code_.map qaq))] [] (fun v o new=>v = .agg [.d (.cx .f32 r.Source.A.re r.Source.A.im),.d (.cx .f32 r.Source.B.re r.Source.B.im),.d (.cx .f32 r.Source.C.re r.Source.C.im),.row 0 r.qa9.length 0 r.qa9.length]∧o = []∧new = [.row 8 (r.qa9.map qaf)]):=by
  refine qal hτ func9 rfl (by simp) (by simp) ?_
  unfold qgy at h
  refine qaa ?_
  refine qa2 ?_
  refine qak hτ rfl rfl rfl ?_
  refine qa6 ?_
  refine qaa ?_
  refine qa2 ?_
  refine qa0 hτ rfl rfl rfl ?_
  refine qac h fun x35 hx35 h=>?_
  refine qag hτ false [] rfl rfl rfl (qai func54 rfl rfl) rfl rfl (by simp) ⟨trivial,trivial⟩ (by trivial) (spec_l00From_ok n code_ hx35) ?_
  rintro r0 o0 n0 ⟨rfl,rfl,rfl⟩ -
  refine qa0 hτ rfl rfl rfl ?_
  refine qa6 ?_
  refine qaa ?_
  refine qa2 ?_
  refine qa0 hτ rfl rfl rfl ?_
  refine qac h fun x36 hx36 h=>?_
  refine qag hτ false [1] rfl rfl rfl (qai func56 rfl rfl) rfl rfl (by simp) ⟨trivial,trivial,trivial⟩ (by trivial) (qby n x35 (16:Int) hx36) ?_
  rintro r0 o0 n0 ⟨rfl,rfl,rfl⟩ -
  refine qa0 hτ rfl rfl rfl ?_
  refine qa0 hτ rfl rfl rfl ?_
  refine qa0 hτ rfl rfl rfl ?_
  refine qac h fun x37 hx37 h=>?_
  refine qag hτ false [] rfl rfl rfl (qai func55 rfl rfl) rfl rfl (by simp) ⟨trivial,trivial⟩ (by trivial) (spec_l02Even_ok n (Cx.mk (FloatKind.nearest .f32 (w64 ((16:Int) + x36.1))) (0:Nat)) hx37) ?_
  rintro r0 o0 n0 ⟨rfl,rfl,rfl⟩ -
  refine qa0 hτ rfl rfl rfl ?_
  refine qak hτ rfl rfl rfl ?_
  refine qap (qa5 [0,1,2] (l:=[(2,.ptr 0 0),(3,.ptr 1 0),(16,.agg [.d (.cx .f32 x37.A.re x37.A.im),.d (.cx .f32 x37.B.re x37.B.im),.d (.cx .f32 x37.C.re x37.C.im)]),(18,.row 2 ([(SBus.mk (-1:Int) (Cx.mk (0:Nat) (0:Nat)) (Cx.mk (0:Nat) (0:Nat)) (0:Int) (qa7.mk (Cx.mk (0:Nat) (0:Nat)) (Cx.mk (0:Nat) (0:Nat)) (Cx.mk (0:Nat) (0:Nat))) (0:Int))].length) 0 ([(SBus.mk (-1:Int) (Cx.mk (0:Nat) (0:Nat)) (Cx.mk (0:Nat) (0:Nat)) (0:Int) (qa7.mk (Cx.mk (0:Nat) (0:Nat)) (Cx.mk (0:Nat) (0:Nat)) (Cx.mk (0:Nat) (0:Nat))) (0:Int))].length))]) (objs:=[.box [.d (.cx .f32 (0:Nat) (0:Nat)),.d (.cx .f32 (0:Nat) (0:Nat)),.d (.cx .f32 (0:Nat) (0:Nat)),.d (.nils)],.box [.d (.sl false (x36.2.code.map qaq)),.d (.int .i64 x36.2.at_),.d (.int .u64 x36.2.seed)],.row 8 ([(SBus.mk (-1:Int) (Cx.mk (0:Nat) (0:Nat)) (Cx.mk (0:Nat) (0:Nat)) (0:Int) (qa7.mk (Cx.mk (0:Nat) (0:Nat)) (Cx.mk (0:Nat) (0:Nat)) (Cx.mk (0:Nat) (0:Nat))) (0:Int))].map qaf)]) rfl (by simp) rfl (by trivial) ⟨rfl,trivial,rfl,trivial,rfl,(by trivial),rfl,trivial,trivial⟩) ?_
  refine qa0 hτ rfl rfl rfl ?_
  refine qak hτ rfl rfl rfl ?_
  refine qak hτ rfl rfl rfl ?_
  refine qa6 ?_
  refine qc7 (ι:=List SBus) (fun v69=>St.of [(2,.ptr 0 0),(4,.ptr 1 0)] [.box [.d (.cx .f32 (0:Nat) (0:Nat)),.d (.cx .f32 (0:Nat) (0:Nat)),.d (.cx .f32 (0:Nat) (0:Nat)),.d (.nils)],.box [.d (.cx .f32 x37.A.re x37.A.im),.d (.cx .f32 x37.B.re x37.B.im),.d (.cx .f32 x37.C.re x37.C.im),.row 2 v69.length 0 v69.length],.row 8 (v69.map qaf)] f9.ntmps 0) (fun v69=>qhe n x37 v69 = some r) ?_ (fun hk70=>?_)
  · rintro v69 h
    replace h:qhe n x37 v69 = some r:=h
    unfold qhe at h
    refine qaa ?_
    refine qa2 ?_
    refine qa0 hτ rfl rfl rfl ?_
    refine qak hτ rfl rfl rfl ?_
    refine qa6 ?_
    refine qab (qa5 [0,2] (l:=[(2,.ptr 0 0)]) (objs:=[.box [.d (.cx .f32 x37.A.re x37.A.im),.d (.cx .f32 x37.B.re x37.B.im),.d (.cx .f32 x37.C.re x37.C.im),.row 1 v69.length 0 v69.length],.row 8 (v69.map qaf)]) rfl (by simp) rfl (by trivial) ⟨rfl,trivial,trivial⟩) ?_
    refine qas ?_
    have hr:=Option.some.inj h
    subst hr
    exact qah (.inr rfl) [1] (objs':=[]) (new:=[.row 8 (v69.map qaf)]) rfl (by simp) (by simp) rfl (by trivial) rfl rfl (by trivial) (fun _=>⟨by simp [V.flat,V.qbh,V.qb7,D.flat],(qcr (qfl qjk _) qao)⟩) ⟨rfl,rfl,rfl⟩
  · refine qaa ?_
    refine qaa ?_
    refine qa2 ?_
    refine qa0 hτ rfl rfl rfl ?_
    refine qac h fun x71 hx71 h=>?_
    refine qag hτ false [1] rfl rfl rfl (qai func56 rfl rfl) rfl rfl (by simp) ⟨trivial,trivial,trivial⟩ (by trivial) (qby n x36.2 (5:Int) hx71) ?_
    rintro r0 o0 n0 ⟨rfl,rfl,rfl⟩ -
    refine qa0 hτ rfl rfl rfl ?_
    refine qa0 hτ rfl rfl rfl ?_
    refine qa6 ?_
    refine qba ?_
    refine qfd (ι:=Nat × List Int × Int × Int × List SBus × Int) (fun (m102,v82,v83,v84,v85,v86)=>St.of [(2,.ptr 0 0),(3,.ptr 1 0),(4,.ptr 2 0),(5,.d (.int .i64 v86))] [.box [.d (.cx .f32 (0:Nat) (0:Nat)),.d (.cx .f32 (0:Nat) (0:Nat)),.d (.cx .f32 (0:Nat) (0:Nat)),.d (.nils)],.box [.d (.sl false (v82.map qaq)),.d (.int .i64 v83),.d (.int .u64 v84)],.box [.d (.cx .f32 x37.A.re x37.A.im),.d (.cx .f32 x37.B.re x37.B.im),.d (.cx .f32 x37.C.re x37.C.im),.row 3 v85.length 0 v85.length],.row 8 (v85.map qaf)] f9.ntmps 0) (fun (m102,v82,v83,v84,v85,v86)=>qdn n x37 m102 v82 v83 v84 v85 v86 = some r) (fun x=>x.1) (n,x71.2.code,x71.2.at_,x71.2.seed,[(SBus.mk (-1:Int) (Cx.mk (0:Nat) (0:Nat)) (Cx.mk (0:Nat) (0:Nat)) (0:Int) (qa7.mk (Cx.mk (0:Nat) (0:Nat)) (Cx.mk (0:Nat) (0:Nat)) (Cx.mk (0:Nat) (0:Nat))) (0:Int))],(w64 ((1:Int) + x71.1))) h (qa5 [0,1,3,2] (l:=[(2,.ptr 0 0),(3,.ptr 1 0),(4,.ptr 2 0),(5,.d (.int .i64 (w64 ((1:Int) + x71.1))))]) (objs:=[.box [.d (.cx .f32 (0:Nat) (0:Nat)),.d (.cx .f32 (0:Nat) (0:Nat)),.d (.cx .f32 (0:Nat) (0:Nat)),.d (.nils)],.box [.d (.sl false (x71.2.code.map qaq)),.d (.int .i64 x71.2.at_),.d (.int .u64 x71.2.seed)],.box [.d (.cx .f32 x37.A.re x37.A.im),.d (.cx .f32 x37.B.re x37.B.im),.d (.cx .f32 x37.C.re x37.C.im),.row 3 ([(SBus.mk (-1:Int) (Cx.mk (0:Nat) (0:Nat)) (Cx.mk (0:Nat) (0:Nat)) (0:Int) (qa7.mk (Cx.mk (0:Nat) (0:Nat)) (Cx.mk (0:Nat) (0:Nat)) (Cx.mk (0:Nat) (0:Nat))) (0:Int))].length) 0 ([(SBus.mk (-1:Int) (Cx.mk (0:Nat) (0:Nat)) (Cx.mk (0:Nat) (0:Nat)) (0:Int) (qa7.mk (Cx.mk (0:Nat) (0:Nat)) (Cx.mk (0:Nat) (0:Nat)) (Cx.mk (0:Nat) (0:Nat))) (0:Int))].length)],.row 8 ([(SBus.mk (-1:Int) (Cx.mk (0:Nat) (0:Nat)) (Cx.mk (0:Nat) (0:Nat)) (0:Int) (qa7.mk (Cx.mk (0:Nat) (0:Nat)) (Cx.mk (0:Nat) (0:Nat)) (Cx.mk (0:Nat) (0:Nat))) (0:Int))].map qaf)]) rfl (by simp) rfl (by trivial) ⟨rfl,trivial,rfl,trivial,rfl,trivial,rfl,trivial,trivial⟩) ?_
    rintro ⟨m102,v82,v83,v84,v85,v86⟩ h
    replace h:qdn n x37 m102 v82 v83 v84 v85 v86 = some r:=h
    rcases m102 with _ | m102
    · rw [qdn] at h;cases h
    rw [qdn] at h
    refine qaa ?_
    refine qaa ?_
    refine qa2 ?_
    refine qa0 hτ rfl rfl rfl ?_
    refine qa0 hτ rfl rfl rfl ?_
    refine qa6 ?_
    refine qaz rfl (fun hc104=>?_) (fun hc104=>?_)
    · have h:=if_t h hc104
      refine qb3 ?_
      refine qaa ?_
      refine qba ?_
      refine qaa ?_
      refine qa2 ?_
      refine qa0 hτ rfl rfl rfl ?_
      refine qa0 hτ rfl rfl rfl ?_
      refine qa0 hτ rfl rfl rfl ?_
      refine qbl hτ rfl rfl rfl (qb5 _) ?_
      refine qac h fun x105 hx105 h=>?_
      refine qag hτ false [1] rfl rfl rfl (qai func56 rfl rfl) rfl rfl (by simp) ⟨trivial,trivial,trivial⟩ (by trivial) (qby n (qdy.mk v82 v83 v84) (v85.length:Int) hx105) ?_
      rintro r0 o0 n0 ⟨rfl,rfl,rfl⟩ -
      refine qa0 hτ rfl rfl rfl ?_
      refine qak hτ rfl rfl rfl ?_
      refine qak hτ rfl rfl rfl ?_
      refine qa6 ?_
      refine qaa ?_
      refine qab (qa5 [0,1,2,3,4] (l:=[(2,.ptr 0 0),(3,.ptr 1 0),(4,.ptr 2 0),(5,.d (.int .i64 v86)),(6,.ptr 4 0)]) (objs:=[.box [.d (.cx .f32 (0:Nat) (0:Nat)),.d (.cx .f32 (0:Nat) (0:Nat)),.d (.cx .f32 (0:Nat) (0:Nat)),.d (.nils)],.box [.d (.sl false (x105.2.code.map qaq)),.d (.int .i64 x105.2.at_),.d (.int .u64 x105.2.seed)],.box [.d (.cx .f32 x37.A.re x37.A.im),.d (.cx .f32 x37.B.re x37.B.im),.d (.cx .f32 x37.C.re x37.C.im),.row 3 v85.length 0 v85.length],.row 8 (v85.map qaf),.box [.d (.int .i64 x105.1),.d (.cx .f32 (0:Nat) (0:Nat)),.d (.cx .f32 (0:Nat) (0:Nat)),.d (.int .i64 (0:Int)),.d (.cx .f32 (0:Nat) (0:Nat)),.d (.cx .f32 (0:Nat) (0:Nat)),.d (.cx .f32 (0:Nat) (0:Nat)),.d (.int .i64 (0:Int))]]) rfl (by simp) rfl (by trivial) ⟨rfl,trivial,rfl,trivial,rfl,trivial,rfl,trivial,rfl,trivial,trivial⟩) ?_
      refine qa2 ?_
      refine qa0 hτ rfl rfl rfl ?_
      refine qac h fun x106 hx106 h=>?_
      refine qag hτ false [1] rfl rfl rfl (qai func56 rfl rfl) rfl rfl (by simp) ⟨trivial,trivial,trivial⟩ (by trivial) (qby n x105.2 (4:Int) hx106) ?_
      rintro r0 o0 n0 ⟨rfl,rfl,rfl⟩ -
      refine qa0 hτ rfl rfl rfl ?_
      refine qa0 hτ rfl rfl rfl ?_
      refine qa0 hτ rfl rfl rfl ?_
      refine qa0 hτ rfl rfl rfl ?_
      refine qa6 ?_
      refine qaa ?_
      refine qab (qa5 [0,1,2,3,4] (l:=[(2,.ptr 0 0),(3,.ptr 1 0),(4,.ptr 2 0),(5,.d (.int .i64 v86)),(6,.ptr 4 0),(7,.d (.fl .f32 (qa8 .quo .f32 (FloatKind.nearest .f32 (w64 ((1:Int) + x106.1))) (1115684864:Nat))))]) (objs:=[.box [.d (.cx .f32 (0:Nat) (0:Nat)),.d (.cx .f32 (0:Nat) (0:Nat)),.d (.cx .f32 (0:Nat) (0:Nat)),.d (.nils)],.box [.d (.sl false (x106.2.code.map qaq)),.d (.int .i64 x106.2.at_),.d (.int .u64 x106.2.seed)],.box [.d (.cx .f32 x37.A.re x37.A.im),.d (.cx .f32 x37.B.re x37.B.im),.d (.cx .f32 x37.C.re x37.C.im),.row 3 v85.length 0 v85.length],.row 8 (v85.map qaf),.box [.d (.int .i64 x105.1),.d (.cx .f32 (0:Nat) (0:Nat)),.d (.cx .f32 (0:Nat) (0:Nat)),.d (.int .i64 (0:Int)),.d (.cx .f32 (0:Nat) (0:Nat)),.d (.cx .f32 (0:Nat) (0:Nat)),.d (.cx .f32 (0:Nat) (0:Nat)),.d (.int .i64 (0:Int))]]) rfl (by simp) rfl (by trivial) ⟨rfl,trivial,rfl,trivial,rfl,trivial,rfl,trivial,rfl,trivial,rfl,trivial,trivial⟩) ?_
      refine qa2 ?_
      refine qa0 hτ rfl rfl rfl ?_
      refine qa0 hτ rfl rfl rfl ?_
      refine qac h fun x107 hx107 h=>?_
      refine qag hτ false [1] rfl rfl rfl (qai func56 rfl rfl) rfl rfl (by simp) ⟨trivial,trivial,trivial⟩ (by trivial) (qby n x106.2 (4:Int) hx107) ?_
      rintro r0 o0 n0 ⟨rfl,rfl,rfl⟩ -
      refine qa0 hτ rfl rfl rfl ?_
      refine qa0 hτ rfl rfl rfl ?_
      refine qa0 hτ rfl rfl rfl ?_
      refine qa0 hτ rfl rfl rfl ?_
      refine qak hτ rfl rfl rfl ?_
      refine qa6 ?_
      refine qaa ?_
      refine qab (qa5 [0,1,2,3,4] (l:=[(2,.ptr 0 0),(3,.ptr 1 0),(4,.ptr 2 0),(5,.d (.int .i64 v86)),(6,.ptr 4 0)]) (objs:=[.box [.d (.cx .f32 (0:Nat) (0:Nat)),.d (.cx .f32 (0:Nat) (0:Nat)),.d (.cx .f32 (0:Nat) (0:Nat)),.d (.nils)],.box [.d (.sl false (x107.2.code.map qaq)),.d (.int .i64 x107.2.at_),.d (.int .u64 x107.2.seed)],.box [.d (.cx .f32 x37.A.re x37.A.im),.d (.cx .f32 x37.B.re x37.B.im),.d (.cx .f32 x37.C.re x37.C.im),.row 3 v85.length 0 v85.length],.row 8 (v85.map qaf),.box [.d (.int .i64 x105.1),.d (.cx .f32 (qa8 .quo .f32 (FloatKind.nearest .f32 (w64 ((1:Int) + x106.1))) (1115684864:Nat)) (qa8 .quo .f32 (FloatKind.nearest .f32 x107.1) (1115684864:Nat))),.d (.cx .f32 (0:Nat) (0:Nat)),.d (.int .i64 (0:Int)),.d (.cx .f32 (0:Nat) (0:Nat)),.d (.cx .f32 (0:Nat) (0:Nat)),.d (.cx .f32 (0:Nat) (0:Nat)),.d (.int .i64 (0:Int))]]) rfl (by simp) rfl (by trivial) ⟨rfl,trivial,rfl,trivial,rfl,trivial,rfl,trivial,rfl,trivial,trivial⟩) ?_
      refine qa2 ?_
      refine qa0 hτ rfl rfl rfl ?_
      refine qac h fun x108 hx108 h=>?_
      refine qag hτ false [1] rfl rfl rfl (qai func56 rfl rfl) rfl rfl (by simp) ⟨trivial,trivial,trivial⟩ (by trivial) (qby n x107.2 (2:Int) hx108) ?_
      rintro r0 o0 n0 ⟨rfl,rfl,rfl⟩ -
      refine qa0 hτ rfl rfl rfl ?_
      refine qak hτ rfl rfl rfl ?_
      refine qa6 ?_
      refine qaa ?_
      refine qa2 ?_
      refine qa0 hτ rfl rfl rfl ?_
      refine qac h fun x109 hx109 h=>?_
      refine qag hτ false [1] rfl rfl rfl (qai func56 rfl rfl) rfl rfl (by simp) ⟨trivial,trivial,trivial⟩ (by trivial) (qby n x108.2 (9:Int) hx109) ?_
      rintro r0 o0 n0 ⟨rfl,rfl,rfl⟩ -
      refine qa0 hτ rfl rfl rfl ?_
      refine qa0 hτ rfl rfl rfl ?_
      refine qa0 hτ rfl rfl rfl ?_
      refine qa6 ?_
      refine qaa ?_
      refine qab (qa5 [0,1,2,3,4] (l:=[(2,.ptr 0 0),(3,.ptr 1 0),(4,.ptr 2 0),(5,.d (.int .i64 v86)),(6,.ptr 4 0),(8,.d (.fl .f32 (qa8 .quo .f32 (FloatKind.nearest .f32 x109.1) (1082130432:Nat))))]) (objs:=[.box [.d (.cx .f32 (0:Nat) (0:Nat)),.d (.cx .f32 (0:Nat) (0:Nat)),.d (.cx .f32 (0:Nat) (0:Nat)),.d (.nils)],.box [.d (.sl false (x109.2.code.map qaq)),.d (.int .i64 x109.2.at_),.d (.int .u64 x109.2.seed)],.box [.d (.cx .f32 x37.A.re x37.A.im),.d (.cx .f32 x37.B.re x37.B.im),.d (.cx .f32 x37.C.re x37.C.im),.row 3 v85.length 0 v85.length],.row 8 (v85.map qaf),.box [.d (.int .i64 x105.1),.d (.cx .f32 (qa8 .quo .f32 (FloatKind.nearest .f32 (w64 ((1:Int) + x106.1))) (1115684864:Nat)) (qa8 .quo .f32 (FloatKind.nearest .f32 x107.1) (1115684864:Nat))),.d (.cx .f32 (0:Nat) (0:Nat)),.d (.int .i64 x108.1),.d (.cx .f32 (0:Nat) (0:Nat)),.d (.cx .f32 (0:Nat) (0:Nat)),.d (.cx .f32 (0:Nat) (0:Nat)),.d (.int .i64 (0:Int))]]) rfl (by simp) rfl (by trivial) ⟨rfl,trivial,rfl,trivial,rfl,trivial,rfl,trivial,rfl,trivial,rfl,trivial,trivial⟩) ?_
      refine qa2 ?_
      refine qa0 hτ rfl rfl rfl ?_
      refine qa0 hτ rfl rfl rfl ?_
      refine qac h fun x110 hx110 h=>?_
      refine qag hτ false [1] rfl rfl rfl (qai func56 rfl rfl) rfl rfl (by simp) ⟨trivial,trivial,trivial⟩ (by trivial) (qby n x109.2 (3:Int) hx110) ?_
      rintro r0 o0 n0 ⟨rfl,rfl,rfl⟩ -
      refine qa0 hτ rfl rfl rfl ?_
      refine qa0 hτ rfl rfl rfl ?_
      refine qa0 hτ rfl rfl rfl ?_
      refine qa0 hτ rfl rfl rfl ?_
      refine qa0 hτ rfl rfl rfl ?_
      refine qak hτ rfl rfl rfl ?_
      refine qa6 ?_
      refine qaa ?_
      refine qab (qa5 [0,1,2,3,4] (l:=[(2,.ptr 0 0),(3,.ptr 1 0),(4,.ptr 2 0),(5,.d (.int .i64 v86)),(6,.ptr 4 0)]) (objs:=[.box [.d (.cx .f32 (0:Nat) (0:Nat)),.d (.cx .f32 (0:Nat) (0:Nat)),.d (.cx .f32 (0:Nat) (0:Nat)),.d (.nils)],.box [.d (.sl false (x110.2.code.map qaq)),.d (.int .i64 x110.2.at_),.d (.int .u64 x110.2.seed)],.box [.d (.cx .f32 x37.A.re x37.A.im),.d (.cx .f32 x37.B.re x37.B.im),.d (.cx .f32 x37.C.re x37.C.im),.row 3 v85.length 0 v85.length],.row 8 (v85.map qaf),.box [.d (.int .i64 x105.1),.d (.cx .f32 (qa8 .quo .f32 (FloatKind.nearest .f32 (w64 ((1:Int) + x106.1))) (1115684864:Nat)) (qa8 .quo .f32 (FloatKind.nearest .f32 x107.1) (1115684864:Nat))),.d (.cx .f32 (0:Nat) (0:Nat)),.d (.int .i64 x108.1),.d (.cx .f32 (qa8 .quo .f32 (FloatKind.nearest .f32 x109.1) (1082130432:Nat)) (qa8 .quo .f32 (FloatKind.nearest .f32 x110.1) (1082130432:Nat))),.d (.cx .f32 (0:Nat) (0:Nat)),.d (.cx .f32 (0:Nat) (0:Nat)),.d (.int .i64 (0:Int))]]) rfl (by simp) rfl (by trivial) ⟨rfl,trivial,rfl,trivial,rfl,trivial,rfl,trivial,rfl,trivial,trivial⟩) ?_
      refine qa2 ?_
      refine qa0 hτ rfl rfl rfl ?_
      refine qac h fun x111 hx111 h=>?_
      refine qag hτ false [1] rfl rfl rfl (qai func56 rfl rfl) rfl rfl (by simp) ⟨trivial,trivial,trivial⟩ (by trivial) (qby n x110.2 (9:Int) hx111) ?_
      rintro r0 o0 n0 ⟨rfl,rfl,rfl⟩ -
      refine qa0 hτ rfl rfl rfl ?_
      refine qa0 hτ rfl rfl rfl ?_
      refine qa0 hτ rfl rfl rfl ?_
      refine qa0 hτ rfl rfl rfl ?_
      refine qa0 hτ rfl rfl rfl ?_
      refine qak hτ rfl rfl rfl ?_
      refine qa6 ?_
      refine qaa ?_
      refine qab (qa5 [0,1,2,3,4] (l:=[(2,.ptr 0 0),(3,.ptr 1 0),(4,.ptr 2 0),(5,.d (.int .i64 v86)),(6,.ptr 4 0)]) (objs:=[.box [.d (.cx .f32 (0:Nat) (0:Nat)),.d (.cx .f32 (0:Nat) (0:Nat)),.d (.cx .f32 (0:Nat) (0:Nat)),.d (.nils)],.box [.d (.sl false (x111.2.code.map qaq)),.d (.int .i64 x111.2.at_),.d (.int .u64 x111.2.seed)],.box [.d (.cx .f32 x37.A.re x37.A.im),.d (.cx .f32 x37.B.re x37.B.im),.d (.cx .f32 x37.C.re x37.C.im),.row 3 v85.length 0 v85.length],.row 8 (v85.map qaf),.box [.d (.int .i64 x105.1),.d (.cx .f32 (qa8 .quo .f32 (FloatKind.nearest .f32 (w64 ((1:Int) + x106.1))) (1115684864:Nat)) (qa8 .quo .f32 (FloatKind.nearest .f32 x107.1) (1115684864:Nat))),.d (.cx .f32 (0:Nat) (0:Nat)),.d (.int .i64 x108.1),.d (.cx .f32 (qa8 .quo .f32 (FloatKind.nearest .f32 x109.1) (1082130432:Nat)) (qa8 .quo .f32 (FloatKind.nearest .f32 x110.1) (1082130432:Nat))),.d (.cx .f32 (qa8 .quo .f32 (FloatKind.nearest .f32 x111.1) (1082130432:Nat)) (0:Nat)),.d (.cx .f32 (0:Nat) (0:Nat)),.d (.int .i64 (0:Int))]]) rfl (by simp) rfl (by trivial) ⟨rfl,trivial,rfl,trivial,rfl,trivial,rfl,trivial,rfl,trivial,trivial⟩) ?_
      refine qa2 ?_
      refine qa0 hτ rfl rfl rfl ?_
      refine qac h fun x112 hx112 h=>?_
      refine qag hτ false [1] rfl rfl rfl (qai func56 rfl rfl) rfl rfl (by simp) ⟨trivial,trivial,trivial⟩ (by trivial) (qby n x111.2 (9:Int) hx112) ?_
      rintro r0 o0 n0 ⟨rfl,rfl,rfl⟩ -
      refine qa0 hτ rfl rfl rfl ?_
      refine qa0 hτ rfl rfl rfl ?_
      refine qa0 hτ rfl rfl rfl ?_
      refine qa0 hτ rfl rfl rfl ?_
      refine qa0 hτ rfl rfl rfl ?_
      refine qak hτ rfl rfl rfl ?_
      refine qa6 ?_
      refine qaa ?_
      refine qab (qa5 [0,1,2,3,4] (l:=[(2,.ptr 0 0),(3,.ptr 1 0),(4,.ptr 2 0),(5,.d (.int .i64 v86)),(6,.ptr 4 0)]) (objs:=[.box [.d (.cx .f32 (0:Nat) (0:Nat)),.d (.cx .f32 (0:Nat) (0:Nat)),.d (.cx .f32 (0:Nat) (0:Nat)),.d (.nils)],.box [.d (.sl false (x112.2.code.map qaq)),.d (.int .i64 x112.2.at_),.d (.int .u64 x112.2.seed)],.box [.d (.cx .f32 x37.A.re x37.A.im),.d (.cx .f32 x37.B.re x37.B.im),.d (.cx .f32 x37.C.re x37.C.im),.row 3 v85.length 0 v85.length],.row 8 (v85.map qaf),.box [.d (.int .i64 x105.1),.d (.cx .f32 (qa8 .quo .f32 (FloatKind.nearest .f32 (w64 ((1:Int) + x106.1))) (1115684864:Nat)) (qa8 .quo .f32 (FloatKind.nearest .f32 x107.1) (1115684864:Nat))),.d (.cx .f32 (0:Nat) (0:Nat)),.d (.int .i64 x108.1),.d (.cx .f32 (qa8 .quo .f32 (FloatKind.nearest .f32 x109.1) (1082130432:Nat)) (qa8 .quo .f32 (FloatKind.nearest .f32 x110.1) (1082130432:Nat))),.d (.cx .f32 (qa8 .quo .f32 (FloatKind.nearest .f32 x111.1) (1082130432:Nat)) (0:Nat)),.d (.cx .f32 (qa8 .quo .f32 (FloatKind.nearest .f32 x112.1) (1082130432:Nat)) (0:Nat)),.d (.int .i64 (0:Int))]]) rfl (by simp) rfl (by trivial) ⟨rfl,trivial,rfl,trivial,rfl,trivial,rfl,trivial,rfl,trivial,trivial⟩) ?_
      refine qa2 ?_
      refine qa0 hτ rfl rfl rfl ?_
      refine qac h fun x113 hx113 h=>?_
      refine qag hτ false [1] rfl rfl rfl (qai func56 rfl rfl) rfl rfl (by simp) ⟨trivial,trivial,trivial⟩ (by trivial) (qby n x112.2 (30:Int) hx113) ?_
      rintro r0 o0 n0 ⟨rfl,rfl,rfl⟩ -
      refine qa0 hτ rfl rfl rfl ?_
      refine qak hτ rfl rfl rfl ?_
      refine qa6 ?_
      refine qa2 ?_
      refine qa0 hτ rfl rfl rfl ?_
      refine qa0 hτ rfl rfl rfl ?_
      refine qa0 hτ rfl rfl rfl ?_
      refine awl_valS hτ 8 1 (([(SBus.mk x105.1 (Cx.mk (qa8 .quo .f32 (FloatKind.nearest .f32 (w64 ((1:Int) + x106.1))) (1115684864:Nat)) (qa8 .quo .f32 (FloatKind.nearest .f32 x107.1) (1115684864:Nat))) (Cx.mk (0:Nat) (0:Nat)) x108.1 (qa7.mk (Cx.mk (qa8 .quo .f32 (FloatKind.nearest .f32 x109.1) (1082130432:Nat)) (qa8 .quo .f32 (FloatKind.nearest .f32 x110.1) (1082130432:Nat))) (Cx.mk (qa8 .quo .f32 (FloatKind.nearest .f32 x111.1) (1082130432:Nat)) (0:Nat)) (Cx.mk (qa8 .quo .f32 (FloatKind.nearest .f32 x112.1) (1082130432:Nat)) (0:Nat))) x113.1)]:List SBus).map qaf) rfl rfl (by kernel_rfl) ?_
      refine qd6 h fun hg114 h=>?_
      refine qjn hτ rfl rfl (Eq.trans rfl (or_append (f:=qaf) v85 [(SBus.mk x105.1 (Cx.mk (qa8 .quo .f32 (FloatKind.nearest .f32 (w64 ((1:Int) + x106.1))) (1115684864:Nat)) (qa8 .quo .f32 (FloatKind.nearest .f32 x107.1) (1115684864:Nat))) (Cx.mk (0:Nat) (0:Nat)) x108.1 (qa7.mk (Cx.mk (qa8 .quo .f32 (FloatKind.nearest .f32 x109.1) (1082130432:Nat)) (qa8 .quo .f32 (FloatKind.nearest .f32 x110.1) (1082130432:Nat))) (Cx.mk (qa8 .quo .f32 (FloatKind.nearest .f32 x111.1) (1082130432:Nat)) (0:Nat)) (Cx.mk (qa8 .quo .f32 (FloatKind.nearest .f32 x112.1) (1082130432:Nat)) (0:Nat))) x113.1)] rfl)) ⟨⟨rfl,Nat.le_of_ble_eq_true rfl⟩,qb5 _,rfl,rfl,hg114,by decide,(all1 rfl)⟩ ?_
      refine qa0 hτ rfl rfl rfl ?_
      refine qak hτ rfl rfl rfl ?_
      refine qa6 ?_
      refine qab (qa5 [0,1,2,3] (l:=[(2,.ptr 0 0),(3,.ptr 1 0),(4,.ptr 2 0),(5,.d (.int .i64 v86))]) (objs:=[.box [.d (.cx .f32 (0:Nat) (0:Nat)),.d (.cx .f32 (0:Nat) (0:Nat)),.d (.cx .f32 (0:Nat) (0:Nat)),.d (.nils)],.box [.d (.sl false (x113.2.code.map qaq)),.d (.int .i64 x113.2.at_),.d (.int .u64 x113.2.seed)],.box [.d (.cx .f32 x37.A.re x37.A.im),.d (.cx .f32 x37.B.re x37.B.im),.d (.cx .f32 x37.C.re x37.C.im),.row 3 ((v85 ++ [(SBus.mk x105.1 (Cx.mk (qa8 .quo .f32 (FloatKind.nearest .f32 (w64 ((1:Int) + x106.1))) (1115684864:Nat)) (qa8 .quo .f32 (FloatKind.nearest .f32 x107.1) (1115684864:Nat))) (Cx.mk (0:Nat) (0:Nat)) x108.1 (qa7.mk (Cx.mk (qa8 .quo .f32 (FloatKind.nearest .f32 x109.1) (1082130432:Nat)) (qa8 .quo .f32 (FloatKind.nearest .f32 x110.1) (1082130432:Nat))) (Cx.mk (qa8 .quo .f32 (FloatKind.nearest .f32 x111.1) (1082130432:Nat)) (0:Nat)) (Cx.mk (qa8 .quo .f32 (FloatKind.nearest .f32 x112.1) (1082130432:Nat)) (0:Nat))) x113.1)]).length) 0 ((v85 ++ [(SBus.mk x105.1 (Cx.mk (qa8 .quo .f32 (FloatKind.nearest .f32 (w64 ((1:Int) + x106.1))) (1115684864:Nat)) (qa8 .quo .f32 (FloatKind.nearest .f32 x107.1) (1115684864:Nat))) (Cx.mk (0:Nat) (0:Nat)) x108.1 (qa7.mk (Cx.mk (qa8 .quo .f32 (FloatKind.nearest .f32 x109.1) (1082130432:Nat)) (qa8 .quo .f32 (FloatKind.nearest .f32 x110.1) (1082130432:Nat))) (Cx.mk (qa8 .quo .f32 (FloatKind.nearest .f32 x111.1) (1082130432:Nat)) (0:Nat)) (Cx.mk (qa8 .quo .f32 (FloatKind.nearest .f32 x112.1) (1082130432:Nat)) (0:Nat))) x113.1)]).length)],.row 8 ((v85 ++ [(SBus.mk x105.1 (Cx.mk (qa8 .quo .f32 (FloatKind.nearest .f32 (w64 ((1:Int) + x106.1))) (1115684864:Nat)) (qa8 .quo .f32 (FloatKind.nearest .f32 x107.1) (1115684864:Nat))) (Cx.mk (0:Nat) (0:Nat)) x108.1 (qa7.mk (Cx.mk (qa8 .quo .f32 (FloatKind.nearest .f32 x109.1) (1082130432:Nat)) (qa8 .quo .f32 (FloatKind.nearest .f32 x110.1) (1082130432:Nat))) (Cx.mk (qa8 .quo .f32 (FloatKind.nearest .f32 x111.1) (1082130432:Nat)) (0:Nat)) (Cx.mk (qa8 .quo .f32 (FloatKind.nearest .f32 x112.1) (1082130432:Nat)) (0:Nat))) x113.1)]).map qaf)]) rfl (by simp) rfl (by trivial) ⟨rfl,trivial,rfl,trivial,rfl,trivial,rfl,trivial,trivial⟩) ?_
      refine qa2 ?_
      refine qa0 hτ rfl rfl rfl ?_
      refine qa0 hτ rfl rfl rfl ?_
      refine qa0 hτ rfl rfl rfl ?_
      refine qa6 ?_
      exact ⟨(m102,x113.2.code,x113.2.at_,x113.2.seed,(v85 ++ [(SBus.mk x105.1 (Cx.mk (qa8 .quo .f32 (FloatKind.nearest .f32 (w64 ((1:Int) + x106.1))) (1115684864:Nat)) (qa8 .quo .f32 (FloatKind.nearest .f32 x107.1) (1115684864:Nat))) (Cx.mk (0:Nat) (0:Nat)) x108.1 (qa7.mk (Cx.mk (qa8 .quo .f32 (FloatKind.nearest .f32 x109.1) (1082130432:Nat)) (qa8 .quo .f32 (FloatKind.nearest .f32 x110.1) (1082130432:Nat))) (Cx.mk (qa8 .quo .f32 (FloatKind.nearest .f32 x111.1) (1082130432:Nat)) (0:Nat)) (Cx.mk (qa8 .quo .f32 (FloatKind.nearest .f32 x112.1) (1082130432:Nat)) (0:Nat))) x113.1)]),(w64 (v86 - (1:Int)))),h,Nat.lt_succ_self m102,(qa5 [0,1,2,3] (l:=[(2,.ptr 0 0),(3,.ptr 1 0),(4,.ptr 2 0),(5,.d (.int .i64 (w64 (v86 - (1:Int)))))]) (objs:=[.box [.d (.cx .f32 (0:Nat) (0:Nat)),.d (.cx .f32 (0:Nat) (0:Nat)),.d (.cx .f32 (0:Nat) (0:Nat)),.d (.nils)],.box [.d (.sl false (x113.2.code.map qaq)),.d (.int .i64 x113.2.at_),.d (.int .u64 x113.2.seed)],.box [.d (.cx .f32 x37.A.re x37.A.im),.d (.cx .f32 x37.B.re x37.B.im),.d (.cx .f32 x37.C.re x37.C.im),.row 3 ((v85 ++ [(SBus.mk x105.1 (Cx.mk (qa8 .quo .f32 (FloatKind.nearest .f32 (w64 ((1:Int) + x106.1))) (1115684864:Nat)) (qa8 .quo .f32 (FloatKind.nearest .f32 x107.1) (1115684864:Nat))) (Cx.mk (0:Nat) (0:Nat)) x108.1 (qa7.mk (Cx.mk (qa8 .quo .f32 (FloatKind.nearest .f32 x109.1) (1082130432:Nat)) (qa8 .quo .f32 (FloatKind.nearest .f32 x110.1) (1082130432:Nat))) (Cx.mk (qa8 .quo .f32 (FloatKind.nearest .f32 x111.1) (1082130432:Nat)) (0:Nat)) (Cx.mk (qa8 .quo .f32 (FloatKind.nearest .f32 x112.1) (1082130432:Nat)) (0:Nat))) x113.1)]).length) 0 ((v85 ++ [(SBus.mk x105.1 (Cx.mk (qa8 .quo .f32 (FloatKind.nearest .f32 (w64 ((1:Int) + x106.1))) (1115684864:Nat)) (qa8 .quo .f32 (FloatKind.nearest .f32 x107.1) (1115684864:Nat))) (Cx.mk (0:Nat) (0:Nat)) x108.1 (qa7.mk (Cx.mk (qa8 .quo .f32 (FloatKind.nearest .f32 x109.1) (1082130432:Nat)) (qa8 .quo .f32 (FloatKind.nearest .f32 x110.1) (1082130432:Nat))) (Cx.mk (qa8 .quo .f32 (FloatKind.nearest .f32 x111.1) (1082130432:Nat)) (0:Nat)) (Cx.mk (qa8 .quo .f32 (FloatKind.nearest .f32 x112.1) (1082130432:Nat)) (0:Nat))) x113.1)]).length)],.row 8 ((v85 ++ [(SBus.mk x105.1 (Cx.mk (qa8 .quo .f32 (FloatKind.nearest .f32 (w64 ((1:Int) + x106.1))) (1115684864:Nat)) (qa8 .quo .f32 (FloatKind.nearest .f32 x107.1) (1115684864:Nat))) (Cx.mk (0:Nat) (0:Nat)) x108.1 (qa7.mk (Cx.mk (qa8 .quo .f32 (FloatKind.nearest .f32 x109.1) (1082130432:Nat)) (qa8 .quo .f32 (FloatKind.nearest .f32 x110.1) (1082130432:Nat))) (Cx.mk (qa8 .quo .f32 (FloatKind.nearest .f32 x111.1) (1082130432:Nat)) (0:Nat)) (Cx.mk (qa8 .quo .f32 (FloatKind.nearest .f32 x112.1) (1082130432:Nat)) (0:Nat))) x113.1)]).map qaf)]) rfl (by simp) rfl (by trivial) ⟨rfl,trivial,rfl,trivial,rfl,trivial,rfl,trivial,trivial⟩)⟩
    · have h:=if_f h hc104
      refine qfc ?_
      refine qab (qa5 [0,2,3] (l:=[(2,.ptr 0 0),(4,.ptr 1 0)]) (objs:=[.box [.d (.cx .f32 (0:Nat) (0:Nat)),.d (.cx .f32 (0:Nat) (0:Nat)),.d (.cx .f32 (0:Nat) (0:Nat)),.d (.nils)],.box [.d (.cx .f32 x37.A.re x37.A.im),.d (.cx .f32 x37.B.re x37.B.im),.d (.cx .f32 x37.C.re x37.C.im),.row 2 v85.length 0 v85.length],.row 8 (v85.map qaf)]) rfl (by simp) rfl (by trivial) ⟨rfl,trivial,rfl,trivial,trivial⟩) ?_
      exact hk70 v85 h
theorem spec_B10Mild_ok (n:Nat) (code_:List Int) {r:qam} (h:qgy n code_ = some r):qb0 prog false 9 [.d (.sl false (code_.map qaq))] [] (fun v o new=>v = .agg [.d (.cx .f32 r.Source.A.re r.Source.A.im),.d (.cx .f32 r.Source.B.re r.Source.B.im),.d (.cx .f32 r.Source.C.re r.Source.C.im),.row 0 r.qa9.length 0 r.qa9.length]∧o = []∧new = [.row 8 (r.qa9.map qaf)]):=spec_B10Mild_ok_fr0 false n code_ h
def qeq (n:Nat) (n_:Int) (low_:Int) (high_:Int):Option Bool :=
  if n_ ≥ low_ then
    some (decide (n_ ≤ high_))
  else
    some false
theorem impl_in_ok_fr0 (fr:Bool) (n:Nat) (n_:Int) (low_:Int) (high_:Int) {r:Bool} (h:qeq n n_ low_ high_ = some r):qb0 prog fr 58 [.d (.int .i64 n_),.d (.int .i64 low_),.d (.int .i64 high_)] [] (fun v o new=>v = .d (.bool r)∧o = []∧new = []):=by
  refine qal hτ func58 rfl (by simp) (by simp) ?_
  unfold qeq at h
  refine qaa ?_
  refine qa2 ?_
  refine qa0 hτ rfl rfl rfl ?_
  refine qa6 ?_
  refine qaa ?_
  refine qa2 ?_
  refine qa0 hτ rfl rfl rfl ?_
  refine qa0 hτ rfl rfl rfl ?_
  refine qa0 hτ rfl rfl rfl ?_
  refine qa0 hτ rfl rfl rfl ?_
  refine qb4 10 rfl (fun hb3=>?_) (fun hb3=>?_)
  · have h:=if_t h hb3
    refine qa0 hτ rfl rfl rfl ?_
    refine qa0 hτ rfl rfl rfl ?_
    refine qa0 hτ rfl rfl rfl ?_
    refine qa0 hτ rfl rfl rfl ?_
    refine qa0 hτ rfl rfl rfl ?_
    refine qa6 ?_
    refine qab (qa5 [] (l:=[(6,.d (.bool (decide (n_ ≤ high_))))]) (objs:=[]) rfl (by simp) rfl (by trivial) ⟨rfl,trivial,trivial⟩) ?_
    refine qas ?_
    have hr:=Option.some.inj h
    subst hr
    exact qah (.inr rfl) [] (objs':=[]) (new:=[]) rfl (by simp) (by simp) rfl (by trivial) rfl rfl (by trivial) (fun _=>⟨by simp [V.flat,V.qbh,V.qb7,D.flat],qao⟩) ⟨rfl,rfl,rfl⟩
  · have h:=if_f h hb3
    refine qa4 rfl rfl ?_
    refine qa4 rfl rfl ?_
    refine qa4 rfl rfl ?_
    refine qa0 hτ rfl rfl rfl ?_
    refine qa0 hτ rfl rfl rfl ?_
    refine qa6 ?_
    refine qab (qa5 [] (l:=[(6,.d (.bool false))]) (objs:=[]) rfl (by simp) rfl (by trivial) ⟨rfl,trivial,trivial⟩) ?_
    refine qas ?_
    have hr:=Option.some.inj h
    subst hr
    exact qah (.inr rfl) [] (objs':=[]) (new:=[]) rfl (by simp) (by simp) rfl (by trivial) rfl rfl (by trivial) (fun _=>⟨by simp [V.flat,V.qbh,V.qb7,D.flat],qao⟩) ⟨rfl,rfl,rfl⟩
theorem qio (n:Nat) (n_:Int) (low_:Int) (high_:Int) {r:Bool} (h:qeq n n_ low_ high_ = some r):qb0 prog false 58 [.d (.int .i64 n_),.d (.int .i64 low_),.d (.int .i64 high_)] [] (fun v o new=>v = .d (.bool r)∧o = []∧new = []):=impl_in_ok_fr0 false n n_ low_ high_ h
def qie (n:Nat) (kind_:Int):Option Bool :=
  (qeq n kind_ (0:Int) (2:Int)).bind fun x2 =>
  some x2
theorem impl_kindOk_ok_fr0 (fr:Bool) (n:Nat) (kind_:Int) {r:Bool} (h:qie n kind_ = some r):qb0 prog fr 67 [.d (.int .i64 kind_)] [] (fun v o new=>v = .d (.bool r)∧o = []∧new = []):=by
  refine qal hτ func67 rfl (by simp) (by simp) ?_
  unfold qie at h
  refine qaa ?_
  refine qa2 ?_
  refine qa0 hτ rfl rfl rfl ?_
  refine qa6 ?_
  refine qaa ?_
  refine qa2 ?_
  refine qa0 hτ rfl rfl rfl ?_
  refine qac h fun x2 hx2 h=>?_
  refine qag hτ false [] rfl rfl rfl (qai func58 rfl rfl) rfl rfl (by simp) ⟨trivial,trivial,trivial,trivial⟩ (by trivial) (qio n kind_ (0:Int) (2:Int) hx2) ?_
  rintro r0 o0 n0 ⟨rfl,rfl,rfl⟩ -
  refine qa0 hτ rfl rfl rfl ?_
  refine qa6 ?_
  refine qab (qa5 [] (l:=[(2,.d (.bool x2))]) (objs:=[]) rfl (by simp) rfl (by trivial) ⟨rfl,trivial,trivial⟩) ?_
  refine qas ?_
  have hr:=Option.some.inj h
  subst hr
  exact qah (.inr rfl) [] (objs':=[]) (new:=[]) rfl (by simp) (by simp) rfl (by trivial) rfl rfl (by trivial) (fun _=>⟨by simp [V.flat,V.qbh,V.qb7,D.flat],qao⟩) ⟨rfl,rfl,rfl⟩
theorem impl_kindOk_ok (n:Nat) (kind_:Int) {r:Bool} (h:qie n kind_ = some r):qb0 prog false 67 [.d (.int .i64 kind_)] [] (fun v o new=>v = .d (.bool r)∧o = []∧new = []):=impl_kindOk_ok_fr0 false n kind_ h
def qe6 (n:Nat) (f_:qam):Option Bool :=
  (qeq n (f_.qa9.length:Int) (1:Int) (16:Int)).bind fun x58 =>
  some x58
def qdl (n:Nat) (k89:Int→Option Bool) (v73:Int):Option Bool :=
  k89 (w64 (v73 + (1:Int)))
def qcw (n:Nat) (k89:Int→Option Bool) (v73:Int) (v122:Bool):Option Bool :=
  if v122 = true then
    some false
  else
    qdl n k89 v73
def qc9 (n:Nat) (k89:Int→Option Bool) (v73:Int) (x105:SBus) (v117:Bool):Option Bool :=
  if v117 = true then
    some false
  else
    if v73 > (0:Int) then
      (qeq n x105.qar (0:Int) (w64 (v73 - (1:Int)))).bind fun x126 =>
      qcw n k89 v73 (!x126)
    else
      qcw n k89 v73 false
def qdm (n:Nat) (k89:Int→Option Bool) (v73:Int) (x105:SBus) (v110:Bool):Option Bool :=
  if v110 = true then
    some false
  else
    if v73 = (0:Int) then
      if x105.qar = (-1:Int) then
        if (fcmp .eql .f32 x105.Own.re (0:Nat) && fcmp .eql .f32 x105.Own.im (0:Nat)) = true then
          qc9 n k89 v73 x105 (!(fcmp .eql .f32 x105.Shared.re (0:Nat) && fcmp .eql .f32 x105.Shared.im (0:Nat)))
        else
          qc9 n k89 v73 x105 true
      else
        qc9 n k89 v73 x105 true
    else
      qc9 n k89 v73 x105 false
def qay (n:Nat) (f_:qam):Nat→Int→Option Bool
  | 0,_=>none
  | m88 + 1,v73 =>
    if v73 < (f_.qa9.length:Int) then
      (getI f_.qa9 v73).bind fun x105 =>
      (qie n x105.Kind).bind fun x132 =>
      if x132 = true then
        (qeq n x105.qan (0:Int) (1000000:Int)).bind fun x134 =>
        qdm n (qay n f_ m88) v73 x105 (!x134)
      else
        qdm n (qay n f_ m88) v73 x105 true
    else
      qe6 n f_
def qcs (n:Nat) (f_:qam):Option Bool :=
  qay n f_ n (0:Int)
theorem impl_ValidFeeder_ok_fr0 (fr:Bool) (n:Nat) (f_:qam) {r:Bool} (h:qcs n f_ = some r):qb0 prog fr 13 [.agg [.d (.cx .f32 f_.Source.A.re f_.Source.A.im),.d (.cx .f32 f_.Source.B.re f_.Source.B.im),.d (.cx .f32 f_.Source.C.re f_.Source.C.im),.d (.sl false (f_.qa9.map qaf))]] [] (fun v o new=>v = .d (.bool r)∧o = []∧new = []):=by
  refine qal hτ func13 rfl (by simp) (by simp) ?_
  unfold qcs at h
  refine qaa ?_
  refine qa2 ?_
  refine qak hτ rfl rfl rfl ?_
  refine qa0 hτ rfl rfl rfl ?_
  refine qa6 ?_
  refine qc7 (ι:=Unit) (fun _=>St.of [(1,.ptr 0 0)] [.box [.d (.cx .f32 f_.Source.A.re f_.Source.A.im),.d (.cx .f32 f_.Source.B.re f_.Source.B.im),.d (.cx .f32 f_.Source.C.re f_.Source.C.im),.d (.sl false (f_.qa9.map qaf))]] f13.ntmps 0) (fun _=>qe6 n f_ = some r) ?_ (fun hk59=>?_)
  · rintro ⟨⟩ h
    replace h:qe6 n f_ = some r:=h
    unfold qe6 at h
    refine qaa ?_
    refine qa2 ?_
    refine qa0 hτ rfl rfl rfl ?_
    refine qa0 hτ rfl rfl rfl ?_
    refine qa0 hτ (v:=.d (.int .i64 (f_.qa9.length:Int))) rfl rfl (Eq.trans rfl (qfx (f:=qaf) f_.qa9)) ?_
    refine qac h fun x58 hx58 h=>?_
    refine qag hτ false [] rfl rfl rfl (qai func58 rfl rfl) rfl rfl (by simp) ⟨trivial,trivial,trivial,trivial⟩ (by trivial) (qio n (f_.qa9.length:Int) (1:Int) (16:Int) hx58) ?_
    rintro r0 o0 n0 ⟨rfl,rfl,rfl⟩ -
    refine qa0 hτ rfl rfl rfl ?_
    refine qa6 ?_
    refine qab (qa5 [] (l:=[(2,.d (.bool x58))]) (objs:=[]) rfl (by simp) rfl (by trivial) ⟨rfl,trivial,trivial⟩) ?_
    refine qas ?_
    have hr:=Option.some.inj h
    subst hr
    exact qah (.inr rfl) [] (objs':=[]) (new:=[]) rfl (by simp) (by simp) rfl (by trivial) rfl rfl (by trivial) (fun _=>⟨by simp [V.flat,V.qbh,V.qb7,D.flat],qao⟩) ⟨rfl,rfl,rfl⟩
  · refine qaa ?_
    refine qaa ?_
    refine qa2 ?_
    refine qa0 hτ rfl rfl rfl ?_
    refine qa0 hτ rfl rfl rfl ?_
    refine qa0 hτ (v:=.d (.int .i64 (f_.qa9.length:Int))) rfl rfl (Eq.trans rfl (qfx (f:=qaf) f_.qa9)) ?_
    refine qa0 hτ rfl rfl rfl ?_
    refine qa6 ?_
    refine qba ?_
    refine qfd (ι:=Nat × Int) (fun (m88,v73)=>St.of [(1,.ptr 0 0),(6,.d (.sl false (f_.qa9.map qaf))),(7,.d (.int .i64 (f_.qa9.length:Int))),(8,.d (.int .i64 v73))] [.box [.d (.cx .f32 f_.Source.A.re f_.Source.A.im),.d (.cx .f32 f_.Source.B.re f_.Source.B.im),.d (.cx .f32 f_.Source.C.re f_.Source.C.im),.d (.sl false (f_.qa9.map qaf))]] f13.ntmps 0) (fun (m88,v73)=>qay n f_ m88 v73 = some r) (fun x=>x.1) (n,(0:Int)) h (qa5 [0] (l:=[(1,.ptr 0 0),(6,.d (.sl false (f_.qa9.map qaf))),(7,.d (.int .i64 (f_.qa9.length:Int))),(8,.d (.int .i64 (0:Int)))]) (objs:=[.box [.d (.cx .f32 f_.Source.A.re f_.Source.A.im),.d (.cx .f32 f_.Source.B.re f_.Source.B.im),.d (.cx .f32 f_.Source.C.re f_.Source.C.im),.d (.sl false (f_.qa9.map qaf))]]) rfl (by simp) rfl (by trivial) ⟨rfl,trivial,rfl,trivial,rfl,trivial,rfl,trivial,trivial⟩) ?_
    rintro ⟨m88,v73⟩ h
    replace h:qay n f_ m88 v73 = some r:=h
    rcases m88 with _ | m88
    · rw [qay] at h;cases h
    rw [qay] at h
    refine qaa ?_
    refine qa2 ?_
    refine qa0 hτ rfl rfl rfl ?_
    refine qa6 ?_
    refine qaa ?_
    refine qaz rfl (fun hc90=>?_) (fun hc90=>?_)
    · have h:=if_t h hc90
      refine qb3 ?_
      refine qc7 (ι:=Unit) (fun _=>St.of [(1,.ptr 0 0),(6,.d (.sl false (f_.qa9.map qaf))),(7,.d (.int .i64 (f_.qa9.length:Int))),(8,.d (.int .i64 v73))] [.box [.d (.cx .f32 f_.Source.A.re f_.Source.A.im),.d (.cx .f32 f_.Source.B.re f_.Source.B.im),.d (.cx .f32 f_.Source.C.re f_.Source.C.im),.d (.sl false (f_.qa9.map qaf))]] f13.ntmps 0) (fun _=>qdl n (qay n f_ m88) v73 = some r) ?_ (fun hk104=>?_)
      · rintro ⟨⟩ h
        replace h:qdl n (qay n f_ m88) v73 = some r:=h
        unfold qdl at h
        refine qa2 ?_
        refine qa0 hτ rfl rfl rfl ?_
        refine qa0 hτ rfl rfl rfl ?_
        refine qa6 ?_
        exact ⟨(m88,(w64 (v73 + (1:Int)))),h,Nat.lt_succ_self m88,(qa5 [0] (l:=[(1,.ptr 0 0),(6,.d (.sl false (f_.qa9.map qaf))),(7,.d (.int .i64 (f_.qa9.length:Int))),(8,.d (.int .i64 (w64 (v73 + (1:Int)))))]) (objs:=[.box [.d (.cx .f32 f_.Source.A.re f_.Source.A.im),.d (.cx .f32 f_.Source.B.re f_.Source.B.im),.d (.cx .f32 f_.Source.C.re f_.Source.C.im),.d (.sl false (f_.qa9.map qaf))]]) rfl (by simp) rfl (by trivial) ⟨rfl,trivial,rfl,trivial,rfl,trivial,rfl,trivial,trivial⟩)⟩
      · refine qaa ?_
        refine qba ?_
        refine qaa ?_
        refine qa2 ?_
        refine qa0 hτ rfl rfl rfl ?_
        refine qac h fun x105 hx105 h=>?_
        refine qfb hτ rfl rfl rfl (qd3 hx105).1 (qeu hx105) rfl ?_
        refine qa0 hτ rfl rfl rfl ?_
        refine qak hτ rfl rfl rfl ?_
        refine qa0 hτ rfl rfl rfl ?_
        refine qak hτ rfl rfl rfl ?_
        refine qa6 ?_
        refine qba ?_
        refine qc7 (ι:=Bool) (fun v110=>St.of [(1,.ptr 0 0),(3,.d (.int .i64 v73)),(4,.ptr 1 0),(6,.d (.sl false (f_.qa9.map qaf))),(7,.d (.int .i64 (f_.qa9.length:Int))),(8,.d (.int .i64 v73)),(13,.d (.bool v110))] [.box [.d (.cx .f32 f_.Source.A.re f_.Source.A.im),.d (.cx .f32 f_.Source.B.re f_.Source.B.im),.d (.cx .f32 f_.Source.C.re f_.Source.C.im),.d (.sl false (f_.qa9.map qaf))],.box [.d (.int .i64 x105.qar),.d (.cx .f32 x105.Own.re x105.Own.im),.d (.cx .f32 x105.Shared.re x105.Shared.im),.d (.int .i64 x105.Kind),.d (.cx .f32 x105.Load.A.re x105.Load.A.im),.d (.cx .f32 x105.Load.B.re x105.Load.B.im),.d (.cx .f32 x105.Load.C.re x105.Load.C.im),.d (.int .i64 x105.qan)]] f13.ntmps 0) (fun v110=>qdm n (qay n f_ m88) v73 x105 v110 = some r) ?_ (fun hk131=>?_)
        · rintro v110 h
          replace h:qdm n (qay n f_ m88) v73 x105 v110 = some r:=h
          unfold qdm at h
          refine qaz rfl (fun hc111=>?_) (fun hc111=>?_)
          · have h:=qcq h hc111
            refine qaa ?_
            refine qa2 ?_
            refine qa0 hτ rfl rfl rfl ?_
            refine qa6 ?_
            refine qab (qa5 [] (l:=[(2,.d (.bool false))]) (objs:=[]) rfl (by simp) rfl (by trivial) ⟨rfl,trivial,trivial⟩) ?_
            refine qas ?_
            have hr:=Option.some.inj h
            subst hr
            exact qah (.inr rfl) [] (objs':=[]) (new:=[]) rfl (by simp) (by simp) rfl (by trivial) rfl rfl (by trivial) (fun _=>⟨by simp [V.flat,V.qbh,V.qb7,D.flat],qao⟩) ⟨rfl,rfl,rfl⟩
          · have h:=qcp h hc111
            refine qc7 (ι:=Bool) (fun v117=>St.of [(1,.ptr 0 0),(3,.d (.int .i64 v73)),(4,.ptr 1 0),(6,.d (.sl false (f_.qa9.map qaf))),(7,.d (.int .i64 (f_.qa9.length:Int))),(8,.d (.int .i64 v73)),(24,.d (.bool v117))] [.box [.d (.cx .f32 f_.Source.A.re f_.Source.A.im),.d (.cx .f32 f_.Source.B.re f_.Source.B.im),.d (.cx .f32 f_.Source.C.re f_.Source.C.im),.d (.sl false (f_.qa9.map qaf))],.box [.d (.int .i64 x105.qar),.d (.cx .f32 x105.Own.re x105.Own.im),.d (.cx .f32 x105.Shared.re x105.Shared.im),.d (.int .i64 x105.Kind),.d (.cx .f32 x105.Load.A.re x105.Load.A.im),.d (.cx .f32 x105.Load.B.re x105.Load.B.im),.d (.cx .f32 x105.Load.C.re x105.Load.C.im),.d (.int .i64 x105.qan)]] f13.ntmps 0) (fun v117=>qc9 n (qay n f_ m88) v73 x105 v117 = some r) ?_ (fun hk127=>?_)
            · rintro v117 h
              replace h:qc9 n (qay n f_ m88) v73 x105 v117 = some r:=h
              unfold qc9 at h
              refine qaz rfl (fun hc118=>?_) (fun hc118=>?_)
              · have h:=qcq h hc118
                refine qaa ?_
                refine qa2 ?_
                refine qa0 hτ rfl rfl rfl ?_
                refine qa6 ?_
                refine qab (qa5 [] (l:=[(2,.d (.bool false))]) (objs:=[]) rfl (by simp) rfl (by trivial) ⟨rfl,trivial,trivial⟩) ?_
                refine qas ?_
                have hr:=Option.some.inj h
                subst hr
                exact qah (.inr rfl) [] (objs':=[]) (new:=[]) rfl (by simp) (by simp) rfl (by trivial) rfl rfl (by trivial) (fun _=>⟨by simp [V.flat,V.qbh,V.qb7,D.flat],qao⟩) ⟨rfl,rfl,rfl⟩
              · have h:=qcp h hc118
                refine qc7 (ι:=Bool) (fun v122=>St.of [(1,.ptr 0 0),(6,.d (.sl false (f_.qa9.map qaf))),(7,.d (.int .i64 (f_.qa9.length:Int))),(8,.d (.int .i64 v73)),(42,.d (.bool v122))] [.box [.d (.cx .f32 f_.Source.A.re f_.Source.A.im),.d (.cx .f32 f_.Source.B.re f_.Source.B.im),.d (.cx .f32 f_.Source.C.re f_.Source.C.im),.d (.sl false (f_.qa9.map qaf))]] f13.ntmps 0) (fun v122=>qcw n (qay n f_ m88) v73 v122 = some r) ?_ (fun hk124=>?_)
                · rintro v122 h
                  replace h:qcw n (qay n f_ m88) v73 v122 = some r:=h
                  unfold qcw at h
                  refine qaz rfl (fun hc123=>?_) (fun hc123=>?_)
                  · have h:=qcq h hc123
                    refine qaa ?_
                    refine qa2 ?_
                    refine qa0 hτ rfl rfl rfl ?_
                    refine qa6 ?_
                    refine qab (qa5 [] (l:=[(2,.d (.bool false))]) (objs:=[]) rfl (by simp) rfl (by trivial) ⟨rfl,trivial,trivial⟩) ?_
                    refine qas ?_
                    have hr:=Option.some.inj h
                    subst hr
                    exact qah (.inr rfl) [] (objs':=[]) (new:=[]) rfl (by simp) (by simp) rfl (by trivial) rfl rfl (by trivial) (fun _=>⟨by simp [V.flat,V.qbh,V.qb7,D.flat],qao⟩) ⟨rfl,rfl,rfl⟩
                  · have h:=qcp h hc123
                    refine qb3 ?_
                    refine qab (qa5 [0] (l:=[(1,.ptr 0 0),(6,.d (.sl false (f_.qa9.map qaf))),(7,.d (.int .i64 (f_.qa9.length:Int))),(8,.d (.int .i64 v73))]) (objs:=[.box [.d (.cx .f32 f_.Source.A.re f_.Source.A.im),.d (.cx .f32 f_.Source.B.re f_.Source.B.im),.d (.cx .f32 f_.Source.C.re f_.Source.C.im),.d (.sl false (f_.qa9.map qaf))]]) rfl (by simp) rfl (by trivial) ⟨rfl,trivial,rfl,trivial,rfl,trivial,rfl,trivial,trivial⟩) ?_
                    exact hk104 () h
                · refine qaa ?_
                  refine qa2 ?_
                  refine qa0 hτ rfl rfl rfl ?_
                  refine qa0 hτ rfl rfl rfl ?_
                  refine qa0 hτ rfl rfl rfl ?_
                  refine qb4 45 rfl (fun hb125=>?_) (fun hb125=>?_)
                  · have h:=if_t h hb125
                    refine qa0 hτ rfl rfl rfl ?_
                    refine qa0 hτ rfl rfl rfl ?_
                    refine qa0 hτ rfl rfl rfl ?_
                    refine qa0 hτ rfl rfl rfl ?_
                    refine qac h fun x126 hx126 h=>?_
                    refine qag hτ false [] rfl rfl rfl (qai func58 rfl rfl) rfl rfl (by simp) ⟨trivial,trivial,trivial,trivial⟩ (by trivial) (qio n x105.qar (0:Int) (w64 (v73 - (1:Int))) hx126) ?_
                    rintro r0 o0 n0 ⟨rfl,rfl,rfl⟩ -
                    refine qa0 hτ rfl rfl rfl ?_
                    refine qa0 hτ rfl rfl rfl ?_
                    refine qa0 hτ rfl rfl rfl ?_
                    refine qa6 ?_
                    refine qab (qa5 [0] (l:=[(1,.ptr 0 0),(6,.d (.sl false (f_.qa9.map qaf))),(7,.d (.int .i64 (f_.qa9.length:Int))),(8,.d (.int .i64 v73)),(42,.d (.bool (!x126)))]) (objs:=[.box [.d (.cx .f32 f_.Source.A.re f_.Source.A.im),.d (.cx .f32 f_.Source.B.re f_.Source.B.im),.d (.cx .f32 f_.Source.C.re f_.Source.C.im),.d (.sl false (f_.qa9.map qaf))]]) rfl (by simp) rfl (by trivial) ⟨rfl,trivial,rfl,trivial,rfl,trivial,rfl,trivial,rfl,trivial,trivial⟩) ?_
                    exact hk124 (!x126) h
                  · have h:=if_f h hb125
                    refine qa4 rfl rfl ?_
                    refine qa4 rfl rfl ?_
                    refine qa4 rfl rfl ?_
                    refine qa4 rfl rfl ?_
                    refine qa4 rfl rfl ?_
                    refine qa4 rfl rfl ?_
                    refine qa0 hτ rfl rfl rfl ?_
                    refine qa0 hτ rfl rfl rfl ?_
                    refine qa6 ?_
                    refine qab (qa5 [0] (l:=[(1,.ptr 0 0),(6,.d (.sl false (f_.qa9.map qaf))),(7,.d (.int .i64 (f_.qa9.length:Int))),(8,.d (.int .i64 v73)),(42,.d (.bool false))]) (objs:=[.box [.d (.cx .f32 f_.Source.A.re f_.Source.A.im),.d (.cx .f32 f_.Source.B.re f_.Source.B.im),.d (.cx .f32 f_.Source.C.re f_.Source.C.im),.d (.sl false (f_.qa9.map qaf))]]) rfl (by simp) rfl (by trivial) ⟨rfl,trivial,rfl,trivial,rfl,trivial,rfl,trivial,rfl,trivial,trivial⟩) ?_
                    exact hk124 false h
            · refine qaa ?_
              refine qa2 ?_
              refine qa0 hτ rfl rfl rfl ?_
              refine qa0 hτ (v:=.d (.bool (decide (v73 = (0:Int))))) rfl rfl (qhu _ _) ?_
              refine qa0 hτ rfl rfl rfl ?_
              refine qb4 27 rfl (fun hb128=>?_) (fun hb128=>?_)
              · have h:=if_t h hb128
                refine qa0 hτ rfl rfl rfl ?_
                refine qa0 hτ rfl rfl rfl ?_
                refine qa0 hτ (v:=.d (.bool (!(decide (x105.qar = (-1:Int)))))) rfl rfl (qru _ _) ?_
                refine qa0 hτ rfl rfl rfl ?_
                refine qb4 31 rfl (fun hb129=>?_) (fun hb129=>?_)
                · have hb129:=qhn hb129
                  have h:=if_f h hb129
                  refine qa4 rfl rfl ?_
                  refine qa4 rfl rfl ?_
                  refine qa4 rfl rfl ?_
                  refine qa0 hτ rfl rfl rfl ?_
                  refine qa0 hτ rfl rfl rfl ?_
                  refine qap (qa5 [0,1] (l:=[(1,.ptr 0 0),(3,.d (.int .i64 v73)),(4,.ptr 1 0),(6,.d (.sl false (f_.qa9.map qaf))),(7,.d (.int .i64 (f_.qa9.length:Int))),(8,.d (.int .i64 v73)),(27,.d (.bool true)),(36,.d (.bool true))]) (objs:=[.box [.d (.cx .f32 f_.Source.A.re f_.Source.A.im),.d (.cx .f32 f_.Source.B.re f_.Source.B.im),.d (.cx .f32 f_.Source.C.re f_.Source.C.im),.d (.sl false (f_.qa9.map qaf))],.box [.d (.int .i64 x105.qar),.d (.cx .f32 x105.Own.re x105.Own.im),.d (.cx .f32 x105.Shared.re x105.Shared.im),.d (.int .i64 x105.Kind),.d (.cx .f32 x105.Load.A.re x105.Load.A.im),.d (.cx .f32 x105.Load.B.re x105.Load.B.im),.d (.cx .f32 x105.Load.C.re x105.Load.C.im),.d (.int .i64 x105.qan)]]) rfl (by simp) rfl (by trivial) ⟨rfl,trivial,rfl,trivial,rfl,trivial,rfl,trivial,rfl,trivial,rfl,trivial,rfl,trivial,rfl,trivial,trivial⟩) ?_
                  refine qa4 rfl rfl ?_
                  refine qa4 rfl rfl ?_
                  refine qa4 rfl rfl ?_
                  refine qa0 hτ rfl rfl rfl ?_
                  refine qa0 hτ rfl rfl rfl ?_
                  refine qa0 hτ rfl rfl rfl ?_
                  refine qa6 ?_
                  refine qab (qa5 [0,1] (l:=[(1,.ptr 0 0),(3,.d (.int .i64 v73)),(4,.ptr 1 0),(6,.d (.sl false (f_.qa9.map qaf))),(7,.d (.int .i64 (f_.qa9.length:Int))),(8,.d (.int .i64 v73)),(24,.d (.bool true))]) (objs:=[.box [.d (.cx .f32 f_.Source.A.re f_.Source.A.im),.d (.cx .f32 f_.Source.B.re f_.Source.B.im),.d (.cx .f32 f_.Source.C.re f_.Source.C.im),.d (.sl false (f_.qa9.map qaf))],.box [.d (.int .i64 x105.qar),.d (.cx .f32 x105.Own.re x105.Own.im),.d (.cx .f32 x105.Shared.re x105.Shared.im),.d (.int .i64 x105.Kind),.d (.cx .f32 x105.Load.A.re x105.Load.A.im),.d (.cx .f32 x105.Load.B.re x105.Load.B.im),.d (.cx .f32 x105.Load.C.re x105.Load.C.im),.d (.int .i64 x105.qan)]]) rfl (by simp) rfl (by trivial) ⟨rfl,trivial,rfl,trivial,rfl,trivial,rfl,trivial,rfl,trivial,rfl,trivial,rfl,trivial,trivial⟩) ?_
                  exact hk127 true h
                · have hb129:=qhm hb129
                  have h:=if_t h hb129
                  refine qa0 hτ rfl rfl rfl ?_
                  refine qa0 hτ rfl rfl rfl ?_
                  refine qa0 hτ rfl rfl rfl ?_
                  refine qa0 hτ rfl rfl rfl ?_
                  refine qa0 hτ rfl rfl rfl ?_
                  refine qap (qa5 [0,1] (l:=[(1,.ptr 0 0),(3,.d (.int .i64 v73)),(4,.ptr 1 0),(6,.d (.sl false (f_.qa9.map qaf))),(7,.d (.int .i64 (f_.qa9.length:Int))),(8,.d (.int .i64 v73)),(27,.d (.bool true)),(36,.d (.bool (!(fcmp .eql .f32 x105.Own.re (0:Nat) && fcmp .eql .f32 x105.Own.im (0:Nat)))))]) (objs:=[.box [.d (.cx .f32 f_.Source.A.re f_.Source.A.im),.d (.cx .f32 f_.Source.B.re f_.Source.B.im),.d (.cx .f32 f_.Source.C.re f_.Source.C.im),.d (.sl false (f_.qa9.map qaf))],.box [.d (.int .i64 x105.qar),.d (.cx .f32 x105.Own.re x105.Own.im),.d (.cx .f32 x105.Shared.re x105.Shared.im),.d (.int .i64 x105.Kind),.d (.cx .f32 x105.Load.A.re x105.Load.A.im),.d (.cx .f32 x105.Load.B.re x105.Load.B.im),.d (.cx .f32 x105.Load.C.re x105.Load.C.im),.d (.int .i64 x105.qan)]]) rfl (by simp) rfl (by trivial) ⟨rfl,trivial,rfl,trivial,rfl,trivial,rfl,trivial,rfl,trivial,rfl,trivial,rfl,trivial,rfl,trivial,trivial⟩) ?_
                  refine qb4 36 rfl (fun hb130=>?_) (fun hb130=>?_)
                  · have hb130:=qhn hb130
                    have h:=qcp h hb130
                    refine qa4 rfl rfl ?_
                    refine qa4 rfl rfl ?_
                    refine qa4 rfl rfl ?_
                    refine qa0 hτ rfl rfl rfl ?_
                    refine qa0 hτ rfl rfl rfl ?_
                    refine qa0 hτ rfl rfl rfl ?_
                    refine qa6 ?_
                    refine qab (qa5 [0,1] (l:=[(1,.ptr 0 0),(3,.d (.int .i64 v73)),(4,.ptr 1 0),(6,.d (.sl false (f_.qa9.map qaf))),(7,.d (.int .i64 (f_.qa9.length:Int))),(8,.d (.int .i64 v73)),(24,.d (.bool true))]) (objs:=[.box [.d (.cx .f32 f_.Source.A.re f_.Source.A.im),.d (.cx .f32 f_.Source.B.re f_.Source.B.im),.d (.cx .f32 f_.Source.C.re f_.Source.C.im),.d (.sl false (f_.qa9.map qaf))],.box [.d (.int .i64 x105.qar),.d (.cx .f32 x105.Own.re x105.Own.im),.d (.cx .f32 x105.Shared.re x105.Shared.im),.d (.int .i64 x105.Kind),.d (.cx .f32 x105.Load.A.re x105.Load.A.im),.d (.cx .f32 x105.Load.B.re x105.Load.B.im),.d (.cx .f32 x105.Load.C.re x105.Load.C.im),.d (.int .i64 x105.qan)]]) rfl (by simp) rfl (by trivial) ⟨rfl,trivial,rfl,trivial,rfl,trivial,rfl,trivial,rfl,trivial,rfl,trivial,rfl,trivial,trivial⟩) ?_
                    exact hk127 true h
                  · have hb130:=qhm hb130
                    have h:=qcq h hb130
                    refine qa0 hτ rfl rfl rfl ?_
                    refine qa0 hτ rfl rfl rfl ?_
                    refine qa0 hτ rfl rfl rfl ?_
                    refine qa0 hτ rfl rfl rfl ?_
                    refine qa0 hτ rfl rfl rfl ?_
                    refine qa0 hτ rfl rfl rfl ?_
                    refine qa6 ?_
                    refine qab (qa5 [0,1] (l:=[(1,.ptr 0 0),(3,.d (.int .i64 v73)),(4,.ptr 1 0),(6,.d (.sl false (f_.qa9.map qaf))),(7,.d (.int .i64 (f_.qa9.length:Int))),(8,.d (.int .i64 v73)),(24,.d (.bool (!(fcmp .eql .f32 x105.Shared.re (0:Nat) && fcmp .eql .f32 x105.Shared.im (0:Nat)))))]) (objs:=[.box [.d (.cx .f32 f_.Source.A.re f_.Source.A.im),.d (.cx .f32 f_.Source.B.re f_.Source.B.im),.d (.cx .f32 f_.Source.C.re f_.Source.C.im),.d (.sl false (f_.qa9.map qaf))],.box [.d (.int .i64 x105.qar),.d (.cx .f32 x105.Own.re x105.Own.im),.d (.cx .f32 x105.Shared.re x105.Shared.im),.d (.int .i64 x105.Kind),.d (.cx .f32 x105.Load.A.re x105.Load.A.im),.d (.cx .f32 x105.Load.B.re x105.Load.B.im),.d (.cx .f32 x105.Load.C.re x105.Load.C.im),.d (.int .i64 x105.qan)]]) rfl (by simp) rfl (by trivial) ⟨rfl,trivial,rfl,trivial,rfl,trivial,rfl,trivial,rfl,trivial,rfl,trivial,rfl,trivial,trivial⟩) ?_
                    exact hk127 (!(fcmp .eql .f32 x105.Shared.re (0:Nat) && fcmp .eql .f32 x105.Shared.im (0:Nat))) h
              · have h:=if_f h hb128
                refine qa4 rfl rfl ?_
                refine qa4 rfl rfl ?_
                refine qa4 rfl rfl ?_
                refine qa4 rfl rfl ?_
                refine qa4 rfl rfl ?_
                refine qa4 rfl rfl ?_
                refine qa4 rfl rfl ?_
                refine qa4 rfl rfl ?_
                refine qa4 rfl rfl ?_
                refine qap (qa5 [0,1] (l:=[(1,.ptr 0 0),(3,.d (.int .i64 v73)),(4,.ptr 1 0),(6,.d (.sl false (f_.qa9.map qaf))),(7,.d (.int .i64 (f_.qa9.length:Int))),(8,.d (.int .i64 v73)),(27,.d (.bool false)),(36,.und)]) (objs:=[.box [.d (.cx .f32 f_.Source.A.re f_.Source.A.im),.d (.cx .f32 f_.Source.B.re f_.Source.B.im),.d (.cx .f32 f_.Source.C.re f_.Source.C.im),.d (.sl false (f_.qa9.map qaf))],.box [.d (.int .i64 x105.qar),.d (.cx .f32 x105.Own.re x105.Own.im),.d (.cx .f32 x105.Shared.re x105.Shared.im),.d (.int .i64 x105.Kind),.d (.cx .f32 x105.Load.A.re x105.Load.A.im),.d (.cx .f32 x105.Load.B.re x105.Load.B.im),.d (.cx .f32 x105.Load.C.re x105.Load.C.im),.d (.int .i64 x105.qan)]]) rfl (by simp) rfl (by trivial) ⟨rfl,trivial,rfl,trivial,rfl,trivial,rfl,trivial,rfl,trivial,rfl,trivial,rfl,trivial,rfl,trivial,trivial⟩) ?_
                refine qa4 rfl rfl ?_
                refine qa4 rfl rfl ?_
                refine qa4 rfl rfl ?_
                refine qa4 rfl rfl ?_
                refine qa0 hτ rfl rfl rfl ?_
                refine qa0 hτ rfl rfl rfl ?_
                refine qa6 ?_
                refine qab (qa5 [0,1] (l:=[(1,.ptr 0 0),(3,.d (.int .i64 v73)),(4,.ptr 1 0),(6,.d (.sl false (f_.qa9.map qaf))),(7,.d (.int .i64 (f_.qa9.length:Int))),(8,.d (.int .i64 v73)),(24,.d (.bool false))]) (objs:=[.box [.d (.cx .f32 f_.Source.A.re f_.Source.A.im),.d (.cx .f32 f_.Source.B.re f_.Source.B.im),.d (.cx .f32 f_.Source.C.re f_.Source.C.im),.d (.sl false (f_.qa9.map qaf))],.box [.d (.int .i64 x105.qar),.d (.cx .f32 x105.Own.re x105.Own.im),.d (.cx .f32 x105.Shared.re x105.Shared.im),.d (.int .i64 x105.Kind),.d (.cx .f32 x105.Load.A.re x105.Load.A.im),.d (.cx .f32 x105.Load.B.re x105.Load.B.im),.d (.cx .f32 x105.Load.C.re x105.Load.C.im),.d (.int .i64 x105.qan)]]) rfl (by simp) rfl (by trivial) ⟨rfl,trivial,rfl,trivial,rfl,trivial,rfl,trivial,rfl,trivial,rfl,trivial,rfl,trivial,trivial⟩) ?_
                exact hk127 false h
        · refine qaa ?_
          refine qab (qa5 [0,1] (l:=[(1,.ptr 0 0),(3,.d (.int .i64 v73)),(4,.ptr 1 0),(6,.d (.sl false (f_.qa9.map qaf))),(7,.d (.int .i64 (f_.qa9.length:Int))),(8,.d (.int .i64 v73))]) (objs:=[.box [.d (.cx .f32 f_.Source.A.re f_.Source.A.im),.d (.cx .f32 f_.Source.B.re f_.Source.B.im),.d (.cx .f32 f_.Source.C.re f_.Source.C.im),.d (.sl false (f_.qa9.map qaf))],.box [.d (.int .i64 x105.qar),.d (.cx .f32 x105.Own.re x105.Own.im),.d (.cx .f32 x105.Shared.re x105.Shared.im),.d (.int .i64 x105.Kind),.d (.cx .f32 x105.Load.A.re x105.Load.A.im),.d (.cx .f32 x105.Load.B.re x105.Load.B.im),.d (.cx .f32 x105.Load.C.re x105.Load.C.im),.d (.int .i64 x105.qan)]]) rfl (by simp) rfl (by trivial) ⟨rfl,trivial,rfl,trivial,rfl,trivial,rfl,trivial,rfl,trivial,rfl,trivial,trivial⟩) ?_
          refine qa2 ?_
          refine qa0 hτ rfl rfl rfl ?_
          refine qa0 hτ rfl rfl rfl ?_
          refine qac h fun x132 hx132 h=>?_
          refine qag hτ false [] rfl rfl rfl (qai func67 rfl rfl) rfl rfl (by simp) ⟨trivial,trivial⟩ (by trivial) (impl_kindOk_ok n x105.Kind hx132) ?_
          rintro r0 o0 n0 ⟨rfl,rfl,rfl⟩ -
          refine qa0 hτ rfl rfl rfl ?_
          refine qa0 hτ rfl rfl rfl ?_
          refine qb4 18 rfl (fun hb133=>?_) (fun hb133=>?_)
          · have hb133:=qhn hb133
            have h:=qcp h hb133
            refine qa4 rfl rfl ?_
            refine qa4 rfl rfl ?_
            refine qa4 rfl rfl ?_
            refine qa4 rfl rfl ?_
            refine qa0 hτ rfl rfl rfl ?_
            refine qa0 hτ rfl rfl rfl ?_
            refine qa6 ?_
            refine qab (qa5 [0,1] (l:=[(1,.ptr 0 0),(3,.d (.int .i64 v73)),(4,.ptr 1 0),(6,.d (.sl false (f_.qa9.map qaf))),(7,.d (.int .i64 (f_.qa9.length:Int))),(8,.d (.int .i64 v73)),(13,.d (.bool true))]) (objs:=[.box [.d (.cx .f32 f_.Source.A.re f_.Source.A.im),.d (.cx .f32 f_.Source.B.re f_.Source.B.im),.d (.cx .f32 f_.Source.C.re f_.Source.C.im),.d (.sl false (f_.qa9.map qaf))],.box [.d (.int .i64 x105.qar),.d (.cx .f32 x105.Own.re x105.Own.im),.d (.cx .f32 x105.Shared.re x105.Shared.im),.d (.int .i64 x105.Kind),.d (.cx .f32 x105.Load.A.re x105.Load.A.im),.d (.cx .f32 x105.Load.B.re x105.Load.B.im),.d (.cx .f32 x105.Load.C.re x105.Load.C.im),.d (.int .i64 x105.qan)]]) rfl (by simp) rfl (by trivial) ⟨rfl,trivial,rfl,trivial,rfl,trivial,rfl,trivial,rfl,trivial,rfl,trivial,rfl,trivial,trivial⟩) ?_
            exact hk131 true h
          · have hb133:=qhm hb133
            have h:=qcq h hb133
            refine qa0 hτ rfl rfl rfl ?_
            refine qa0 hτ rfl rfl rfl ?_
            refine qac h fun x134 hx134 h=>?_
            refine qag hτ false [] rfl rfl rfl (qai func58 rfl rfl) rfl rfl (by simp) ⟨trivial,trivial,trivial,trivial⟩ (by trivial) (qio n x105.qan (0:Int) (1000000:Int) hx134) ?_
            rintro r0 o0 n0 ⟨rfl,rfl,rfl⟩ -
            refine qa0 hτ rfl rfl rfl ?_
            refine qa0 hτ rfl rfl rfl ?_
            refine qa0 hτ rfl rfl rfl ?_
            refine qa6 ?_
            refine qab (qa5 [0,1] (l:=[(1,.ptr 0 0),(3,.d (.int .i64 v73)),(4,.ptr 1 0),(6,.d (.sl false (f_.qa9.map qaf))),(7,.d (.int .i64 (f_.qa9.length:Int))),(8,.d (.int .i64 v73)),(13,.d (.bool (!x134)))]) (objs:=[.box [.d (.cx .f32 f_.Source.A.re f_.Source.A.im),.d (.cx .f32 f_.Source.B.re f_.Source.B.im),.d (.cx .f32 f_.Source.C.re f_.Source.C.im),.d (.sl false (f_.qa9.map qaf))],.box [.d (.int .i64 x105.qar),.d (.cx .f32 x105.Own.re x105.Own.im),.d (.cx .f32 x105.Shared.re x105.Shared.im),.d (.int .i64 x105.Kind),.d (.cx .f32 x105.Load.A.re x105.Load.A.im),.d (.cx .f32 x105.Load.B.re x105.Load.B.im),.d (.cx .f32 x105.Load.C.re x105.Load.C.im),.d (.int .i64 x105.qan)]]) rfl (by simp) rfl (by trivial) ⟨rfl,trivial,rfl,trivial,rfl,trivial,rfl,trivial,rfl,trivial,rfl,trivial,rfl,trivial,trivial⟩) ?_
            exact hk131 (!x134) h
    · have h:=if_f h hc90
      refine qfc ?_
      refine qab (qa5 [0] (l:=[(1,.ptr 0 0)]) (objs:=[.box [.d (.cx .f32 f_.Source.A.re f_.Source.A.im),.d (.cx .f32 f_.Source.B.re f_.Source.B.im),.d (.cx .f32 f_.Source.C.re f_.Source.C.im),.d (.sl false (f_.qa9.map qaf))]]) rfl (by simp) rfl (by trivial) ⟨rfl,trivial,trivial⟩) ?_
      exact hk59 () h
theorem qf0 (n:Nat) (f_:qam) {r:Bool} (h:qcs n f_ = some r):qb0 prog false 13 [.agg [.d (.cx .f32 f_.Source.A.re f_.Source.A.im),.d (.cx .f32 f_.Source.B.re f_.Source.B.im),.d (.cx .f32 f_.Source.C.re f_.Source.C.im),.d (.sl false (f_.qa9.map qaf))]] [] (fun v o new=>v = .d (.bool r)∧o = []∧new = []):=impl_ValidFeeder_ok_fr0 false n f_ h
def qka (n:Nat) (x_:Int) (y_:Int):Option (Int × Int) :=
  some ((IntKind.wrap .u64 ((IntKind.wrap .u64 ((IntKind.wrap .u64 ((x_.fdiv (2 ^ min (32:Int).toNat (IntKind.bits .u64))) * (y_.fdiv (2 ^ min (32:Int).toNat (IntKind.bits .u64))))) + ((IntKind.wrap .u64 ((IntKind.wrap .u64 ((x_.fdiv (2 ^ min (32:Int).toNat (IntKind.bits .u64))) * (qdi .and .u64 y_ (4294967295:Int)))) + ((IntKind.wrap .u64 ((qdi .and .u64 x_ (4294967295:Int)) * (qdi .and .u64 y_ (4294967295:Int)))).fdiv (2 ^ min (32:Int).toNat (IntKind.bits .u64))))).fdiv (2 ^ min (32:Int).toNat (IntKind.bits .u64))))) + ((IntKind.wrap .u64 ((qdi .and .u64 (IntKind.wrap .u64 ((IntKind.wrap .u64 ((x_.fdiv (2 ^ min (32:Int).toNat (IntKind.bits .u64))) * (qdi .and .u64 y_ (4294967295:Int)))) + ((IntKind.wrap .u64 ((qdi .and .u64 x_ (4294967295:Int)) * (qdi .and .u64 y_ (4294967295:Int)))).fdiv (2 ^ min (32:Int).toNat (IntKind.bits .u64))))) (4294967295:Int)) + (IntKind.wrap .u64 ((qdi .and .u64 x_ (4294967295:Int)) * (y_.fdiv (2 ^ min (32:Int).toNat (IntKind.bits .u64))))))).fdiv (2 ^ min (32:Int).toNat (IntKind.bits .u64))))),(IntKind.wrap .u64 (x_ * y_)))
theorem bits_Mul64_ok_fr0 (fr:Bool) (n:Nat) (x_:Int) (y_:Int) {r:Int × Int} (h:qka n x_ y_ = some r):qb0 prog fr 173 [.d (.int .u64 x_),.d (.int .u64 y_)] [] (fun v o new=>v = .tup [.d (.int .u64 r.1),.d (.int .u64 r.2)]∧o = []∧new = []):=by
  refine qal hτ func173 rfl (by simp) (by simp) ?_
  unfold qka at h
  refine qaa ?_
  refine qa2 ?_
  refine qa0 hτ rfl rfl rfl ?_
  refine qa0 hτ rfl rfl rfl ?_
  refine qa6 ?_
  refine qaa ?_
  refine qa2 ?_
  refine qa0 hτ rfl rfl rfl ?_
  refine qa0 hτ rfl rfl rfl ?_
  refine qa0 hτ rfl rfl rfl ?_
  refine qa6 ?_
  refine qaa ?_
  refine qa2 ?_
  refine qa0 hτ rfl rfl rfl ?_
  refine qbl hτ rfl rfl rfl (by decide) ?_
  refine qa0 hτ rfl rfl rfl ?_
  refine qa6 ?_
  refine qaa ?_
  refine qab (qa5 [] (l:=[(0,.d (.int .u64 x_)),(1,.d (.int .u64 y_)),(6,.d (.int .u64 (qdi .and .u64 x_ (4294967295:Int)))),(7,.d (.int .u64 (x_.fdiv (2 ^ min (32:Int).toNat (IntKind.bits .u64)))))]) (objs:=[]) rfl (by simp) rfl (by trivial) ⟨rfl,trivial,rfl,trivial,rfl,trivial,rfl,trivial,trivial⟩) ?_
  refine qa2 ?_
  refine qa0 hτ rfl rfl rfl ?_
  refine qa0 hτ rfl rfl rfl ?_
  refine qa0 hτ rfl rfl rfl ?_
  refine qa6 ?_
  refine qaa ?_
  refine qa2 ?_
  refine qa0 hτ rfl rfl rfl ?_
  refine qbl hτ rfl rfl rfl (by decide) ?_
  refine qa0 hτ rfl rfl rfl ?_
  refine qa6 ?_
  refine qaa ?_
  refine qab (qa5 [] (l:=[(0,.d (.int .u64 x_)),(1,.d (.int .u64 y_)),(6,.d (.int .u64 (qdi .and .u64 x_ (4294967295:Int)))),(7,.d (.int .u64 (x_.fdiv (2 ^ min (32:Int).toNat (IntKind.bits .u64))))),(8,.d (.int .u64 (qdi .and .u64 y_ (4294967295:Int)))),(9,.d (.int .u64 (y_.fdiv (2 ^ min (32:Int).toNat (IntKind.bits .u64)))))]) (objs:=[]) rfl (by simp) rfl (by trivial) ⟨rfl,trivial,rfl,trivial,rfl,trivial,rfl,trivial,rfl,trivial,rfl,trivial,trivial⟩) ?_
  refine qa2 ?_
  refine qa0 hτ rfl rfl rfl ?_
  refine qa0 hτ rfl rfl rfl ?_
  refine qa0 hτ rfl rfl rfl ?_
  refine qa0 hτ rfl rfl rfl ?_
  refine qa6 ?_
  refine qaa ?_
  refine qa2 ?_
  refine qa0 hτ rfl rfl rfl ?_
  refine qa0 hτ rfl rfl rfl ?_
  refine qa0 hτ rfl rfl rfl ?_
  refine qa0 hτ rfl rfl rfl ?_
  refine qbl hτ rfl rfl rfl (by decide) ?_
  refine qa0 hτ rfl rfl rfl ?_
  refine qa0 hτ rfl rfl rfl ?_
  refine qa6 ?_
  refine qaa ?_
  refine qab (qa5 [] (l:=[(0,.d (.int .u64 x_)),(1,.d (.int .u64 y_)),(6,.d (.int .u64 (qdi .and .u64 x_ (4294967295:Int)))),(7,.d (.int .u64 (x_.fdiv (2 ^ min (32:Int).toNat (IntKind.bits .u64))))),(9,.d (.int .u64 (y_.fdiv (2 ^ min (32:Int).toNat (IntKind.bits .u64))))),(11,.d (.int .u64 (IntKind.wrap .u64 ((IntKind.wrap .u64 ((x_.fdiv (2 ^ min (32:Int).toNat (IntKind.bits .u64))) * (qdi .and .u64 y_ (4294967295:Int)))) + ((IntKind.wrap .u64 ((qdi .and .u64 x_ (4294967295:Int)) * (qdi .and .u64 y_ (4294967295:Int)))).fdiv (2 ^ min (32:Int).toNat (IntKind.bits .u64)))))))]) (objs:=[]) rfl (by simp) rfl (by trivial) ⟨rfl,trivial,rfl,trivial,rfl,trivial,rfl,trivial,rfl,trivial,rfl,trivial,trivial⟩) ?_
  refine qa2 ?_
  refine qa0 hτ rfl rfl rfl ?_
  refine qa0 hτ rfl rfl rfl ?_
  refine qa0 hτ rfl rfl rfl ?_
  refine qa6 ?_
  refine qaa ?_
  refine qa2 ?_
  refine qa0 hτ rfl rfl rfl ?_
  refine qbl hτ rfl rfl rfl (by decide) ?_
  refine qa0 hτ rfl rfl rfl ?_
  refine qa6 ?_
  refine qaa ?_
  refine qab (qa5 [] (l:=[(0,.d (.int .u64 x_)),(1,.d (.int .u64 y_)),(6,.d (.int .u64 (qdi .and .u64 x_ (4294967295:Int)))),(7,.d (.int .u64 (x_.fdiv (2 ^ min (32:Int).toNat (IntKind.bits .u64))))),(9,.d (.int .u64 (y_.fdiv (2 ^ min (32:Int).toNat (IntKind.bits .u64))))),(12,.d (.int .u64 (qdi .and .u64 (IntKind.wrap .u64 ((IntKind.wrap .u64 ((x_.fdiv (2 ^ min (32:Int).toNat (IntKind.bits .u64))) * (qdi .and .u64 y_ (4294967295:Int)))) + ((IntKind.wrap .u64 ((qdi .and .u64 x_ (4294967295:Int)) * (qdi .and .u64 y_ (4294967295:Int)))).fdiv (2 ^ min (32:Int).toNat (IntKind.bits .u64))))) (4294967295:Int)))),(13,.d (.int .u64 ((IntKind.wrap .u64 ((IntKind.wrap .u64 ((x_.fdiv (2 ^ min (32:Int).toNat (IntKind.bits .u64))) * (qdi .and .u64 y_ (4294967295:Int)))) + ((IntKind.wrap .u64 ((qdi .and .u64 x_ (4294967295:Int)) * (qdi .and .u64 y_ (4294967295:Int)))).fdiv (2 ^ min (32:Int).toNat (IntKind.bits .u64))))).fdiv (2 ^ min (32:Int).toNat (IntKind.bits .u64)))))]) (objs:=[]) rfl (by simp) rfl (by trivial) ⟨rfl,trivial,rfl,trivial,rfl,trivial,rfl,trivial,rfl,trivial,rfl,trivial,rfl,trivial,trivial⟩) ?_
  refine qa2 ?_
  refine qa0 hτ rfl rfl rfl ?_
  refine qa0 hτ rfl rfl rfl ?_
  refine qa0 hτ rfl rfl rfl ?_
  refine qa0 hτ rfl rfl rfl ?_
  refine qa0 hτ rfl rfl rfl ?_
  refine qa0 hτ rfl rfl rfl ?_
  refine qa6 ?_
  refine qaa ?_
  refine qab (qa5 [] (l:=[(0,.d (.int .u64 x_)),(1,.d (.int .u64 y_)),(7,.d (.int .u64 (x_.fdiv (2 ^ min (32:Int).toNat (IntKind.bits .u64))))),(9,.d (.int .u64 (y_.fdiv (2 ^ min (32:Int).toNat (IntKind.bits .u64))))),(12,.d (.int .u64 (IntKind.wrap .u64 ((qdi .and .u64 (IntKind.wrap .u64 ((IntKind.wrap .u64 ((x_.fdiv (2 ^ min (32:Int).toNat (IntKind.bits .u64))) * (qdi .and .u64 y_ (4294967295:Int)))) + ((IntKind.wrap .u64 ((qdi .and .u64 x_ (4294967295:Int)) * (qdi .and .u64 y_ (4294967295:Int)))).fdiv (2 ^ min (32:Int).toNat (IntKind.bits .u64))))) (4294967295:Int)) + (IntKind.wrap .u64 ((qdi .and .u64 x_ (4294967295:Int)) * (y_.fdiv (2 ^ min (32:Int).toNat (IntKind.bits .u64))))))))),(13,.d (.int .u64 ((IntKind.wrap .u64 ((IntKind.wrap .u64 ((x_.fdiv (2 ^ min (32:Int).toNat (IntKind.bits .u64))) * (qdi .and .u64 y_ (4294967295:Int)))) + ((IntKind.wrap .u64 ((qdi .and .u64 x_ (4294967295:Int)) * (qdi .and .u64 y_ (4294967295:Int)))).fdiv (2 ^ min (32:Int).toNat (IntKind.bits .u64))))).fdiv (2 ^ min (32:Int).toNat (IntKind.bits .u64)))))]) (objs:=[]) rfl (by simp) rfl (by trivial) ⟨rfl,trivial,rfl,trivial,rfl,trivial,rfl,trivial,rfl,trivial,rfl,trivial,trivial⟩) ?_
  refine qa2 ?_
  refine qa0 hτ rfl rfl rfl ?_
  refine qa0 hτ rfl rfl rfl ?_
  refine qa0 hτ rfl rfl rfl ?_
  refine qa0 hτ rfl rfl rfl ?_
  refine qa0 hτ rfl rfl rfl ?_
  refine qa0 hτ rfl rfl rfl ?_
  refine qbl hτ rfl rfl rfl (by decide) ?_
  refine qa0 hτ rfl rfl rfl ?_
  refine qa0 hτ rfl rfl rfl ?_
  refine qa6 ?_
  refine qaa ?_
  refine qab (qa5 [] (l:=[(0,.d (.int .u64 x_)),(1,.d (.int .u64 y_)),(4,.d (.int .u64 (IntKind.wrap .u64 ((IntKind.wrap .u64 ((IntKind.wrap .u64 ((x_.fdiv (2 ^ min (32:Int).toNat (IntKind.bits .u64))) * (y_.fdiv (2 ^ min (32:Int).toNat (IntKind.bits .u64))))) + ((IntKind.wrap .u64 ((IntKind.wrap .u64 ((x_.fdiv (2 ^ min (32:Int).toNat (IntKind.bits .u64))) * (qdi .and .u64 y_ (4294967295:Int)))) + ((IntKind.wrap .u64 ((qdi .and .u64 x_ (4294967295:Int)) * (qdi .and .u64 y_ (4294967295:Int)))).fdiv (2 ^ min (32:Int).toNat (IntKind.bits .u64))))).fdiv (2 ^ min (32:Int).toNat (IntKind.bits .u64))))) + ((IntKind.wrap .u64 ((qdi .and .u64 (IntKind.wrap .u64 ((IntKind.wrap .u64 ((x_.fdiv (2 ^ min (32:Int).toNat (IntKind.bits .u64))) * (qdi .and .u64 y_ (4294967295:Int)))) + ((IntKind.wrap .u64 ((qdi .and .u64 x_ (4294967295:Int)) * (qdi .and .u64 y_ (4294967295:Int)))).fdiv (2 ^ min (32:Int).toNat (IntKind.bits .u64))))) (4294967295:Int)) + (IntKind.wrap .u64 ((qdi .and .u64 x_ (4294967295:Int)) * (y_.fdiv (2 ^ min (32:Int).toNat (IntKind.bits .u64))))))).fdiv (2 ^ min (32:Int).toNat (IntKind.bits .u64)))))))]) (objs:=[]) rfl (by simp) rfl (by trivial) ⟨rfl,trivial,rfl,trivial,rfl,trivial,trivial⟩) ?_
  refine qa2 ?_
  refine qa0 hτ rfl rfl rfl ?_
  refine qa0 hτ rfl rfl rfl ?_
  refine qa0 hτ rfl rfl rfl ?_
  refine qa0 hτ rfl rfl rfl ?_
  refine qa6 ?_
  refine qab (qa5 [] (l:=[(4,.d (.int .u64 (IntKind.wrap .u64 ((IntKind.wrap .u64 ((IntKind.wrap .u64 ((x_.fdiv (2 ^ min (32:Int).toNat (IntKind.bits .u64))) * (y_.fdiv (2 ^ min (32:Int).toNat (IntKind.bits .u64))))) + ((IntKind.wrap .u64 ((IntKind.wrap .u64 ((x_.fdiv (2 ^ min (32:Int).toNat (IntKind.bits .u64))) * (qdi .and .u64 y_ (4294967295:Int)))) + ((IntKind.wrap .u64 ((qdi .and .u64 x_ (4294967295:Int)) * (qdi .and .u64 y_ (4294967295:Int)))).fdiv (2 ^ min (32:Int).toNat (IntKind.bits .u64))))).fdiv (2 ^ min (32:Int).toNat (IntKind.bits .u64))))) + ((IntKind.wrap .u64 ((qdi .and .u64 (IntKind.wrap .u64 ((IntKind.wrap .u64 ((x_.fdiv (2 ^ min (32:Int).toNat (IntKind.bits .u64))) * (qdi .and .u64 y_ (4294967295:Int)))) + ((IntKind.wrap .u64 ((qdi .and .u64 x_ (4294967295:Int)) * (qdi .and .u64 y_ (4294967295:Int)))).fdiv (2 ^ min (32:Int).toNat (IntKind.bits .u64))))) (4294967295:Int)) + (IntKind.wrap .u64 ((qdi .and .u64 x_ (4294967295:Int)) * (y_.fdiv (2 ^ min (32:Int).toNat (IntKind.bits .u64))))))).fdiv (2 ^ min (32:Int).toNat (IntKind.bits .u64))))))),(5,.d (.int .u64 (IntKind.wrap .u64 (x_ * y_))))]) (objs:=[]) rfl (by simp) rfl (by trivial) ⟨rfl,trivial,rfl,trivial,trivial⟩) ?_
  refine qas ?_
  have hr:=Option.some.inj h
  subst hr
  exact qah (.inr rfl) [] (objs':=[]) (new:=[]) rfl (by simp) (by simp) rfl (by trivial) rfl rfl (by trivial) (fun _=>⟨by simp [V.flat,V.qbh,V.qb7,D.flat],qao⟩) ⟨rfl,rfl,rfl⟩
theorem bits_Mul64_ok (n:Nat) (x_:Int) (y_:Int) {r:Int × Int} (h:qka n x_ y_ = some r):qb0 prog false 173 [.d (.int .u64 x_),.d (.int .u64 y_)] [] (fun v o new=>v = .tup [.d (.int .u64 r.1),.d (.int .u64 r.2)]∧o = []∧new = []):=bits_Mul64_ok_fr0 false n x_ y_ h
def qls (n:Nat) (x_:Int) (y_:Int):Option (Int × Int) :=
  (qka n x_ y_).bind fun x2 =>
  some (x2.1,x2.2)
theorem bits_Mul_ok_fr0 (fr:Bool) (n:Nat) (x_:Int) (y_:Int) {r:Int × Int} (h:qls n x_ y_ = some r):qb0 prog fr 150 [.d (.int .u64 x_),.d (.int .u64 y_)] [] (fun v o new=>v = .tup [.d (.int .u64 r.1),.d (.int .u64 r.2)]∧o = []∧new = []):=by
  refine qal hτ func150 rfl (by simp) (by simp) ?_
  unfold qls at h
  refine qaa ?_
  refine qa2 ?_
  refine qa0 hτ rfl rfl rfl ?_
  refine qa0 hτ rfl rfl rfl ?_
  refine qa6 ?_
  refine qaa ?_
  refine qaz (b:=false) rfl (fun hd=>nomatch hd) (fun _=>?_)
  refine qb3 ?_
  refine qaa ?_
  refine qa2 ?_
  refine qa0 hτ rfl rfl rfl ?_
  refine qa0 hτ rfl rfl rfl ?_
  refine qac h fun x2 hx2 h=>?_
  refine qag hτ false [] rfl rfl rfl (qai func173 rfl rfl) rfl rfl (by simp) ⟨trivial,trivial,trivial⟩ (by trivial) (bits_Mul64_ok n x_ y_ hx2) ?_
  rintro r0 o0 n0 ⟨rfl,rfl,rfl⟩ -
  refine qa0 hτ rfl rfl rfl ?_
  refine qa0 hτ rfl rfl rfl ?_
  refine qa0 hτ rfl rfl rfl ?_
  refine qa0 hτ rfl rfl rfl ?_
  refine qa0 hτ rfl rfl rfl ?_
  refine qa6 ?_
  refine qaa ?_
  refine qab (qa5 [] (l:=[(8,.d (.int .u64 x2.1)),(9,.d (.int .u64 x2.2))]) (objs:=[]) rfl (by simp) rfl (by trivial) ⟨rfl,trivial,rfl,trivial,trivial⟩) ?_
  refine qa2 ?_
  refine qa0 hτ rfl rfl rfl ?_
  refine qa0 hτ rfl rfl rfl ?_
  refine qa0 hτ rfl rfl rfl ?_
  refine qa0 hτ rfl rfl rfl ?_
  refine qa6 ?_
  refine qab (qa5 [] (l:=[(4,.d (.int .u64 x2.1)),(5,.d (.int .u64 x2.2))]) (objs:=[]) rfl (by simp) rfl (by trivial) ⟨rfl,trivial,rfl,trivial,trivial⟩) ?_
  refine qas ?_
  have hr:=Option.some.inj h
  subst hr
  exact qah (.inr rfl) [] (objs':=[]) (new:=[]) rfl (by simp) (by simp) rfl (by trivial) rfl rfl (by trivial) (fun _=>⟨by simp [V.flat,V.qbh,V.qb7,D.flat],qao⟩) ⟨rfl,rfl,rfl⟩
theorem bits_Mul_ok (n:Nat) (x_:Int) (y_:Int) {r:Int × Int} (h:qls n x_ y_ = some r):qb0 prog false 150 [.d (.int .u64 x_),.d (.int .u64 y_)] [] (fun v o new=>v = .tup [.d (.int .u64 r.1),.d (.int .u64 r.2)]∧o = []∧new = []):=bits_Mul_ok_fr0 false n x_ y_ h
def qel (n:Nat):Nat→List qa7→Int→Option (List qa7)
  | 0,_,_=>none
  | m32 + 1,v25,v26 =>
    if v26 < (v25.length:Int) then
      grd (0 ≤ v26∧v26 ≤ (v25.length:Int)∧(v25.length:Int) ≤ (v25.length:Int)∧0 < v25.length) <|
      grd (0 ≤ (0:Int)∧(0:Int) ≤ v26∧v26 ≤ (v25.length:Int)∧0 < v25.length) <|
      grd ((0 + v26.toNat) + ((v25.length:Int).toNat - v26.toNat) ≤ v25.length∧0 < v25.length) <|
      (qel n m32) (setL v25 (0 + v26.toNat) ((((v25).drop (0 + (0:Int).toNat)).take (v26.toNat - (0:Int).toNat)).take (min (((v25).drop (0 + (0:Int).toNat)).take (v26.toNat - (0:Int).toNat)).length ((v25.length:Int).toNat - v26.toNat)))) (w64 (v26 + ((min (((v25).drop (0 + (0:Int).toNat)).take (v26.toNat - (0:Int).toNat)).length ((v25.length:Int).toNat - v26.toNat):Nat):Int)))
    else
      some v25
def qh1 (n:Nat) (x_:List qa7) (x17:Int × Int):Option (List qa7) :=
  grd (0 ≤ (w64 (x17.2))∧room (w64 (x17.2)).toNat 24) <|
  grd (0 + (List.replicate (w64 (x17.2)).toNat (qa7.mk (Cx.mk (0:Nat) (0:Nat)) (Cx.mk (0:Nat) (0:Nat)) (Cx.mk (0:Nat) (0:Nat)))).length ≤ ((List.replicate (w64 (x17.2)).toNat (qa7.mk (Cx.mk (0:Nat) (0:Nat)) (Cx.mk (0:Nat) (0:Nat)) (Cx.mk (0:Nat) (0:Nat)))).length)∧0 < ((List.replicate (w64 (x17.2)).toNat (qa7.mk (Cx.mk (0:Nat) (0:Nat)) (Cx.mk (0:Nat) (0:Nat)) (Cx.mk (0:Nat) (0:Nat)))).length)) <|
  qel n n (setL (List.replicate (w64 (x17.2)).toNat (qa7.mk (Cx.mk (0:Nat) (0:Nat)) (Cx.mk (0:Nat) (0:Nat)) (Cx.mk (0:Nat) (0:Nat)))) 0 (x_.take (min x_.length ((List.replicate (w64 (x17.2)).toNat (qa7.mk (Cx.mk (0:Nat) (0:Nat)) (Cx.mk (0:Nat) (0:Nat)) (Cx.mk (0:Nat) (0:Nat)))).length)))) ((min x_.length ((List.replicate (w64 (x17.2)).toNat (qa7.mk (Cx.mk (0:Nat) (0:Nat)) (Cx.mk (0:Nat) (0:Nat)) (Cx.mk (0:Nat) (0:Nat)))).length):Nat):Int)
def qft (n:Nat) (x_:List qa7) (x17:Int × Int) (v41:Bool):Option (List qa7) :=
  if v41 = true then
    none
  else
    qh1 n x_ x17
def qci (n:Nat) (x_:List qa7) (count_:Int):Option (List qa7) :=
  if count_ < (0:Int) then
    none
  else
    (qls n (IntKind.wrap .u64 ((x_.length:Int))) (IntKind.wrap .u64 (count_))).bind fun x17 =>
    if x17.1 > (0:Int) then
      qft n x_ x17 true
    else
      qft n x_ x17 (decide (x17.2 > (9223372036854775807:Int)))
theorem slices_Repeat_ok_fr0 (fr:Bool) (n:Nat) (x_:List qa7) (count_:Int) {r:List qa7} (h:qci n x_ count_ = some r):qb0 prog fr 114 [.d (.sl false (x_.map qa1)),.d (.int .i64 count_)] [] (fun v o new=>v = .row 0 r.length 0 r.length∧o = []∧new = [.row 3 (r.map qa1)]):=by
  refine qal hτ func114 rfl (by simp) (by simp) ?_
  unfold qci at h
  refine qaa ?_
  refine qa2 ?_
  refine qa0 hτ rfl rfl rfl ?_
  refine qa6 ?_
  refine qaa ?_
  refine qaa ?_
  refine qa2 ?_
  refine qa0 hτ rfl rfl rfl ?_
  refine qa0 hτ rfl rfl rfl ?_
  refine qa6 ?_
  refine qaz rfl (fun hc16=>?_) (fun hc16=>?_)
  · have h:=if_t h hc16
    refine qa2 ?_
    exact nomatch h
  · have h:=if_f h hc16
    refine qb3 ?_
    refine qaa ?_
    refine qa2 ?_
    refine qa0 hτ rfl rfl rfl ?_
    refine qa0 hτ (v:=.d (.int .i64 (x_.length:Int))) rfl rfl (Eq.trans rfl (qfx (f:=qa1) x_)) ?_
    refine qa0 hτ rfl rfl rfl ?_
    refine qa0 hτ rfl rfl rfl ?_
    refine qa0 hτ rfl rfl rfl ?_
    refine qac h fun x17 hx17 h=>?_
    refine qag hτ false [] rfl rfl rfl (qai func150 rfl rfl) rfl rfl (by simp) ⟨trivial,trivial,trivial⟩ (by trivial) (bits_Mul_ok n (IntKind.wrap .u64 ((x_.length:Int))) (IntKind.wrap .u64 (count_)) hx17) ?_
    rintro r0 o0 n0 ⟨rfl,rfl,rfl⟩ -
    refine qa0 hτ rfl rfl rfl ?_
    refine qa0 hτ rfl rfl rfl ?_
    refine qa0 hτ rfl rfl rfl ?_
    refine qap (qa5 [] (l:=[(0,.d (.sl false (x_.map qa1))),(19,.d (.int .u64 x17.1)),(20,.d (.int .u64 x17.2))]) (objs:=[]) rfl (by simp) rfl (by trivial) ⟨rfl,trivial,rfl,trivial,rfl,trivial,trivial⟩) ?_
    refine qa0 hτ rfl rfl rfl ?_
    refine qa0 hτ rfl rfl rfl ?_
    refine qa6 ?_
    refine qc7 (ι:=Unit) (fun _=>St.of [(0,.d (.sl false (x_.map qa1))),(6,.d (.int .u64 x17.2))] [] f114.ntmps 0) (fun _=>qh1 n x_ x17 = some r) ?_ (fun hk38=>?_)
    · rintro ⟨⟩ h
      replace h:qh1 n x_ x17 = some r:=h
      unfold qh1 at h
      refine qaa ?_
      refine qa2 ?_
      refine qa0 hτ rfl rfl rfl ?_
      refine qa0 hτ rfl rfl rfl ?_
      refine qd6 h fun hg20 h=>?_
      refine qjn hτ rfl rfl (Eq.trans rfl (qn6 (f:=qa1) (x:=(qa7.mk (Cx.mk (0:Nat) (0:Nat)) (Cx.mk (0:Nat) (0:Nat)) (Cx.mk (0:Nat) (0:Nat)))) rfl)) (qki hg20 (by decide)) ?_
      refine qa0 hτ rfl rfl rfl ?_
      refine qa6 ?_
      refine qaa ?_
      refine qa2 ?_
      refine qa0 hτ rfl rfl rfl ?_
      refine qa0 hτ rfl rfl rfl ?_
      refine qd6 h fun hg21 h=>?_
      refine qjn hτ rfl rfl (Eq.trans rfl (qun (f:=qa1) (List.replicate (w64 (x17.2)).toNat (qa7.mk (Cx.mk (0:Nat) (0:Nat)) (Cx.mk (0:Nat) (0:Nat)) (Cx.mk (0:Nat) (0:Nat)))) x_ 0 ((List.replicate (w64 (x17.2)).toNat (qa7.mk (Cx.mk (0:Nat) (0:Nat)) (Cx.mk (0:Nat) (0:Nat)) (Cx.mk (0:Nat) (0:Nat)))).length) rfl)) ⟨trivial,(qb5 _),hg21.1,hg21.2,(qkb (f:=qa1) (fun _=>rfl) _)⟩ ?_
      refine qa0 hτ rfl rfl rfl ?_
      refine qa6 ?_
      refine qaa ?_
      refine qba ?_
      refine qfd (ι:=Nat × List qa7 × Int) (fun (m32,v25,v26)=>St.of [(7,.row 0 v25.length 0 v25.length),(8,.d (.int .i64 v26))] [.row 3 (v25.map qa1)] f114.ntmps 0) (fun (m32,v25,v26)=>qel n m32 v25 v26 = some r) (fun x=>x.1) (n,(setL (List.replicate (w64 (x17.2)).toNat (qa7.mk (Cx.mk (0:Nat) (0:Nat)) (Cx.mk (0:Nat) (0:Nat)) (Cx.mk (0:Nat) (0:Nat)))) 0 (x_.take (min x_.length ((List.replicate (w64 (x17.2)).toNat (qa7.mk (Cx.mk (0:Nat) (0:Nat)) (Cx.mk (0:Nat) (0:Nat)) (Cx.mk (0:Nat) (0:Nat)))).length)))),((min x_.length ((List.replicate (w64 (x17.2)).toNat (qa7.mk (Cx.mk (0:Nat) (0:Nat)) (Cx.mk (0:Nat) (0:Nat)) (Cx.mk (0:Nat) (0:Nat)))).length):Nat):Int)) h (qa5 [0] (l:=[(7,.row 0 ((setL (List.replicate (w64 (x17.2)).toNat (qa7.mk (Cx.mk (0:Nat) (0:Nat)) (Cx.mk (0:Nat) (0:Nat)) (Cx.mk (0:Nat) (0:Nat)))) 0 (x_.take (min x_.length ((List.replicate (w64 (x17.2)).toNat (qa7.mk (Cx.mk (0:Nat) (0:Nat)) (Cx.mk (0:Nat) (0:Nat)) (Cx.mk (0:Nat) (0:Nat)))).length)))).length) 0 ((setL (List.replicate (w64 (x17.2)).toNat (qa7.mk (Cx.mk (0:Nat) (0:Nat)) (Cx.mk (0:Nat) (0:Nat)) (Cx.mk (0:Nat) (0:Nat)))) 0 (x_.take (min x_.length ((List.replicate (w64 (x17.2)).toNat (qa7.mk (Cx.mk (0:Nat) (0:Nat)) (Cx.mk (0:Nat) (0:Nat)) (Cx.mk (0:Nat) (0:Nat)))).length)))).length)),(8,.d (.int .i64 ((min x_.length ((List.replicate (w64 (x17.2)).toNat (qa7.mk (Cx.mk (0:Nat) (0:Nat)) (Cx.mk (0:Nat) (0:Nat)) (Cx.mk (0:Nat) (0:Nat)))).length):Nat):Int)))]) (objs:=[.row 3 ((setL (List.replicate (w64 (x17.2)).toNat (qa7.mk (Cx.mk (0:Nat) (0:Nat)) (Cx.mk (0:Nat) (0:Nat)) (Cx.mk (0:Nat) (0:Nat)))) 0 (x_.take (min x_.length ((List.replicate (w64 (x17.2)).toNat (qa7.mk (Cx.mk (0:Nat) (0:Nat)) (Cx.mk (0:Nat) (0:Nat)) (Cx.mk (0:Nat) (0:Nat)))).length)))).map qa1)]) rfl (by simp) rfl (by trivial) ⟨(qlp rfl (by simp [ql1])),trivial,rfl,trivial,trivial⟩) ?_
      rintro ⟨m32,v25,v26⟩ h
      replace h:qel n m32 v25 v26 = some r:=h
      rcases m32 with _ | m32
      · rw [qel] at h;cases h
      rw [qel] at h
      refine qaa ?_
      refine qaa ?_
      refine qa2 ?_
      refine qa0 hτ rfl rfl rfl ?_
      refine qa0 hτ rfl rfl rfl ?_
      refine qbl hτ rfl rfl rfl (qb5 _) ?_
      refine qa0 hτ rfl rfl rfl ?_
      refine qa6 ?_
      refine qaz rfl (fun hc34=>?_) (fun hc34=>?_)
      · have h:=if_t h hc34
        refine qb3 ?_
        refine qba ?_
        refine qcv ?_
        refine qad hτ [] 0 rfl rfl rfl rfl rfl ?_
        refine qad hτ [] 1 rfl rfl rfl rfl rfl ?_
        refine qad hτ [] 2 rfl rfl rfl rfl rfl ?_
        refine qd6 h fun hg35 h=>?_
        refine qfa hτ (v:=.row 0 v25.length (0 + v26.toNat) ((v25.length:Int).toNat - v26.toNat)) [0] 3 rfl rfl rfl rfl rfl ⟨(qb5 _),hg35.1,hg35.2.1,hg35.2.2.1,by omega,hg35.2.2.2⟩ ?_
        refine qad hτ [] 4 rfl rfl rfl rfl rfl ?_
        refine qad hτ [] 5 rfl rfl rfl rfl rfl ?_
        refine qd6 h fun hg36 h=>?_
        refine qfa hτ (v:=.row 0 v25.length (0 + (0:Int).toNat) (v26.toNat - (0:Int).toNat)) [0] 6 rfl rfl rfl rfl rfl ⟨(qb5 _),hg36.1,hg36.2.1,hg36.2.2.1,by omega,hg36.2.2.2⟩ ?_
        refine qd6 h fun hg37 h=>?_
        refine qg3 hτ [] 7 rfl rfl rfl (Eq.trans rfl (qun (f:=qa1) v25 (((v25).drop (0 + (0:Int).toNat)).take (v26.toNat - (0:Int).toNat)) (0 + v26.toNat) ((v25.length:Int).toNat - v26.toNat) (quj _ _ _))) ⟨⟨(qb5 _),by omega⟩,(qb5 _),hg37.1,hg37.2,(by rw [quj];exact qkb (f:=qa1) (fun _=>rfl) _)⟩ trivial ?_
        refine qad hτ [] 8 rfl rfl rfl rfl rfl ?_
        refine qad hτ [] 9 rfl rfl rfl rfl rfl ?_
        refine qd4 mixed (by kernel_rfl) ?_
        exact ⟨(m32,(setL v25 (0 + v26.toNat) ((((v25).drop (0 + (0:Int).toNat)).take (v26.toNat - (0:Int).toNat)).take (min (((v25).drop (0 + (0:Int).toNat)).take (v26.toNat - (0:Int).toNat)).length ((v25.length:Int).toNat - v26.toNat)))),(w64 (v26 + ((min (((v25).drop (0 + (0:Int).toNat)).take (v26.toNat - (0:Int).toNat)).length ((v25.length:Int).toNat - v26.toNat):Nat):Int)))),h,Nat.lt_succ_self m32,(qa5 [0] (l:=[(7,.row 0 ((setL v25 (0 + v26.toNat) ((((v25).drop (0 + (0:Int).toNat)).take (v26.toNat - (0:Int).toNat)).take (min (((v25).drop (0 + (0:Int).toNat)).take (v26.toNat - (0:Int).toNat)).length ((v25.length:Int).toNat - v26.toNat)))).length) 0 ((setL v25 (0 + v26.toNat) ((((v25).drop (0 + (0:Int).toNat)).take (v26.toNat - (0:Int).toNat)).take (min (((v25).drop (0 + (0:Int).toNat)).take (v26.toNat - (0:Int).toNat)).length ((v25.length:Int).toNat - v26.toNat)))).length)),(8,.d (.int .i64 (w64 (v26 + ((min (((v25).drop (0 + (0:Int).toNat)).take (v26.toNat - (0:Int).toNat)).length ((v25.length:Int).toNat - v26.toNat):Nat):Int)))))]) (objs:=[.row 3 ((setL v25 (0 + v26.toNat) ((((v25).drop (0 + (0:Int).toNat)).take (v26.toNat - (0:Int).toNat)).take (min (((v25).drop (0 + (0:Int).toNat)).take (v26.toNat - (0:Int).toNat)).length ((v25.length:Int).toNat - v26.toNat)))).map qa1)]) rfl (by simp) rfl (by trivial) ⟨(qlp rfl (by simp [ql1])),trivial,rfl,trivial,trivial⟩)⟩
      · have h:=if_f h hc34
        refine qfc ?_
        refine qaa ?_
        refine qa2 ?_
        refine qa0 hτ rfl rfl rfl ?_
        refine qa0 hτ rfl rfl rfl ?_
        refine qa6 ?_
        refine qab (qa5 [0] (l:=[(4,.row 0 v25.length 0 v25.length)]) (objs:=[.row 3 (v25.map qa1)]) rfl (by simp) rfl (by trivial) ⟨rfl,trivial,trivial⟩) ?_
        refine qas ?_
        have hr:=Option.some.inj h
        subst hr
        exact qah (.inr rfl) [0] (objs':=[]) (new:=[.row 3 (v25.map qa1)]) rfl (by simp) (by simp) rfl (by trivial) rfl rfl (by trivial) (fun _=>⟨by simp [V.flat,V.qbh,V.qb7,D.flat],(qcr (qfl qid _) qao)⟩) ⟨rfl,rfl,rfl⟩
    · refine qaa ?_
      refine qc7 (ι:=Bool) (fun v41=>St.of [(0,.d (.sl false (x_.map qa1))),(6,.d (.int .u64 x17.2)),(26,.d (.bool v41))] [] f114.ntmps 0) (fun v41=>qft n x_ x17 v41 = some r) ?_ (fun hk43=>?_)
      · rintro v41 h
        replace h:qft n x_ x17 v41 = some r:=h
        unfold qft at h
        refine qaz rfl (fun hc42=>?_) (fun hc42=>?_)
        · have h:=qcq h hc42
          refine qa2 ?_
          exact nomatch h
        · have h:=qcp h hc42
          refine qb3 ?_
          refine qab (qa5 [] (l:=[(0,.d (.sl false (x_.map qa1))),(6,.d (.int .u64 x17.2))]) (objs:=[]) rfl (by simp) rfl (by trivial) ⟨rfl,trivial,rfl,trivial,trivial⟩) ?_
          exact hk38 () h
      · refine qaa ?_
        refine qa2 ?_
        refine qa0 hτ rfl rfl rfl ?_
        refine qa0 hτ rfl rfl rfl ?_
        refine qa0 hτ rfl rfl rfl ?_
        refine qb4 23 rfl (fun hb44=>?_) (fun hb44=>?_)
        · have h:=if_t h hb44
          refine qa4 rfl rfl ?_
          refine qa4 rfl rfl ?_
          refine qa0 hτ rfl rfl rfl ?_
          refine qa6 ?_
          refine qab (qa5 [] (l:=[(0,.d (.sl false (x_.map qa1))),(6,.d (.int .u64 x17.2)),(26,.d (.bool true))]) (objs:=[]) rfl (by simp) rfl (by trivial) ⟨rfl,trivial,rfl,trivial,rfl,trivial,trivial⟩) ?_
          exact hk43 true h
        · have h:=if_f h hb44
          refine qa0 hτ rfl rfl rfl ?_
          refine qa0 hτ rfl rfl rfl ?_
          refine qa0 hτ rfl rfl rfl ?_
          refine qa6 ?_
          refine qab (qa5 [] (l:=[(0,.d (.sl false (x_.map qa1))),(6,.d (.int .u64 x17.2)),(26,.d (.bool (decide (x17.2 > (9223372036854775807:Int)))))]) (objs:=[]) rfl (by simp) rfl (by trivial) ⟨rfl,trivial,rfl,trivial,rfl,trivial,trivial⟩) ?_
          exact hk43 (decide (x17.2 > (9223372036854775807:Int))) h
theorem slices_Repeat_ok_fr (n:Nat) (x_:List qa7) (count_:Int) {r:List qa7} (h:qci n x_ count_ = some r):qb0 prog true 114 [.d (.sl false (x_.map qa1)),.d (.int .i64 count_)] [] (fun v o new=>v = .row 0 r.length 0 r.length∧o = []∧new = [.row 3 (r.map qa1)]):=slices_Repeat_ok_fr0 true n x_ count_ h
def qfn (n:Nat) (f_:qam):Option (List qa7) :=
  (qci n [f_.Source] (f_.qa9.length:Int)).bind fun x2 =>
  some x2
theorem impl_Feeder_flat_ok (n:Nat) (f_:qam) {r:List qa7} (h:qfn n f_ = some r):qb0 prog false 61 [.ptr 0 0] [.box [.d (.cx .f32 f_.Source.A.re f_.Source.A.im),.d (.cx .f32 f_.Source.B.re f_.Source.B.im),.d (.cx .f32 f_.Source.C.re f_.Source.C.im),.d (.sl false (f_.qa9.map qaf))]] (fun v o new=>v = .row 1 r.length 0 r.length∧o = [.box [.d (.cx .f32 f_.Source.A.re f_.Source.A.im),.d (.cx .f32 f_.Source.B.re f_.Source.B.im),.d (.cx .f32 f_.Source.C.re f_.Source.C.im),.d (.sl false (f_.qa9.map qaf))]]∧new = [.row 3 (r.map qa1)]):=by
  refine qal hτ func61 rfl (by simp) (by simp) ?_
  unfold qfn at h
  refine qaa ?_
  refine qa2 ?_
  refine qa0 hτ rfl rfl rfl ?_
  refine qa6 ?_
  refine qaa ?_
  refine qcv ?_
  refine qad hτ [] 0 rfl rfl rfl rfl rfl ?_
  refine qad hτ [] 1 rfl rfl rfl rfl rfl ?_
  refine qad hτ [0] 2 rfl rfl rfl rfl rfl ?_
  refine qad hτ [0] 3 rfl rfl rfl rfl rfl ?_
  refine qad hτ [] 5 rfl rfl rfl rfl rfl ?_
  refine qad hτ [] 6 rfl rfl rfl rfl rfl ?_
  refine qad hτ [0] 7 rfl rfl rfl rfl rfl ?_
  refine qad hτ [0] 8 rfl rfl rfl rfl rfl ?_
  refine qad hτ (v:=.d (.int .i64 (f_.qa9.length:Int))) [] 9 rfl rfl rfl rfl (Eq.trans rfl (qfx (f:=qaf) f_.qa9)) ?_
  refine qcd hτ [0] 4 rfl rfl rfl rfl ⟨rfl,trivial⟩ ?_
  refine qac h fun x2 hx2 h=>?_
  refine qbd hτ true [] [0,1] 10 rfl rfl rfl rfl (qai func114 rfl rfl) (qaj (qiv (f:=qa1) (j:=1) (sz:=3) [f_.Source] rfl rfl rfl) (qaj rfl qcc)) rfl (by simp) ⟨(qhq (f:=qa1) (j:=1) (sz:=3) [f_.Source] rfl rfl rfl),trivial,trivial⟩ (by trivial) (slices_Repeat_ok_fr n [f_.Source] (f_.qa9.length:Int) hx2) ⟨rfl,rfl,trivial⟩ ?_
  refine qad hτ [] 11 rfl rfl rfl rfl rfl ?_
  refine qd4 mixed (by kernel_rfl) ?_
  refine qab (qa5 [0,2] (l:=[(2,.row 1 x2.length 0 x2.length)]) (objs:=[.box [.d (.cx .f32 f_.Source.A.re f_.Source.A.im),.d (.cx .f32 f_.Source.B.re f_.Source.B.im),.d (.cx .f32 f_.Source.C.re f_.Source.C.im),.d (.sl false (f_.qa9.map qaf))],.row 3 (x2.map qa1)]) rfl (by simp) rfl (by trivial) ⟨rfl,trivial,trivial⟩) ?_
  refine qas ?_
  have hr:=Option.some.inj h
  subst hr
  exact qah (.inr rfl) [1] (objs':=[.box [.d (.cx .f32 f_.Source.A.re f_.Source.A.im),.d (.cx .f32 f_.Source.B.re f_.Source.B.im),.d (.cx .f32 f_.Source.C.re f_.Source.C.im),.d (.sl false (f_.qa9.map qaf))]]) (new:=[.row 3 (x2.map qa1)]) rfl (by simp) (by simp) rfl (by trivial) rfl rfl (by trivial) (fun h=>nomatch h) ⟨rfl,rfl,rfl⟩
def qe1 (n:Nat) (f_:qam):Option (List qa7 × Bool) :=
  (qcs n f_).bind fun x4 =>
  if x4 = true then
    (qfn n f_).bind fun x6 =>
    some (x6,true)
  else
    some (([]:List qa7),false)
theorem impl_FlatVoltages_ok_fr0 (fr:Bool) (n:Nat) (f_:qam) {r:List qa7 × Bool} (h:qe1 n f_ = some r):qb0 prog fr 14 [.agg [.d (.cx .f32 f_.Source.A.re f_.Source.A.im),.d (.cx .f32 f_.Source.B.re f_.Source.B.im),.d (.cx .f32 f_.Source.C.re f_.Source.C.im),.d (.sl false (f_.qa9.map qaf))]] [] (fun v o new=>v = .tup [.row 0 r.1.length 0 r.1.length,.d (.bool r.2)]∧o = []∧new = [.row 3 (r.1.map qa1)]):=by
  refine qal hτ func14 rfl (by simp) (by simp) ?_
  unfold qe1 at h
  refine qaa ?_
  refine qa2 ?_
  refine qak hτ rfl rfl rfl ?_
  refine qa0 hτ rfl rfl rfl ?_
  refine qa0 hτ rfl rfl rfl ?_
  refine qa6 ?_
  refine qaa ?_
  refine qaa ?_
  refine qa2 ?_
  refine qa0 hτ rfl rfl rfl ?_
  refine qac h fun x4 hx4 h=>?_
  refine qag hτ false [] rfl rfl rfl (qai func13 rfl rfl) rfl rfl (by simp) ⟨(by trivial),trivial⟩ (by trivial) (qf0 n f_ hx4) ?_
  rintro r0 o0 n0 ⟨rfl,rfl,rfl⟩ -
  refine qa0 hτ rfl rfl rfl ?_
  refine qa6 ?_
  refine qab (qa5 [0] (l:=[(1,.ptr 0 0),(6,.d (.bool (!x4)))]) (objs:=[.box [.d (.cx .f32 f_.Source.A.re f_.Source.A.im),.d (.cx .f32 f_.Source.B.re f_.Source.B.im),.d (.cx .f32 f_.Source.C.re f_.Source.C.im),.d (.sl false (f_.qa9.map qaf))]]) rfl (by simp) rfl (by trivial) ⟨rfl,trivial,rfl,trivial,trivial⟩) ?_
  refine qaz rfl (fun hc5=>?_) (fun hc5=>?_)
  · have hc5:=qhn hc5
    have h:=qcp h hc5
    refine qaa ?_
    refine qa2 ?_
    refine qa0 hτ rfl rfl rfl ?_
    refine qa0 hτ rfl rfl rfl ?_
    refine qa6 ?_
    refine qab (qa5 [] (l:=[(2,.d (.nils)),(3,.d (.bool false))]) (objs:=[]) rfl (by simp) rfl (by trivial) ⟨rfl,trivial,rfl,trivial,trivial⟩) ?_
    refine qab (qhl [3] (l':=[(2,.row 0 (([]:List qa7).length) 0 (([]:List qa7).length)),(3,.d (.bool false))]) (objs':=[]) (.cons (.c (.ghost ⟨Nat.le_of_ble_eq_true rfl,Nat.le_of_ble_eq_true rfl⟩)) (.cons (.c (.refl _)) .nil)) .nil) ?_
    refine qas ?_
    have hr:=Option.some.inj h
    subst hr
    exact qah (.inr rfl) [0] (objs':=[]) (new:=[.row 3 (([]:List qa7).map qa1)]) rfl (by simp) (by simp) rfl (by trivial) rfl rfl (by trivial) (fun _=>⟨by simp [V.flat,V.qbh,V.qb7,D.flat],(qcr (qfl qid _) qao)⟩) ⟨rfl,rfl,rfl⟩
  · have hc5:=qhm hc5
    have h:=qcq h hc5
    refine qb3 ?_
    refine qaa ?_
    refine qa2 ?_
    refine qac h fun x6 hx6 h=>?_
    refine qag hτ false [0] rfl rfl rfl (qai func61 rfl rfl) rfl rfl (by simp) ⟨trivial,trivial⟩ (by trivial) (impl_Feeder_flat_ok n f_ hx6) ?_
    rintro r0 o0 n0 ⟨rfl,rfl,rfl⟩ -
    refine qa0 hτ rfl rfl rfl ?_
    refine qa0 hτ rfl rfl rfl ?_
    refine qa6 ?_
    refine qab (qa5 [1] (l:=[(2,.row 0 x6.length 0 x6.length),(3,.d (.bool true))]) (objs:=[.row 3 (x6.map qa1)]) rfl (by simp) rfl (by trivial) ⟨rfl,trivial,rfl,trivial,trivial⟩) ?_
    refine qas ?_
    have hr:=Option.some.inj h
    subst hr
    exact qah (.inr rfl) [0] (objs':=[]) (new:=[.row 3 (x6.map qa1)]) rfl (by simp) (by simp) rfl (by trivial) rfl rfl (by trivial) (fun _=>⟨by simp [V.flat,V.qbh,V.qb7,D.flat],(qcr (qfl qid _) qao)⟩) ⟨rfl,rfl,rfl⟩
theorem impl_FlatVoltages_ok_fr (n:Nat) (f_:qam) {r:List qa7 × Bool} (h:qe1 n f_ = some r):qb0 prog true 14 [.agg [.d (.cx .f32 f_.Source.A.re f_.Source.A.im),.d (.cx .f32 f_.Source.B.re f_.Source.B.im),.d (.cx .f32 f_.Source.C.re f_.Source.C.im),.d (.sl false (f_.qa9.map qaf))]] [] (fun v o new=>v = .tup [.row 0 r.1.length 0 r.1.length,.d (.bool r.2)]∧o = []∧new = [.row 3 (r.1.map qa1)]):=impl_FlatVoltages_ok_fr0 true n f_ h
def qgw (n:Nat) (f_:qam) (list_:List qa7):Option Bool :=
  (qcs n f_).bind fun x4 =>
  if x4 = true then
    some (decide ((list_.length:Int) = (f_.qa9.length:Int)))
  else
    some false
theorem impl_listFor_ok_fr0 (fr:Bool) (n:Nat) (f_:qam) (list_:List qa7) {r:Bool} (h:qgw n f_ list_ = some r):qb0 prog fr 68 [.agg [.d (.cx .f32 f_.Source.A.re f_.Source.A.im),.d (.cx .f32 f_.Source.B.re f_.Source.B.im),.d (.cx .f32 f_.Source.C.re f_.Source.C.im),.d (.sl false (f_.qa9.map qaf))],.d (.sl false (list_.map qa1))] [] (fun v o new=>v = .d (.bool r)∧o = []∧new = []):=by
  refine qal hτ func68 rfl (by simp) (by simp) ?_
  unfold qgw at h
  refine qaa ?_
  refine qa2 ?_
  refine qak hτ rfl rfl rfl ?_
  refine qa0 hτ rfl rfl rfl ?_
  refine qa6 ?_
  refine qaa ?_
  refine qa2 ?_
  refine qa0 hτ rfl rfl rfl ?_
  refine qac h fun x4 hx4 h=>?_
  refine qag hτ false [] rfl rfl rfl (qai func13 rfl rfl) rfl rfl (by simp) ⟨(by trivial),trivial⟩ (by trivial) (qf0 n f_ hx4) ?_
  rintro r0 o0 n0 ⟨rfl,rfl,rfl⟩ -
  refine qa0 hτ rfl rfl rfl ?_
  refine qb4 7 rfl (fun hb5=>?_) (fun hb5=>?_)
  · have h:=qcq h hb5
    refine qa0 hτ rfl rfl rfl ?_
    refine qa0 hτ (v:=.d (.int .i64 (list_.length:Int))) rfl rfl (Eq.trans rfl (qfx (f:=qa1) list_)) ?_
    refine qa0 hτ rfl rfl rfl ?_
    refine qa0 hτ rfl rfl rfl ?_
    refine qa0 hτ (v:=.d (.int .i64 (f_.qa9.length:Int))) rfl rfl (Eq.trans rfl (qfx (f:=qaf) f_.qa9)) ?_
    refine qa0 hτ (v:=.d (.bool (decide ((list_.length:Int) = (f_.qa9.length:Int))))) rfl rfl (qhu _ _) ?_
    refine qa0 hτ rfl rfl rfl ?_
    refine qap (qa5 [] (l:=[(14,.d (.bool (decide ((list_.length:Int) = (f_.qa9.length:Int)))))]) (objs:=[]) rfl (by simp) rfl (by trivial) ⟨rfl,trivial,trivial⟩) ?_
    refine qa0 hτ rfl rfl rfl ?_
    refine qa6 ?_
    refine qab (qa5 [] (l:=[(4,.d (.bool (decide ((list_.length:Int) = (f_.qa9.length:Int)))))]) (objs:=[]) rfl (by simp) rfl (by trivial) ⟨rfl,trivial,trivial⟩) ?_
    refine qas ?_
    have hr:=Option.some.inj h
    subst hr
    exact qah (.inr rfl) [] (objs':=[]) (new:=[]) rfl (by simp) (by simp) rfl (by trivial) rfl rfl (by trivial) (fun _=>⟨by simp [V.flat,V.qbh,V.qb7,D.flat],qao⟩) ⟨rfl,rfl,rfl⟩
  · have h:=qcp h hb5
    refine qa4 rfl rfl ?_
    refine qa4 rfl rfl ?_
    refine qa4 rfl rfl ?_
    refine qa4 rfl rfl ?_
    refine qa4 rfl rfl ?_
    refine qa4 rfl rfl ?_
    refine qa0 hτ rfl rfl rfl ?_
    refine qap (qa5 [] (l:=[(14,.d (.bool false))]) (objs:=[]) rfl (by simp) rfl (by trivial) ⟨rfl,trivial,trivial⟩) ?_
    refine qa0 hτ rfl rfl rfl ?_
    refine qa6 ?_
    refine qab (qa5 [] (l:=[(4,.d (.bool false))]) (objs:=[]) rfl (by simp) rfl (by trivial) ⟨rfl,trivial,trivial⟩) ?_
    refine qas ?_
    have hr:=Option.some.inj h
    subst hr
    exact qah (.inr rfl) [] (objs':=[]) (new:=[]) rfl (by simp) (by simp) rfl (by trivial) rfl rfl (by trivial) (fun _=>⟨by simp [V.flat,V.qbh,V.qb7,D.flat],qao⟩) ⟨rfl,rfl,rfl⟩
theorem impl_listFor_ok (n:Nat) (f_:qam) (list_:List qa7) {r:Bool} (h:qgw n f_ list_ = some r):qb0 prog false 68 [.agg [.d (.cx .f32 f_.Source.A.re f_.Source.A.im),.d (.cx .f32 f_.Source.B.re f_.Source.B.im),.d (.cx .f32 f_.Source.C.re f_.Source.C.im),.d (.sl false (f_.qa9.map qaf))],.d (.sl false (list_.map qa1))] [] (fun v o new=>v = .d (.bool r)∧o = []∧new = []):=impl_listFor_ok_fr0 false n f_ list_ h
def qcl (n:Nat) (s_:List qa7):Option (List qa7) :=
  grd (room (([]:List qa7).length + s_.length) 24) <|
  some (([]:List qa7) ++ s_)
theorem slices_Clone_ok_fr0 (fr:Bool) (n:Nat) (s_:List qa7) {r:List qa7} (h:qcl n s_ = some r):qb0 prog fr 113 [.d (.sl false (s_.map qa1))] [] (fun v o new=>v = .row 0 r.length 0 r.length∧o = []∧new = [.row 3 (r.map qa1)]):=by
  refine qal hτ func113 rfl (by simp) (by simp) ?_
  unfold qcl at h
  refine qaa ?_
  refine qa2 ?_
  refine qa0 hτ rfl rfl rfl ?_
  refine qa6 ?_
  refine qaa ?_
  refine qaa ?_
  refine qa2 ?_
  refine qa0 hτ rfl rfl rfl ?_
  refine qrb rfl rfl (quz hτ rfl rfl rfl rfl rfl) fun q4 hq4=>?_
  refine qa6 ?_
  refine qaz rfl (fun hc5=>?_) (fun hc5=>?_)
  · have hl:=List.map_eq_nil_iff.1 (hq4 (by simpa using hc5))
    subst hl
    replace h:(some ([]:List qa7)) = some r:=by simpa [grd,room] using h
    refine qaa ?_
    refine qa2 ?_
    refine qa0 hτ rfl rfl rfl ?_
    refine qa6 ?_
    refine qab (qa5 [] (l:=[(2,.d (.nils))]) (objs:=[]) rfl (by simp) rfl (by trivial) ⟨rfl,trivial,trivial⟩) ?_
    refine qab (qhl [3] (l':=[(2,.row 0 (([]:List qa7).length) 0 (([]:List qa7).length))]) (objs':=[]) (.cons (.c (.ghost ⟨Nat.le_of_ble_eq_true rfl,Nat.le_of_ble_eq_true rfl⟩)) .nil) .nil) ?_
    refine qas ?_
    have hr:=Option.some.inj h
    subst hr
    exact qah (.inr rfl) [0] (objs':=[]) (new:=[.row 3 (([]:List qa7).map qa1)]) rfl (by simp) (by simp) rfl (by trivial) rfl rfl (by trivial) (fun _=>⟨by simp [V.flat,V.qbh,V.qb7,D.flat],(qcr (qfl qid _) qao)⟩) ⟨rfl,rfl,rfl⟩
  · refine qb3 ?_
    refine qaa ?_
    refine qa2 ?_
    refine qak hτ rfl rfl rfl ?_
    refine qa0 hτ rfl rfl rfl ?_
    refine qd6 h fun hg6 h=>?_
    refine qjn hτ rfl rfl (Eq.trans rfl (or_append (f:=qa1) ([]:List qa7) s_ rfl)) ⟨trivial,qb5 _,rfl,rfl,(qlu (f:=qa1) hg6),by decide,(qkb (f:=qa1) (fun _=>rfl) _)⟩ ?_
    refine qa0 hτ rfl rfl rfl ?_
    refine qa6 ?_
    refine qab (qa5 [0] (l:=[(2,.row 0 ((([]:List qa7) ++ s_).length) 0 ((([]:List qa7) ++ s_).length))]) (objs:=[.row 3 ((([]:List qa7) ++ s_).map qa1)]) rfl (by simp) rfl (by trivial) ⟨rfl,trivial,trivial⟩) ?_
    refine qas ?_
    have hr:=Option.some.inj h
    subst hr
    exact qah (.inr rfl) [0] (objs':=[]) (new:=[.row 3 ((([]:List qa7) ++ s_).map qa1)]) rfl (by simp) (by simp) rfl (by trivial) rfl rfl (by trivial) (fun _=>⟨by simp [V.flat,V.qbh,V.qb7,D.flat],(qcr (qfl qid _) qao)⟩) ⟨rfl,rfl,rfl⟩
theorem qg9 (n:Nat) (s_:List qa7) {r:List qa7} (h:qcl n s_ = some r):qb0 prog false 113 [.d (.sl false (s_.map qa1))] [] (fun v o new=>v = .row 0 r.length 0 r.length∧o = []∧new = [.row 3 (r.map qa1)]):=slices_Clone_ok_fr0 false n s_ h
def qe3 (n:Nat) (x_:Cx):Option (Nat × Nat) :=
  (qgo .f32 .f64 x_.re).bind fun x3 =>
  (qgo .f32 .f64 x_.im).bind fun x4 =>
  some (x3,x4)
theorem impl_wide_ok_fr0 (fr:Bool) (n:Nat) (x_:Cx) {r:Nat × Nat} (h:qe3 n x_ = some r):qb0 prog fr 109 [.d (.cx .f32 x_.re x_.im)] [] (fun v o new=>v = .tup [.d (.fl .f64 r.1),.d (.fl .f64 r.2)]∧o = []∧new = []):=by
  refine qal hτ func109 rfl (by simp) (by simp) ?_
  unfold qe3 at h
  refine qaa ?_
  refine qa2 ?_
  refine qa0 hτ rfl rfl rfl ?_
  refine qa0 hτ rfl rfl rfl ?_
  refine qa6 ?_
  refine qaa ?_
  refine qa2 ?_
  refine qa0 hτ rfl rfl rfl ?_
  refine qa0 hτ rfl rfl rfl ?_
  refine qac h fun x3 hx3 h=>?_
  refine qa0 hτ (v:=.d (.fl .f64 x3)) rfl rfl (qge hx3) ?_
  refine qa0 hτ rfl rfl rfl ?_
  refine qa0 hτ rfl rfl rfl ?_
  refine qac h fun x4 hx4 h=>?_
  refine qa0 hτ (v:=.d (.fl .f64 x4)) rfl rfl (qge hx4) ?_
  refine qa0 hτ rfl rfl rfl ?_
  refine qa0 hτ rfl rfl rfl ?_
  refine qa6 ?_
  refine qab (qa5 [] (l:=[(2,.d (.fl .f64 x3)),(3,.d (.fl .f64 x4))]) (objs:=[]) rfl (by simp) rfl (by trivial) ⟨rfl,trivial,rfl,trivial,trivial⟩) ?_
  refine qas ?_
  have hr:=Option.some.inj h
  subst hr
  exact qah (.inr rfl) [] (objs':=[]) (new:=[]) rfl (by simp) (by simp) rfl (by trivial) rfl rfl (by trivial) (fun _=>⟨by simp [V.flat,V.qbh,V.qb7,D.flat],qao⟩) ⟨rfl,rfl,rfl⟩
theorem qj2 (n:Nat) (x_:Cx) {r:Nat × Nat} (h:qe3 n x_ = some r):qb0 prog false 109 [.d (.cx .f32 x_.re x_.im)] [] (fun v o new=>v = .tup [.d (.fl .f64 r.1),.d (.fl .f64 r.2)]∧o = []∧new = []):=impl_wide_ok_fr0 false n x_ h
def qd7 (n:Nat) (x_:Cx):Option Cx :=
  some (Cx.mk x_.re (fneg .f32 x_.im))
theorem impl_ConjugateOf_ok_fr0 (fr:Bool) (n:Nat) (x_:Cx) {r:Cx} (h:qd7 n x_ = some r):qb0 prog fr 116 [.d (.cx .f32 x_.re x_.im)] [] (fun v o new=>v = .d (.cx .f32 r.re r.im)∧o = []∧new = []):=by
  refine qal hτ func116 rfl (by simp) (by simp) ?_
  unfold qd7 at h
  refine qaa ?_
  refine qa2 ?_
  refine qa0 hτ rfl rfl rfl ?_
  refine qa6 ?_
  refine qaa ?_
  refine qa2 ?_
  refine qa0 hτ rfl rfl rfl ?_
  refine qa0 hτ rfl rfl rfl ?_
  refine qa0 hτ rfl rfl rfl ?_
  refine qa0 hτ rfl rfl rfl ?_
  refine qa0 hτ rfl rfl rfl ?_
  refine qa0 hτ rfl rfl rfl ?_
  refine qa0 hτ rfl rfl rfl ?_
  refine qa6 ?_
  refine qab (qa5 [] (l:=[(2,.d (.cx .f32 x_.re (fneg .f32 x_.im)))]) (objs:=[]) rfl (by simp) rfl (by trivial) ⟨rfl,trivial,trivial⟩) ?_
  refine qas ?_
  have hr:=Option.some.inj h
  subst hr
  exact qah (.inr rfl) [] (objs':=[]) (new:=[]) rfl (by simp) (by simp) rfl (by trivial) rfl rfl (by trivial) (fun _=>⟨by simp [V.flat,V.qbh,V.qb7,D.flat],qao⟩) ⟨rfl,rfl,rfl⟩
theorem qjr (n:Nat) (x_:Cx) {r:Cx} (h:qd7 n x_ = some r):qb0 prog false 116 [.d (.cx .f32 x_.re x_.im)] [] (fun v o new=>v = .d (.cx .f32 r.re r.im)∧o = []∧new = []):=impl_ConjugateOf_ok_fr0 false n x_ h
def qe8 (n:Nat) (x_:Cx):Option Nat :=
  (qe3 n x_).bind fun x2 =>
  some (qa8 .add .f64 (qa8 .mul .f64 x2.1 x2.1) (qa8 .mul .f64 x2.2 x2.2))
theorem impl_power_ok_fr0 (fr:Bool) (n:Nat) (x_:Cx) {r:Nat} (h:qe8 n x_ = some r):qb0 prog fr 117 [.d (.cx .f32 x_.re x_.im)] [] (fun v o new=>v = .d (.fl .f64 r)∧o = []∧new = []):=by
  refine qal hτ func117 rfl (by simp) (by simp) ?_
  unfold qe8 at h
  refine qaa ?_
  refine qa2 ?_
  refine qa0 hτ rfl rfl rfl ?_
  refine qa6 ?_
  refine qaa ?_
  refine qa2 ?_
  refine qa0 hτ rfl rfl rfl ?_
  refine qac h fun x2 hx2 h=>?_
  refine qag hτ false [] rfl rfl rfl (qai func109 rfl rfl) rfl rfl (by simp) ⟨trivial,trivial⟩ (by trivial) (qj2 n x_ hx2) ?_
  rintro r0 o0 n0 ⟨rfl,rfl,rfl⟩ -
  refine qa0 hτ rfl rfl rfl ?_
  refine qa0 hτ rfl rfl rfl ?_
  refine qa0 hτ rfl rfl rfl ?_
  refine qa0 hτ rfl rfl rfl ?_
  refine qa0 hτ rfl rfl rfl ?_
  refine qa6 ?_
  refine qaa ?_
  refine qab (qa5 [] (l:=[(3,.d (.fl .f64 x2.1)),(4,.d (.fl .f64 x2.2))]) (objs:=[]) rfl (by simp) rfl (by trivial) ⟨rfl,trivial,rfl,trivial,trivial⟩) ?_
  refine qa2 ?_
  refine qa0 hτ rfl rfl rfl ?_
  refine qa0 hτ rfl rfl rfl ?_
  refine qa0 hτ rfl rfl rfl ?_
  refine qa0 hτ rfl rfl rfl ?_
  refine qa0 hτ rfl rfl rfl ?_
  refine qa0 hτ rfl rfl rfl ?_
  refine qa0 hτ rfl rfl rfl ?_
  refine qa0 hτ rfl rfl rfl ?_
  refine qa6 ?_
  refine qab (qa5 [] (l:=[(2,.d (.fl .f64 (qa8 .add .f64 (qa8 .mul .f64 x2.1 x2.1) (qa8 .mul .f64 x2.2 x2.2))))]) (objs:=[]) rfl (by simp) rfl (by trivial) ⟨rfl,trivial,trivial⟩) ?_
  refine qas ?_
  have hr:=Option.some.inj h
  subst hr
  exact qah (.inr rfl) [] (objs':=[]) (new:=[]) rfl (by simp) (by simp) rfl (by trivial) rfl rfl (by trivial) (fun _=>⟨by simp [V.flat,V.qbh,V.qb7,D.flat],qao⟩) ⟨rfl,rfl,rfl⟩
theorem qmf (n:Nat) (x_:Cx) {r:Nat} (h:qe8 n x_ = some r):qb0 prog false 117 [.d (.cx .f32 x_.re x_.im)] [] (fun v o new=>v = .d (.fl .f64 r)∧o = []∧new = []):=impl_power_ok_fr0 false n x_ h
def qd2 (n:Nat) (x_:Cx) (y_:Cx):Option Cx :=
  (qe3 n x_).bind fun x7 =>
  (qd7 n y_).bind fun x8 =>
  (qe3 n x8).bind fun x9 =>
  (qe8 n y_).bind fun x10 =>
  (qgo .f64 .f32 (qa8 .quo .f64 (qa8 .sub .f64 (qa8 .mul .f64 x7.1 x9.1) (qa8 .mul .f64 x7.2 x9.2)) x10)).bind fun x11 =>
  (qgo .f64 .f32 (qa8 .quo .f64 (qa8 .add .f64 (qa8 .mul .f64 x7.1 x9.2) (qa8 .mul .f64 x7.2 x9.1)) x10)).bind fun x12 =>
  some (Cx.mk x11 x12)
theorem impl_QuotientOf_ok_fr0 (fr:Bool) (n:Nat) (x_:Cx) (y_:Cx) {r:Cx} (h:qd2 n x_ y_ = some r):qb0 prog fr 65 [.d (.cx .f32 x_.re x_.im),.d (.cx .f32 y_.re y_.im)] [] (fun v o new=>v = .d (.cx .f32 r.re r.im)∧o = []∧new = []):=by
  refine qal hτ func65 rfl (by simp) (by simp) ?_
  unfold qd2 at h
  refine qaa ?_
  refine qa2 ?_
  refine qa0 hτ rfl rfl rfl ?_
  refine qa6 ?_
  refine qaa ?_
  refine qa2 ?_
  refine qa0 hτ rfl rfl rfl ?_
  refine qac h fun x7 hx7 h=>?_
  refine qag hτ false [] rfl rfl rfl (qai func109 rfl rfl) rfl rfl (by simp) ⟨trivial,trivial⟩ (by trivial) (qj2 n x_ hx7) ?_
  rintro r0 o0 n0 ⟨rfl,rfl,rfl⟩ -
  refine qa0 hτ rfl rfl rfl ?_
  refine qa0 hτ rfl rfl rfl ?_
  refine qa0 hτ rfl rfl rfl ?_
  refine qa0 hτ rfl rfl rfl ?_
  refine qa0 hτ rfl rfl rfl ?_
  refine qa6 ?_
  refine qaa ?_
  refine qab (qa5 [] (l:=[(1,.d (.cx .f32 y_.re y_.im)),(5,.d (.fl .f64 x7.1)),(6,.d (.fl .f64 x7.2))]) (objs:=[]) rfl (by simp) rfl (by trivial) ⟨rfl,trivial,rfl,trivial,rfl,trivial,trivial⟩) ?_
  refine qa2 ?_
  refine qa0 hτ rfl rfl rfl ?_
  refine qac h fun x8 hx8 h=>?_
  refine qag hτ false [] rfl rfl rfl (qai func116 rfl rfl) rfl rfl (by simp) ⟨trivial,trivial⟩ (by trivial) (qjr n y_ hx8) ?_
  rintro r0 o0 n0 ⟨rfl,rfl,rfl⟩ -
  refine qac h fun x9 hx9 h=>?_
  refine qag hτ false [] rfl rfl rfl (qai func109 rfl rfl) rfl rfl (by simp) ⟨trivial,trivial⟩ (by trivial) (qj2 n x8 hx9) ?_
  rintro r0 o0 n0 ⟨rfl,rfl,rfl⟩ -
  refine qa0 hτ rfl rfl rfl ?_
  refine qa0 hτ rfl rfl rfl ?_
  refine qa0 hτ rfl rfl rfl ?_
  refine qa0 hτ rfl rfl rfl ?_
  refine qa0 hτ rfl rfl rfl ?_
  refine qa6 ?_
  refine qaa ?_
  refine qab (qa5 [] (l:=[(1,.d (.cx .f32 y_.re y_.im)),(5,.d (.fl .f64 x7.1)),(6,.d (.fl .f64 x7.2)),(7,.d (.fl .f64 x9.1)),(8,.d (.fl .f64 x9.2))]) (objs:=[]) rfl (by simp) rfl (by trivial) ⟨rfl,trivial,rfl,trivial,rfl,trivial,rfl,trivial,rfl,trivial,trivial⟩) ?_
  refine qa2 ?_
  refine qa0 hτ rfl rfl rfl ?_
  refine qac h fun x10 hx10 h=>?_
  refine qag hτ false [] rfl rfl rfl (qai func117 rfl rfl) rfl rfl (by simp) ⟨trivial,trivial⟩ (by trivial) (qmf n y_ hx10) ?_
  rintro r0 o0 n0 ⟨rfl,rfl,rfl⟩ -
  refine qa0 hτ rfl rfl rfl ?_
  refine qa6 ?_
  refine qaa ?_
  refine qa2 ?_
  refine qa0 hτ rfl rfl rfl ?_
  refine qa0 hτ rfl rfl rfl ?_
  refine qa0 hτ rfl rfl rfl ?_
  refine qa0 hτ rfl rfl rfl ?_
  refine qa0 hτ rfl rfl rfl ?_
  refine qa0 hτ rfl rfl rfl ?_
  refine qa0 hτ rfl rfl rfl ?_
  refine qa0 hτ rfl rfl rfl ?_
  refine qa0 hτ rfl rfl rfl ?_
  refine qap (qa5 [] (l:=[(6,.d (.fl .f64 x7.2)),(7,.d (.fl .f64 x9.1)),(9,.d (.fl .f64 x10)),(31,.d (.fl .f64 (qa8 .sub .f64 (qa8 .mul .f64 x7.1 x9.1) (qa8 .mul .f64 x7.2 x9.2)))),(32,.d (.fl .f64 x7.1)),(33,.d (.fl .f64 x9.2))]) (objs:=[]) rfl (by simp) rfl (by trivial) ⟨rfl,trivial,rfl,trivial,rfl,trivial,rfl,trivial,rfl,trivial,rfl,trivial,trivial⟩) ?_
  refine qa0 hτ rfl rfl rfl ?_
  refine qa0 hτ rfl rfl rfl ?_
  refine qa0 hτ rfl rfl rfl ?_
  refine qa0 hτ rfl rfl rfl ?_
  refine qa0 hτ rfl rfl rfl ?_
  refine qa0 hτ rfl rfl rfl ?_
  refine qa0 hτ rfl rfl rfl ?_
  refine qa6 ?_
  refine qaa ?_
  refine qab (qa5 [] (l:=[(9,.d (.fl .f64 x10)),(10,.d (.fl .f64 (qa8 .sub .f64 (qa8 .mul .f64 x7.1 x9.1) (qa8 .mul .f64 x7.2 x9.2)))),(11,.d (.fl .f64 (qa8 .add .f64 (qa8 .mul .f64 x7.1 x9.2) (qa8 .mul .f64 x7.2 x9.1))))]) (objs:=[]) rfl (by simp) rfl (by trivial) ⟨rfl,trivial,rfl,trivial,rfl,trivial,trivial⟩) ?_
  refine qa2 ?_
  refine qa0 hτ rfl rfl rfl ?_
  refine qa0 hτ rfl rfl rfl ?_
  refine qa0 hτ rfl rfl rfl ?_
  refine qac h fun x11 hx11 h=>?_
  refine qa0 hτ (v:=.d (.fl .f32 x11)) rfl rfl (qge hx11) ?_
  refine qa0 hτ rfl rfl rfl ?_
  refine qa0 hτ rfl rfl rfl ?_
  refine qa0 hτ rfl rfl rfl ?_
  refine qac h fun x12 hx12 h=>?_
  refine qa0 hτ (v:=.d (.fl .f32 x12)) rfl rfl (qge hx12) ?_
  refine qa0 hτ rfl rfl rfl ?_
  refine qa0 hτ rfl rfl rfl ?_
  refine qa6 ?_
  refine qab (qa5 [] (l:=[(4,.d (.cx .f32 x11 x12))]) (objs:=[]) rfl (by simp) rfl (by trivial) ⟨rfl,trivial,trivial⟩) ?_
  refine qas ?_
  have hr:=Option.some.inj h
  subst hr
  exact qah (.inr rfl) [] (objs':=[]) (new:=[]) rfl (by simp) (by simp) rfl (by trivial) rfl rfl (by trivial) (fun _=>⟨by simp [V.flat,V.qbh,V.qb7,D.flat],qao⟩) ⟨rfl,rfl,rfl⟩
theorem qk8 (n:Nat) (x_:Cx) (y_:Cx) {r:Cx} (h:qd2 n x_ y_ = some r):qb0 prog false 65 [.d (.cx .f32 x_.re x_.im),.d (.cx .f32 y_.re y_.im)] [] (fun v o new=>v = .d (.cx .f32 r.re r.im)∧o = []∧new = []):=impl_QuotientOf_ok_fr0 false n x_ y_ h
def qbb (n:Nat) (load_:Cx) (v_:Cx) (a2_:SBus):Option Cx :=
  if (fcmp .eql .f32 load_.re (0:Nat) && fcmp .eql .f32 load_.im (0:Nat)) = true then
    some (Cx.mk (0:Nat) (0:Nat))
  else
    if a2_.Kind = (0:Int) then
      (qd2 n load_ v_).bind fun x6 =>
      (qd7 n x6).bind fun x7 =>
      some x7
    else
      if a2_.Kind = (1:Int) then
        some load_
      else
        if a2_.Kind = (2:Int) then
          (qd2 n v_ load_).bind fun x10 =>
          some x10
        else
          some (Cx.mk (0:Nat) (0:Nat))
theorem impl_LoadCurrentOf_1_ok_fr0 (fr:Bool) (n:Nat) (load_:Cx) (v_:Cx) (a2_:SBus) {r:Cx} (h:qbb n load_ v_ a2_ = some r):qb0 prog fr 177 [.d (.cx .f32 load_.re load_.im),.d (.cx .f32 v_.re v_.im),.ptr 0 0] [.box [.d (.int .i64 a2_.qar),.d (.cx .f32 a2_.Own.re a2_.Own.im),.d (.cx .f32 a2_.Shared.re a2_.Shared.im),.d (.int .i64 a2_.Kind),.d (.cx .f32 a2_.Load.A.re a2_.Load.A.im),.d (.cx .f32 a2_.Load.B.re a2_.Load.B.im),.d (.cx .f32 a2_.Load.C.re a2_.Load.C.im),.d (.int .i64 a2_.qan)]] (fun v o new=>v = .d (.cx .f32 r.re r.im)∧o = [.box [.d (.int .i64 a2_.qar),.d (.cx .f32 a2_.Own.re a2_.Own.im),.d (.cx .f32 a2_.Shared.re a2_.Shared.im),.d (.int .i64 a2_.Kind),.d (.cx .f32 a2_.Load.A.re a2_.Load.A.im),.d (.cx .f32 a2_.Load.B.re a2_.Load.B.im),.d (.cx .f32 a2_.Load.C.re a2_.Load.C.im),.d (.int .i64 a2_.qan)]]∧new = []):=by
  refine qal hτ func177 rfl (by simp) (by simp) ?_
  unfold qbb at h
  refine qaa ?_
  refine qa2 ?_
  refine qa0 hτ rfl rfl rfl ?_
  refine qa6 ?_
  refine qaa ?_
  refine qba ?_
  refine qaa ?_
  refine qa2 ?_
  refine qa0 hτ rfl rfl rfl ?_
  refine qa0 hτ rfl rfl rfl ?_
  refine qa0 hτ rfl rfl rfl ?_
  refine qa6 ?_
  refine qaz rfl (fun hc4=>?_) (fun hc4=>?_)
  · have h:=qcq h hc4
    refine qaa ?_
    refine qa2 ?_
    refine qa0 hτ rfl rfl rfl ?_
    refine qa6 ?_
    refine qab (qa5 [0] (l:=[(5,.d (.cx .f32 (0:Nat) (0:Nat)))]) (objs:=[.box [.d (.int .i64 a2_.qar),.d (.cx .f32 a2_.Own.re a2_.Own.im),.d (.cx .f32 a2_.Shared.re a2_.Shared.im),.d (.int .i64 a2_.Kind),.d (.cx .f32 a2_.Load.A.re a2_.Load.A.im),.d (.cx .f32 a2_.Load.B.re a2_.Load.B.im),.d (.cx .f32 a2_.Load.C.re a2_.Load.C.im),.d (.int .i64 a2_.qan)]]) rfl (by simp) rfl (by trivial) ⟨rfl,trivial,trivial⟩) ?_
    refine qas ?_
    have hr:=Option.some.inj h
    subst hr
    exact qah (.inr rfl) [] (objs':=[.box [.d (.int .i64 a2_.qar),.d (.cx .f32 a2_.Own.re a2_.Own.im),.d (.cx .f32 a2_.Shared.re a2_.Shared.im),.d (.int .i64 a2_.Kind),.d (.cx .f32 a2_.Load.A.re a2_.Load.A.im),.d (.cx .f32 a2_.Load.B.re a2_.Load.B.im),.d (.cx .f32 a2_.Load.C.re a2_.Load.C.im),.d (.int .i64 a2_.qan)]]) (new:=[]) rfl (by simp) (by simp) rfl (by trivial) rfl rfl (by trivial) (fun _=>⟨by simp [V.flat,V.qbh,V.qb7,D.flat],(qcr (by simp [AObj.flat,V.qb7,D.flat]) qao)⟩) ⟨rfl,rfl,rfl⟩
  · have h:=qcp h hc4
    refine qaa ?_
    refine qa2 ?_
    refine qa0 hτ rfl rfl rfl ?_
    refine qa0 hτ rfl rfl rfl ?_
    refine qa0 hτ (v:=.d (.bool (decide (a2_.Kind = (0:Int))))) rfl rfl (qhu _ _) ?_
    refine qa0 hτ rfl rfl rfl ?_
    refine qa6 ?_
    refine qab (qa5 [0] (l:=[(0,.d (.cx .f32 load_.re load_.im)),(1,.d (.cx .f32 v_.re v_.im)),(2,.ptr 0 0),(9,.d (.bool (decide (a2_.Kind = (0:Int)))))]) (objs:=[.box [.d (.int .i64 a2_.qar),.d (.cx .f32 a2_.Own.re a2_.Own.im),.d (.cx .f32 a2_.Shared.re a2_.Shared.im),.d (.int .i64 a2_.Kind),.d (.cx .f32 a2_.Load.A.re a2_.Load.A.im),.d (.cx .f32 a2_.Load.B.re a2_.Load.B.im),.d (.cx .f32 a2_.Load.C.re a2_.Load.C.im),.d (.int .i64 a2_.qan)]]) rfl (by simp) rfl (by trivial) ⟨rfl,trivial,rfl,trivial,rfl,trivial,rfl,trivial,trivial⟩) ?_
    refine qaz rfl (fun hc5=>?_) (fun hc5=>?_)
    · have h:=if_t h hc5
      refine qaa ?_
      refine qa2 ?_
      refine qa0 hτ rfl rfl rfl ?_
      refine qa0 hτ rfl rfl rfl ?_
      refine qac h fun x6 hx6 h=>?_
      refine qag hτ false [] rfl rfl rfl (qai func65 rfl rfl) rfl rfl (by simp) ⟨trivial,trivial,trivial⟩ (by trivial) (qk8 n load_ v_ hx6) ?_
      rintro r0 o0 n0 ⟨rfl,rfl,rfl⟩ -
      refine qac h fun x7 hx7 h=>?_
      refine qag hτ false [] rfl rfl rfl (qai func116 rfl rfl) rfl rfl (by simp) ⟨trivial,trivial⟩ (by trivial) (qjr n x6 hx7) ?_
      rintro r0 o0 n0 ⟨rfl,rfl,rfl⟩ -
      refine qa0 hτ rfl rfl rfl ?_
      refine qa6 ?_
      refine qab (qa5 [0] (l:=[(5,.d (.cx .f32 x7.re x7.im))]) (objs:=[.box [.d (.int .i64 a2_.qar),.d (.cx .f32 a2_.Own.re a2_.Own.im),.d (.cx .f32 a2_.Shared.re a2_.Shared.im),.d (.int .i64 a2_.Kind),.d (.cx .f32 a2_.Load.A.re a2_.Load.A.im),.d (.cx .f32 a2_.Load.B.re a2_.Load.B.im),.d (.cx .f32 a2_.Load.C.re a2_.Load.C.im),.d (.int .i64 a2_.qan)]]) rfl (by simp) rfl (by trivial) ⟨rfl,trivial,trivial⟩) ?_
      refine qas ?_
      have hr:=Option.some.inj h
      subst hr
      exact qah (.inr rfl) [] (objs':=[.box [.d (.int .i64 a2_.qar),.d (.cx .f32 a2_.Own.re a2_.Own.im),.d (.cx .f32 a2_.Shared.re a2_.Shared.im),.d (.int .i64 a2_.Kind),.d (.cx .f32 a2_.Load.A.re a2_.Load.A.im),.d (.cx .f32 a2_.Load.B.re a2_.Load.B.im),.d (.cx .f32 a2_.Load.C.re a2_.Load.C.im),.d (.int .i64 a2_.qan)]]) (new:=[]) rfl (by simp) (by simp) rfl (by trivial) rfl rfl (by trivial) (fun _=>⟨by simp [V.flat,V.qbh,V.qb7,D.flat],(qcr (by simp [AObj.flat,V.qb7,D.flat]) qao)⟩) ⟨rfl,rfl,rfl⟩
    · have h:=if_f h hc5
      refine qaa ?_
      refine qa2 ?_
      refine qa0 hτ rfl rfl rfl ?_
      refine qa0 hτ rfl rfl rfl ?_
      refine qa0 hτ (v:=.d (.bool (decide (a2_.Kind = (1:Int))))) rfl rfl (qhu _ _) ?_
      refine qa0 hτ rfl rfl rfl ?_
      refine qa6 ?_
      refine qaz rfl (fun hc8=>?_) (fun hc8=>?_)
      · have h:=if_t h hc8
        refine qaa ?_
        refine qa2 ?_
        refine qa0 hτ rfl rfl rfl ?_
        refine qa0 hτ rfl rfl rfl ?_
        refine qa6 ?_
        refine qab (qa5 [0] (l:=[(5,.d (.cx .f32 load_.re load_.im))]) (objs:=[.box [.d (.int .i64 a2_.qar),.d (.cx .f32 a2_.Own.re a2_.Own.im),.d (.cx .f32 a2_.Shared.re a2_.Shared.im),.d (.int .i64 a2_.Kind),.d (.cx .f32 a2_.Load.A.re a2_.Load.A.im),.d (.cx .f32 a2_.Load.B.re a2_.Load.B.im),.d (.cx .f32 a2_.Load.C.re a2_.Load.C.im),.d (.int .i64 a2_.qan)]]) rfl (by simp) rfl (by trivial) ⟨rfl,trivial,trivial⟩) ?_
        refine qas ?_
        have hr:=Option.some.inj h
        subst hr
        exact qah (.inr rfl) [] (objs':=[.box [.d (.int .i64 a2_.qar),.d (.cx .f32 a2_.Own.re a2_.Own.im),.d (.cx .f32 a2_.Shared.re a2_.Shared.im),.d (.int .i64 a2_.Kind),.d (.cx .f32 a2_.Load.A.re a2_.Load.A.im),.d (.cx .f32 a2_.Load.B.re a2_.Load.B.im),.d (.cx .f32 a2_.Load.C.re a2_.Load.C.im),.d (.int .i64 a2_.qan)]]) (new:=[]) rfl (by simp) (by simp) rfl (by trivial) rfl rfl (by trivial) (fun _=>⟨by simp [V.flat,V.qbh,V.qb7,D.flat],(qcr (by simp [AObj.flat,V.qb7,D.flat]) qao)⟩) ⟨rfl,rfl,rfl⟩
      · have h:=if_f h hc8
        refine qaa ?_
        refine qa2 ?_
        refine qa0 hτ rfl rfl rfl ?_
        refine qa0 hτ rfl rfl rfl ?_
        refine qa0 hτ (v:=.d (.bool (decide (a2_.Kind = (2:Int))))) rfl rfl (qhu _ _) ?_
        refine qa0 hτ rfl rfl rfl ?_
        refine qa6 ?_
        refine qab (qa5 [0] (l:=[(0,.d (.cx .f32 load_.re load_.im)),(1,.d (.cx .f32 v_.re v_.im)),(22,.d (.bool (decide (a2_.Kind = (2:Int)))))]) (objs:=[.box [.d (.int .i64 a2_.qar),.d (.cx .f32 a2_.Own.re a2_.Own.im),.d (.cx .f32 a2_.Shared.re a2_.Shared.im),.d (.int .i64 a2_.Kind),.d (.cx .f32 a2_.Load.A.re a2_.Load.A.im),.d (.cx .f32 a2_.Load.B.re a2_.Load.B.im),.d (.cx .f32 a2_.Load.C.re a2_.Load.C.im),.d (.int .i64 a2_.qan)]]) rfl (by simp) rfl (by trivial) ⟨rfl,trivial,rfl,trivial,rfl,trivial,trivial⟩) ?_
        refine qaz rfl (fun hc9=>?_) (fun hc9=>?_)
        · have h:=if_t h hc9
          refine qaa ?_
          refine qa2 ?_
          refine qa0 hτ rfl rfl rfl ?_
          refine qa0 hτ rfl rfl rfl ?_
          refine qac h fun x10 hx10 h=>?_
          refine qag hτ false [] rfl rfl rfl (qai func65 rfl rfl) rfl rfl (by simp) ⟨trivial,trivial,trivial⟩ (by trivial) (qk8 n v_ load_ hx10) ?_
          rintro r0 o0 n0 ⟨rfl,rfl,rfl⟩ -
          refine qa0 hτ rfl rfl rfl ?_
          refine qa6 ?_
          refine qab (qa5 [0] (l:=[(5,.d (.cx .f32 x10.re x10.im))]) (objs:=[.box [.d (.int .i64 a2_.qar),.d (.cx .f32 a2_.Own.re a2_.Own.im),.d (.cx .f32 a2_.Shared.re a2_.Shared.im),.d (.int .i64 a2_.Kind),.d (.cx .f32 a2_.Load.A.re a2_.Load.A.im),.d (.cx .f32 a2_.Load.B.re a2_.Load.B.im),.d (.cx .f32 a2_.Load.C.re a2_.Load.C.im),.d (.int .i64 a2_.qan)]]) rfl (by simp) rfl (by trivial) ⟨rfl,trivial,trivial⟩) ?_
          refine qas ?_
          have hr:=Option.some.inj h
          subst hr
          exact qah (.inr rfl) [] (objs':=[.box [.d (.int .i64 a2_.qar),.d (.cx .f32 a2_.Own.re a2_.Own.im),.d (.cx .f32 a2_.Shared.re a2_.Shared.im),.d (.int .i64 a2_.Kind),.d (.cx .f32 a2_.Load.A.re a2_.Load.A.im),.d (.cx .f32 a2_.Load.B.re a2_.Load.B.im),.d (.cx .f32 a2_.Load.C.re a2_.Load.C.im),.d (.int .i64 a2_.qan)]]) (new:=[]) rfl (by simp) (by simp) rfl (by trivial) rfl rfl (by trivial) (fun _=>⟨by simp [V.flat,V.qbh,V.qb7,D.flat],(qcr (by simp [AObj.flat,V.qb7,D.flat]) qao)⟩) ⟨rfl,rfl,rfl⟩
        · have h:=if_f h hc9
          refine qb3 ?_
          refine qaa ?_
          refine qa2 ?_
          refine qa0 hτ rfl rfl rfl ?_
          refine qa6 ?_
          refine qab (qa5 [0] (l:=[(5,.d (.cx .f32 (0:Nat) (0:Nat)))]) (objs:=[.box [.d (.int .i64 a2_.qar),.d (.cx .f32 a2_.Own.re a2_.Own.im),.d (.cx .f32 a2_.Shared.re a2_.Shared.im),.d (.int .i64 a2_.Kind),.d (.cx .f32 a2_.Load.A.re a2_.Load.A.im),.d (.cx .f32 a2_.Load.B.re a2_.Load.B.im),.d (.cx .f32 a2_.Load.C.re a2_.Load.C.im),.d (.int .i64 a2_.qan)]]) rfl (by simp) rfl (by trivial) ⟨rfl,trivial,trivial⟩) ?_
          refine qas ?_
          have hr:=Option.some.inj h
          subst hr
          exact qah (.inr rfl) [] (objs':=[.box [.d (.int .i64 a2_.qar),.d (.cx .f32 a2_.Own.re a2_.Own.im),.d (.cx .f32 a2_.Shared.re a2_.Shared.im),.d (.int .i64 a2_.Kind),.d (.cx .f32 a2_.Load.A.re a2_.Load.A.im),.d (.cx .f32 a2_.Load.B.re a2_.Load.B.im),.d (.cx .f32 a2_.Load.C.re a2_.Load.C.im),.d (.int .i64 a2_.qan)]]) (new:=[]) rfl (by simp) (by simp) rfl (by trivial) rfl rfl (by trivial) (fun _=>⟨by simp [V.flat,V.qbh,V.qb7,D.flat],(qcr (by simp [AObj.flat,V.qb7,D.flat]) qao)⟩) ⟨rfl,rfl,rfl⟩
theorem qgf (n:Nat) (load_:Cx) (v_:Cx) (a2_:SBus) {r:Cx} (h:qbb n load_ v_ a2_ = some r):qb0 prog false 177 [.d (.cx .f32 load_.re load_.im),.d (.cx .f32 v_.re v_.im),.ptr 0 0] [.box [.d (.int .i64 a2_.qar),.d (.cx .f32 a2_.Own.re a2_.Own.im),.d (.cx .f32 a2_.Shared.re a2_.Shared.im),.d (.int .i64 a2_.Kind),.d (.cx .f32 a2_.Load.A.re a2_.Load.A.im),.d (.cx .f32 a2_.Load.B.re a2_.Load.B.im),.d (.cx .f32 a2_.Load.C.re a2_.Load.C.im),.d (.int .i64 a2_.qan)]] (fun v o new=>v = .d (.cx .f32 r.re r.im)∧o = [.box [.d (.int .i64 a2_.qar),.d (.cx .f32 a2_.Own.re a2_.Own.im),.d (.cx .f32 a2_.Shared.re a2_.Shared.im),.d (.int .i64 a2_.Kind),.d (.cx .f32 a2_.Load.A.re a2_.Load.A.im),.d (.cx .f32 a2_.Load.B.re a2_.Load.B.im),.d (.cx .f32 a2_.Load.C.re a2_.Load.C.im),.d (.int .i64 a2_.qan)]]∧new = []):=impl_LoadCurrentOf_1_ok_fr0 false n load_ v_ a2_ h
def qi2 (n:Nat) (a_:qa7) (b_:qa7) (c_:SBus):Option qa7 :=
  (qbb n a_.A b_.A c_).bind fun x4 =>
  (qbb n a_.B b_.B c_).bind fun x5 =>
  (qbb n a_.C b_.C c_).bind fun x6 =>
  some (qa7.mk x4 x5 x6)
theorem impl_each_ok_fr0 (fr:Bool) (n:Nat) (a_:qa7) (b_:qa7) (c_:SBus) {r:qa7} (h:qi2 n a_ b_ c_ = some r):qb0 prog fr 157 [.agg [.d (.cx .f32 a_.A.re a_.A.im),.d (.cx .f32 a_.B.re a_.B.im),.d (.cx .f32 a_.C.re a_.C.im)],.agg [.d (.cx .f32 b_.A.re b_.A.im),.d (.cx .f32 b_.B.re b_.B.im),.d (.cx .f32 b_.C.re b_.C.im)],.func 177 [] [.ptr 0 0]] [.box [.d (.int .i64 c_.qar),.d (.cx .f32 c_.Own.re c_.Own.im),.d (.cx .f32 c_.Shared.re c_.Shared.im),.d (.int .i64 c_.Kind),.d (.cx .f32 c_.Load.A.re c_.Load.A.im),.d (.cx .f32 c_.Load.B.re c_.Load.B.im),.d (.cx .f32 c_.Load.C.re c_.Load.C.im),.d (.int .i64 c_.qan)]] (fun v o new=>v = .agg [.d (.cx .f32 r.A.re r.A.im),.d (.cx .f32 r.B.re r.B.im),.d (.cx .f32 r.C.re r.C.im)]∧o = [.box [.d (.int .i64 c_.qar),.d (.cx .f32 c_.Own.re c_.Own.im),.d (.cx .f32 c_.Shared.re c_.Shared.im),.d (.int .i64 c_.Kind),.d (.cx .f32 c_.Load.A.re c_.Load.A.im),.d (.cx .f32 c_.Load.B.re c_.Load.B.im),.d (.cx .f32 c_.Load.C.re c_.Load.C.im),.d (.int .i64 c_.qan)]]∧new = []):=by
  refine qal hτ func157 rfl (by simp) (by simp) ?_
  unfold qi2 at h
  refine qaa ?_
  refine qa2 ?_
  refine qak hτ rfl rfl rfl ?_
  refine qak hτ rfl rfl rfl ?_
  refine qak hτ rfl rfl rfl ?_
  refine qa6 ?_
  refine qaa ?_
  refine qcv ?_
  refine qad hτ [] 0 rfl rfl rfl rfl rfl ?_
  refine qad hτ [1] 1 rfl rfl rfl rfl rfl ?_
  refine qad hτ [1] 2 rfl rfl rfl rfl rfl ?_
  refine qad hτ [2] 3 rfl rfl rfl rfl rfl ?_
  refine qad hτ [2] 4 rfl rfl rfl rfl rfl ?_
  refine qad hτ [] 6 rfl rfl rfl rfl rfl ?_
  refine qad hτ [1] 7 rfl rfl rfl rfl rfl ?_
  refine qad hτ [1] 8 rfl rfl rfl rfl rfl ?_
  refine qad hτ [2] 9 rfl rfl rfl rfl rfl ?_
  refine qad hτ [2] 10 rfl rfl rfl rfl rfl ?_
  refine qad hτ [] 12 rfl rfl rfl rfl rfl ?_
  refine qad hτ [1] 13 rfl rfl rfl rfl rfl ?_
  refine qad hτ [1] 14 rfl rfl rfl rfl rfl ?_
  refine qad hτ [2] 15 rfl rfl rfl rfl rfl ?_
  refine qad hτ [2] 16 rfl rfl rfl rfl rfl ?_
  refine qac h fun x4 hx4 h=>?_
  refine qbd hτ false [0] [0,1,2,3] 5 rfl rfl rfl rfl (qai func177 rfl rfl) rfl rfl (by simp) ⟨trivial,trivial,trivial,trivial⟩ (by trivial) (qgf n a_.A b_.A c_ hx4) ⟨rfl,rfl,rfl,rfl,trivial⟩ ?_
  refine qac h fun x5 hx5 h=>?_
  refine qbd hτ false [0] [0,1,2,3] 11 rfl rfl rfl rfl (qai func177 rfl rfl) rfl rfl (by simp) ⟨trivial,trivial,trivial,trivial⟩ (by trivial) (qgf n a_.B b_.B c_ hx5) ⟨rfl,rfl,rfl,rfl,trivial⟩ ?_
  refine qac h fun x6 hx6 h=>?_
  refine qbd hτ false [0] [0,1,2,3] 17 rfl rfl rfl rfl (qai func177 rfl rfl) rfl rfl (by simp) ⟨trivial,trivial,trivial,trivial⟩ (by trivial) (qgf n a_.C b_.C c_ hx6) ⟨rfl,rfl,rfl,rfl,trivial⟩ ?_
  refine qad hτ [] 18 rfl rfl rfl rfl rfl ?_
  refine qcd hτ [0,1,2] 19 rfl rfl rfl rfl ⟨rfl,rfl,rfl,trivial⟩ ?_
  refine qd4 mixed (by kernel_rfl) ?_
  refine qab (qa5 [0,3] (l:=[(6,.ptr 1 0)]) (objs:=[.box [.d (.int .i64 c_.qar),.d (.cx .f32 c_.Own.re c_.Own.im),.d (.cx .f32 c_.Shared.re c_.Shared.im),.d (.int .i64 c_.Kind),.d (.cx .f32 c_.Load.A.re c_.Load.A.im),.d (.cx .f32 c_.Load.B.re c_.Load.B.im),.d (.cx .f32 c_.Load.C.re c_.Load.C.im),.d (.int .i64 c_.qan)],.box [.d (.cx .f32 x4.re x4.im),.d (.cx .f32 x5.re x5.im),.d (.cx .f32 x6.re x6.im)]]) rfl (by simp) rfl (by trivial) ⟨rfl,trivial,trivial⟩) ?_
  refine qas ?_
  have hr:=Option.some.inj h
  subst hr
  exact qah (.inr rfl) [] (objs':=[.box [.d (.int .i64 c_.qar),.d (.cx .f32 c_.Own.re c_.Own.im),.d (.cx .f32 c_.Shared.re c_.Shared.im),.d (.int .i64 c_.Kind),.d (.cx .f32 c_.Load.A.re c_.Load.A.im),.d (.cx .f32 c_.Load.B.re c_.Load.B.im),.d (.cx .f32 c_.Load.C.re c_.Load.C.im),.d (.int .i64 c_.qan)]]) (new:=[]) rfl (by simp) (by simp) rfl (by trivial) rfl rfl (by trivial) (fun _=>⟨by simp [V.flat,V.qbh,V.qb7,D.flat],(qcr (by simp [AObj.flat,V.qb7,D.flat]) qao)⟩) ⟨rfl,rfl,rfl⟩
theorem impl_each_ok (n:Nat) (a_:qa7) (b_:qa7) (c_:SBus) {r:qa7} (h:qi2 n a_ b_ c_ = some r):qb0 prog false 157 [.agg [.d (.cx .f32 a_.A.re a_.A.im),.d (.cx .f32 a_.B.re a_.B.im),.d (.cx .f32 a_.C.re a_.C.im)],.agg [.d (.cx .f32 b_.A.re b_.A.im),.d (.cx .f32 b_.B.re b_.B.im),.d (.cx .f32 b_.C.re b_.C.im)],.func 177 [] [.ptr 0 0]] [.box [.d (.int .i64 c_.qar),.d (.cx .f32 c_.Own.re c_.Own.im),.d (.cx .f32 c_.Shared.re c_.Shared.im),.d (.int .i64 c_.Kind),.d (.cx .f32 c_.Load.A.re c_.Load.A.im),.d (.cx .f32 c_.Load.B.re c_.Load.B.im),.d (.cx .f32 c_.Load.C.re c_.Load.C.im),.d (.int .i64 c_.qan)]] (fun v o new=>v = .agg [.d (.cx .f32 r.A.re r.A.im),.d (.cx .f32 r.B.re r.B.im),.d (.cx .f32 r.C.re r.C.im)]∧o = [.box [.d (.int .i64 c_.qar),.d (.cx .f32 c_.Own.re c_.Own.im),.d (.cx .f32 c_.Shared.re c_.Shared.im),.d (.int .i64 c_.Kind),.d (.cx .f32 c_.Load.A.re c_.Load.A.im),.d (.cx .f32 c_.Load.B.re c_.Load.B.im),.d (.cx .f32 c_.Load.C.re c_.Load.C.im),.d (.int .i64 c_.qan)]]∧new = []):=impl_each_ok_fr0 false n a_ b_ c_ h
def qbo (n:Nat) (b_:SBus) (voltage_:qa7):Option qa7 :=
  (qi2 n b_.Load voltage_ b_).bind fun x2 =>
  some x2
theorem impl_LoadCurrentOf_ok_fr0 (fr:Bool) (n:Nat) (b_:SBus) (voltage_:qa7) {r:qa7} (h:qbo n b_ voltage_ = some r):qb0 prog fr 160 [.agg [.d (.int .i64 b_.qar),.d (.cx .f32 b_.Own.re b_.Own.im),.d (.cx .f32 b_.Shared.re b_.Shared.im),.d (.int .i64 b_.Kind),.d (.cx .f32 b_.Load.A.re b_.Load.A.im),.d (.cx .f32 b_.Load.B.re b_.Load.B.im),.d (.cx .f32 b_.Load.C.re b_.Load.C.im),.d (.int .i64 b_.qan)],.agg [.d (.cx .f32 voltage_.A.re voltage_.A.im),.d (.cx .f32 voltage_.B.re voltage_.B.im),.d (.cx .f32 voltage_.C.re voltage_.C.im)]] [] (fun v o new=>v = .agg [.d (.cx .f32 r.A.re r.A.im),.d (.cx .f32 r.B.re r.B.im),.d (.cx .f32 r.C.re r.C.im)]∧o = []∧new = []):=by
  refine qal hτ func160 rfl (by simp) (by simp) ?_
  unfold qbo at h
  refine qaa ?_
  refine qa2 ?_
  refine qak hτ rfl rfl rfl ?_
  refine qak hτ rfl rfl rfl ?_
  refine qak hτ rfl rfl rfl ?_
  refine qa6 ?_
  refine qaa ?_
  refine qa2 ?_
  refine qa0 hτ rfl rfl rfl ?_
  refine qa0 hτ rfl rfl rfl ?_
  refine qa0 hτ rfl rfl rfl ?_
  refine qa0 hτ rfl rfl rfl ?_
  refine qac h fun x2 hx2 h=>?_
  refine qag hτ false [0] rfl rfl rfl (qai func157 rfl rfl) rfl rfl (by simp) ⟨(by trivial),(by trivial),(by trivial),trivial⟩ (by trivial) (impl_each_ok n b_.Load voltage_ b_ hx2) ?_
  rintro r0 o0 n0 ⟨rfl,rfl,rfl⟩ -
  refine qak hτ rfl rfl rfl ?_
  refine qa6 ?_
  refine qab (qa5 [2] (l:=[(4,.ptr 0 0)]) (objs:=[.box [.d (.cx .f32 x2.A.re x2.A.im),.d (.cx .f32 x2.B.re x2.B.im),.d (.cx .f32 x2.C.re x2.C.im)]]) rfl (by simp) rfl (by trivial) ⟨rfl,trivial,trivial⟩) ?_
  refine qas ?_
  have hr:=Option.some.inj h
  subst hr
  exact qah (.inr rfl) [] (objs':=[]) (new:=[]) rfl (by simp) (by simp) rfl (by trivial) rfl rfl (by trivial) (fun _=>⟨by simp [V.flat,V.qbh,V.qb7,D.flat],qao⟩) ⟨rfl,rfl,rfl⟩
theorem impl_LoadCurrentOf_ok (n:Nat) (b_:SBus) (voltage_:qa7) {r:qa7} (h:qbo n b_ voltage_ = some r):qb0 prog false 160 [.agg [.d (.int .i64 b_.qar),.d (.cx .f32 b_.Own.re b_.Own.im),.d (.cx .f32 b_.Shared.re b_.Shared.im),.d (.int .i64 b_.Kind),.d (.cx .f32 b_.Load.A.re b_.Load.A.im),.d (.cx .f32 b_.Load.B.re b_.Load.B.im),.d (.cx .f32 b_.Load.C.re b_.Load.C.im),.d (.int .i64 b_.qan)],.agg [.d (.cx .f32 voltage_.A.re voltage_.A.im),.d (.cx .f32 voltage_.B.re voltage_.B.im),.d (.cx .f32 voltage_.C.re voltage_.C.im)]] [] (fun v o new=>v = .agg [.d (.cx .f32 r.A.re r.A.im),.d (.cx .f32 r.B.re r.B.im),.d (.cx .f32 r.C.re r.C.im)]∧o = []∧new = []):=impl_LoadCurrentOf_ok_fr0 false n b_ voltage_ h
end Go.Proofs.Ytdnkjocenbepaaa.AWN
