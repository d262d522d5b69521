/- Models and contracts, printed by program. -/
import Derived.Test.YtmllgpkgjniomaaTripsB
set_option linter.unusedVariables false
set_option linter.unusedSimpArgs false
set_option linter.unusedSectionVars false
set_option maxHeartbeats 2000000
namespace Go.Proofs.Ytmllgpkgjniomaa.AWN
open Go Go.Proofs.Try
def qan (x:Int):List D:=[.int .u8 x]
@[simp] theorem eIntu8_len (x:Int):(qan x).length = 1:=rfl
structure qau where
  code:List Int
  at_:Int
  seed:Int
deriving DecidableEq
structure qh5 where
  A:Cx
  B:Cx
  C:Cx
deriving DecidableEq
structure SBus where
  qcx:Int
  Own:Cx
  Shared:Cx
  Kind:Int
  Load:qh5
  qbl:Int
deriving DecidableEq
def qai (x:SBus):List D:=[.int .i64 x.qcx,.cx .f32 x.Own.re x.Own.im,.cx .f32 x.Shared.re x.Shared.im,.int .i64 x.Kind,.cx .f32 x.Load.A.re x.Load.A.im,.cx .f32 x.Load.B.re x.Load.B.im,.cx .f32 x.Load.C.re x.Load.C.im,.int .i64 x.qbl]
@[simp] theorem eSBus_len (x:SBus):(qai x).length = 8:=rfl
theorem eSBus_flat (x:SBus):∀ c ∈ qai x,c.flat:=by simp [qai,D.flat]
def qac (x:Int):List D:=[.int .i64 x]
@[simp] theorem eInti64_len (x:Int):(qac x).length = 1:=rfl
theorem qft (x:Int):∀ c ∈ qac x,c.flat:=by simp [qac,D.flat]
structure qax where
  Source:qh5
  qaf:List SBus
deriving DecidableEq
structure qbq where
  qa8:List Nat
  Times:List Nat
deriving DecidableEq
structure qas where
  Bus:Int
  qcp:qbq
deriving DecidableEq
def qa4 (x:Nat):List D:=[.fl .f32 x]
@[simp] theorem eNatf32_len (x:Nat):(qa4 x).length = 1:=rfl
def qa9 (x:qas):List D:=[.int .i64 x.Bus,.sl false (x.qcp.qa8.map qa4),.sl false (x.qcp.Times.map qa4)]
@[simp] theorem eSDevice_len (x:qas):(qa9 x).length = 3:=rfl
def qbi (x:Nat):D:=.fl .f32 x
theorem qkq (x:Nat):(qbi x).flat:=trivial
def qdg (x:List Int):List D:=[.sl false (x.map qac)]
@[simp] theorem eLInt_len (x:List Int):(qdg x).length = 1:=rfl
theorem ext172 {x:Int} (hx:x.toNat < 4294967296):qoa prog 172 [.d (.int .u32 x)] (.d (.fl .f32 (canon .f32 x.toNat))):=qtp (e:=Extern.MathFloatBits.float32frombits) func172 rfl rfl (by kernel_rfl) (by kernel_rfl) fun W hb H ok vals h=>qnu (k:=.f32) (fun _=>rfl) hx h
theorem ext181 {x:Int} (hx:x.toNat < 18446744073709551616):qoa prog 181 [.d (.int .u64 x)] (.d (.fl .f64 (canon .f64 x.toNat))):=qtp (e:=Extern.MathFloatBits.float64frombits) func181 rfl rfl (by kernel_rfl) (by kernel_rfl) fun W hb H ok vals h=>qnu (k:=.f64) (fun _=>rfl) hx h
def qi6 (n:Nat) (code_:List Int) (more_:List Int):Option Bool :=
  if (code_.length:Int) > (1048576:Int) then
    some true
  else
    some (decide ((more_.length:Int) > (1048576:Int)))
theorem laws_b10Long_ok_fr0 (fr:Bool) (n:Nat) (code_:List Int) (more_:List Int) {r:Bool} (h:qi6 n code_ more_ = some r):qb9 prog fr 19 [.d (.sl false (code_.map qan)),.d (.sl false (more_.map qan))] [] (fun v o new=>v = .d (.bool r)∧o = []∧new = []):=by
  refine qak hτ func19 rfl (by simp) (by simp) ?_
  unfold qi6 at h
  refine qa5 ?_
  refine qa1 ?_
  refine qa0 hτ rfl rfl rfl ?_
  refine qa3 ?_
  refine qa5 ?_
  refine qa1 ?_
  refine qa0 hτ rfl rfl rfl ?_
  refine qa0 hτ (v:=.d (.int .i64 (code_.length:Int))) rfl rfl (Eq.trans rfl (qdb (f:=qan) code_)) ?_
  refine qa0 hτ rfl rfl rfl ?_
  refine qa0 hτ rfl rfl rfl ?_
  refine qb4 8 rfl (fun hb3=>?_) (fun hb3=>?_)
  · have h:=if_t h hb3
    refine qa6 rfl rfl ?_
    refine qa6 rfl rfl ?_
    refine qa6 rfl rfl ?_
    refine qa0 hτ rfl rfl rfl ?_
    refine qa0 hτ rfl rfl rfl ?_
    refine qa3 ?_
    refine qa7 (qa2 [] (l:=[(4,.d (.bool true))]) (objs:=[]) rfl (by simp) rfl (by trivial) ⟨rfl,trivial,trivial⟩) ?_
    refine qar ?_
    have hr:=Option.some.inj h
    subst hr
    exact qah (.inr rfl) [] (objs':=[]) (new:=[]) rfl (by simp) (by simp) rfl (by trivial) rfl rfl (by trivial) (fun _=>⟨by simp [V.flat,V.qbk,V.qbf,D.flat],qal⟩) ⟨rfl,rfl,rfl⟩
  · have h:=if_f h hb3
    refine qa0 hτ rfl rfl rfl ?_
    refine qa0 hτ (v:=.d (.int .i64 (more_.length:Int))) rfl rfl (Eq.trans rfl (qdb (f:=qan) more_)) ?_
    refine qa0 hτ rfl rfl rfl ?_
    refine qa0 hτ rfl rfl rfl ?_
    refine qa0 hτ rfl rfl rfl ?_
    refine qa3 ?_
    refine qa7 (qa2 [] (l:=[(4,.d (.bool (decide ((more_.length:Int) > (1048576:Int)))))]) (objs:=[]) rfl (by simp) rfl (by trivial) ⟨rfl,trivial,trivial⟩) ?_
    refine qar ?_
    have hr:=Option.some.inj h
    subst hr
    exact qah (.inr rfl) [] (objs':=[]) (new:=[]) rfl (by simp) (by simp) rfl (by trivial) rfl rfl (by trivial) (fun _=>⟨by simp [V.flat,V.qbk,V.qbf,D.flat],qal⟩) ⟨rfl,rfl,rfl⟩
theorem laws_b10Long_ok (n:Nat) (code_:List Int) (more_:List Int) {r:Bool} (h:qi6 n code_ more_ = some r):qb9 prog false 19 [.d (.sl false (code_.map qan)),.d (.sl false (more_.map qan))] [] (fun v o new=>v = .d (.bool r)∧o = []∧new = []):=laws_b10Long_ok_fr0 false n code_ more_ h
def qi7 (n:Nat) (code_:List Int):Option qau :=
  some (qau.mk code_ (0:Int) (0:Int))
theorem qm1 (n:Nat) (code_:List Int) {r:qau} (h:qi7 n code_ = some r):qb9 prog false 48 [.d (.sl false (code_.map qan))] [] (fun v o new=>v = .ptr 0 0∧o = []∧new = [.box [.d (.sl false (r.code.map qan)),.d (.int .i64 r.at_),.d (.int .u64 r.seed)]]):=by
  refine qak hτ func48 rfl (by simp) (by simp) ?_
  unfold qi7 at h
  refine qa5 ?_
  refine qa1 ?_
  refine qa0 hτ rfl rfl rfl ?_
  refine qa3 ?_
  refine qa5 ?_
  refine qa1 ?_
  refine qa0 hτ rfl rfl rfl ?_
  refine qa0 hτ rfl rfl rfl ?_
  refine qav hτ rfl rfl rfl ?_
  refine qa0 hτ rfl rfl rfl ?_
  refine qa3 ?_
  refine qa7 (qa2 [0] (l:=[(2,.ptr 0 0)]) (objs:=[.box [.d (.sl false (code_.map qan)),.d (.int .i64 (0:Int)),.d (.int .u64 (0:Int))]]) rfl (by simp) rfl (by trivial) ⟨rfl,trivial,trivial⟩) ?_
  refine qar ?_
  have hr:=Option.some.inj h
  subst hr
  exact qah (.inr rfl) [0] (objs':=[]) (new:=[.box [.d (.sl false (code_.map qan)),.d (.int .i64 (0:Int)),.d (.int .u64 (0:Int))]]) rfl (by simp) (by simp) rfl (by trivial) rfl rfl (by trivial) (fun h=>nomatch h) ⟨rfl,rfl,rfl⟩
def qd8 (n:Nat) (s_:qau) (v5:Int):Option (Int × qau) :=
  if (w64 (s_.at_ + (1:Int))) ≤ (s_.code.length:Int) then
    some (v5,(qau.mk s_.code (w64 (s_.at_ + (1:Int))) (IntKind.wrap .u64 ((IntKind.wrap .u64 ((IntKind.wrap .u64 (s_.seed * (6364136223846793005:Int))) + (IntKind.wrap .u64 (v5)))) + (1442695040888963407:Int)))))
  else
    some ((w64 ((qmo .and .u64 ((IntKind.wrap .u64 ((IntKind.wrap .u64 ((IntKind.wrap .u64 (s_.seed * (6364136223846793005:Int))) + (IntKind.wrap .u64 (v5)))) + (1442695040888963407:Int))).fdiv (2 ^ min (40:Int).toNat (IntKind.bits .u64))) (255:Int)))),(qau.mk s_.code (w64 (s_.at_ + (1:Int))) (IntKind.wrap .u64 ((IntKind.wrap .u64 ((IntKind.wrap .u64 (s_.seed * (6364136223846793005:Int))) + (IntKind.wrap .u64 (v5)))) + (1442695040888963407:Int)))))
def qfi (n:Nat) (s_:qau):Option (Int × qau) :=
  if s_.at_ < (s_.code.length:Int) then
    (getI s_.code s_.at_).bind fun x9 =>
    qd8 n s_ (w64 (x9))
  else
    qd8 n s_ (0:Int)
theorem ql4 (n:Nat) (s_:qau) {r:Int × qau} (h:qfi n s_ = some r):qb9 prog false 138 [.ptr 0 0] [.box [.d (.sl false (s_.code.map qan)),.d (.int .i64 s_.at_),.d (.int .u64 s_.seed)]] (fun v o new=>v = .d (.int .i64 r.1)∧o = [.box [.d (.sl false (r.2.code.map qan)),.d (.int .i64 r.2.at_),.d (.int .u64 r.2.seed)]]∧new = []):=by
  refine qak hτ func138 rfl (by simp) (by simp) ?_
  unfold qfi at h
  refine qa5 ?_
  refine qa1 ?_
  refine qa0 hτ rfl rfl rfl ?_
  refine qa3 ?_
  refine qa5 ?_
  refine qa1 ?_
  refine qa0 hτ rfl rfl rfl ?_
  refine qa3 ?_
  refine qb8 (ι:=Int) (fun v5=>St.of [(0,.ptr 0 0),(3,.d (.int .i64 v5))] [.box [.d (.sl false (s_.code.map qan)),.d (.int .i64 s_.at_),.d (.int .u64 s_.seed)]] f138.ntmps 1) (fun v5=>qd8 n s_ v5 = some r) ?_ (fun hk7=>?_)
  · rintro v5 h
    replace h:qd8 n s_ v5 = some r:=h
    unfold qd8 at h
    refine qa5 ?_
    refine qa1 ?_
    refine qa0 hτ rfl rfl rfl ?_
    refine qa0 hτ rfl rfl rfl ?_
    refine qa0 hτ rfl rfl rfl ?_
    refine qa0 hτ rfl rfl rfl ?_
    refine qa0 hτ rfl rfl rfl ?_
    refine qa0 hτ rfl rfl rfl ?_
    refine qa0 hτ rfl rfl rfl ?_
    refine qav hτ rfl rfl rfl ?_
    refine qa3 ?_
    refine qa5 ?_
    refine qa7 (qa2 [0] (l:=[(0,.ptr 0 0),(3,.d (.int .i64 v5))]) (objs:=[.box [.d (.sl false (s_.code.map qan)),.d (.int .i64 (w64 (s_.at_ + (1:Int)))),.d (.int .u64 s_.seed)]]) rfl (by simp) rfl (by trivial) ⟨rfl,trivial,rfl,trivial,trivial⟩) ?_
    refine qa1 ?_
    refine qa0 hτ rfl rfl rfl ?_
    refine qa0 hτ rfl rfl rfl ?_
    refine qa0 hτ rfl rfl rfl ?_
    refine qa0 hτ rfl rfl rfl ?_
    refine qa0 hτ rfl rfl rfl ?_
    refine qa0 hτ rfl rfl rfl ?_
    refine qa0 hτ rfl rfl rfl ?_
    refine qa0 hτ rfl rfl rfl ?_
    refine qa0 hτ rfl rfl rfl ?_
    refine qa0 hτ rfl rfl rfl ?_
    refine qa0 hτ rfl rfl rfl ?_
    refine qa0 hτ rfl rfl rfl ?_
    refine qat (qa2 [0] (l:=[(0,.ptr 0 0),(3,.d (.int .i64 v5)),(41,.d (.int .u64 (IntKind.wrap .u64 ((IntKind.wrap .u64 ((IntKind.wrap .u64 (s_.seed * (6364136223846793005:Int))) + (IntKind.wrap .u64 (v5)))) + (1442695040888963407:Int))))),(43,.ptr 0 2)]) (objs:=[.box [.d (.sl false (s_.code.map qan)),.d (.int .i64 (w64 (s_.at_ + (1:Int)))),.d (.int .u64 s_.seed)]]) rfl (by simp) rfl (by trivial) ⟨rfl,trivial,rfl,trivial,rfl,trivial,rfl,trivial,trivial⟩) ?_
    refine qav hτ rfl rfl rfl ?_
    refine qa3 ?_
    refine qa5 ?_
    refine qa5 ?_
    refine qel ?_
    refine qab hτ [] 0 rfl rfl rfl rfl rfl ?_
    refine qab hτ [] 1 rfl rfl rfl rfl rfl ?_
    refine qab hτ [0] 2 rfl rfl rfl rfl rfl ?_
    refine qab hτ [0] 3 rfl rfl rfl rfl rfl ?_
    refine qab hτ [] 4 rfl rfl rfl rfl rfl ?_
    refine qab hτ [] 5 rfl rfl rfl rfl rfl ?_
    refine qab hτ [0] 6 rfl rfl rfl rfl rfl ?_
    refine qab hτ [0] 7 rfl rfl rfl rfl rfl ?_
    refine qab hτ (v:=.d (.int .i64 (s_.code.length:Int))) [] 8 rfl rfl rfl rfl (Eq.trans rfl (qdb (f:=qan) s_.code)) ?_
    refine qab hτ [] 9 rfl rfl rfl rfl rfl ?_
    refine qcy mixed (by kernel_rfl) ?_
    refine qa7 (qa2 [0] (l:=[(0,.ptr 0 0),(3,.d (.int .i64 v5)),(53,.d (.bool (decide ((w64 (s_.at_ + (1:Int))) ≤ (s_.code.length:Int)))))]) (objs:=[.box [.d (.sl false (s_.code.map qan)),.d (.int .i64 (w64 (s_.at_ + (1:Int)))),.d (.int .u64 (IntKind.wrap .u64 ((IntKind.wrap .u64 ((IntKind.wrap .u64 (s_.seed * (6364136223846793005:Int))) + (IntKind.wrap .u64 (v5)))) + (1442695040888963407:Int))))]]) rfl (by simp) rfl (by trivial) ⟨rfl,trivial,rfl,trivial,rfl,trivial,trivial⟩) ?_
    refine qao rfl (fun hc6=>?_) (fun hc6=>?_)
    · have h:=if_t h hc6
      refine qa5 ?_
      refine qa1 ?_
      refine qa0 hτ rfl rfl rfl ?_
      refine qa0 hτ rfl rfl rfl ?_
      refine qa3 ?_
      refine qa7 (qa2 [0] (l:=[(2,.d (.int .i64 v5))]) (objs:=[.box [.d (.sl false (s_.code.map qan)),.d (.int .i64 (w64 (s_.at_ + (1:Int)))),.d (.int .u64 (IntKind.wrap .u64 ((IntKind.wrap .u64 ((IntKind.wrap .u64 (s_.seed * (6364136223846793005:Int))) + (IntKind.wrap .u64 (v5)))) + (1442695040888963407:Int))))]]) rfl (by simp) rfl (by trivial) ⟨rfl,trivial,trivial⟩) ?_
      refine qar ?_
      have hr:=Option.some.inj h
      subst hr
      exact qah (.inr rfl) [] (objs':=[.box [.d (.sl false (s_.code.map qan)),.d (.int .i64 (w64 (s_.at_ + (1:Int)))),.d (.int .u64 (IntKind.wrap .u64 ((IntKind.wrap .u64 ((IntKind.wrap .u64 (s_.seed * (6364136223846793005:Int))) + (IntKind.wrap .u64 (v5)))) + (1442695040888963407:Int))))]]) (new:=[]) rfl (by simp) (by simp) rfl (by trivial) rfl rfl (by trivial) (fun h=>nomatch h) ⟨rfl,rfl,rfl⟩
    · have h:=if_f h hc6
      refine qap ?_
      refine qa5 ?_
      refine qa1 ?_
      refine qa0 hτ rfl rfl rfl ?_
      refine qa0 hτ rfl rfl rfl ?_
      refine qa0 hτ rfl rfl rfl ?_
      refine qa0 hτ rfl rfl rfl ?_
      refine qcl hτ rfl rfl rfl (by decide) ?_
      refine qa0 hτ rfl rfl rfl ?_
      refine qa0 hτ rfl rfl rfl ?_
      refine qa0 hτ rfl rfl rfl ?_
      refine qa3 ?_
      refine qa7 (qa2 [0] (l:=[(2,.d (.int .i64 (w64 ((qmo .and .u64 ((IntKind.wrap .u64 ((IntKind.wrap .u64 ((IntKind.wrap .u64 (s_.seed * (6364136223846793005:Int))) + (IntKind.wrap .u64 (v5)))) + (1442695040888963407:Int))).fdiv (2 ^ min (40:Int).toNat (IntKind.bits .u64))) (255:Int))))))]) (objs:=[.box [.d (.sl false (s_.code.map qan)),.d (.int .i64 (w64 (s_.at_ + (1:Int)))),.d (.int .u64 (IntKind.wrap .u64 ((IntKind.wrap .u64 ((IntKind.wrap .u64 (s_.seed * (6364136223846793005:Int))) + (IntKind.wrap .u64 (v5)))) + (1442695040888963407:Int))))]]) rfl (by simp) rfl (by trivial) ⟨rfl,trivial,trivial⟩) ?_
      refine qar ?_
      have hr:=Option.some.inj h
      subst hr
      exact qah (.inr rfl) [] (objs':=[.box [.d (.sl false (s_.code.map qan)),.d (.int .i64 (w64 (s_.at_ + (1:Int)))),.d (.int .u64 (IntKind.wrap .u64 ((IntKind.wrap .u64 ((IntKind.wrap .u64 (s_.seed * (6364136223846793005:Int))) + (IntKind.wrap .u64 (v5)))) + (1442695040888963407:Int))))]]) (new:=[]) rfl (by simp) (by simp) rfl (by trivial) rfl rfl (by trivial) (fun h=>nomatch h) ⟨rfl,rfl,rfl⟩
  · refine qa5 ?_
    refine qa5 ?_
    refine qel ?_
    refine qab hτ [] 0 rfl rfl rfl rfl rfl ?_
    refine qab hτ [] 1 rfl rfl rfl rfl rfl ?_
    refine qab hτ [0] 2 rfl rfl rfl rfl rfl ?_
    refine qab hτ [0] 3 rfl rfl rfl rfl rfl ?_
    refine qab hτ [] 4 rfl rfl rfl rfl rfl ?_
    refine qab hτ [] 5 rfl rfl rfl rfl rfl ?_
    refine qab hτ [0] 6 rfl rfl rfl rfl rfl ?_
    refine qab hτ [0] 7 rfl rfl rfl rfl rfl ?_
    refine qab hτ (v:=.d (.int .i64 (s_.code.length:Int))) [] 8 rfl rfl rfl rfl (Eq.trans rfl (qdb (f:=qan) s_.code)) ?_
    refine qab hτ [] 9 rfl rfl rfl rfl rfl ?_
    refine qcy mixed (by kernel_rfl) ?_
    refine qa7 (qa2 [0] (l:=[(0,.ptr 0 0),(3,.d (.int .i64 (0:Int))),(13,.d (.bool (decide (s_.at_ < (s_.code.length:Int)))))]) (objs:=[.box [.d (.sl false (s_.code.map qan)),.d (.int .i64 s_.at_),.d (.int .u64 s_.seed)]]) rfl (by simp) rfl (by trivial) ⟨rfl,trivial,rfl,trivial,rfl,trivial,trivial⟩) ?_
    refine qao rfl (fun hc8=>?_) (fun hc8=>?_)
    · have h:=if_t h hc8
      refine qel ?_
      refine qab hτ [] 0 rfl rfl rfl rfl rfl ?_
      refine qab hτ [] 1 rfl rfl rfl rfl rfl ?_
      refine qab hτ [0] 2 rfl rfl rfl rfl rfl ?_
      refine qab hτ [0] 3 rfl rfl rfl rfl rfl ?_
      refine qab hτ [] 4 rfl rfl rfl rfl rfl ?_
      refine qab hτ [] 5 rfl rfl rfl rfl rfl ?_
      refine qab hτ [0] 6 rfl rfl rfl rfl rfl ?_
      refine qab hτ [0] 7 rfl rfl rfl rfl rfl ?_
      refine qaa h fun x9 hx9 h=>?_
      refine qc8 hτ [] 8 rfl rfl rfl rfl rfl (qaw hx9).1 (qb5 hx9) rfl ?_
      refine qab hτ [] 9 rfl rfl rfl rfl rfl ?_
      refine qab hτ [] 10 rfl rfl rfl rfl rfl ?_
      refine qab hτ [] 11 rfl rfl rfl rfl rfl ?_
      refine qcy mixed (by kernel_rfl) ?_
      refine qa7 (qa2 [0] (l:=[(0,.ptr 0 0),(3,.d (.int .i64 (w64 (x9))))]) (objs:=[.box [.d (.sl false (s_.code.map qan)),.d (.int .i64 s_.at_),.d (.int .u64 s_.seed)]]) rfl (by simp) rfl (by trivial) ⟨rfl,trivial,rfl,trivial,trivial⟩) ?_
      exact hk7 (w64 (x9)) h
    · have h:=if_f h hc8
      refine qap ?_
      refine qa7 (qa2 [0] (l:=[(0,.ptr 0 0),(3,.d (.int .i64 (0:Int)))]) (objs:=[.box [.d (.sl false (s_.code.map qan)),.d (.int .i64 s_.at_),.d (.int .u64 s_.seed)]]) rfl (by simp) rfl (by trivial) ⟨rfl,trivial,rfl,trivial,trivial⟩) ?_
      exact hk7 (0:Int) h
def qd9 (n:Nat) (n_:Int) (v15:List Int) (v16:Int) (v17:Int) (v18:Int):Option (Int × qau) :=
  grd (n_ ≠ 0) <|
  some ((v18.tmod n_),(qau.mk v15 v16 v17))
def qaq (n:Nat) (s_:qau) (n_:Int):Option (Int × qau) :=
  if n_ ≤ (1:Int) then
    some ((0:Int),s_)
  else
    (qfi n s_).bind fun x9 =>
    if n_ > (200:Int) then
      (qfi n x9.2).bind fun x22 =>
      qd9 n n_ x22.2.code x22.2.at_ x22.2.seed (w64 ((w64 (x9.1 * (256:Int))) + x22.1))
    else
      qd9 n n_ x9.2.code x9.2.at_ x9.2.seed x9.1
theorem qb3 (n:Nat) (s_:qau) (n_:Int) {r:Int × qau} (h:qaq n s_ n_ = some r):qb9 prog false 97 [.ptr 0 0,.d (.int .i64 n_)] [.box [.d (.sl false (s_.code.map qan)),.d (.int .i64 s_.at_),.d (.int .u64 s_.seed)]] (fun v o new=>v = .d (.int .i64 r.1)∧o = [.box [.d (.sl false (r.2.code.map qan)),.d (.int .i64 r.2.at_),.d (.int .u64 r.2.seed)]]∧new = []):=by
  refine qak hτ func97 rfl (by simp) (by simp) ?_
  unfold qaq at h
  refine qa5 ?_
  refine qa1 ?_
  refine qa0 hτ rfl rfl rfl ?_
  refine qa3 ?_
  refine qa5 ?_
  refine qa5 ?_
  refine qa1 ?_
  refine qa0 hτ rfl rfl rfl ?_
  refine qa0 hτ rfl rfl rfl ?_
  refine qa3 ?_
  refine qao rfl (fun hc8=>?_) (fun hc8=>?_)
  · have h:=if_t h hc8
    refine qa5 ?_
    refine qa1 ?_
    refine qa0 hτ rfl rfl rfl ?_
    refine qa3 ?_
    refine qa7 (qa2 [0] (l:=[(4,.d (.int .i64 (0:Int)))]) (objs:=[.box [.d (.sl false (s_.code.map qan)),.d (.int .i64 s_.at_),.d (.int .u64 s_.seed)]]) rfl (by simp) rfl (by trivial) ⟨rfl,trivial,trivial⟩) ?_
    refine qar ?_
    have hr:=Option.some.inj h
    subst hr
    exact qah (.inr rfl) [] (objs':=[.box [.d (.sl false (s_.code.map qan)),.d (.int .i64 s_.at_),.d (.int .u64 s_.seed)]]) (new:=[]) rfl (by simp) (by simp) rfl (by trivial) rfl rfl (by trivial) (fun h=>nomatch h) ⟨rfl,rfl,rfl⟩
  · have h:=if_f h hc8
    refine qap ?_
    refine qa5 ?_
    refine qa1 ?_
    refine qa0 hτ rfl rfl rfl ?_
    refine qaa h fun x9 hx9 h=>?_
    refine qag hτ false [0] rfl rfl rfl (qaj func138 rfl rfl) rfl rfl (by simp) ⟨trivial,trivial⟩ (by trivial) (ql4 n s_ hx9) ?_
    rintro r0 o0 n0 ⟨rfl,rfl,rfl⟩ -
    refine qa0 hτ rfl rfl rfl ?_
    refine qa3 ?_
    refine qb8 (ι:=List Int × Int × Int × Int) (fun (v15,v16,v17,v18)=>St.of [(1,.d (.int .i64 n_)),(5,.d (.int .i64 v18))] [.box [.d (.sl false (v15.map qan)),.d (.int .i64 v16),.d (.int .u64 v17)]] f97.ntmps 1) (fun (v15,v16,v17,v18)=>qd9 n n_ v15 v16 v17 v18 = some r) ?_ (fun hk20=>?_)
    · rintro ⟨v15,v16,v17,v18⟩ h
      replace h:qd9 n n_ v15 v16 v17 v18 = some r:=h
      unfold qd9 at h
      refine qa5 ?_
      refine qa1 ?_
      refine qa0 hτ rfl rfl rfl ?_
      refine qa0 hτ rfl rfl rfl ?_
      refine qf2 h fun hg19 h=>?_
      refine qcl hτ rfl rfl rfl hg19 ?_
      refine qa0 hτ rfl rfl rfl ?_
      refine qa3 ?_
      refine qa7 (qa2 [0] (l:=[(4,.d (.int .i64 (v18.tmod n_)))]) (objs:=[.box [.d (.sl false (v15.map qan)),.d (.int .i64 v16),.d (.int .u64 v17)]]) rfl (by simp) rfl (by trivial) ⟨rfl,trivial,trivial⟩) ?_
      refine qar ?_
      have hr:=Option.some.inj h
      subst hr
      exact qah (.inr rfl) [] (objs':=[.box [.d (.sl false (v15.map qan)),.d (.int .i64 v16),.d (.int .u64 v17)]]) (new:=[]) rfl (by simp) (by simp) rfl (by trivial) rfl rfl (by trivial) (fun h=>nomatch h) ⟨rfl,rfl,rfl⟩
    · refine qa5 ?_
      refine qa5 ?_
      refine qa7 (qa2 [0] (l:=[(0,.ptr 0 0),(1,.d (.int .i64 n_)),(5,.d (.int .i64 x9.1))]) (objs:=[.box [.d (.sl false (x9.2.code.map qan)),.d (.int .i64 x9.2.at_),.d (.int .u64 x9.2.seed)]]) rfl (by simp) rfl (by trivial) ⟨rfl,trivial,rfl,trivial,rfl,trivial,trivial⟩) ?_
      refine qa1 ?_
      refine qa0 hτ rfl rfl rfl ?_
      refine qa0 hτ rfl rfl rfl ?_
      refine qa3 ?_
      refine qao rfl (fun hc21=>?_) (fun hc21=>?_)
      · have h:=if_t h hc21
        refine qa1 ?_
        refine qa0 hτ rfl rfl rfl ?_
        refine qa0 hτ rfl rfl rfl ?_
        refine qa0 hτ rfl rfl rfl ?_
        refine qaa h fun x22 hx22 h=>?_
        refine qag hτ false [0] rfl rfl rfl (qaj func138 rfl rfl) rfl rfl (by simp) ⟨trivial,trivial⟩ (by trivial) (ql4 n x9.2 hx22) ?_
        rintro r0 o0 n0 ⟨rfl,rfl,rfl⟩ -
        refine qa0 hτ rfl rfl rfl ?_
        refine qa0 hτ rfl rfl rfl ?_
        refine qa3 ?_
        refine qa7 (qa2 [0] (l:=[(1,.d (.int .i64 n_)),(5,.d (.int .i64 (w64 ((w64 (x9.1 * (256:Int))) + x22.1))))]) (objs:=[.box [.d (.sl false (x22.2.code.map qan)),.d (.int .i64 x22.2.at_),.d (.int .u64 x22.2.seed)]]) rfl (by simp) rfl (by trivial) ⟨rfl,trivial,rfl,trivial,trivial⟩) ?_
        exact hk20 (x22.2.code,x22.2.at_,x22.2.seed,(w64 ((w64 (x9.1 * (256:Int))) + x22.1))) h
      · have h:=if_f h hc21
        refine qap ?_
        refine qa7 (qa2 [0] (l:=[(1,.d (.int .i64 n_)),(5,.d (.int .i64 x9.1))]) (objs:=[.box [.d (.sl false (x9.2.code.map qan)),.d (.int .i64 x9.2.at_),.d (.int .u64 x9.2.seed)]]) rfl (by simp) rfl (by trivial) ⟨rfl,trivial,rfl,trivial,trivial⟩) ?_
        exact hk20 (x9.2.code,x9.2.at_,x9.2.seed,x9.1) h
def qdp (n:Nat) (n_:Int):Option Nat :=
  grd ((IntKind.wrap .u32 (n_)).toNat < 4294967296) <|
  some (canon .f32 (IntKind.wrap .u32 (n_)).toNat)
theorem spec_l01From_ok_fr0 (fr:Bool) (n:Nat) (n_:Int) {r:Nat} (h:qdp n n_ = some r):qb9 prog fr 152 [.d (.int .i64 n_)] [] (fun v o new=>v = .d (.fl .f32 r)∧o = []∧new = []):=by
  refine qak hτ func152 rfl (by simp) (by simp) ?_
  unfold qdp at h
  refine qa5 ?_
  refine qa1 ?_
  refine qa0 hτ rfl rfl rfl ?_
  refine qa3 ?_
  refine qa5 ?_
  refine qa1 ?_
  refine qa0 hτ rfl rfl rfl ?_
  refine qa0 hτ rfl rfl rfl ?_
  refine qf2 h fun hg2 h=>?_
  refine qta hτ rfl rfl rfl (ext172 hg2) ?_
  refine qa0 hτ rfl rfl rfl ?_
  refine qa3 ?_
  refine qa7 (qa2 [] (l:=[(2,.d (.fl .f32 (canon .f32 (IntKind.wrap .u32 (n_)).toNat)))]) (objs:=[]) rfl (by simp) rfl (by trivial) ⟨rfl,trivial,trivial⟩) ?_
  refine qar ?_
  have hr:=Option.some.inj h
  subst hr
  exact qah (.inr rfl) [] (objs':=[]) (new:=[]) rfl (by simp) (by simp) rfl (by trivial) rfl rfl (by trivial) (fun _=>⟨by simp [V.flat,V.qbk,V.qbf,D.flat],qal⟩) ⟨rfl,rfl,rfl⟩
theorem qhl (n:Nat) (n_:Int) {r:Nat} (h:qdp n n_ = some r):qb9 prog false 152 [.d (.int .i64 n_)] [] (fun v o new=>v = .d (.fl .f32 r)∧o = []∧new = []):=spec_l01From_ok_fr0 false n n_ h
def qm8 (n:Nat):Option Nat :=
  grd ((9221120237041090561:Int).toNat < 18446744073709551616) <|
  some (canon .f64 (9221120237041090561:Int).toNat)
theorem math_NaN_ok_fr0 (fr:Bool) (n:Nat) {r:Nat} (h:qm8 n = some r):qb9 prog fr 177 [] [] (fun v o new=>v = .d (.fl .f64 r)∧o = []∧new = []):=by
  refine qak hτ func177 rfl (by simp) (by simp) ?_
  unfold qm8 at h
  refine qa5 ?_
  refine qa1 ?_
  refine qa0 hτ rfl rfl rfl ?_
  refine qa3 ?_
  refine qa5 ?_
  refine qa1 ?_
  refine qf2 h fun hg2 h=>?_
  refine qta hτ rfl rfl rfl (ext181 hg2) ?_
  refine qa0 hτ rfl rfl rfl ?_
  refine qa3 ?_
  refine qa7 (qa2 [] (l:=[(0,.d (.fl .f64 (canon .f64 (9221120237041090561:Int).toNat)))]) (objs:=[]) rfl (by simp) rfl (by trivial) ⟨rfl,trivial,trivial⟩) ?_
  refine qar ?_
  have hr:=Option.some.inj h
  subst hr
  exact qah (.inr rfl) [] (objs':=[]) (new:=[]) rfl (by simp) (by simp) rfl (by trivial) rfl rfl (by trivial) (fun _=>⟨by simp [V.flat,V.qbk,V.qbf,D.flat],qal⟩) ⟨rfl,rfl,rfl⟩
theorem math_NaN_ok (n:Nat) {r:Nat} (h:qm8 n = some r):qb9 prog false 177 [] [] (fun v o new=>v = .d (.fl .f64 r)∧o = []∧new = []):=math_NaN_ok_fr0 false n h
def qh0 (n:Nat) (v19:Nat) (v23:Nat) (v28:Nat):Option Nat :=
  if (fcmp .geq .f64 v19 (4602678819172646912:Nat)) = true then
    some (fneg .f64 (qad .mul .f64 (qad .mul .f64 v23 (4618760256179416344:Nat)) v28))
  else
    some (qad .mul .f64 (qad .mul .f64 v23 (4618760256179416344:Nat)) v28)
def qe3 (n:Nat) (v19:Nat) (v23:Nat):Nat→Nat→Int→Option Nat
  | 0,_,_=>none
  | m35 + 1,v31,v32 =>
    if v32 ≥ (1:Int) then
      (qe3 n v19 v23 m35) (qad .sub .f64 (4607182418800017408:Nat) (qad .quo .f64 (qad .mul .f64 (qad .mul .f64 (qad .mul .f64 v23 (4618760256179416344:Nat)) (qad .mul .f64 v23 (4618760256179416344:Nat))) v31) (FloatKind.nearest .f64 (w64 ((w64 ((2:Int) * v32)) * (w64 ((w64 ((2:Int) * v32)) + (1:Int)))))))) (w64 (v32 - (1:Int)))
    else
      qh0 n v19 v23 v31
def qfc (n:Nat) (v19:Nat) (v23:Nat):Option Nat :=
  qe3 n v19 v23 n (4607182418800017408:Nat) (8:Int)
def qfb (n:Nat) (v19:Nat) (v21:Nat):Option Nat :=
  if (fcmp .gtr .f64 v21 (4598175219545276416:Nat)) = true then
    qfc n v19 (qad .sub .f64 (4602678819172646912:Nat) v21)
  else
    qfc n v19 v21
def qfa (n:Nat) (v19:Nat):Option Nat :=
  if (fcmp .geq .f64 v19 (4602678819172646912:Nat)) = true then
    qfb n v19 (qad .sub .f64 v19 (4602678819172646912:Nat))
  else
    qfb n v19 v19
def qgz (n:Nat) (y_:Nat):Option Nat :=
  (f2i .f64 .i64 y_).bind fun x17 =>
  if (fcmp .lss .f64 (qad .sub .f64 y_ (FloatKind.nearest .f64 x17)) (0:Nat)) = true then
    qfa n (qad .add .f64 (qad .sub .f64 y_ (FloatKind.nearest .f64 x17)) (4607182418800017408:Nat))
  else
    qfa n (qad .sub .f64 y_ (FloatKind.nearest .f64 x17))
def qfd (n:Nat) (y_:Nat) (v47:Bool):Option Nat :=
  if v47 = true then
    some (0:Nat)
  else
    qgz n y_
def qgy (n:Nat) (y_:Nat):Option Nat :=
  if (fcmp .neq .f64 (qad .sub .f64 y_ y_) (0:Nat)) = true then
    (qm8 n).bind fun x14 =>
    some x14
  else
    if (fcmp .geq .f64 y_ (4841369599423283200:Nat)) = true then
      qfd n y_ true
    else
      qfd n y_ (fcmp .leq .f64 y_ (14064741636278059008:Nat))
theorem spec_l01SineWide_ok_fr0 (fr:Bool) (n:Nat) (y_:Nat) {r:Nat} (h:qgy n y_ = some r):qb9 prog fr 163 [.d (.fl .f64 y_)] [] (fun v o new=>v = .d (.fl .f64 r)∧o = []∧new = []):=by
  refine qak hτ func163 rfl (by simp) (by simp) ?_
  unfold qgy at h
  refine qa5 ?_
  refine qa1 ?_
  refine qa0 hτ rfl rfl rfl ?_
  refine qa3 ?_
  refine qa5 ?_
  refine qa5 ?_
  refine qa1 ?_
  refine qa0 hτ rfl rfl rfl ?_
  refine qa0 hτ rfl rfl rfl ?_
  refine qa0 hτ rfl rfl rfl ?_
  refine qa0 hτ rfl rfl rfl ?_
  refine qa3 ?_
  refine qao rfl (fun hc13=>?_) (fun hc13=>?_)
  · have h:=qbn h hc13
    refine qa5 ?_
    refine qa1 ?_
    refine qaa h fun x14 hx14 h=>?_
    refine qag hτ false [] rfl rfl rfl (qaj func177 rfl rfl) rfl rfl (by simp) trivial (by trivial) (math_NaN_ok n hx14) ?_
    rintro r0 o0 n0 ⟨rfl,rfl,rfl⟩ -
    refine qa0 hτ rfl rfl rfl ?_
    refine qa3 ?_
    refine qa7 (qa2 [] (l:=[(2,.d (.fl .f64 x14))]) (objs:=[]) rfl (by simp) rfl (by trivial) ⟨rfl,trivial,trivial⟩) ?_
    refine qar ?_
    have hr:=Option.some.inj h
    subst hr
    exact qah (.inr rfl) [] (objs':=[]) (new:=[]) rfl (by simp) (by simp) rfl (by trivial) rfl rfl (by trivial) (fun _=>⟨by simp [V.flat,V.qbk,V.qbf,D.flat],qal⟩) ⟨rfl,rfl,rfl⟩
  · have h:=qbm h hc13
    refine qap ?_
    refine qb8 (ι:=Unit) (fun _=>St.of [(0,.d (.fl .f64 y_))] [] f163.ntmps 0) (fun _=>qgz n y_ = some r) ?_ (fun hk44=>?_)
    · rintro ⟨⟩ h
      replace h:qgz n y_ = some r:=h
      unfold qgz at h
      refine qa5 ?_
      refine qa1 ?_
      refine qa0 hτ rfl rfl rfl ?_
      refine qa0 hτ rfl rfl rfl ?_
      refine qaa h fun x17 hx17 h=>?_
      refine qvg rfl rfl (qvm hτ rfl rfl rfl rfl rfl rfl hx17) ?_
      refine qa0 hτ rfl rfl rfl ?_
      refine qa0 hτ rfl rfl rfl ?_
      refine qa0 hτ rfl rfl rfl ?_
      refine qa3 ?_
      refine qb8 (ι:=Nat) (fun v19=>St.of [(3,.d (.fl .f64 v19))] [] f163.ntmps 0) (fun v19=>qfa n v19 = some r) ?_ (fun hk42=>?_)
      · rintro v19 h
        replace h:qfa n v19 = some r:=h
        unfold qfa at h
        refine qa5 ?_
        refine qa1 ?_
        refine qa0 hτ rfl rfl rfl ?_
        refine qa0 hτ rfl rfl rfl ?_
        refine qa0 hτ rfl rfl rfl ?_
        refine qa3 ?_
        refine qb8 (ι:=Nat) (fun v21=>St.of [(3,.d (.fl .f64 v21)),(4,.d (.bool (fcmp .geq .f64 v19 (4602678819172646912:Nat))))] [] f163.ntmps 0) (fun v21=>qfb n v19 v21 = some r) ?_ (fun hk40=>?_)
        · rintro v21 h
          replace h:qfb n v19 v21 = some r:=h
          unfold qfb at h
          refine qb8 (ι:=Nat) (fun v23=>St.of [(3,.d (.fl .f64 v23)),(4,.d (.bool (fcmp .geq .f64 v19 (4602678819172646912:Nat))))] [] f163.ntmps 0) (fun v23=>qfc n v19 v23 = some r) ?_ (fun hk38=>?_)
          · rintro v23 h
            replace h:qfc n v19 v23 = some r:=h
            unfold qfc at h
            refine qa5 ?_
            refine qa1 ?_
            refine qa0 hτ rfl rfl rfl ?_
            refine qa0 hτ rfl rfl rfl ?_
            refine qa0 hτ rfl rfl rfl ?_
            refine qa3 ?_
            refine qa5 ?_
            refine qa1 ?_
            refine qa0 hτ rfl rfl rfl ?_
            refine qa0 hτ rfl rfl rfl ?_
            refine qa0 hτ rfl rfl rfl ?_
            refine qa0 hτ rfl rfl rfl ?_
            refine qa3 ?_
            refine qa5 ?_
            refine qa7 (qa2 [] (l:=[(4,.d (.bool (fcmp .geq .f64 v19 (4602678819172646912:Nat)))),(5,.d (.fl .f64 (qad .mul .f64 v23 (4618760256179416344:Nat)))),(6,.d (.fl .f64 (qad .mul .f64 (qad .mul .f64 v23 (4618760256179416344:Nat)) (qad .mul .f64 v23 (4618760256179416344:Nat)))))]) (objs:=[]) rfl (by simp) rfl (by trivial) ⟨rfl,trivial,rfl,trivial,rfl,trivial,trivial⟩) ?_
            refine qa1 ?_
            refine qa0 hτ rfl rfl rfl ?_
            refine qa3 ?_
            refine qb8 (ι:=Nat) (fun v28=>St.of [(4,.d (.bool (fcmp .geq .f64 v19 (4602678819172646912:Nat)))),(5,.d (.fl .f64 (qad .mul .f64 v23 (4618760256179416344:Nat)))),(7,.d (.fl .f64 v28))] [] f163.ntmps 0) (fun v28=>qh0 n v19 v23 v28 = some r) ?_ (fun hk30=>?_)
            · rintro v28 h
              replace h:qh0 n v19 v23 v28 = some r:=h
              unfold qh0 at h
              refine qa5 ?_
              refine qa5 ?_
              refine qa1 ?_
              refine qa0 hτ rfl rfl rfl ?_
              refine qa3 ?_
              refine qao rfl (fun hc29=>?_) (fun hc29=>?_)
              · have h:=qbn h hc29
                refine qa5 ?_
                refine qa1 ?_
                refine qa0 hτ rfl rfl rfl ?_
                refine qa0 hτ rfl rfl rfl ?_
                refine qa0 hτ rfl rfl rfl ?_
                refine qa0 hτ rfl rfl rfl ?_
                refine qa0 hτ rfl rfl rfl ?_
                refine qa3 ?_
                refine qa7 (qa2 [] (l:=[(2,.d (.fl .f64 (fneg .f64 (qad .mul .f64 (qad .mul .f64 v23 (4618760256179416344:Nat)) v28))))]) (objs:=[]) rfl (by simp) rfl (by trivial) ⟨rfl,trivial,trivial⟩) ?_
                refine qar ?_
                have hr:=Option.some.inj h
                subst hr
                exact qah (.inr rfl) [] (objs':=[]) (new:=[]) rfl (by simp) (by simp) rfl (by trivial) rfl rfl (by trivial) (fun _=>⟨by simp [V.flat,V.qbk,V.qbf,D.flat],qal⟩) ⟨rfl,rfl,rfl⟩
              · have h:=qbm h hc29
                refine qap ?_
                refine qa5 ?_
                refine qa1 ?_
                refine qa0 hτ rfl rfl rfl ?_
                refine qa0 hτ rfl rfl rfl ?_
                refine qa0 hτ rfl rfl rfl ?_
                refine qa0 hτ rfl rfl rfl ?_
                refine qa3 ?_
                refine qa7 (qa2 [] (l:=[(2,.d (.fl .f64 (qad .mul .f64 (qad .mul .f64 v23 (4618760256179416344:Nat)) v28)))]) (objs:=[]) rfl (by simp) rfl (by trivial) ⟨rfl,trivial,trivial⟩) ?_
                refine qar ?_
                have hr:=Option.some.inj h
                subst hr
                exact qah (.inr rfl) [] (objs':=[]) (new:=[]) rfl (by simp) (by simp) rfl (by trivial) rfl rfl (by trivial) (fun _=>⟨by simp [V.flat,V.qbk,V.qbf,D.flat],qal⟩) ⟨rfl,rfl,rfl⟩
            · refine qa5 ?_
              refine qa5 ?_
              refine qa1 ?_
              refine qa0 hτ rfl rfl rfl ?_
              refine qa3 ?_
              refine qaz ?_
              refine qcs (ι:=Nat × Nat × Int) (fun (m35,v31,v32)=>St.of [(4,.d (.bool (fcmp .geq .f64 v19 (4602678819172646912:Nat)))),(5,.d (.fl .f64 (qad .mul .f64 v23 (4618760256179416344:Nat)))),(6,.d (.fl .f64 (qad .mul .f64 (qad .mul .f64 v23 (4618760256179416344:Nat)) (qad .mul .f64 v23 (4618760256179416344:Nat))))),(7,.d (.fl .f64 v31)),(8,.d (.int .i64 v32))] [] f163.ntmps 0) (fun (m35,v31,v32)=>qe3 n v19 v23 m35 v31 v32 = some r) (fun x=>x.1) (n,(4607182418800017408:Nat),(8:Int)) h (qa2 [] (l:=[(4,.d (.bool (fcmp .geq .f64 v19 (4602678819172646912:Nat)))),(5,.d (.fl .f64 (qad .mul .f64 v23 (4618760256179416344:Nat)))),(6,.d (.fl .f64 (qad .mul .f64 (qad .mul .f64 v23 (4618760256179416344:Nat)) (qad .mul .f64 v23 (4618760256179416344:Nat))))),(7,.d (.fl .f64 (4607182418800017408:Nat))),(8,.d (.int .i64 (8:Int)))]) (objs:=[]) rfl (by simp) rfl (by trivial) ⟨rfl,trivial,rfl,trivial,rfl,trivial,rfl,trivial,rfl,trivial,trivial⟩) ?_
              rintro ⟨m35,v31,v32⟩ h
              replace h:qe3 n v19 v23 m35 v31 v32 = some r:=h
              rcases m35 with _ | m35
              · rw [qe3] at h;cases h
              rw [qe3] at h
              refine qa5 ?_
              refine qa5 ?_
              refine qa1 ?_
              refine qa0 hτ rfl rfl rfl ?_
              refine qa0 hτ rfl rfl rfl ?_
              refine qa3 ?_
              refine qao rfl (fun hc37=>?_) (fun hc37=>?_)
              · have h:=if_t h hc37
                refine qap ?_
                refine qa5 ?_
                refine qaz ?_
                refine qa1 ?_
                refine qa0 hτ rfl rfl rfl ?_
                refine qa0 hτ rfl rfl rfl ?_
                refine qa0 hτ rfl rfl rfl ?_
                refine qa0 hτ rfl rfl rfl ?_
                refine qa0 hτ rfl rfl rfl ?_
                refine qa0 hτ rfl rfl rfl ?_
                refine qa0 hτ rfl rfl rfl ?_
                refine qa0 hτ rfl rfl rfl ?_
                refine qa0 hτ rfl rfl rfl ?_
                refine qa0 hτ rfl rfl rfl ?_
                refine qat (qa2 [] (l:=[(4,.d (.bool (fcmp .geq .f64 v19 (4602678819172646912:Nat)))),(5,.d (.fl .f64 (qad .mul .f64 v23 (4618760256179416344:Nat)))),(6,.d (.fl .f64 (qad .mul .f64 (qad .mul .f64 v23 (4618760256179416344:Nat)) (qad .mul .f64 v23 (4618760256179416344:Nat))))),(8,.d (.int .i64 v32)),(49,.d (.fl .f64 (qad .mul .f64 (qad .mul .f64 (qad .mul .f64 v23 (4618760256179416344:Nat)) (qad .mul .f64 v23 (4618760256179416344:Nat))) v31))),(56,.d (.fl .f64 (FloatKind.nearest .f64 (w64 ((w64 ((2:Int) * v32)) * (w64 ((w64 ((2:Int) * v32)) + (1:Int))))))))]) (objs:=[]) rfl (by simp) rfl (by trivial) ⟨rfl,trivial,rfl,trivial,rfl,trivial,rfl,trivial,rfl,trivial,rfl,trivial,trivial⟩) ?_
                refine qa0 hτ rfl rfl rfl ?_
                refine qa0 hτ rfl rfl rfl ?_
                refine qa0 hτ rfl rfl rfl ?_
                refine qa3 ?_
                refine qa1 ?_
                refine qa0 hτ rfl rfl rfl ?_
                refine qa0 hτ rfl rfl rfl ?_
                refine qa0 hτ rfl rfl rfl ?_
                refine qa3 ?_
                exact ⟨(m35,(qad .sub .f64 (4607182418800017408:Nat) (qad .quo .f64 (qad .mul .f64 (qad .mul .f64 (qad .mul .f64 v23 (4618760256179416344:Nat)) (qad .mul .f64 v23 (4618760256179416344:Nat))) v31) (FloatKind.nearest .f64 (w64 ((w64 ((2:Int) * v32)) * (w64 ((w64 ((2:Int) * v32)) + (1:Int)))))))),(w64 (v32 - (1:Int)))),h,Nat.lt_succ_self m35,(qa2 [] (l:=[(4,.d (.bool (fcmp .geq .f64 v19 (4602678819172646912:Nat)))),(5,.d (.fl .f64 (qad .mul .f64 v23 (4618760256179416344:Nat)))),(6,.d (.fl .f64 (qad .mul .f64 (qad .mul .f64 v23 (4618760256179416344:Nat)) (qad .mul .f64 v23 (4618760256179416344:Nat))))),(7,.d (.fl .f64 (qad .sub .f64 (4607182418800017408:Nat) (qad .quo .f64 (qad .mul .f64 (qad .mul .f64 (qad .mul .f64 v23 (4618760256179416344:Nat)) (qad .mul .f64 v23 (4618760256179416344:Nat))) v31) (FloatKind.nearest .f64 (w64 ((w64 ((2:Int) * v32)) * (w64 ((w64 ((2:Int) * v32)) + (1:Int)))))))))),(8,.d (.int .i64 (w64 (v32 - (1:Int)))))]) (objs:=[]) rfl (by simp) rfl (by trivial) ⟨rfl,trivial,rfl,trivial,rfl,trivial,rfl,trivial,rfl,trivial,trivial⟩)⟩
              · have h:=if_f h hc37
                refine qcr ?_
                refine qa7 (qa2 [] (l:=[(4,.d (.bool (fcmp .geq .f64 v19 (4602678819172646912:Nat)))),(5,.d (.fl .f64 (qad .mul .f64 v23 (4618760256179416344:Nat)))),(7,.d (.fl .f64 v31))]) (objs:=[]) rfl (by simp) rfl (by trivial) ⟨rfl,trivial,rfl,trivial,rfl,trivial,trivial⟩) ?_
                exact hk30 v31 h
          · refine qa5 ?_
            refine qa5 ?_
            refine qa1 ?_
            refine qa0 hτ rfl rfl rfl ?_
            refine qa0 hτ rfl rfl rfl ?_
            refine qa3 ?_
            refine qao rfl (fun hc39=>?_) (fun hc39=>?_)
            · have h:=qbn h hc39
              refine qa1 ?_
              refine qa0 hτ rfl rfl rfl ?_
              refine qa0 hτ rfl rfl rfl ?_
              refine qa0 hτ rfl rfl rfl ?_
              refine qa3 ?_
              refine qa7 (qa2 [] (l:=[(3,.d (.fl .f64 (qad .sub .f64 (4602678819172646912:Nat) v21))),(4,.d (.bool (fcmp .geq .f64 v19 (4602678819172646912:Nat))))]) (objs:=[]) rfl (by simp) rfl (by trivial) ⟨rfl,trivial,rfl,trivial,trivial⟩) ?_
              exact hk38 (qad .sub .f64 (4602678819172646912:Nat) v21) h
            · have h:=qbm h hc39
              refine qap ?_
              refine qa7 (qa2 [] (l:=[(3,.d (.fl .f64 v21)),(4,.d (.bool (fcmp .geq .f64 v19 (4602678819172646912:Nat))))]) (objs:=[]) rfl (by simp) rfl (by trivial) ⟨rfl,trivial,rfl,trivial,trivial⟩) ?_
              exact hk38 v21 h
        · refine qa5 ?_
          refine qa5 ?_
          refine qa1 ?_
          refine qa0 hτ rfl rfl rfl ?_
          refine qa3 ?_
          refine qao rfl (fun hc41=>?_) (fun hc41=>?_)
          · have h:=qbn h hc41
            refine qa1 ?_
            refine qa0 hτ rfl rfl rfl ?_
            refine qa0 hτ rfl rfl rfl ?_
            refine qa0 hτ rfl rfl rfl ?_
            refine qa3 ?_
            refine qa7 (qa2 [] (l:=[(3,.d (.fl .f64 (qad .sub .f64 v19 (4602678819172646912:Nat)))),(4,.d (.bool (fcmp .geq .f64 v19 (4602678819172646912:Nat))))]) (objs:=[]) rfl (by simp) rfl (by trivial) ⟨rfl,trivial,rfl,trivial,trivial⟩) ?_
            exact hk40 (qad .sub .f64 v19 (4602678819172646912:Nat)) h
          · have h:=qbm h hc41
            refine qap ?_
            refine qa7 (qa2 [] (l:=[(3,.d (.fl .f64 v19)),(4,.d (.bool (fcmp .geq .f64 v19 (4602678819172646912:Nat))))]) (objs:=[]) rfl (by simp) rfl (by trivial) ⟨rfl,trivial,rfl,trivial,trivial⟩) ?_
            exact hk40 v19 h
      · refine qa5 ?_
        refine qa5 ?_
        refine qa7 (qa2 [] (l:=[(3,.d (.fl .f64 (qad .sub .f64 y_ (FloatKind.nearest .f64 x17))))]) (objs:=[]) rfl (by simp) rfl (by trivial) ⟨rfl,trivial,trivial⟩) ?_
        refine qa1 ?_
        refine qa0 hτ rfl rfl rfl ?_
        refine qa0 hτ rfl rfl rfl ?_
        refine qa3 ?_
        refine qao rfl (fun hc43=>?_) (fun hc43=>?_)
        · have h:=qbn h hc43
          refine qa1 ?_
          refine qa0 hτ rfl rfl rfl ?_
          refine qa0 hτ rfl rfl rfl ?_
          refine qa0 hτ rfl rfl rfl ?_
          refine qa3 ?_
          refine qa7 (qa2 [] (l:=[(3,.d (.fl .f64 (qad .add .f64 (qad .sub .f64 y_ (FloatKind.nearest .f64 x17)) (4607182418800017408:Nat))))]) (objs:=[]) rfl (by simp) rfl (by trivial) ⟨rfl,trivial,trivial⟩) ?_
          exact hk42 (qad .add .f64 (qad .sub .f64 y_ (FloatKind.nearest .f64 x17)) (4607182418800017408:Nat)) h
        · have h:=qbm h hc43
          refine qap ?_
          refine qa7 (qa2 [] (l:=[(3,.d (.fl .f64 (qad .sub .f64 y_ (FloatKind.nearest .f64 x17))))]) (objs:=[]) rfl (by simp) rfl (by trivial) ⟨rfl,trivial,trivial⟩) ?_
          exact hk42 (qad .sub .f64 y_ (FloatKind.nearest .f64 x17)) h
    · refine qa5 ?_
      refine qb8 (ι:=Bool) (fun v47=>St.of [(0,.d (.fl .f64 y_)),(19,.d (.bool v47))] [] f163.ntmps 0) (fun v47=>qfd n y_ v47 = some r) ?_ (fun hk49=>?_)
      · rintro v47 h
        replace h:qfd n y_ v47 = some r:=h
        unfold qfd at h
        refine qao rfl (fun hc48=>?_) (fun hc48=>?_)
        · have h:=qbn h hc48
          refine qa5 ?_
          refine qa1 ?_
          refine qa0 hτ rfl rfl rfl ?_
          refine qa3 ?_
          refine qa7 (qa2 [] (l:=[(2,.d (.fl .f64 (0:Nat)))]) (objs:=[]) rfl (by simp) rfl (by trivial) ⟨rfl,trivial,trivial⟩) ?_
          refine qar ?_
          have hr:=Option.some.inj h
          subst hr
          exact qah (.inr rfl) [] (objs':=[]) (new:=[]) rfl (by simp) (by simp) rfl (by trivial) rfl rfl (by trivial) (fun _=>⟨by simp [V.flat,V.qbk,V.qbf,D.flat],qal⟩) ⟨rfl,rfl,rfl⟩
        · have h:=qbm h hc48
          refine qap ?_
          refine qa7 (qa2 [] (l:=[(0,.d (.fl .f64 y_))]) (objs:=[]) rfl (by simp) rfl (by trivial) ⟨rfl,trivial,trivial⟩) ?_
          exact hk44 () h
      · refine qa5 ?_
        refine qa1 ?_
        refine qa0 hτ rfl rfl rfl ?_
        refine qa0 hτ rfl rfl rfl ?_
        refine qa0 hτ rfl rfl rfl ?_
        refine qb4 16 rfl (fun hb50=>?_) (fun hb50=>?_)
        · have h:=qbn h hb50
          refine qa6 rfl rfl ?_
          refine qa6 rfl rfl ?_
          refine qa0 hτ rfl rfl rfl ?_
          refine qa3 ?_
          refine qa7 (qa2 [] (l:=[(0,.d (.fl .f64 y_)),(19,.d (.bool true))]) (objs:=[]) rfl (by simp) rfl (by trivial) ⟨rfl,trivial,rfl,trivial,trivial⟩) ?_
          exact hk49 true h
        · have h:=qbm h hb50
          refine qa0 hτ rfl rfl rfl ?_
          refine qa0 hτ rfl rfl rfl ?_
          refine qa0 hτ rfl rfl rfl ?_
          refine qa3 ?_
          refine qa7 (qa2 [] (l:=[(0,.d (.fl .f64 y_)),(19,.d (.bool (fcmp .leq .f64 y_ (14064741636278059008:Nat))))]) (objs:=[]) rfl (by simp) rfl (by trivial) ⟨rfl,trivial,rfl,trivial,trivial⟩) ?_
          exact hk49 (fcmp .leq .f64 y_ (14064741636278059008:Nat)) h
theorem ql5 (n:Nat) (y_:Nat) {r:Nat} (h:qgy n y_ = some r):qb9 prog false 163 [.d (.fl .f64 y_)] [] (fun v o new=>v = .d (.fl .f64 r)∧o = []∧new = []):=spec_l01SineWide_ok_fr0 false n y_ h
def qce (n:Nat) (x_:Nat):Option Nat :=
  (qnz .f64 .f32 x_).bind fun x2 =>
  some x2
theorem spec_l01Narrow_ok_fr0 (fr:Bool) (n:Nat) (x_:Nat) {r:Nat} (h:qce n x_ = some r):qb9 prog fr 164 [.d (.fl .f64 x_)] [] (fun v o new=>v = .d (.fl .f32 r)∧o = []∧new = []):=by
  refine qak hτ func164 rfl (by simp) (by simp) ?_
  unfold qce at h
  refine qa5 ?_
  refine qa1 ?_
  refine qa0 hτ rfl rfl rfl ?_
  refine qa3 ?_
  refine qa5 ?_
  refine qa1 ?_
  refine qa0 hτ rfl rfl rfl ?_
  refine qaa h fun x2 hx2 h=>?_
  refine qa0 hτ (v:=.d (.fl .f32 x2)) rfl rfl (qqa hx2) ?_
  refine qa0 hτ rfl rfl rfl ?_
  refine qa3 ?_
  refine qa7 (qa2 [] (l:=[(2,.d (.fl .f32 x2))]) (objs:=[]) rfl (by simp) rfl (by trivial) ⟨rfl,trivial,trivial⟩) ?_
  refine qar ?_
  have hr:=Option.some.inj h
  subst hr
  exact qah (.inr rfl) [] (objs':=[]) (new:=[]) rfl (by simp) (by simp) rfl (by trivial) rfl rfl (by trivial) (fun _=>⟨by simp [V.flat,V.qbk,V.qbf,D.flat],qal⟩) ⟨rfl,rfl,rfl⟩
theorem qcu (n:Nat) (x_:Nat) {r:Nat} (h:qce n x_ = some r):qb9 prog false 164 [.d (.fl .f64 x_)] [] (fun v o new=>v = .d (.fl .f32 r)∧o = []∧new = []):=spec_l01Narrow_ok_fr0 false n x_ h
def qhu (n:Nat) (v35:Nat) (v36:Int):Option Cx :=
  (qgy n (qad .sub .f64 (4598175219545276416:Nat) v35)).bind fun x37 =>
  (qgy n v35).bind fun x38 =>
  if v36 = (1:Int) then
    (qce n (qad .sub .f64 (0:Nat) x38)).bind fun x46 =>
    (qce n x37).bind fun x47 =>
    some (Cx.mk x46 x47)
  else
    if v36 = (2:Int) then
      (qce n (qad .sub .f64 (0:Nat) x37)).bind fun x49 =>
      (qce n (qad .sub .f64 (0:Nat) x38)).bind fun x50 =>
      some (Cx.mk x49 x50)
    else
      if v36 = (3:Int) then
        (qce n x38).bind fun x52 =>
        (qce n (qad .sub .f64 (0:Nat) x37)).bind fun x53 =>
        some (Cx.mk x52 x53)
      else
        (qce n x37).bind fun x54 =>
        (qce n x38).bind fun x55 =>
        some (Cx.mk x54 x55)
def qey (n:Nat):Nat→Nat→Int→Option Cx
  | 0,_,_=>none
  | m61 + 1,v57,v58 =>
    if (fcmp .geq .f64 v57 (4598175219545276416:Nat)) = true then
      (qey n m61) (qad .sub .f64 v57 (4598175219545276416:Nat)) (w64 (v58 + (1:Int)))
    else
      qhu n v57 v58
def qg8 (n:Nat) (v30:Nat):Option Cx :=
  qey n n v30 (0:Int)
def qht (n:Nat) (turns_:Nat):Option Cx :=
  (f2i .f64 .i64 turns_).bind fun x28 =>
  if (fcmp .lss .f64 (qad .sub .f64 turns_ (FloatKind.nearest .f64 x28)) (0:Nat)) = true then
    qg8 n (qad .add .f64 (qad .sub .f64 turns_ (FloatKind.nearest .f64 x28)) (4607182418800017408:Nat))
  else
    qg8 n (qad .sub .f64 turns_ (FloatKind.nearest .f64 x28))
def qg9 (n:Nat) (turns_:Nat) (v69:Bool):Option Cx :=
  if v69 = true then
    some (Cx.mk (1065353216:Nat) (0:Nat))
  else
    qht n turns_
def qhz (n:Nat) (turns_:Nat):Option Cx :=
  if (fcmp .neq .f64 (qad .sub .f64 turns_ turns_) (0:Nat)) = true then
    (qdp n (2143289344:Int)).bind fun x24 =>
    (qdp n (2143289344:Int)).bind fun x25 =>
    some (Cx.mk x24 x25)
  else
    if (fcmp .geq .f64 turns_ (4841369599423283200:Nat)) = true then
      qg9 n turns_ true
    else
      qg9 n turns_ (fcmp .leq .f64 turns_ (14064741636278059008:Nat))
theorem spec_l01Phasor_ok_fr0 (fr:Bool) (n:Nat) (turns_:Nat) {r:Cx} (h:qhz n turns_ = some r):qb9 prog fr 137 [.d (.fl .f64 turns_)] [] (fun v o new=>v = .d (.cx .f32 r.re r.im)∧o = []∧new = []):=by
  refine qak hτ func137 rfl (by simp) (by simp) ?_
  unfold qhz at h
  refine qa5 ?_
  refine qa1 ?_
  refine qa0 hτ rfl rfl rfl ?_
  refine qa3 ?_
  refine qa5 ?_
  refine qa5 ?_
  refine qa1 ?_
  refine qa0 hτ rfl rfl rfl ?_
  refine qa0 hτ rfl rfl rfl ?_
  refine qa0 hτ rfl rfl rfl ?_
  refine qa0 hτ rfl rfl rfl ?_
  refine qa3 ?_
  refine qao rfl (fun hc23=>?_) (fun hc23=>?_)
  · have h:=qbn h hc23
    refine qa5 ?_
    refine qa1 ?_
    refine qaa h fun x24 hx24 h=>?_
    refine qag hτ false [] rfl rfl rfl (qaj func152 rfl rfl) rfl rfl (by simp) ⟨trivial,trivial⟩ (by trivial) (qhl n (2143289344:Int) hx24) ?_
    rintro r0 o0 n0 ⟨rfl,rfl,rfl⟩ -
    refine qaa h fun x25 hx25 h=>?_
    refine qag hτ false [] rfl rfl rfl (qaj func152 rfl rfl) rfl rfl (by simp) ⟨trivial,trivial⟩ (by trivial) (qhl n (2143289344:Int) hx25) ?_
    rintro r0 o0 n0 ⟨rfl,rfl,rfl⟩ -
    refine qa0 hτ rfl rfl rfl ?_
    refine qa0 hτ rfl rfl rfl ?_
    refine qa3 ?_
    refine qa7 (qa2 [] (l:=[(2,.d (.cx .f32 x24 x25))]) (objs:=[]) rfl (by simp) rfl (by trivial) ⟨rfl,trivial,trivial⟩) ?_
    refine qar ?_
    have hr:=Option.some.inj h
    subst hr
    exact qah (.inr rfl) [] (objs':=[]) (new:=[]) rfl (by simp) (by simp) rfl (by trivial) rfl rfl (by trivial) (fun _=>⟨by simp [V.flat,V.qbk,V.qbf,D.flat],qal⟩) ⟨rfl,rfl,rfl⟩
  · have h:=qbm h hc23
    refine qap ?_
    refine qb8 (ι:=Unit) (fun _=>St.of [(0,.d (.fl .f64 turns_))] [] f137.ntmps 0) (fun _=>qht n turns_ = some r) ?_ (fun hk66=>?_)
    · rintro ⟨⟩ h
      replace h:qht n turns_ = some r:=h
      unfold qht at h
      refine qa5 ?_
      refine qa1 ?_
      refine qa0 hτ rfl rfl rfl ?_
      refine qa0 hτ rfl rfl rfl ?_
      refine qaa h fun x28 hx28 h=>?_
      refine qvg rfl rfl (qvm hτ rfl rfl rfl rfl rfl rfl hx28) ?_
      refine qa0 hτ rfl rfl rfl ?_
      refine qa0 hτ rfl rfl rfl ?_
      refine qa0 hτ rfl rfl rfl ?_
      refine qa3 ?_
      refine qb8 (ι:=Nat) (fun v30=>St.of [(3,.d (.fl .f64 v30))] [] f137.ntmps 0) (fun v30=>qg8 n v30 = some r) ?_ (fun hk64=>?_)
      · rintro v30 h
        replace h:qg8 n v30 = some r:=h
        unfold qg8 at h
        refine qa5 ?_
        refine qa1 ?_
        refine qa0 hτ rfl rfl rfl ?_
        refine qa3 ?_
        refine qb8 (ι:=Nat × Int) (fun (v35,v36)=>St.of [(3,.d (.fl .f64 v35)),(4,.d (.int .i64 v36))] [] f137.ntmps 0) (fun (v35,v36)=>qhu n v35 v36 = some r) ?_ (fun hk56=>?_)
        · rintro ⟨v35,v36⟩ h
          replace h:qhu n v35 v36 = some r:=h
          unfold qhu at h
          refine qa5 ?_
          refine qa1 ?_
          refine qa0 hτ rfl rfl rfl ?_
          refine qa0 hτ rfl rfl rfl ?_
          refine qaa h fun x37 hx37 h=>?_
          refine qag hτ false [] rfl rfl rfl (qaj func163 rfl rfl) rfl rfl (by simp) ⟨trivial,trivial⟩ (by trivial) (ql5 n (qad .sub .f64 (4598175219545276416:Nat) v35) hx37) ?_
          rintro r0 o0 n0 ⟨rfl,rfl,rfl⟩ -
          refine qa0 hτ rfl rfl rfl ?_
          refine qa3 ?_
          refine qa5 ?_
          refine qa1 ?_
          refine qa0 hτ rfl rfl rfl ?_
          refine qaa h fun x38 hx38 h=>?_
          refine qag hτ false [] rfl rfl rfl (qaj func163 rfl rfl) rfl rfl (by simp) ⟨trivial,trivial⟩ (by trivial) (ql5 n v35 hx38) ?_
          rintro r0 o0 n0 ⟨rfl,rfl,rfl⟩ -
          refine qa0 hτ rfl rfl rfl ?_
          refine qa3 ?_
          refine qa5 ?_
          refine qa5 ?_
          refine qa7 (qa2 [] (l:=[(4,.d (.int .i64 v36)),(5,.d (.fl .f64 x37)),(6,.d (.fl .f64 x38))]) (objs:=[]) rfl (by simp) rfl (by trivial) ⟨rfl,trivial,rfl,trivial,rfl,trivial,trivial⟩) ?_
          refine qa1 ?_
          refine qa0 hτ rfl rfl rfl ?_
          refine qa3 ?_
          refine qaz ?_
          refine qa5 ?_
          refine qa1 ?_
          refine qa0 hτ (v:=.d (.bool (decide (v36 = (1:Int))))) rfl rfl (ql2 _ _) ?_
          refine qa0 hτ rfl rfl rfl ?_
          refine qa3 ?_
          refine qao rfl (fun hc45=>?_) (fun hc45=>?_)
          · have h:=if_t h hc45
            refine qa5 ?_
            refine qa1 ?_
            refine qa0 hτ rfl rfl rfl ?_
            refine qa0 hτ rfl rfl rfl ?_
            refine qaa h fun x46 hx46 h=>?_
            refine qag hτ false [] rfl rfl rfl (qaj func164 rfl rfl) rfl rfl (by simp) ⟨trivial,trivial⟩ (by trivial) (qcu n (qad .sub .f64 (0:Nat) x38) hx46) ?_
            rintro r0 o0 n0 ⟨rfl,rfl,rfl⟩ -
            refine qa0 hτ rfl rfl rfl ?_
            refine qaa h fun x47 hx47 h=>?_
            refine qag hτ false [] rfl rfl rfl (qaj func164 rfl rfl) rfl rfl (by simp) ⟨trivial,trivial⟩ (by trivial) (qcu n x37 hx47) ?_
            rintro r0 o0 n0 ⟨rfl,rfl,rfl⟩ -
            refine qa0 hτ rfl rfl rfl ?_
            refine qa0 hτ rfl rfl rfl ?_
            refine qa3 ?_
            refine qa7 (qa2 [] (l:=[(2,.d (.cx .f32 x46 x47))]) (objs:=[]) rfl (by simp) rfl (by trivial) ⟨rfl,trivial,trivial⟩) ?_
            refine qar ?_
            have hr:=Option.some.inj h
            subst hr
            exact qah (.inr rfl) [] (objs':=[]) (new:=[]) rfl (by simp) (by simp) rfl (by trivial) rfl rfl (by trivial) (fun _=>⟨by simp [V.flat,V.qbk,V.qbf,D.flat],qal⟩) ⟨rfl,rfl,rfl⟩
          · have h:=if_f h hc45
            refine qa5 ?_
            refine qa1 ?_
            refine qa0 hτ (v:=.d (.bool (decide (v36 = (2:Int))))) rfl rfl (ql2 _ _) ?_
            refine qa0 hτ rfl rfl rfl ?_
            refine qa3 ?_
            refine qao rfl (fun hc48=>?_) (fun hc48=>?_)
            · have h:=if_t h hc48
              refine qa5 ?_
              refine qa1 ?_
              refine qa0 hτ rfl rfl rfl ?_
              refine qa0 hτ rfl rfl rfl ?_
              refine qaa h fun x49 hx49 h=>?_
              refine qag hτ false [] rfl rfl rfl (qaj func164 rfl rfl) rfl rfl (by simp) ⟨trivial,trivial⟩ (by trivial) (qcu n (qad .sub .f64 (0:Nat) x37) hx49) ?_
              rintro r0 o0 n0 ⟨rfl,rfl,rfl⟩ -
              refine qa0 hτ rfl rfl rfl ?_
              refine qa0 hτ rfl rfl rfl ?_
              refine qaa h fun x50 hx50 h=>?_
              refine qag hτ false [] rfl rfl rfl (qaj func164 rfl rfl) rfl rfl (by simp) ⟨trivial,trivial⟩ (by trivial) (qcu n (qad .sub .f64 (0:Nat) x38) hx50) ?_
              rintro r0 o0 n0 ⟨rfl,rfl,rfl⟩ -
              refine qa0 hτ rfl rfl rfl ?_
              refine qat (qa2 [] (l:=[(57,.d (.cx .f32 x49 x50))]) (objs:=[]) rfl (by simp) rfl (by trivial) ⟨rfl,trivial,trivial⟩) ?_
              refine qa0 hτ rfl rfl rfl ?_
              refine qa3 ?_
              refine qa7 (qa2 [] (l:=[(2,.d (.cx .f32 x49 x50))]) (objs:=[]) rfl (by simp) rfl (by trivial) ⟨rfl,trivial,trivial⟩) ?_
              refine qar ?_
              have hr:=Option.some.inj h
              subst hr
              exact qah (.inr rfl) [] (objs':=[]) (new:=[]) rfl (by simp) (by simp) rfl (by trivial) rfl rfl (by trivial) (fun _=>⟨by simp [V.flat,V.qbk,V.qbf,D.flat],qal⟩) ⟨rfl,rfl,rfl⟩
            · have h:=if_f h hc48
              refine qa5 ?_
              refine qa1 ?_
              refine qa0 hτ (v:=.d (.bool (decide (v36 = (3:Int))))) rfl rfl (ql2 _ _) ?_
              refine qa0 hτ rfl rfl rfl ?_
              refine qa3 ?_
              refine qa7 (qa2 [] (l:=[(5,.d (.fl .f64 x37)),(6,.d (.fl .f64 x38)),(58,.d (.bool (decide (v36 = (3:Int)))))]) (objs:=[]) rfl (by simp) rfl (by trivial) ⟨rfl,trivial,rfl,trivial,rfl,trivial,trivial⟩) ?_
              refine qao rfl (fun hc51=>?_) (fun hc51=>?_)
              · have h:=if_t h hc51
                refine qa5 ?_
                refine qa1 ?_
                refine qa0 hτ rfl rfl rfl ?_
                refine qaa h fun x52 hx52 h=>?_
                refine qag hτ false [] rfl rfl rfl (qaj func164 rfl rfl) rfl rfl (by simp) ⟨trivial,trivial⟩ (by trivial) (qcu n x38 hx52) ?_
                rintro r0 o0 n0 ⟨rfl,rfl,rfl⟩ -
                refine qa0 hτ rfl rfl rfl ?_
                refine qa0 hτ rfl rfl rfl ?_
                refine qaa h fun x53 hx53 h=>?_
                refine qag hτ false [] rfl rfl rfl (qaj func164 rfl rfl) rfl rfl (by simp) ⟨trivial,trivial⟩ (by trivial) (qcu n (qad .sub .f64 (0:Nat) x37) hx53) ?_
                rintro r0 o0 n0 ⟨rfl,rfl,rfl⟩ -
                refine qa0 hτ rfl rfl rfl ?_
                refine qa0 hτ rfl rfl rfl ?_
                refine qa3 ?_
                refine qa7 (qa2 [] (l:=[(2,.d (.cx .f32 x52 x53))]) (objs:=[]) rfl (by simp) rfl (by trivial) ⟨rfl,trivial,trivial⟩) ?_
                refine qar ?_
                have hr:=Option.some.inj h
                subst hr
                exact qah (.inr rfl) [] (objs':=[]) (new:=[]) rfl (by simp) (by simp) rfl (by trivial) rfl rfl (by trivial) (fun _=>⟨by simp [V.flat,V.qbk,V.qbf,D.flat],qal⟩) ⟨rfl,rfl,rfl⟩
              · have h:=if_f h hc51
                refine qap ?_
                refine qa5 ?_
                refine qa1 ?_
                refine qa0 hτ rfl rfl rfl ?_
                refine qaa h fun x54 hx54 h=>?_
                refine qag hτ false [] rfl rfl rfl (qaj func164 rfl rfl) rfl rfl (by simp) ⟨trivial,trivial⟩ (by trivial) (qcu n x37 hx54) ?_
                rintro r0 o0 n0 ⟨rfl,rfl,rfl⟩ -
                refine qa0 hτ rfl rfl rfl ?_
                refine qaa h fun x55 hx55 h=>?_
                refine qag hτ false [] rfl rfl rfl (qaj func164 rfl rfl) rfl rfl (by simp) ⟨trivial,trivial⟩ (by trivial) (qcu n x38 hx55) ?_
                rintro r0 o0 n0 ⟨rfl,rfl,rfl⟩ -
                refine qa0 hτ rfl rfl rfl ?_
                refine qa0 hτ rfl rfl rfl ?_
                refine qa3 ?_
                refine qa7 (qa2 [] (l:=[(2,.d (.cx .f32 x54 x55))]) (objs:=[]) rfl (by simp) rfl (by trivial) ⟨rfl,trivial,trivial⟩) ?_
                refine qar ?_
                have hr:=Option.some.inj h
                subst hr
                exact qah (.inr rfl) [] (objs':=[]) (new:=[]) rfl (by simp) (by simp) rfl (by trivial) rfl rfl (by trivial) (fun _=>⟨by simp [V.flat,V.qbk,V.qbf,D.flat],qal⟩) ⟨rfl,rfl,rfl⟩
        · refine qa5 ?_
          refine qaz ?_
          refine qcs (ι:=Nat × Nat × Int) (fun (m61,v57,v58)=>St.of [(3,.d (.fl .f64 v57)),(4,.d (.int .i64 v58))] [] f137.ntmps 0) (fun (m61,v57,v58)=>qey n m61 v57 v58 = some r) (fun x=>x.1) (n,v30,(0:Int)) h (qa2 [] (l:=[(3,.d (.fl .f64 v30)),(4,.d (.int .i64 (0:Int)))]) (objs:=[]) rfl (by simp) rfl (by trivial) ⟨rfl,trivial,rfl,trivial,trivial⟩) ?_
          rintro ⟨m61,v57,v58⟩ h
          replace h:qey n m61 v57 v58 = some r:=h
          rcases m61 with _ | m61
          · rw [qey] at h;cases h
          rw [qey] at h
          refine qa5 ?_
          refine qa5 ?_
          refine qa1 ?_
          refine qa0 hτ rfl rfl rfl ?_
          refine qa0 hτ rfl rfl rfl ?_
          refine qa3 ?_
          refine qao rfl (fun hc63=>?_) (fun hc63=>?_)
          · have h:=qbn h hc63
            refine qap ?_
            refine qaz ?_
            refine qa5 ?_
            refine qa1 ?_
            refine qa0 hτ rfl rfl rfl ?_
            refine qa0 hτ rfl rfl rfl ?_
            refine qa0 hτ rfl rfl rfl ?_
            refine qa3 ?_
            refine qa1 ?_
            refine qa0 hτ rfl rfl rfl ?_
            refine qa0 hτ rfl rfl rfl ?_
            refine qa0 hτ rfl rfl rfl ?_
            refine qa3 ?_
            exact ⟨(m61,(qad .sub .f64 v57 (4598175219545276416:Nat)),(w64 (v58 + (1:Int)))),h,Nat.lt_succ_self m61,(qa2 [] (l:=[(3,.d (.fl .f64 (qad .sub .f64 v57 (4598175219545276416:Nat)))),(4,.d (.int .i64 (w64 (v58 + (1:Int)))))]) (objs:=[]) rfl (by simp) rfl (by trivial) ⟨rfl,trivial,rfl,trivial,trivial⟩)⟩
          · have h:=qbm h hc63
            refine qcr ?_
            refine qa7 (qa2 [] (l:=[(3,.d (.fl .f64 v57)),(4,.d (.int .i64 v58))]) (objs:=[]) rfl (by simp) rfl (by trivial) ⟨rfl,trivial,rfl,trivial,trivial⟩) ?_
            exact hk56 (v57,v58) h
      · refine qa5 ?_
        refine qa5 ?_
        refine qa7 (qa2 [] (l:=[(3,.d (.fl .f64 (qad .sub .f64 turns_ (FloatKind.nearest .f64 x28))))]) (objs:=[]) rfl (by simp) rfl (by trivial) ⟨rfl,trivial,trivial⟩) ?_
        refine qa1 ?_
        refine qa0 hτ rfl rfl rfl ?_
        refine qa0 hτ rfl rfl rfl ?_
        refine qa3 ?_
        refine qao rfl (fun hc65=>?_) (fun hc65=>?_)
        · have h:=qbn h hc65
          refine qa1 ?_
          refine qa0 hτ rfl rfl rfl ?_
          refine qa0 hτ rfl rfl rfl ?_
          refine qa0 hτ rfl rfl rfl ?_
          refine qa3 ?_
          refine qa7 (qa2 [] (l:=[(3,.d (.fl .f64 (qad .add .f64 (qad .sub .f64 turns_ (FloatKind.nearest .f64 x28)) (4607182418800017408:Nat))))]) (objs:=[]) rfl (by simp) rfl (by trivial) ⟨rfl,trivial,trivial⟩) ?_
          exact hk64 (qad .add .f64 (qad .sub .f64 turns_ (FloatKind.nearest .f64 x28)) (4607182418800017408:Nat)) h
        · have h:=qbm h hc65
          refine qap ?_
          refine qa7 (qa2 [] (l:=[(3,.d (.fl .f64 (qad .sub .f64 turns_ (FloatKind.nearest .f64 x28))))]) (objs:=[]) rfl (by simp) rfl (by trivial) ⟨rfl,trivial,trivial⟩) ?_
          exact hk64 (qad .sub .f64 turns_ (FloatKind.nearest .f64 x28)) h
    · refine qa5 ?_
      refine qb8 (ι:=Bool) (fun v69=>St.of [(0,.d (.fl .f64 turns_)),(19,.d (.bool v69))] [] f137.ntmps 0) (fun v69=>qg9 n turns_ v69 = some r) ?_ (fun hk71=>?_)
      · rintro v69 h
        replace h:qg9 n turns_ v69 = some r:=h
        unfold qg9 at h
        refine qao rfl (fun hc70=>?_) (fun hc70=>?_)
        · have h:=qbn h hc70
          refine qa5 ?_
          refine qa1 ?_
          refine qa0 hτ rfl rfl rfl ?_
          refine qa3 ?_
          refine qa7 (qa2 [] (l:=[(2,.d (.cx .f32 (1065353216:Nat) (0:Nat)))]) (objs:=[]) rfl (by simp) rfl (by trivial) ⟨rfl,trivial,trivial⟩) ?_
          refine qar ?_
          have hr:=Option.some.inj h
          subst hr
          exact qah (.inr rfl) [] (objs':=[]) (new:=[]) rfl (by simp) (by simp) rfl (by trivial) rfl rfl (by trivial) (fun _=>⟨by simp [V.flat,V.qbk,V.qbf,D.flat],qal⟩) ⟨rfl,rfl,rfl⟩
        · have h:=qbm h hc70
          refine qap ?_
          refine qa7 (qa2 [] (l:=[(0,.d (.fl .f64 turns_))]) (objs:=[]) rfl (by simp) rfl (by trivial) ⟨rfl,trivial,trivial⟩) ?_
          exact hk66 () h
      · refine qa5 ?_
        refine qa1 ?_
        refine qa0 hτ rfl rfl rfl ?_
        refine qa0 hτ rfl rfl rfl ?_
        refine qa0 hτ rfl rfl rfl ?_
        refine qb4 16 rfl (fun hb72=>?_) (fun hb72=>?_)
        · have h:=qbn h hb72
          refine qa6 rfl rfl ?_
          refine qa6 rfl rfl ?_
          refine qa0 hτ rfl rfl rfl ?_
          refine qa3 ?_
          refine qa7 (qa2 [] (l:=[(0,.d (.fl .f64 turns_)),(19,.d (.bool true))]) (objs:=[]) rfl (by simp) rfl (by trivial) ⟨rfl,trivial,rfl,trivial,trivial⟩) ?_
          exact hk71 true h
        · have h:=qbm h hb72
          refine qa0 hτ rfl rfl rfl ?_
          refine qa0 hτ rfl rfl rfl ?_
          refine qa0 hτ rfl rfl rfl ?_
          refine qa3 ?_
          refine qa7 (qa2 [] (l:=[(0,.d (.fl .f64 turns_)),(19,.d (.bool (fcmp .leq .f64 turns_ (14064741636278059008:Nat))))]) (objs:=[]) rfl (by simp) rfl (by trivial) ⟨rfl,trivial,rfl,trivial,trivial⟩) ?_
          exact hk71 (fcmp .leq .f64 turns_ (14064741636278059008:Nat)) h
theorem qlm (n:Nat) (turns_:Nat) {r:Cx} (h:qhz n turns_ = some r):qb9 prog false 137 [.d (.fl .f64 turns_)] [] (fun v o new=>v = .d (.cx .f32 r.re r.im)∧o = []∧new = []):=spec_l01Phasor_ok_fr0 false n turns_ h
def qje (n:Nat) (x_:Cx):Option Cx :=
  (qnz .f32 .f64 x_.re).bind fun x3 =>
  (qnz .f32 .f64 x_.im).bind fun x4 =>
  some (Cx.mk x3 x4)
theorem spec_l01Wide_ok_fr0 (fr:Bool) (n:Nat) (x_:Cx) {r:Cx} (h:qje n x_ = some r):qb9 prog fr 162 [.d (.cx .f32 x_.re x_.im)] [] (fun v o new=>v = .d (.cx .f64 r.re r.im)∧o = []∧new = []):=by
  refine qak hτ func162 rfl (by simp) (by simp) ?_
  unfold qje at h
  refine qa5 ?_
  refine qa1 ?_
  refine qa0 hτ rfl rfl rfl ?_
  refine qa3 ?_
  refine qa5 ?_
  refine qa1 ?_
  refine qa0 hτ rfl rfl rfl ?_
  refine qa0 hτ rfl rfl rfl ?_
  refine qaa h fun x3 hx3 h=>?_
  refine qa0 hτ (v:=.d (.fl .f64 x3)) rfl rfl (qqa hx3) ?_
  refine qa0 hτ rfl rfl rfl ?_
  refine qa0 hτ rfl rfl rfl ?_
  refine qaa h fun x4 hx4 h=>?_
  refine qa0 hτ (v:=.d (.fl .f64 x4)) rfl rfl (qqa hx4) ?_
  refine qa0 hτ rfl rfl rfl ?_
  refine qa0 hτ rfl rfl rfl ?_
  refine qa3 ?_
  refine qa7 (qa2 [] (l:=[(2,.d (.cx .f64 x3 x4))]) (objs:=[]) rfl (by simp) rfl (by trivial) ⟨rfl,trivial,trivial⟩) ?_
  refine qar ?_
  have hr:=Option.some.inj h
  subst hr
  exact qah (.inr rfl) [] (objs':=[]) (new:=[]) rfl (by simp) (by simp) rfl (by trivial) rfl rfl (by trivial) (fun _=>⟨by simp [V.flat,V.qbk,V.qbf,D.flat],qal⟩) ⟨rfl,rfl,rfl⟩
theorem qm2 (n:Nat) (x_:Cx) {r:Cx} (h:qje n x_ = some r):qb9 prog false 162 [.d (.cx .f32 x_.re x_.im)] [] (fun v o new=>v = .d (.cx .f64 r.re r.im)∧o = []∧new = []):=spec_l01Wide_ok_fr0 false n x_ h
def qj1 (n:Nat) (x_:Cx) (y_:Cx):Option Cx :=
  some (Cx.mk (qad .sub .f64 (qad .mul .f64 x_.re y_.re) (qad .mul .f64 x_.im y_.im)) (qad .add .f64 (qad .mul .f64 x_.re y_.im) (qad .mul .f64 x_.im y_.re)))
theorem spec_l01WideMul_ok_fr0 (fr:Bool) (n:Nat) (x_:Cx) (y_:Cx) {r:Cx} (h:qj1 n x_ y_ = some r):qb9 prog fr 161 [.d (.cx .f64 x_.re x_.im),.d (.cx .f64 y_.re y_.im)] [] (fun v o new=>v = .d (.cx .f64 r.re r.im)∧o = []∧new = []):=by
  refine qak hτ func161 rfl (by simp) (by simp) ?_
  unfold qj1 at h
  refine qa5 ?_
  refine qa1 ?_
  refine qa0 hτ rfl rfl rfl ?_
  refine qa3 ?_
  refine qa5 ?_
  refine qa1 ?_
  refine qa0 hτ rfl rfl rfl ?_
  refine qa0 hτ rfl rfl rfl ?_
  refine qa0 hτ rfl rfl rfl ?_
  refine qa0 hτ rfl rfl rfl ?_
  refine qa0 hτ rfl rfl rfl ?_
  refine qa0 hτ rfl rfl rfl ?_
  refine qa0 hτ rfl rfl rfl ?_
  refine qa0 hτ rfl rfl rfl ?_
  refine qa0 hτ rfl rfl rfl ?_
  refine qa0 hτ rfl rfl rfl ?_
  refine qa0 hτ rfl rfl rfl ?_
  refine qat (qa2 [] (l:=[(0,.d (.cx .f64 x_.re x_.im)),(1,.d (.cx .f64 y_.re y_.im)),(17,.d (.fl .f64 (qad .sub .f64 (qad .mul .f64 x_.re y_.re) (qad .mul .f64 x_.im y_.im))))]) (objs:=[]) rfl (by simp) rfl (by trivial) ⟨rfl,trivial,rfl,trivial,rfl,trivial,trivial⟩) ?_
  refine qa0 hτ rfl rfl rfl ?_
  refine qa3 ?_
  refine qa5 ?_
  refine qa1 ?_
  refine qa0 hτ rfl rfl rfl ?_
  refine qa0 hτ rfl rfl rfl ?_
  refine qa0 hτ rfl rfl rfl ?_
  refine qa0 hτ rfl rfl rfl ?_
  refine qa0 hτ rfl rfl rfl ?_
  refine qa0 hτ rfl rfl rfl ?_
  refine qa0 hτ rfl rfl rfl ?_
  refine qa0 hτ rfl rfl rfl ?_
  refine qa0 hτ rfl rfl rfl ?_
  refine qa0 hτ rfl rfl rfl ?_
  refine qa0 hτ rfl rfl rfl ?_
  refine qat (qa2 [] (l:=[(5,.d (.fl .f64 (qad .sub .f64 (qad .mul .f64 x_.re y_.re) (qad .mul .f64 x_.im y_.im)))),(28,.d (.fl .f64 (qad .add .f64 (qad .mul .f64 x_.re y_.im) (qad .mul .f64 x_.im y_.re))))]) (objs:=[]) rfl (by simp) rfl (by trivial) ⟨rfl,trivial,rfl,trivial,trivial⟩) ?_
  refine qa0 hτ rfl rfl rfl ?_
  refine qa3 ?_
  refine qa5 ?_
  refine qa1 ?_
  refine qa0 hτ rfl rfl rfl ?_
  refine qa0 hτ rfl rfl rfl ?_
  refine qa0 hτ rfl rfl rfl ?_
  refine qa0 hτ rfl rfl rfl ?_
  refine qa3 ?_
  refine qa7 (qa2 [] (l:=[(4,.d (.cx .f64 (qad .sub .f64 (qad .mul .f64 x_.re y_.re) (qad .mul .f64 x_.im y_.im)) (qad .add .f64 (qad .mul .f64 x_.re y_.im) (qad .mul .f64 x_.im y_.re))))]) (objs:=[]) rfl (by simp) rfl (by trivial) ⟨rfl,trivial,trivial⟩) ?_
  refine qar ?_
  have hr:=Option.some.inj h
  subst hr
  exact qah (.inr rfl) [] (objs':=[]) (new:=[]) rfl (by simp) (by simp) rfl (by trivial) rfl rfl (by trivial) (fun _=>⟨by simp [V.flat,V.qbk,V.qbf,D.flat],qal⟩) ⟨rfl,rfl,rfl⟩
theorem spec_l01WideMul_ok (n:Nat) (x_:Cx) (y_:Cx) {r:Cx} (h:qj1 n x_ y_ = some r):qb9 prog false 161 [.d (.cx .f64 x_.re x_.im),.d (.cx .f64 y_.re y_.im)] [] (fun v o new=>v = .d (.cx .f64 r.re r.im)∧o = []∧new = []):=spec_l01WideMul_ok_fr0 false n x_ y_ h
def qj0 (n:Nat) (x_:Cx):Option Cx :=
  (qce n x_.re).bind fun x3 =>
  (qce n x_.im).bind fun x4 =>
  some (Cx.mk x3 x4)
theorem spec_l01CNarrow_ok_fr0 (fr:Bool) (n:Nat) (x_:Cx) {r:Cx} (h:qj0 n x_ = some r):qb9 prog fr 160 [.d (.cx .f64 x_.re x_.im)] [] (fun v o new=>v = .d (.cx .f32 r.re r.im)∧o = []∧new = []):=by
  refine qak hτ func160 rfl (by simp) (by simp) ?_
  unfold qj0 at h
  refine qa5 ?_
  refine qa1 ?_
  refine qa0 hτ rfl rfl rfl ?_
  refine qa3 ?_
  refine qa5 ?_
  refine qa1 ?_
  refine qa0 hτ rfl rfl rfl ?_
  refine qa0 hτ rfl rfl rfl ?_
  refine qaa h fun x3 hx3 h=>?_
  refine qag hτ false [] rfl rfl rfl (qaj func164 rfl rfl) rfl rfl (by simp) ⟨trivial,trivial⟩ (by trivial) (qcu n x_.re hx3) ?_
  rintro r0 o0 n0 ⟨rfl,rfl,rfl⟩ -
  refine qa0 hτ rfl rfl rfl ?_
  refine qa0 hτ rfl rfl rfl ?_
  refine qaa h fun x4 hx4 h=>?_
  refine qag hτ false [] rfl rfl rfl (qaj func164 rfl rfl) rfl rfl (by simp) ⟨trivial,trivial⟩ (by trivial) (qcu n x_.im hx4) ?_
  rintro r0 o0 n0 ⟨rfl,rfl,rfl⟩ -
  refine qa0 hτ rfl rfl rfl ?_
  refine qa0 hτ rfl rfl rfl ?_
  refine qa3 ?_
  refine qa7 (qa2 [] (l:=[(2,.d (.cx .f32 x3 x4))]) (objs:=[]) rfl (by simp) rfl (by trivial) ⟨rfl,trivial,trivial⟩) ?_
  refine qar ?_
  have hr:=Option.some.inj h
  subst hr
  exact qah (.inr rfl) [] (objs':=[]) (new:=[]) rfl (by simp) (by simp) rfl (by trivial) rfl rfl (by trivial) (fun _=>⟨by simp [V.flat,V.qbk,V.qbf,D.flat],qal⟩) ⟨rfl,rfl,rfl⟩
theorem spec_l01CNarrow_ok (n:Nat) (x_:Cx) {r:Cx} (h:qj0 n x_ = some r):qb9 prog false 160 [.d (.cx .f64 x_.re x_.im)] [] (fun v o new=>v = .d (.cx .f32 r.re r.im)∧o = []∧new = []):=spec_l01CNarrow_ok_fr0 false n x_ h
def qjy (n:Nat) (x_:Cx) (y_:Cx):Option Cx :=
  (qje n x_).bind fun x5 =>
  (qje n y_).bind fun x6 =>
  (qj1 n x5 x6).bind fun x7 =>
  (qj0 n x7).bind fun x8 =>
  some x8
theorem spec_l01Mul_ok_fr0 (fr:Bool) (n:Nat) (x_:Cx) (y_:Cx) {r:Cx} (h:qjy n x_ y_ = some r):qb9 prog fr 136 [.d (.cx .f32 x_.re x_.im),.d (.cx .f32 y_.re y_.im)] [] (fun v o new=>v = .d (.cx .f32 r.re r.im)∧o = []∧new = []):=by
  refine qak hτ func136 rfl (by simp) (by simp) ?_
  unfold qjy at h
  refine qa5 ?_
  refine qa1 ?_
  refine qa0 hτ rfl rfl rfl ?_
  refine qa3 ?_
  refine qa5 ?_
  refine qa1 ?_
  refine qa0 hτ rfl rfl rfl ?_
  refine qaa h fun x5 hx5 h=>?_
  refine qag hτ false [] rfl rfl rfl (qaj func162 rfl rfl) rfl rfl (by simp) ⟨trivial,trivial⟩ (by trivial) (qm2 n x_ hx5) ?_
  rintro r0 o0 n0 ⟨rfl,rfl,rfl⟩ -
  refine qa0 hτ rfl rfl rfl ?_
  refine qaa h fun x6 hx6 h=>?_
  refine qag hτ false [] rfl rfl rfl (qaj func162 rfl rfl) rfl rfl (by simp) ⟨trivial,trivial⟩ (by trivial) (qm2 n y_ hx6) ?_
  rintro r0 o0 n0 ⟨rfl,rfl,rfl⟩ -
  refine qaa h fun x7 hx7 h=>?_
  refine qag hτ false [] rfl rfl rfl (qaj func161 rfl rfl) rfl rfl (by simp) ⟨trivial,trivial,trivial⟩ (by trivial) (spec_l01WideMul_ok n x5 x6 hx7) ?_
  rintro r0 o0 n0 ⟨rfl,rfl,rfl⟩ -
  refine qaa h fun x8 hx8 h=>?_
  refine qag hτ false [] rfl rfl rfl (qaj func160 rfl rfl) rfl rfl (by simp) ⟨trivial,trivial⟩ (by trivial) (spec_l01CNarrow_ok n x7 hx8) ?_
  rintro r0 o0 n0 ⟨rfl,rfl,rfl⟩ -
  refine qa0 hτ rfl rfl rfl ?_
  refine qa3 ?_
  refine qa7 (qa2 [] (l:=[(4,.d (.cx .f32 x8.re x8.im))]) (objs:=[]) rfl (by simp) rfl (by trivial) ⟨rfl,trivial,trivial⟩) ?_
  refine qar ?_
  have hr:=Option.some.inj h
  subst hr
  exact qah (.inr rfl) [] (objs':=[]) (new:=[]) rfl (by simp) (by simp) rfl (by trivial) rfl rfl (by trivial) (fun _=>⟨by simp [V.flat,V.qbk,V.qbf,D.flat],qal⟩) ⟨rfl,rfl,rfl⟩
theorem qmi (n:Nat) (x_:Cx) (y_:Cx) {r:Cx} (h:qjy n x_ y_ = some r):qb9 prog false 136 [.d (.cx .f32 x_.re x_.im),.d (.cx .f32 y_.re y_.im)] [] (fun v o new=>v = .d (.cx .f32 r.re r.im)∧o = []∧new = []):=spec_l01Mul_ok_fr0 false n x_ y_ h
def qck (n:Nat) (x_:Cx):Option qh5 :=
  (qhz n (fneg .f64 (4599676419421066581:Nat))).bind fun x5 =>
  (qjy n x_ x5).bind fun x6 =>
  (qhz n (4599676419421066581:Nat)).bind fun x7 =>
  (qjy n x_ x7).bind fun x8 =>
  some (qh5.mk x_ x6 x8)
theorem spec_l02Even_ok_fr0 (fr:Bool) (n:Nat) (x_:Cx) {r:qh5} (h:qck n x_ = some r):qb9 prog fr 96 [.d (.cx .f32 x_.re x_.im)] [] (fun v o new=>v = .agg [.d (.cx .f32 r.A.re r.A.im),.d (.cx .f32 r.B.re r.B.im),.d (.cx .f32 r.C.re r.C.im)]∧o = []∧new = []):=by
  refine qak hτ func96 rfl (by simp) (by simp) ?_
  unfold qck at h
  refine qa5 ?_
  refine qa1 ?_
  refine qav hτ rfl rfl rfl ?_
  refine qa3 ?_
  refine qa5 ?_
  refine qa1 ?_
  refine qa0 hτ rfl rfl rfl ?_
  refine qa3 ?_
  refine qa5 ?_
  refine qa1 ?_
  refine qa0 hτ rfl rfl rfl ?_
  refine qa0 hτ rfl rfl rfl ?_
  refine qa0 hτ rfl rfl rfl ?_
  refine qa0 hτ rfl rfl rfl ?_
  refine qaa h fun x5 hx5 h=>?_
  refine qag hτ false [] rfl rfl rfl (qaj func137 rfl rfl) rfl rfl (by simp) ⟨trivial,trivial⟩ (by trivial) (qlm n (fneg .f64 (4599676419421066581:Nat)) hx5) ?_
  rintro r0 o0 n0 ⟨rfl,rfl,rfl⟩ -
  refine qaa h fun x6 hx6 h=>?_
  refine qag hτ false [] rfl rfl rfl (qaj func136 rfl rfl) rfl rfl (by simp) ⟨trivial,trivial,trivial⟩ (by trivial) (qmi n x_ x5 hx6) ?_
  rintro r0 o0 n0 ⟨rfl,rfl,rfl⟩ -
  refine qa0 hτ rfl rfl rfl ?_
  refine qa0 hτ rfl rfl rfl ?_
  refine qaa h fun x7 hx7 h=>?_
  refine qag hτ false [] rfl rfl rfl (qaj func137 rfl rfl) rfl rfl (by simp) ⟨trivial,trivial⟩ (by trivial) (qlm n (4599676419421066581:Nat) hx7) ?_
  rintro r0 o0 n0 ⟨rfl,rfl,rfl⟩ -
  refine qaa h fun x8 hx8 h=>?_
  refine qag hτ false [] rfl rfl rfl (qaj func136 rfl rfl) rfl rfl (by simp) ⟨trivial,trivial,trivial⟩ (by trivial) (qmi n x_ x7 hx8) ?_
  rintro r0 o0 n0 ⟨rfl,rfl,rfl⟩ -
  refine qat (qa2 [0] (l:=[(2,.ptr 0 0),(4,.d (.cx .f32 x_.re x_.im)),(9,.d (.cx .f32 x6.re x6.im)),(13,.d (.cx .f32 x8.re x8.im))]) (objs:=[.box [.d (.cx .f32 (0:Nat) (0:Nat)),.d (.cx .f32 (0:Nat) (0:Nat)),.d (.cx .f32 (0:Nat) (0:Nat))]]) rfl (by simp) rfl (by trivial) ⟨rfl,trivial,rfl,trivial,rfl,trivial,rfl,trivial,trivial⟩) ?_
  refine qa0 hτ rfl rfl rfl ?_
  refine qav hτ rfl rfl rfl ?_
  refine qa3 ?_
  refine qa7 (qa2 [0] (l:=[(2,.ptr 0 0)]) (objs:=[.box [.d (.cx .f32 x_.re x_.im),.d (.cx .f32 x6.re x6.im),.d (.cx .f32 x8.re x8.im)]]) rfl (by simp) rfl (by trivial) ⟨rfl,trivial,trivial⟩) ?_
  refine qar ?_
  have hr:=Option.some.inj h
  subst hr
  exact qah (.inr rfl) [] (objs':=[]) (new:=[]) rfl (by simp) (by simp) rfl (by trivial) rfl rfl (by trivial) (fun _=>⟨by simp [V.flat,V.qbk,V.qbf,D.flat],qal⟩) ⟨rfl,rfl,rfl⟩
theorem spec_l02Even_ok (n:Nat) (x_:Cx) {r:qh5} (h:qck n x_ = some r):qb9 prog false 96 [.d (.cx .f32 x_.re x_.im)] [] (fun v o new=>v = .agg [.d (.cx .f32 r.A.re r.A.im),.d (.cx .f32 r.B.re r.B.im),.d (.cx .f32 r.C.re r.C.im)]∧o = []∧new = []):=spec_l02Even_ok_fr0 false n x_ h
def qca (n:Nat) (s_:qau) (n_:Int):Option (Bool × qau) :=
  (qaq n s_ n_).bind fun x2 =>
  some ((decide (x2.1 = (0:Int))),x2.2)
theorem qec (n:Nat) (s_:qau) (n_:Int) {r:Bool × qau} (h:qca n s_ n_ = some r):qb9 prog false 50 [.ptr 0 0,.d (.int .i64 n_)] [.box [.d (.sl false (s_.code.map qan)),.d (.int .i64 s_.at_),.d (.int .u64 s_.seed)]] (fun v o new=>v = .d (.bool r.1)∧o = [.box [.d (.sl false (r.2.code.map qan)),.d (.int .i64 r.2.at_),.d (.int .u64 r.2.seed)]]∧new = []):=by
  refine qak hτ func50 rfl (by simp) (by simp) ?_
  unfold qca at h
  refine qa5 ?_
  refine qa1 ?_
  refine qa0 hτ rfl rfl rfl ?_
  refine qa3 ?_
  refine qa5 ?_
  refine qa1 ?_
  refine qa0 hτ rfl rfl rfl ?_
  refine qa0 hτ rfl rfl rfl ?_
  refine qaa h fun x2 hx2 h=>?_
  refine qag hτ false [0] rfl rfl rfl (qaj func97 rfl rfl) rfl rfl (by simp) ⟨trivial,trivial,trivial⟩ (by trivial) (qb3 n s_ n_ hx2) ?_
  rintro r0 o0 n0 ⟨rfl,rfl,rfl⟩ -
  refine qa0 hτ (v:=.d (.bool (decide (x2.1 = (0:Int))))) rfl rfl (ql2 _ _) ?_
  refine qa0 hτ rfl rfl rfl ?_
  refine qa3 ?_
  refine qa7 (qa2 [0] (l:=[(4,.d (.bool (decide (x2.1 = (0:Int)))))]) (objs:=[.box [.d (.sl false (x2.2.code.map qan)),.d (.int .i64 x2.2.at_),.d (.int .u64 x2.2.seed)]]) rfl (by simp) rfl (by trivial) ⟨rfl,trivial,trivial⟩) ?_
  refine qar ?_
  have hr:=Option.some.inj h
  subst hr
  exact qah (.inr rfl) [] (objs':=[.box [.d (.sl false (x2.2.code.map qan)),.d (.int .i64 x2.2.at_),.d (.int .u64 x2.2.seed)]]) (new:=[]) rfl (by simp) (by simp) rfl (by trivial) rfl rfl (by trivial) (fun h=>nomatch h) ⟨rfl,rfl,rfl⟩
def qex (n:Nat) (s_:qau):Option (Nat × qau) :=
  (qaq n s_ (129:Int)).bind fun x3 =>
  (qca n x3.2 (4:Int)).bind fun x5 =>
  if x5.1 = true then
    some ((qad .quo .f32 (FloatKind.nearest .f32 (w64 (x3.1 - (64:Int)))) (1088421888:Nat)),x5.2)
  else
    some ((qad .quo .f32 (FloatKind.nearest .f32 (w64 (x3.1 - (64:Int)))) (1098907648:Nat)),x5.2)
theorem qko (n:Nat) (s_:qau) {r:Nat × qau} (h:qex n s_ = some r):qb9 prog false 178 [.ptr 0 0] [.box [.d (.sl false (s_.code.map qan)),.d (.int .i64 s_.at_),.d (.int .u64 s_.seed)]] (fun v o new=>v = .d (.fl .f32 r.1)∧o = [.box [.d (.sl false (r.2.code.map qan)),.d (.int .i64 r.2.at_),.d (.int .u64 r.2.seed)]]∧new = []):=by
  refine qak hτ func178 rfl (by simp) (by simp) ?_
  unfold qex at h
  refine qa5 ?_
  refine qa1 ?_
  refine qa0 hτ rfl rfl rfl ?_
  refine qa3 ?_
  refine qa5 ?_
  refine qa1 ?_
  refine qa0 hτ rfl rfl rfl ?_
  refine qaa h fun x3 hx3 h=>?_
  refine qag hτ false [0] rfl rfl rfl (qaj func97 rfl rfl) rfl rfl (by simp) ⟨trivial,trivial,trivial⟩ (by trivial) (qb3 n s_ (129:Int) hx3) ?_
  rintro r0 o0 n0 ⟨rfl,rfl,rfl⟩ -
  refine qa0 hτ rfl rfl rfl ?_
  refine qa0 hτ rfl rfl rfl ?_
  refine qa3 ?_
  refine qa5 ?_
  refine qa5 ?_
  refine qa1 ?_
  refine qa0 hτ rfl rfl rfl ?_
  refine qaa h fun x5 hx5 h=>?_
  refine qag hτ false [0] rfl rfl rfl (qaj func50 rfl rfl) rfl rfl (by simp) ⟨trivial,trivial,trivial⟩ (by trivial) (qec n x3.2 (4:Int) hx5) ?_
  rintro r0 o0 n0 ⟨rfl,rfl,rfl⟩ -
  refine qa3 ?_
  refine qa7 (qa2 [0] (l:=[(3,.d (.int .i64 (w64 (x3.1 - (64:Int))))),(8,.d (.bool x5.1))]) (objs:=[.box [.d (.sl false (x5.2.code.map qan)),.d (.int .i64 x5.2.at_),.d (.int .u64 x5.2.seed)]]) rfl (by simp) rfl (by trivial) ⟨rfl,trivial,rfl,trivial,trivial⟩) ?_
  refine qao rfl (fun hc6=>?_) (fun hc6=>?_)
  · have h:=qbn h hc6
    refine qa5 ?_
    refine qa1 ?_
    refine qa0 hτ rfl rfl rfl ?_
    refine qa0 hτ rfl rfl rfl ?_
    refine qa0 hτ rfl rfl rfl ?_
    refine qa0 hτ rfl rfl rfl ?_
    refine qa3 ?_
    refine qa7 (qa2 [0] (l:=[(2,.d (.fl .f32 (qad .quo .f32 (FloatKind.nearest .f32 (w64 (x3.1 - (64:Int)))) (1088421888:Nat))))]) (objs:=[.box [.d (.sl false (x5.2.code.map qan)),.d (.int .i64 x5.2.at_),.d (.int .u64 x5.2.seed)]]) rfl (by simp) rfl (by trivial) ⟨rfl,trivial,trivial⟩) ?_
    refine qar ?_
    have hr:=Option.some.inj h
    subst hr
    exact qah (.inr rfl) [] (objs':=[.box [.d (.sl false (x5.2.code.map qan)),.d (.int .i64 x5.2.at_),.d (.int .u64 x5.2.seed)]]) (new:=[]) rfl (by simp) (by simp) rfl (by trivial) rfl rfl (by trivial) (fun h=>nomatch h) ⟨rfl,rfl,rfl⟩
  · have h:=qbm h hc6
    refine qap ?_
    refine qa5 ?_
    refine qa1 ?_
    refine qa0 hτ rfl rfl rfl ?_
    refine qa0 hτ rfl rfl rfl ?_
    refine qa0 hτ rfl rfl rfl ?_
    refine qa0 hτ rfl rfl rfl ?_
    refine qa3 ?_
    refine qa7 (qa2 [0] (l:=[(2,.d (.fl .f32 (qad .quo .f32 (FloatKind.nearest .f32 (w64 (x3.1 - (64:Int)))) (1098907648:Nat))))]) (objs:=[.box [.d (.sl false (x5.2.code.map qan)),.d (.int .i64 x5.2.at_),.d (.int .u64 x5.2.seed)]]) rfl (by simp) rfl (by trivial) ⟨rfl,trivial,trivial⟩) ?_
    refine qar ?_
    have hr:=Option.some.inj h
    subst hr
    exact qah (.inr rfl) [] (objs':=[.box [.d (.sl false (x5.2.code.map qan)),.d (.int .i64 x5.2.at_),.d (.int .u64 x5.2.seed)]]) (new:=[]) rfl (by simp) (by simp) rfl (by trivial) rfl rfl (by trivial) (fun h=>nomatch h) ⟨rfl,rfl,rfl⟩
def qev (n:Nat) (s_:qau) (list_:List Int):Option (Int × qau) :=
  (qaq n s_ (list_.length:Int)).bind fun x3 =>
  (getI list_ x3.1).bind fun x4 =>
  some (x4,x3.2)
theorem qkm (n:Nat) (s_:qau) (list_:List Int) {r:Int × qau} (h:qev n s_ list_ = some r):qb9 prog false 179 [.ptr 0 0,.d (.sl false (list_.map qac))] [.box [.d (.sl false (s_.code.map qan)),.d (.int .i64 s_.at_),.d (.int .u64 s_.seed)]] (fun v o new=>v = .d (.int .i64 r.1)∧o = [.box [.d (.sl false (r.2.code.map qan)),.d (.int .i64 r.2.at_),.d (.int .u64 r.2.seed)]]∧new = []):=by
  refine qak hτ func179 rfl (by simp) (by simp) ?_
  unfold qev at h
  refine qa5 ?_
  refine qa1 ?_
  refine qa0 hτ rfl rfl rfl ?_
  refine qa3 ?_
  refine qa5 ?_
  refine qa1 ?_
  refine qa0 hτ rfl rfl rfl ?_
  refine qa0 hτ rfl rfl rfl ?_
  refine qa0 hτ rfl rfl rfl ?_
  refine qa0 hτ (v:=.d (.int .i64 (list_.length:Int))) rfl rfl (Eq.trans rfl (qdb (f:=qac) list_)) ?_
  refine qaa h fun x3 hx3 h=>?_
  refine qag hτ false [0] rfl rfl rfl (qaj func97 rfl rfl) rfl rfl (by simp) ⟨trivial,trivial,trivial⟩ (by trivial) (qb3 n s_ (list_.length:Int) hx3) ?_
  rintro r0 o0 n0 ⟨rfl,rfl,rfl⟩ -
  refine qaa h fun x4 hx4 h=>?_
  refine qbe hτ rfl rfl rfl (qaw hx4).1 (qb5 hx4) rfl ?_
  refine qa0 hτ rfl rfl rfl ?_
  refine qa0 hτ rfl rfl rfl ?_
  refine qa3 ?_
  refine qa7 (qa2 [0] (l:=[(4,.d (.int .i64 x4))]) (objs:=[.box [.d (.sl false (x3.2.code.map qan)),.d (.int .i64 x3.2.at_),.d (.int .u64 x3.2.seed)]]) rfl (by simp) rfl (by trivial) ⟨rfl,trivial,trivial⟩) ?_
  refine qar ?_
  have hr:=Option.some.inj h
  subst hr
  exact qah (.inr rfl) [] (objs':=[.box [.d (.sl false (x3.2.code.map qan)),.d (.int .i64 x3.2.at_),.d (.int .u64 x3.2.seed)]]) (new:=[]) rfl (by simp) (by simp) rfl (by trivial) rfl rfl (by trivial) (fun h=>nomatch h) ⟨rfl,rfl,rfl⟩
def qew (n:Nat) (s_:qau):Option (Nat × qau) :=
  (qca n s_ (12:Int)).bind fun x16 =>
  if x16.1 = true then
    (qaq n x16.2 (4:Int)).bind fun x27 =>
    if x27.1 = (0:Int) then
      (qev n x27.2 [(0:Int),(2147483648:Int),(2139095040:Int),(4286578688:Int),(2143289344:Int),(1:Int),(2139095039:Int),(8388608:Int),(8388607:Int),(2147483649:Int)]).bind fun x29 =>
      (qdp n x29.1).bind fun x30 =>
      some (x30,x29.2)
    else
      if x27.1 = (1:Int) then
        (qaq n x27.2 (65536:Int)).bind fun x32 =>
        (qaq n x32.2 (65536:Int)).bind fun x33 =>
        (qdp n (w64 ((w64 (x32.1 * (65536:Int))) + x33.1))).bind fun x34 =>
        some (x34,x33.2)
      else
        if x27.1 = (2:Int) then
          (qaq n x27.2 (65536:Int)).bind fun x36 =>
          (qdp n (w64 (x36.1 * (65536:Int)))).bind fun x37 =>
          some (x37,x36.2)
        else
          (qex n x27.2).bind fun x38 =>
          (qev n x38.2 [(8388608:Int),(2130706432:Int),(1610612736:Int),(536870912:Int)]).bind fun x39 =>
          (qdp n x39.1).bind fun x40 =>
          some ((qad .mul .f32 x38.1 x40),x39.2)
  else
    (qex n x16.2).bind fun x18 =>
    some (x18.1,x18.2)
theorem qkn (n:Nat) (s_:qau) {r:Nat × qau} (h:qew n s_ = some r):qb9 prog false 165 [.ptr 0 0] [.box [.d (.sl false (s_.code.map qan)),.d (.int .i64 s_.at_),.d (.int .u64 s_.seed)]] (fun v o new=>v = .d (.fl .f32 r.1)∧o = [.box [.d (.sl false (r.2.code.map qan)),.d (.int .i64 r.2.at_),.d (.int .u64 r.2.seed)]]∧new = []):=by
  refine qak hτ func165 rfl (by simp) (by simp) ?_
  unfold qew at h
  refine qa5 ?_
  refine qa1 ?_
  refine qa0 hτ rfl rfl rfl ?_
  refine qa3 ?_
  refine qa5 ?_
  refine qa5 ?_
  refine qa1 ?_
  refine qa0 hτ rfl rfl rfl ?_
  refine qaa h fun x16 hx16 h=>?_
  refine qag hτ false [0] rfl rfl rfl (qaj func50 rfl rfl) rfl rfl (by simp) ⟨trivial,trivial,trivial⟩ (by trivial) (qec n s_ (12:Int) hx16) ?_
  rintro r0 o0 n0 ⟨rfl,rfl,rfl⟩ -
  refine qa0 hτ rfl rfl rfl ?_
  refine qa3 ?_
  refine qao rfl (fun hc17=>?_) (fun hc17=>?_)
  · have hc17:=qgh hc17
    have h:=qbm h hc17
    refine qa5 ?_
    refine qa1 ?_
    refine qa0 hτ rfl rfl rfl ?_
    refine qaa h fun x18 hx18 h=>?_
    refine qag hτ false [0] rfl rfl rfl (qaj func178 rfl rfl) rfl rfl (by simp) ⟨trivial,trivial⟩ (by trivial) (qko n x16.2 hx18) ?_
    rintro r0 o0 n0 ⟨rfl,rfl,rfl⟩ -
    refine qa0 hτ rfl rfl rfl ?_
    refine qa3 ?_
    refine qa7 (qa2 [0] (l:=[(2,.d (.fl .f32 x18.1))]) (objs:=[.box [.d (.sl false (x18.2.code.map qan)),.d (.int .i64 x18.2.at_),.d (.int .u64 x18.2.seed)]]) rfl (by simp) rfl (by trivial) ⟨rfl,trivial,trivial⟩) ?_
    refine qar ?_
    have hr:=Option.some.inj h
    subst hr
    exact qah (.inr rfl) [] (objs':=[.box [.d (.sl false (x18.2.code.map qan)),.d (.int .i64 x18.2.at_),.d (.int .u64 x18.2.seed)]]) (new:=[]) rfl (by simp) (by simp) rfl (by trivial) rfl rfl (by trivial) (fun h=>nomatch h) ⟨rfl,rfl,rfl⟩
  · have hc17:=qgg hc17
    have h:=qbn h hc17
    refine qap ?_
    refine qa5 ?_
    refine qa5 ?_
    refine qa1 ?_
    refine qa0 hτ rfl rfl rfl ?_
    refine qaa h fun x27 hx27 h=>?_
    refine qag hτ false [0] rfl rfl rfl (qaj func97 rfl rfl) rfl rfl (by simp) ⟨trivial,trivial,trivial⟩ (by trivial) (qb3 n x16.2 (4:Int) hx27) ?_
    rintro r0 o0 n0 ⟨rfl,rfl,rfl⟩ -
    refine qa3 ?_
    refine qaz ?_
    refine qa5 ?_
    refine qa7 (qa2 [0] (l:=[(0,.ptr 0 0),(10,.d (.int .i64 x27.1))]) (objs:=[.box [.d (.sl false (x27.2.code.map qan)),.d (.int .i64 x27.2.at_),.d (.int .u64 x27.2.seed)]]) rfl (by simp) rfl (by trivial) ⟨rfl,trivial,rfl,trivial,trivial⟩) ?_
    refine qa1 ?_
    refine qa0 hτ (v:=.d (.bool (decide (x27.1 = (0:Int))))) rfl rfl (ql2 _ _) ?_
    refine qa0 hτ rfl rfl rfl ?_
    refine qa3 ?_
    refine qao rfl (fun hc28=>?_) (fun hc28=>?_)
    · have h:=if_t h hc28
      refine qa5 ?_
      refine qa1 ?_
      refine qa0 hτ rfl rfl rfl ?_
      refine qav hτ rfl rfl rfl ?_
      refine qat (qa2 [0] (l:=[(13,.ptr 0 0),(14,.d (.sl false ([(0:Int),(2147483648:Int),(2139095040:Int),(4286578688:Int),(2143289344:Int),(1:Int),(2139095039:Int),(8388608:Int),(8388607:Int),(2147483649:Int)].map qac)))]) (objs:=[.box [.d (.sl false (x27.2.code.map qan)),.d (.int .i64 x27.2.at_),.d (.int .u64 x27.2.seed)]]) rfl (by simp) rfl (by trivial) ⟨rfl,trivial,(qf0 (f:=qac) [(0:Int),(2147483648:Int),(2139095040:Int),(4286578688:Int),(2143289344:Int),(1:Int),(2139095039:Int),(8388608:Int),(8388607:Int),(2147483649:Int)] rfl rfl rfl),(qdo (f:=qac) [(0:Int),(2147483648:Int),(2139095040:Int),(4286578688:Int),(2143289344:Int),(1:Int),(2139095039:Int),(8388608:Int),(8388607:Int),(2147483649:Int)] rfl rfl rfl),trivial⟩) ?_
      refine qaa h fun x29 hx29 h=>?_
      refine qag hτ false [0] rfl rfl rfl (qaj func179 rfl rfl) rfl rfl (by simp) ⟨trivial,trivial,trivial⟩ (by trivial) (qkm n x27.2 [(0:Int),(2147483648:Int),(2139095040:Int),(4286578688:Int),(2143289344:Int),(1:Int),(2139095039:Int),(8388608:Int),(8388607:Int),(2147483649:Int)] hx29) ?_
      rintro r0 o0 n0 ⟨rfl,rfl,rfl⟩ -
      refine qaa h fun x30 hx30 h=>?_
      refine qag hτ false [] rfl rfl rfl (qaj func152 rfl rfl) rfl rfl (by simp) ⟨trivial,trivial⟩ (by trivial) (qhl n x29.1 hx30) ?_
      rintro r0 o0 n0 ⟨rfl,rfl,rfl⟩ -
      refine qa0 hτ rfl rfl rfl ?_
      refine qa3 ?_
      refine qa7 (qa2 [0] (l:=[(2,.d (.fl .f32 x30))]) (objs:=[.box [.d (.sl false (x29.2.code.map qan)),.d (.int .i64 x29.2.at_),.d (.int .u64 x29.2.seed)]]) rfl (by simp) rfl (by trivial) ⟨rfl,trivial,trivial⟩) ?_
      refine qar ?_
      have hr:=Option.some.inj h
      subst hr
      exact qah (.inr rfl) [] (objs':=[.box [.d (.sl false (x29.2.code.map qan)),.d (.int .i64 x29.2.at_),.d (.int .u64 x29.2.seed)]]) (new:=[]) rfl (by simp) (by simp) rfl (by trivial) rfl rfl (by trivial) (fun h=>nomatch h) ⟨rfl,rfl,rfl⟩
    · have h:=if_f h hc28
      refine qa5 ?_
      refine qa1 ?_
      refine qa0 hτ (v:=.d (.bool (decide (x27.1 = (1:Int))))) rfl rfl (ql2 _ _) ?_
      refine qa0 hτ rfl rfl rfl ?_
      refine qa3 ?_
      refine qao rfl (fun hc31=>?_) (fun hc31=>?_)
      · have h:=if_t h hc31
        refine qa5 ?_
        refine qa1 ?_
        refine qa0 hτ rfl rfl rfl ?_
        refine qaa h fun x32 hx32 h=>?_
        refine qag hτ false [0] rfl rfl rfl (qaj func97 rfl rfl) rfl rfl (by simp) ⟨trivial,trivial,trivial⟩ (by trivial) (qb3 n x27.2 (65536:Int) hx32) ?_
        rintro r0 o0 n0 ⟨rfl,rfl,rfl⟩ -
        refine qa0 hτ rfl rfl rfl ?_
        refine qa0 hτ rfl rfl rfl ?_
        refine qa3 ?_
        refine qa5 ?_
        refine qa7 (qa2 [0] (l:=[(0,.ptr 0 0),(3,.d (.int .i64 (w64 (x32.1 * (65536:Int)))))]) (objs:=[.box [.d (.sl false (x32.2.code.map qan)),.d (.int .i64 x32.2.at_),.d (.int .u64 x32.2.seed)]]) rfl (by simp) rfl (by trivial) ⟨rfl,trivial,rfl,trivial,trivial⟩) ?_
        refine qa1 ?_
        refine qa0 hτ rfl rfl rfl ?_
        refine qa0 hτ rfl rfl rfl ?_
        refine qaa h fun x33 hx33 h=>?_
        refine qag hτ false [0] rfl rfl rfl (qaj func97 rfl rfl) rfl rfl (by simp) ⟨trivial,trivial,trivial⟩ (by trivial) (qb3 n x32.2 (65536:Int) hx33) ?_
        rintro r0 o0 n0 ⟨rfl,rfl,rfl⟩ -
        refine qa0 hτ rfl rfl rfl ?_
        refine qaa h fun x34 hx34 h=>?_
        refine qag hτ false [] rfl rfl rfl (qaj func152 rfl rfl) rfl rfl (by simp) ⟨trivial,trivial⟩ (by trivial) (qhl n (w64 ((w64 (x32.1 * (65536:Int))) + x33.1)) hx34) ?_
        rintro r0 o0 n0 ⟨rfl,rfl,rfl⟩ -
        refine qa0 hτ rfl rfl rfl ?_
        refine qa3 ?_
        refine qa7 (qa2 [0] (l:=[(2,.d (.fl .f32 x34))]) (objs:=[.box [.d (.sl false (x33.2.code.map qan)),.d (.int .i64 x33.2.at_),.d (.int .u64 x33.2.seed)]]) rfl (by simp) rfl (by trivial) ⟨rfl,trivial,trivial⟩) ?_
        refine qar ?_
        have hr:=Option.some.inj h
        subst hr
        exact qah (.inr rfl) [] (objs':=[.box [.d (.sl false (x33.2.code.map qan)),.d (.int .i64 x33.2.at_),.d (.int .u64 x33.2.seed)]]) (new:=[]) rfl (by simp) (by simp) rfl (by trivial) rfl rfl (by trivial) (fun h=>nomatch h) ⟨rfl,rfl,rfl⟩
      · have h:=if_f h hc31
        refine qa5 ?_
        refine qa1 ?_
        refine qa0 hτ (v:=.d (.bool (decide (x27.1 = (2:Int))))) rfl rfl (ql2 _ _) ?_
        refine qa0 hτ rfl rfl rfl ?_
        refine qa3 ?_
        refine qa7 (qa2 [0] (l:=[(0,.ptr 0 0),(27,.d (.bool (decide (x27.1 = (2:Int)))))]) (objs:=[.box [.d (.sl false (x27.2.code.map qan)),.d (.int .i64 x27.2.at_),.d (.int .u64 x27.2.seed)]]) rfl (by simp) rfl (by trivial) ⟨rfl,trivial,rfl,trivial,trivial⟩) ?_
        refine qao rfl (fun hc35=>?_) (fun hc35=>?_)
        · have h:=if_t h hc35
          refine qa5 ?_
          refine qa1 ?_
          refine qa0 hτ rfl rfl rfl ?_
          refine qaa h fun x36 hx36 h=>?_
          refine qag hτ false [0] rfl rfl rfl (qaj func97 rfl rfl) rfl rfl (by simp) ⟨trivial,trivial,trivial⟩ (by trivial) (qb3 n x27.2 (65536:Int) hx36) ?_
          rintro r0 o0 n0 ⟨rfl,rfl,rfl⟩ -
          refine qa0 hτ rfl rfl rfl ?_
          refine qaa h fun x37 hx37 h=>?_
          refine qag hτ false [] rfl rfl rfl (qaj func152 rfl rfl) rfl rfl (by simp) ⟨trivial,trivial⟩ (by trivial) (qhl n (w64 (x36.1 * (65536:Int))) hx37) ?_
          rintro r0 o0 n0 ⟨rfl,rfl,rfl⟩ -
          refine qa0 hτ rfl rfl rfl ?_
          refine qa3 ?_
          refine qa7 (qa2 [0] (l:=[(2,.d (.fl .f32 x37))]) (objs:=[.box [.d (.sl false (x36.2.code.map qan)),.d (.int .i64 x36.2.at_),.d (.int .u64 x36.2.seed)]]) rfl (by simp) rfl (by trivial) ⟨rfl,trivial,trivial⟩) ?_
          refine qar ?_
          have hr:=Option.some.inj h
          subst hr
          exact qah (.inr rfl) [] (objs':=[.box [.d (.sl false (x36.2.code.map qan)),.d (.int .i64 x36.2.at_),.d (.int .u64 x36.2.seed)]]) (new:=[]) rfl (by simp) (by simp) rfl (by trivial) rfl rfl (by trivial) (fun h=>nomatch h) ⟨rfl,rfl,rfl⟩
        · have h:=if_f h hc35
          refine qap ?_
          refine qa5 ?_
          refine qa1 ?_
          refine qa0 hτ rfl rfl rfl ?_
          refine qaa h fun x38 hx38 h=>?_
          refine qag hτ false [0] rfl rfl rfl (qaj func178 rfl rfl) rfl rfl (by simp) ⟨trivial,trivial⟩ (by trivial) (qko n x27.2 hx38) ?_
          rintro r0 o0 n0 ⟨rfl,rfl,rfl⟩ -
          refine qa0 hτ rfl rfl rfl ?_
          refine qav hτ rfl rfl rfl ?_
          refine qat (qa2 [0] (l:=[(34,.d (.fl .f32 x38.1)),(35,.ptr 0 0),(36,.d (.sl false ([(8388608:Int),(2130706432:Int),(1610612736:Int),(536870912:Int)].map qac)))]) (objs:=[.box [.d (.sl false (x38.2.code.map qan)),.d (.int .i64 x38.2.at_),.d (.int .u64 x38.2.seed)]]) rfl (by simp) rfl (by trivial) ⟨rfl,trivial,rfl,trivial,(qf0 (f:=qac) [(8388608:Int),(2130706432:Int),(1610612736:Int),(536870912:Int)] rfl rfl rfl),(qdo (f:=qac) [(8388608:Int),(2130706432:Int),(1610612736:Int),(536870912:Int)] rfl rfl rfl),trivial⟩) ?_
          refine qaa h fun x39 hx39 h=>?_
          refine qag hτ false [0] rfl rfl rfl (qaj func179 rfl rfl) rfl rfl (by simp) ⟨trivial,trivial,trivial⟩ (by trivial) (qkm n x38.2 [(8388608:Int),(2130706432:Int),(1610612736:Int),(536870912:Int)] hx39) ?_
          rintro r0 o0 n0 ⟨rfl,rfl,rfl⟩ -
          refine qaa h fun x40 hx40 h=>?_
          refine qag hτ false [] rfl rfl rfl (qaj func152 rfl rfl) rfl rfl (by simp) ⟨trivial,trivial⟩ (by trivial) (qhl n x39.1 hx40) ?_
          rintro r0 o0 n0 ⟨rfl,rfl,rfl⟩ -
          refine qa0 hτ rfl rfl rfl ?_
          refine qa0 hτ rfl rfl rfl ?_
          refine qa3 ?_
          refine qa7 (qa2 [0] (l:=[(2,.d (.fl .f32 (qad .mul .f32 x38.1 x40)))]) (objs:=[.box [.d (.sl false (x39.2.code.map qan)),.d (.int .i64 x39.2.at_),.d (.int .u64 x39.2.seed)]]) rfl (by simp) rfl (by trivial) ⟨rfl,trivial,trivial⟩) ?_
          refine qar ?_
          have hr:=Option.some.inj h
          subst hr
          exact qah (.inr rfl) [] (objs':=[.box [.d (.sl false (x39.2.code.map qan)),.d (.int .i64 x39.2.at_),.d (.int .u64 x39.2.seed)]]) (new:=[]) rfl (by simp) (by simp) rfl (by trivial) rfl rfl (by trivial) (fun h=>nomatch h) ⟨rfl,rfl,rfl⟩
def qdj (n:Nat) (s_:qau) (most_:Int):Option (Cx × qau) :=
  (qca n s_ (24:Int)).bind fun x9 =>
  if x9.1 = true then
    (qew n x9.2).bind fun x11 =>
    (qew n x11.2).bind fun x12 =>
    some ((Cx.mk x11.1 x12.1),x12.2)
  else
    (qaq n x9.2 (w64 ((w64 ((2:Int) * most_)) + (1:Int)))).bind fun x13 =>
    (qaq n x13.2 (w64 ((w64 ((2:Int) * most_)) + (1:Int)))).bind fun x14 =>
    some ((Cx.mk (qad .quo .f32 (FloatKind.nearest .f32 (w64 (x13.1 - most_))) (1098907648:Nat)) (qad .quo .f32 (FloatKind.nearest .f32 (w64 (x14.1 - most_))) (1098907648:Nat))),x14.2)
theorem qiu (n:Nat) (s_:qau) (most_:Int) {r:Cx × qau} (h:qdj n s_ most_ = some r):qb9 prog false 139 [.ptr 0 0,.d (.int .i64 most_)] [.box [.d (.sl false (s_.code.map qan)),.d (.int .i64 s_.at_),.d (.int .u64 s_.seed)]] (fun v o new=>v = .d (.cx .f32 r.1.re r.1.im)∧o = [.box [.d (.sl false (r.2.code.map qan)),.d (.int .i64 r.2.at_),.d (.int .u64 r.2.seed)]]∧new = []):=by
  refine qak hτ func139 rfl (by simp) (by simp) ?_
  unfold qdj at h
  refine qa5 ?_
  refine qa1 ?_
  refine qa0 hτ rfl rfl rfl ?_
  refine qa3 ?_
  refine qa5 ?_
  refine qa5 ?_
  refine qa1 ?_
  refine qa0 hτ rfl rfl rfl ?_
  refine qaa h fun x9 hx9 h=>?_
  refine qag hτ false [0] rfl rfl rfl (qaj func50 rfl rfl) rfl rfl (by simp) ⟨trivial,trivial,trivial⟩ (by trivial) (qec n s_ (24:Int) hx9) ?_
  rintro r0 o0 n0 ⟨rfl,rfl,rfl⟩ -
  refine qa3 ?_
  refine qao rfl (fun hc10=>?_) (fun hc10=>?_)
  · have h:=qbn h hc10
    refine qa5 ?_
    refine qa1 ?_
    refine qa0 hτ rfl rfl rfl ?_
    refine qaa h fun x11 hx11 h=>?_
    refine qag hτ false [0] rfl rfl rfl (qaj func165 rfl rfl) rfl rfl (by simp) ⟨trivial,trivial⟩ (by trivial) (qkn n x9.2 hx11) ?_
    rintro r0 o0 n0 ⟨rfl,rfl,rfl⟩ -
    refine qa0 hτ rfl rfl rfl ?_
    refine qa3 ?_
    refine qa5 ?_
    refine qa7 (qa2 [0] (l:=[(0,.ptr 0 0),(5,.d (.fl .f32 x11.1))]) (objs:=[.box [.d (.sl false (x11.2.code.map qan)),.d (.int .i64 x11.2.at_),.d (.int .u64 x11.2.seed)]]) rfl (by simp) rfl (by trivial) ⟨rfl,trivial,rfl,trivial,trivial⟩) ?_
    refine qa1 ?_
    refine qa0 hτ rfl rfl rfl ?_
    refine qa0 hτ rfl rfl rfl ?_
    refine qaa h fun x12 hx12 h=>?_
    refine qag hτ false [0] rfl rfl rfl (qaj func165 rfl rfl) rfl rfl (by simp) ⟨trivial,trivial⟩ (by trivial) (qkn n x11.2 hx12) ?_
    rintro r0 o0 n0 ⟨rfl,rfl,rfl⟩ -
    refine qa0 hτ rfl rfl rfl ?_
    refine qa0 hτ rfl rfl rfl ?_
    refine qa3 ?_
    refine qa7 (qa2 [0] (l:=[(4,.d (.cx .f32 x11.1 x12.1))]) (objs:=[.box [.d (.sl false (x12.2.code.map qan)),.d (.int .i64 x12.2.at_),.d (.int .u64 x12.2.seed)]]) rfl (by simp) rfl (by trivial) ⟨rfl,trivial,trivial⟩) ?_
    refine qar ?_
    have hr:=Option.some.inj h
    subst hr
    exact qah (.inr rfl) [] (objs':=[.box [.d (.sl false (x12.2.code.map qan)),.d (.int .i64 x12.2.at_),.d (.int .u64 x12.2.seed)]]) (new:=[]) rfl (by simp) (by simp) rfl (by trivial) rfl rfl (by trivial) (fun h=>nomatch h) ⟨rfl,rfl,rfl⟩
  · have h:=qbm h hc10
    refine qap ?_
    refine qa5 ?_
    refine qa1 ?_
    refine qa0 hτ rfl rfl rfl ?_
    refine qa0 hτ rfl rfl rfl ?_
    refine qa0 hτ rfl rfl rfl ?_
    refine qa0 hτ rfl rfl rfl ?_
    refine qaa h fun x13 hx13 h=>?_
    refine qag hτ false [0] rfl rfl rfl (qaj func97 rfl rfl) rfl rfl (by simp) ⟨trivial,trivial,trivial⟩ (by trivial) (qb3 n x9.2 (w64 ((w64 ((2:Int) * most_)) + (1:Int))) hx13) ?_
    rintro r0 o0 n0 ⟨rfl,rfl,rfl⟩ -
    refine qa0 hτ rfl rfl rfl ?_
    refine qa0 hτ rfl rfl rfl ?_
    refine qa0 hτ rfl rfl rfl ?_
    refine qa0 hτ rfl rfl rfl ?_
    refine qat (qa2 [0] (l:=[(0,.ptr 0 0),(1,.d (.int .i64 most_)),(23,.d (.fl .f32 (qad .quo .f32 (FloatKind.nearest .f32 (w64 (x13.1 - most_))) (1098907648:Nat))))]) (objs:=[.box [.d (.sl false (x13.2.code.map qan)),.d (.int .i64 x13.2.at_),.d (.int .u64 x13.2.seed)]]) rfl (by simp) rfl (by trivial) ⟨rfl,trivial,rfl,trivial,rfl,trivial,trivial⟩) ?_
    refine qa0 hτ rfl rfl rfl ?_
    refine qa3 ?_
    refine qa5 ?_
    refine qa1 ?_
    refine qa0 hτ rfl rfl rfl ?_
    refine qa0 hτ rfl rfl rfl ?_
    refine qa0 hτ rfl rfl rfl ?_
    refine qa0 hτ rfl rfl rfl ?_
    refine qa0 hτ rfl rfl rfl ?_
    refine qaa h fun x14 hx14 h=>?_
    refine qag hτ false [0] rfl rfl rfl (qaj func97 rfl rfl) rfl rfl (by simp) ⟨trivial,trivial,trivial⟩ (by trivial) (qb3 n x13.2 (w64 ((w64 ((2:Int) * most_)) + (1:Int))) hx14) ?_
    rintro r0 o0 n0 ⟨rfl,rfl,rfl⟩ -
    refine qa0 hτ rfl rfl rfl ?_
    refine qa0 hτ rfl rfl rfl ?_
    refine qa0 hτ rfl rfl rfl ?_
    refine qa0 hτ rfl rfl rfl ?_
    refine qa0 hτ rfl rfl rfl ?_
    refine qat (qa2 [0] (l:=[(34,.d (.cx .f32 (qad .quo .f32 (FloatKind.nearest .f32 (w64 (x13.1 - most_))) (1098907648:Nat)) (qad .quo .f32 (FloatKind.nearest .f32 (w64 (x14.1 - most_))) (1098907648:Nat))))]) (objs:=[.box [.d (.sl false (x14.2.code.map qan)),.d (.int .i64 x14.2.at_),.d (.int .u64 x14.2.seed)]]) rfl (by simp) rfl (by trivial) ⟨rfl,trivial,trivial⟩) ?_
    refine qa0 hτ rfl rfl rfl ?_
    refine qa3 ?_
    refine qa7 (qa2 [0] (l:=[(4,.d (.cx .f32 (qad .quo .f32 (FloatKind.nearest .f32 (w64 (x13.1 - most_))) (1098907648:Nat)) (qad .quo .f32 (FloatKind.nearest .f32 (w64 (x14.1 - most_))) (1098907648:Nat))))]) (objs:=[.box [.d (.sl false (x14.2.code.map qan)),.d (.int .i64 x14.2.at_),.d (.int .u64 x14.2.seed)]]) rfl (by simp) rfl (by trivial) ⟨rfl,trivial,trivial⟩) ?_
    refine qar ?_
    have hr:=Option.some.inj h
    subst hr
    exact qah (.inr rfl) [] (objs':=[.box [.d (.sl false (x14.2.code.map qan)),.d (.int .i64 x14.2.at_),.d (.int .u64 x14.2.seed)]]) (new:=[]) rfl (by simp) (by simp) rfl (by trivial) rfl rfl (by trivial) (fun h=>nomatch h) ⟨rfl,rfl,rfl⟩
def qef (n:Nat) (s_:qau) (most_:Int):Option (qh5 × qau) :=
  (qdj n s_ most_).bind fun x4 =>
  (qdj n x4.2 most_).bind fun x5 =>
  (qdj n x5.2 most_).bind fun x6 =>
  some ((qh5.mk x4.1 x5.1 x6.1),x6.2)
theorem qkj (n:Nat) (s_:qau) (most_:Int) {r:qh5 × qau} (h:qef n s_ most_ = some r):qb9 prog false 98 [.ptr 0 0,.d (.int .i64 most_)] [.box [.d (.sl false (s_.code.map qan)),.d (.int .i64 s_.at_),.d (.int .u64 s_.seed)]] (fun v o new=>v = .agg [.d (.cx .f32 r.1.A.re r.1.A.im),.d (.cx .f32 r.1.B.re r.1.B.im),.d (.cx .f32 r.1.C.re r.1.C.im)]∧o = [.box [.d (.sl false (r.2.code.map qan)),.d (.int .i64 r.2.at_),.d (.int .u64 r.2.seed)]]∧new = []):=by
  refine qak hτ func98 rfl (by simp) (by simp) ?_
  unfold qef at h
  refine qa5 ?_
  refine qa1 ?_
  refine qav hτ rfl rfl rfl ?_
  refine qa3 ?_
  refine qa5 ?_
  refine qa1 ?_
  refine qa0 hτ rfl rfl rfl ?_
  refine qa0 hτ rfl rfl rfl ?_
  refine qaa h fun x4 hx4 h=>?_
  refine qag hτ false [0] rfl rfl rfl (qaj func139 rfl rfl) rfl rfl (by simp) ⟨trivial,trivial,trivial⟩ (by trivial) (qiu n s_ most_ hx4) ?_
  rintro r0 o0 n0 ⟨rfl,rfl,rfl⟩ -
  refine qa0 hτ rfl rfl rfl ?_
  refine qav hτ rfl rfl rfl ?_
  refine qav hτ rfl rfl rfl ?_
  refine qa3 ?_
  refine qa5 ?_
  refine qa7 (qa2 [0,1,2] (l:=[(0,.ptr 0 0),(1,.d (.int .i64 most_)),(4,.ptr 1 0),(5,.ptr 2 0)]) (objs:=[.box [.d (.sl false (x4.2.code.map qan)),.d (.int .i64 x4.2.at_),.d (.int .u64 x4.2.seed)],.box [.d (.cx .f32 (0:Nat) (0:Nat)),.d (.cx .f32 (0:Nat) (0:Nat)),.d (.cx .f32 (0:Nat) (0:Nat))],.box [.d (.cx .f32 x4.1.re x4.1.im),.d (.cx .f32 (0:Nat) (0:Nat)),.d (.cx .f32 (0:Nat) (0:Nat))]]) rfl (by simp) rfl (by trivial) ⟨rfl,trivial,rfl,trivial,rfl,trivial,rfl,trivial,trivial⟩) ?_
  refine qa1 ?_
  refine qa0 hτ rfl rfl rfl ?_
  refine qa0 hτ rfl rfl rfl ?_
  refine qaa h fun x5 hx5 h=>?_
  refine qag hτ false [0] rfl rfl rfl (qaj func139 rfl rfl) rfl rfl (by simp) ⟨trivial,trivial,trivial⟩ (by trivial) (qiu n x4.2 most_ hx5) ?_
  rintro r0 o0 n0 ⟨rfl,rfl,rfl⟩ -
  refine qa0 hτ rfl rfl rfl ?_
  refine qav hτ rfl rfl rfl ?_
  refine qa3 ?_
  refine qa5 ?_
  refine qa1 ?_
  refine qa0 hτ rfl rfl rfl ?_
  refine qa0 hτ rfl rfl rfl ?_
  refine qaa h fun x6 hx6 h=>?_
  refine qag hτ false [0] rfl rfl rfl (qaj func139 rfl rfl) rfl rfl (by simp) ⟨trivial,trivial,trivial⟩ (by trivial) (qiu n x5.2 most_ hx6) ?_
  rintro r0 o0 n0 ⟨rfl,rfl,rfl⟩ -
  refine qa0 hτ rfl rfl rfl ?_
  refine qav hτ rfl rfl rfl ?_
  refine qa3 ?_
  refine qa5 ?_
  refine qa7 (qa2 [0,1,2] (l:=[(4,.ptr 1 0),(5,.ptr 2 0)]) (objs:=[.box [.d (.sl false (x6.2.code.map qan)),.d (.int .i64 x6.2.at_),.d (.int .u64 x6.2.seed)],.box [.d (.cx .f32 (0:Nat) (0:Nat)),.d (.cx .f32 (0:Nat) (0:Nat)),.d (.cx .f32 (0:Nat) (0:Nat))],.box [.d (.cx .f32 x4.1.re x4.1.im),.d (.cx .f32 x5.1.re x5.1.im),.d (.cx .f32 x6.1.re x6.1.im)]]) rfl (by simp) rfl (by trivial) ⟨rfl,trivial,rfl,trivial,trivial⟩) ?_
  refine qa1 ?_
  refine qa0 hτ rfl rfl rfl ?_
  refine qav hτ rfl rfl rfl ?_
  refine qa3 ?_
  refine qa7 (qa2 [0,1] (l:=[(4,.ptr 1 0)]) (objs:=[.box [.d (.sl false (x6.2.code.map qan)),.d (.int .i64 x6.2.at_),.d (.int .u64 x6.2.seed)],.box [.d (.cx .f32 x4.1.re x4.1.im),.d (.cx .f32 x5.1.re x5.1.im),.d (.cx .f32 x6.1.re x6.1.im)]]) rfl (by simp) rfl (by trivial) ⟨rfl,trivial,trivial⟩) ?_
  refine qar ?_
  have hr:=Option.some.inj h
  subst hr
  exact qah (.inr rfl) [] (objs':=[.box [.d (.sl false (x6.2.code.map qan)),.d (.int .i64 x6.2.at_),.d (.int .u64 x6.2.seed)]]) (new:=[]) rfl (by simp) (by simp) rfl (by trivial) rfl rfl (by trivial) (fun h=>nomatch h) ⟨rfl,rfl,rfl⟩
def qhv (n:Nat) (v87:Cx) (v88:Cx) (v89:Cx) (v153:List Int) (v154:Int) (v155:Int) (v156:List SBus):Option (qax × qau) :=
  some ((qax.mk (qh5.mk v87 v88 v89) v156),(qau.mk v153 v154 v155))
def qga (n:Nat) (k221:List Int→Int→Int→List SBus→Int→Option (qax × qau)) (v188:Int) (v249:List Int) (v250:Int) (v251:Int) (v252:List SBus):Option (qax × qau) :=
  k221 v249 v250 v251 v252 (w64 (v188 + (1:Int)))
def qdv (n:Nat) (k221:List Int→Int→Int→List SBus→Int→Option (qax × qau)) (v187:List SBus) (v188:Int) (v272:Int) (v273:Cx) (v274:Cx) (x275:Int × qau) (v284:List Int) (v285:Int) (v286:Int) (v287:Cx) (v288:Cx) (v289:Cx):Option (qax × qau) :=
  (qaq n (qau.mk v284 v285 v286) (30:Int)).bind fun x290 =>
  grd (room (v187.length + 1) 64) <|
  qga n k221 v188 x290.2.code x290.2.at_ x290.2.seed (v187 ++ [(SBus.mk v272 v273 v274 x275.1 (qh5.mk v287 v288 v289) x290.1)])
def qdu (n:Nat) (k221:List Int→Int→Int→List SBus→Int→Option (qax × qau)) (v187:List SBus) (v188:Int) (v269:List Int) (v270:Int) (v271:Int) (v272:Int) (v273:Cx) (v274:Cx):Option (qax × qau) :=
  (qaq n (qau.mk v269 v270 v271) (3:Int)).bind fun x275 =>
  (qca n x275.2 (3:Int)).bind fun x293 =>
  if x293.1 = true then
    qdv n k221 v187 v188 v272 v273 v274 x275 x293.2.code x293.2.at_ x293.2.seed (Cx.mk (0:Nat) (0:Nat)) (Cx.mk (0:Nat) (0:Nat)) (Cx.mk (0:Nat) (0:Nat))
  else
    (qef n x293.2 (24:Int)).bind fun x295 =>
    qdv n k221 v187 v188 v272 v273 v274 x275 x295.2.code x295.2.at_ x295.2.seed x295.1.A x295.1.B x295.1.C
def qdw (n:Nat) (k221:List Int→Int→Int→List SBus→Int→Option (qax × qau)) (v187:List SBus) (v188:Int) (v304:List Int) (v305:Int) (v306:Int) (v307:Int):Option (qax × qau) :=
  (qaq n (qau.mk v304 v305 v306) (5:Int)).bind fun x308 =>
  (qaq n x308.2 (5:Int)).bind fun x309 =>
  (qaq n x309.2 (3:Int)).bind fun x310 =>
  qdu n k221 v187 v188 x310.2.code x310.2.at_ x310.2.seed v307 (Cx.mk (qad .quo .f32 (FloatKind.nearest .f32 x308.1) (1098907648:Nat)) (qad .quo .f32 (FloatKind.nearest .f32 x309.1) (1098907648:Nat))) (Cx.mk (0:Nat) (qad .quo .f32 (FloatKind.nearest .f32 x310.1) (1098907648:Nat)))
def qb2 (n:Nat) (v87:Cx) (v88:Cx) (v89:Cx) (x90:Int × qau):Nat→List Int→Int→Int→List SBus→Int→Option (qax × qau)
  | 0,_,_,_,_,_=>none
  | m220 + 1,v184,v185,v186,v187,v188 =>
    if v188 < (w64 ((1:Int) + x90.1)) then
      if v188 > (0:Int) then
        (qca n (qau.mk v184 v185 v186) (2:Int)).bind fun x312 =>
        if x312.1 = true then
          (qaq n x312.2 v188).bind fun x314 =>
          qdw n (qb2 n v87 v88 v89 x90 m220) v187 v188 x314.2.code x314.2.at_ x314.2.seed x314.1
        else
          qdw n (qb2 n v87 v88 v89 x90 m220) v187 v188 x312.2.code x312.2.at_ x312.2.seed (w64 (v188 - (1:Int)))
      else
        qdu n (qb2 n v87 v88 v89 x90 m220) v187 v188 v184 v185 v186 (w64 (v188 - (1:Int))) (Cx.mk (0:Nat) (0:Nat)) (Cx.mk (0:Nat) (0:Nat))
    else
      qhv n v87 v88 v89 v184 v185 v186 v187
def qdt (n:Nat) (v84:List Int) (v85:Int) (v86:Int) (v87:Cx) (v88:Cx) (v89:Cx):Option (qax × qau) :=
  (qaq n (qau.mk v84 v85 v86) (6:Int)).bind fun x90 =>
  qb2 n v87 v88 v89 x90 n x90.2.code x90.2.at_ x90.2.seed ([]:List SBus) (0:Int)
def qgp (n:Nat) (s_:qau):Option (qax × qau) :=
  (qaq n s_ (8:Int)).bind fun x74 =>
  (qck n (Cx.mk (FloatKind.nearest .f32 (w64 ((8:Int) + x74.1))) (0:Nat))).bind fun x75 =>
  (qca n x74.2 (5:Int)).bind fun x316 =>
  if x316.1 = true then
    (qef n x316.2 (40:Int)).bind fun x318 =>
    qdt n x318.2.code x318.2.at_ x318.2.seed x318.1.A x318.1.B x318.1.C
  else
    qdt n x316.2.code x316.2.at_ x316.2.seed x75.A x75.B x75.C
theorem spec_l02DrawOk_ok (n:Nat) (s_:qau) {r:qax × qau} (h:qgp n s_ = some r):qb9 prog false 49 [.ptr 0 0] [.box [.d (.sl false (s_.code.map qan)),.d (.int .i64 s_.at_),.d (.int .u64 s_.seed)]] (fun v o new=>v = .agg [.d (.cx .f32 r.1.Source.A.re r.1.Source.A.im),.d (.cx .f32 r.1.Source.B.re r.1.Source.B.im),.d (.cx .f32 r.1.Source.C.re r.1.Source.C.im),.row 1 r.1.qaf.length 0 r.1.qaf.length]∧o = [.box [.d (.sl false (r.2.code.map qan)),.d (.int .i64 r.2.at_),.d (.int .u64 r.2.seed)]]∧new = [.row 8 (r.1.qaf.map qai)]):=by
  refine qak hτ func49 rfl (by simp) (by simp) ?_
  unfold qgp at h
  refine qa5 ?_
  refine qa1 ?_
  refine qav hτ rfl rfl rfl ?_
  refine qa3 ?_
  refine qa5 ?_
  refine qa1 ?_
  refine qa0 hτ rfl rfl rfl ?_
  refine qaa h fun x74 hx74 h=>?_
  refine qag hτ false [0] rfl rfl rfl (qaj func97 rfl rfl) rfl rfl (by simp) ⟨trivial,trivial,trivial⟩ (by trivial) (qb3 n s_ (8:Int) hx74) ?_
  rintro r0 o0 n0 ⟨rfl,rfl,rfl⟩ -
  refine qa0 hτ rfl rfl rfl ?_
  refine qa0 hτ rfl rfl rfl ?_
  refine qa0 hτ rfl rfl rfl ?_
  refine qaa h fun x75 hx75 h=>?_
  refine qag hτ false [] rfl rfl rfl (qaj func96 rfl rfl) rfl rfl (by simp) ⟨trivial,trivial⟩ (by trivial) (spec_l02Even_ok n (Cx.mk (FloatKind.nearest .f32 (w64 ((8:Int) + x74.1))) (0:Nat)) hx75) ?_
  rintro r0 o0 n0 ⟨rfl,rfl,rfl⟩ -
  refine qav hτ rfl rfl rfl ?_
  refine qa0 hτ rfl rfl rfl ?_
  refine qav hτ rfl rfl rfl ?_
  refine qav hτ rfl rfl rfl ?_
  refine qa3 ?_
  refine qb8 (ι:=List Int × Int × Int × Cx × Cx × Cx) (fun (v84,v85,v86,v87,v88,v89)=>St.of [(0,.ptr 0 0),(2,.ptr 1 0),(3,.ptr 2 0)] [.box [.d (.sl false (v84.map qan)),.d (.int .i64 v85),.d (.int .u64 v86)],.box [.d (.cx .f32 (0:Nat) (0:Nat)),.d (.cx .f32 (0:Nat) (0:Nat)),.d (.cx .f32 (0:Nat) (0:Nat)),.d (.nils)],.box [.d (.cx .f32 v87.re v87.im),.d (.cx .f32 v88.re v88.im),.d (.cx .f32 v89.re v89.im),.row 3 (([]:List SBus).length) 0 (([]:List SBus).length)],.row 8 (([]:List SBus).map qai)] f49.ntmps 1) (fun (v84,v85,v86,v87,v88,v89)=>qdt n v84 v85 v86 v87 v88 v89 = some r) ?_ (fun hk315=>?_)
  · rintro ⟨v84,v85,v86,v87,v88,v89⟩ h
    replace h:qdt n v84 v85 v86 v87 v88 v89 = some r:=h
    unfold qdt at h
    refine qa5 ?_
    refine qa1 ?_
    refine qa0 hτ rfl rfl rfl ?_
    refine qaa h fun x90 hx90 h=>?_
    refine qag hτ false [0] rfl rfl rfl (qaj func97 rfl rfl) rfl rfl (by simp) ⟨trivial,trivial,trivial⟩ (by trivial) (qb3 n (qau.mk v84 v85 v86) (6:Int) hx90) ?_
    rintro r0 o0 n0 ⟨rfl,rfl,rfl⟩ -
    refine qa0 hτ rfl rfl rfl ?_
    refine qa0 hτ rfl rfl rfl ?_
    refine qa3 ?_
    refine qb8 (ι:=List Int × Int × Int × List SBus) (fun (v153,v154,v155,v156)=>St.of [(2,.ptr 1 0),(3,.ptr 2 0)] [.box [.d (.sl false (v153.map qan)),.d (.int .i64 v154),.d (.int .u64 v155)],.box [.d (.cx .f32 (0:Nat) (0:Nat)),.d (.cx .f32 (0:Nat) (0:Nat)),.d (.cx .f32 (0:Nat) (0:Nat)),.d (.nils)],.box [.d (.cx .f32 v87.re v87.im),.d (.cx .f32 v88.re v88.im),.d (.cx .f32 v89.re v89.im),.row 3 v156.length 0 v156.length],.row 8 (v156.map qai)] f49.ntmps 1) (fun (v153,v154,v155,v156)=>qhv n v87 v88 v89 v153 v154 v155 v156 = some r) ?_ (fun hk157=>?_)
    · rintro ⟨v153,v154,v155,v156⟩ h
      replace h:qhv n v87 v88 v89 v153 v154 v155 v156 = some r:=h
      unfold qhv at h
      refine qa5 ?_
      refine qa1 ?_
      refine qa0 hτ rfl rfl rfl ?_
      refine qav hτ rfl rfl rfl ?_
      refine qa3 ?_
      refine qa7 (qa2 [0,1,3] (l:=[(2,.ptr 1 0)]) (objs:=[.box [.d (.sl false (v153.map qan)),.d (.int .i64 v154),.d (.int .u64 v155)],.box [.d (.cx .f32 v87.re v87.im),.d (.cx .f32 v88.re v88.im),.d (.cx .f32 v89.re v89.im),.row 2 v156.length 0 v156.length],.row 8 (v156.map qai)]) rfl (by simp) rfl (by trivial) ⟨rfl,trivial,trivial⟩) ?_
      refine qar ?_
      have hr:=Option.some.inj h
      subst hr
      exact qah (.inr rfl) [2] (objs':=[.box [.d (.sl false (v153.map qan)),.d (.int .i64 v154),.d (.int .u64 v155)]]) (new:=[.row 8 (v156.map qai)]) rfl (by simp) (by simp) rfl (by trivial) rfl rfl (by trivial) (fun h=>nomatch h) ⟨rfl,rfl,rfl⟩
    · refine qa5 ?_
      refine qa5 ?_
      refine qa1 ?_
      refine qa0 hτ rfl rfl rfl ?_
      refine qa3 ?_
      refine qaz ?_
      refine qcs (ι:=Nat × List Int × Int × Int × List SBus × Int) (fun (m220,v184,v185,v186,v187,v188)=>St.of [(0,.ptr 0 0),(2,.ptr 1 0),(3,.ptr 2 0),(4,.d (.int .i64 (w64 ((1:Int) + x90.1)))),(5,.d (.int .i64 v188))] [.box [.d (.sl false (v184.map qan)),.d (.int .i64 v185),.d (.int .u64 v186)],.box [.d (.cx .f32 (0:Nat) (0:Nat)),.d (.cx .f32 (0:Nat) (0:Nat)),.d (.cx .f32 (0:Nat) (0:Nat)),.d (.nils)],.box [.d (.cx .f32 v87.re v87.im),.d (.cx .f32 v88.re v88.im),.d (.cx .f32 v89.re v89.im),.row 3 v187.length 0 v187.length],.row 8 (v187.map qai)] f49.ntmps 1) (fun (m220,v184,v185,v186,v187,v188)=>qb2 n v87 v88 v89 x90 m220 v184 v185 v186 v187 v188 = some r) (fun x=>x.1) (n,x90.2.code,x90.2.at_,x90.2.seed,([]:List SBus),(0:Int)) h (qa2 [0,1,2,3] (l:=[(0,.ptr 0 0),(2,.ptr 1 0),(3,.ptr 2 0),(4,.d (.int .i64 (w64 ((1:Int) + x90.1)))),(5,.d (.int .i64 (0:Int)))]) (objs:=[.box [.d (.sl false (x90.2.code.map qan)),.d (.int .i64 x90.2.at_),.d (.int .u64 x90.2.seed)],.box [.d (.cx .f32 (0:Nat) (0:Nat)),.d (.cx .f32 (0:Nat) (0:Nat)),.d (.cx .f32 (0:Nat) (0:Nat)),.d (.nils)],.box [.d (.cx .f32 v87.re v87.im),.d (.cx .f32 v88.re v88.im),.d (.cx .f32 v89.re v89.im),.row 3 (([]:List SBus).length) 0 (([]:List SBus).length)],.row 8 (([]:List SBus).map qai)]) rfl (by simp) rfl (by trivial) ⟨rfl,trivial,rfl,trivial,rfl,trivial,rfl,trivial,rfl,trivial,trivial⟩) ?_
      rintro ⟨m220,v184,v185,v186,v187,v188⟩ h
      replace h:qb2 n v87 v88 v89 x90 m220 v184 v185 v186 v187 v188 = some r:=h
      rcases m220 with _ | m220
      · rw [qb2] at h;cases h
      rw [qb2] at h
      refine qa5 ?_
      refine qa5 ?_
      refine qa1 ?_
      refine qa0 hτ rfl rfl rfl ?_
      refine qa0 hτ rfl rfl rfl ?_
      refine qa0 hτ rfl rfl rfl ?_
      refine qa3 ?_
      refine qao rfl (fun hc222=>?_) (fun hc222=>?_)
      · have h:=if_t h hc222
        refine qap ?_
        refine qb8 (ι:=List Int × Int × Int × List SBus) (fun (v249,v250,v251,v252)=>St.of [(0,.ptr 0 0),(2,.ptr 1 0),(3,.ptr 2 0),(4,.d (.int .i64 (w64 ((1:Int) + x90.1)))),(5,.d (.int .i64 v188))] [.box [.d (.sl false (v249.map qan)),.d (.int .i64 v250),.d (.int .u64 v251)],.box [.d (.cx .f32 (0:Nat) (0:Nat)),.d (.cx .f32 (0:Nat) (0:Nat)),.d (.cx .f32 (0:Nat) (0:Nat)),.d (.nils)],.box [.d (.cx .f32 v87.re v87.im),.d (.cx .f32 v88.re v88.im),.d (.cx .f32 v89.re v89.im),.row 3 v252.length 0 v252.length],.row 8 (v252.map qai)] f49.ntmps 1) (fun (v249,v250,v251,v252)=>qga n (qb2 n v87 v88 v89 x90 m220) v188 v249 v250 v251 v252 = some r) ?_ (fun hk253=>?_)
        · rintro ⟨v249,v250,v251,v252⟩ h
          replace h:qga n (qb2 n v87 v88 v89 x90 m220) v188 v249 v250 v251 v252 = some r:=h
          unfold qga at h
          refine qa1 ?_
          refine qa0 hτ rfl rfl rfl ?_
          refine qa0 hτ rfl rfl rfl ?_
          refine qa0 hτ rfl rfl rfl ?_
          refine qa3 ?_
          exact ⟨(m220,v249,v250,v251,v252,(w64 (v188 + (1:Int)))),h,Nat.lt_succ_self m220,(qa2 [0,1,2,3] (l:=[(0,.ptr 0 0),(2,.ptr 1 0),(3,.ptr 2 0),(4,.d (.int .i64 (w64 ((1:Int) + x90.1)))),(5,.d (.int .i64 (w64 (v188 + (1:Int)))))]) (objs:=[.box [.d (.sl false (v249.map qan)),.d (.int .i64 v250),.d (.int .u64 v251)],.box [.d (.cx .f32 (0:Nat) (0:Nat)),.d (.cx .f32 (0:Nat) (0:Nat)),.d (.cx .f32 (0:Nat) (0:Nat)),.d (.nils)],.box [.d (.cx .f32 v87.re v87.im),.d (.cx .f32 v88.re v88.im),.d (.cx .f32 v89.re v89.im),.row 3 v252.length 0 v252.length],.row 8 (v252.map qai)]) rfl (by simp) rfl (by trivial) ⟨rfl,trivial,rfl,trivial,rfl,trivial,rfl,trivial,rfl,trivial,trivial⟩)⟩
        · refine qa5 ?_
          refine qaz ?_
          refine qa5 ?_
          refine qa1 ?_
          refine qa0 hτ rfl rfl rfl ?_
          refine qa0 hτ rfl rfl rfl ?_
          refine qa0 hτ rfl rfl rfl ?_
          refine qav hτ rfl rfl rfl ?_
          refine qav hτ rfl rfl rfl ?_
          refine qa3 ?_
          refine qb8 (ι:=List Int × Int × Int × Int × Cx × Cx) (fun (v269,v270,v271,v272,v273,v274)=>St.of [(0,.ptr 0 0),(2,.ptr 1 0),(3,.ptr 2 0),(4,.d (.int .i64 (w64 ((1:Int) + x90.1)))),(5,.d (.int .i64 v188)),(6,.ptr 4 0)] [.box [.d (.sl false (v269.map qan)),.d (.int .i64 v270),.d (.int .u64 v271)],.box [.d (.cx .f32 (0:Nat) (0:Nat)),.d (.cx .f32 (0:Nat) (0:Nat)),.d (.cx .f32 (0:Nat) (0:Nat)),.d (.nils)],.box [.d (.cx .f32 v87.re v87.im),.d (.cx .f32 v88.re v88.im),.d (.cx .f32 v89.re v89.im),.row 3 v187.length 0 v187.length],.row 8 (v187.map qai),.box [.d (.int .i64 v272),.d (.cx .f32 v273.re v273.im),.d (.cx .f32 v274.re v274.im),.d (.int .i64 (0:Int)),.d (.cx .f32 (0:Nat) (0:Nat)),.d (.cx .f32 (0:Nat) (0:Nat)),.d (.cx .f32 (0:Nat) (0:Nat)),.d (.int .i64 (0:Int))]] f49.ntmps 1) (fun (v269,v270,v271,v272,v273,v274)=>qdu n (qb2 n v87 v88 v89 x90 m220) v187 v188 v269 v270 v271 v272 v273 v274 = some r) ?_ (fun hk296=>?_)
          · rintro ⟨v269,v270,v271,v272,v273,v274⟩ h
            replace h:qdu n (qb2 n v87 v88 v89 x90 m220) v187 v188 v269 v270 v271 v272 v273 v274 = some r:=h
            unfold qdu at h
            refine qa5 ?_
            refine qa1 ?_
            refine qa0 hτ rfl rfl rfl ?_
            refine qaa h fun x275 hx275 h=>?_
            refine qag hτ false [0] rfl rfl rfl (qaj func97 rfl rfl) rfl rfl (by simp) ⟨trivial,trivial,trivial⟩ (by trivial) (qb3 n (qau.mk v269 v270 v271) (3:Int) hx275) ?_
            rintro r0 o0 n0 ⟨rfl,rfl,rfl⟩ -
            refine qa0 hτ rfl rfl rfl ?_
            refine qav hτ rfl rfl rfl ?_
            refine qa3 ?_
            refine qb8 (ι:=List Int × Int × Int × Cx × Cx × Cx) (fun (v284,v285,v286,v287,v288,v289)=>St.of [(0,.ptr 0 0),(2,.ptr 1 0),(3,.ptr 2 0),(4,.d (.int .i64 (w64 ((1:Int) + x90.1)))),(5,.d (.int .i64 v188)),(6,.ptr 4 0)] [.box [.d (.sl false (v284.map qan)),.d (.int .i64 v285),.d (.int .u64 v286)],.box [.d (.cx .f32 (0:Nat) (0:Nat)),.d (.cx .f32 (0:Nat) (0:Nat)),.d (.cx .f32 (0:Nat) (0:Nat)),.d (.nils)],.box [.d (.cx .f32 v87.re v87.im),.d (.cx .f32 v88.re v88.im),.d (.cx .f32 v89.re v89.im),.row 3 v187.length 0 v187.length],.row 8 (v187.map qai),.box [.d (.int .i64 v272),.d (.cx .f32 v273.re v273.im),.d (.cx .f32 v274.re v274.im),.d (.int .i64 x275.1),.d (.cx .f32 v287.re v287.im),.d (.cx .f32 v288.re v288.im),.d (.cx .f32 v289.re v289.im),.d (.int .i64 (0:Int))]] f49.ntmps 1) (fun (v284,v285,v286,v287,v288,v289)=>qdv n (qb2 n v87 v88 v89 x90 m220) v187 v188 v272 v273 v274 x275 v284 v285 v286 v287 v288 v289 = some r) ?_ (fun hk292=>?_)
            · rintro ⟨v284,v285,v286,v287,v288,v289⟩ h
              replace h:qdv n (qb2 n v87 v88 v89 x90 m220) v187 v188 v272 v273 v274 x275 v284 v285 v286 v287 v288 v289 = some r:=h
              unfold qdv at h
              refine qa5 ?_
              refine qa1 ?_
              refine qa0 hτ rfl rfl rfl ?_
              refine qaa h fun x290 hx290 h=>?_
              refine qag hτ false [0] rfl rfl rfl (qaj func97 rfl rfl) rfl rfl (by simp) ⟨trivial,trivial,trivial⟩ (by trivial) (qb3 n (qau.mk v284 v285 v286) (30:Int) hx290) ?_
              rintro r0 o0 n0 ⟨rfl,rfl,rfl⟩ -
              refine qa0 hτ rfl rfl rfl ?_
              refine qav hτ rfl rfl rfl ?_
              refine qa3 ?_
              refine qa1 ?_
              refine qa0 hτ rfl rfl rfl ?_
              refine qa0 hτ rfl rfl rfl ?_
              refine qa0 hτ rfl rfl rfl ?_
              refine qav hτ rfl rfl rfl ?_
              refine qf2 h fun hg291 h=>?_
              refine qih hτ rfl rfl (Eq.trans rfl (or_append (f:=qai) v187 [(SBus.mk v272 v273 v274 x275.1 (qh5.mk v287 v288 v289) x290.1)] rfl)) ⟨⟨rfl,Nat.le_of_ble_eq_true rfl⟩,qbx _,rfl,rfl,hg291,by decide,(all1 rfl)⟩ ?_
              refine qa0 hτ rfl rfl rfl ?_
              refine qav hτ rfl rfl rfl ?_
              refine qa3 ?_
              refine qa7 (qa2 [0,1,2,3] (l:=[(0,.ptr 0 0),(2,.ptr 1 0),(3,.ptr 2 0),(4,.d (.int .i64 (w64 ((1:Int) + x90.1)))),(5,.d (.int .i64 v188))]) (objs:=[.box [.d (.sl false (x290.2.code.map qan)),.d (.int .i64 x290.2.at_),.d (.int .u64 x290.2.seed)],.box [.d (.cx .f32 (0:Nat) (0:Nat)),.d (.cx .f32 (0:Nat) (0:Nat)),.d (.cx .f32 (0:Nat) (0:Nat)),.d (.nils)],.box [.d (.cx .f32 v87.re v87.im),.d (.cx .f32 v88.re v88.im),.d (.cx .f32 v89.re v89.im),.row 3 ((v187 ++ [(SBus.mk v272 v273 v274 x275.1 (qh5.mk v287 v288 v289) x290.1)]).length) 0 ((v187 ++ [(SBus.mk v272 v273 v274 x275.1 (qh5.mk v287 v288 v289) x290.1)]).length)],.row 8 ((v187 ++ [(SBus.mk v272 v273 v274 x275.1 (qh5.mk v287 v288 v289) x290.1)]).map qai)]) rfl (by simp) rfl (by trivial) ⟨rfl,trivial,rfl,trivial,rfl,trivial,rfl,trivial,rfl,trivial,trivial⟩) ?_
              exact hk253 (x290.2.code,x290.2.at_,x290.2.seed,(v187 ++ [(SBus.mk v272 v273 v274 x275.1 (qh5.mk v287 v288 v289) x290.1)])) h
            · refine qa5 ?_
              refine qa5 ?_
              refine qa1 ?_
              refine qa0 hτ rfl rfl rfl ?_
              refine qaa h fun x293 hx293 h=>?_
              refine qag hτ false [0] rfl rfl rfl (qaj func50 rfl rfl) rfl rfl (by simp) ⟨trivial,trivial,trivial⟩ (by trivial) (qec n x275.2 (3:Int) hx293) ?_
              rintro r0 o0 n0 ⟨rfl,rfl,rfl⟩ -
              refine qa0 hτ rfl rfl rfl ?_
              refine qa3 ?_
              refine qa7 (qa2 [0,1,2,3,4] (l:=[(0,.ptr 0 0),(2,.ptr 1 0),(3,.ptr 2 0),(4,.d (.int .i64 (w64 ((1:Int) + x90.1)))),(5,.d (.int .i64 v188)),(6,.ptr 4 0),(62,.d (.bool (!x293.1)))]) (objs:=[.box [.d (.sl false (x293.2.code.map qan)),.d (.int .i64 x293.2.at_),.d (.int .u64 x293.2.seed)],.box [.d (.cx .f32 (0:Nat) (0:Nat)),.d (.cx .f32 (0:Nat) (0:Nat)),.d (.cx .f32 (0:Nat) (0:Nat)),.d (.nils)],.box [.d (.cx .f32 v87.re v87.im),.d (.cx .f32 v88.re v88.im),.d (.cx .f32 v89.re v89.im),.row 3 v187.length 0 v187.length],.row 8 (v187.map qai),.box [.d (.int .i64 v272),.d (.cx .f32 v273.re v273.im),.d (.cx .f32 v274.re v274.im),.d (.int .i64 x275.1),.d (.cx .f32 (0:Nat) (0:Nat)),.d (.cx .f32 (0:Nat) (0:Nat)),.d (.cx .f32 (0:Nat) (0:Nat)),.d (.int .i64 (0:Int))]]) rfl (by simp) rfl (by trivial) ⟨rfl,trivial,rfl,trivial,rfl,trivial,rfl,trivial,rfl,trivial,rfl,trivial,rfl,trivial,trivial⟩) ?_
              refine qao rfl (fun hc294=>?_) (fun hc294=>?_)
              · have hc294:=qgh hc294
                have h:=qbm h hc294
                refine qa1 ?_
                refine qa0 hτ rfl rfl rfl ?_
                refine qaa h fun x295 hx295 h=>?_
                refine qag hτ false [0] rfl rfl rfl (qaj func98 rfl rfl) rfl rfl (by simp) ⟨trivial,trivial,trivial⟩ (by trivial) (qkj n x293.2 (24:Int) hx295) ?_
                rintro r0 o0 n0 ⟨rfl,rfl,rfl⟩ -
                refine qa0 hτ rfl rfl rfl ?_
                refine qav hτ rfl rfl rfl ?_
                refine qa3 ?_
                refine qa7 (qa2 [0,1,2,3,4] (l:=[(0,.ptr 0 0),(2,.ptr 1 0),(3,.ptr 2 0),(4,.d (.int .i64 (w64 ((1:Int) + x90.1)))),(5,.d (.int .i64 v188)),(6,.ptr 4 0)]) (objs:=[.box [.d (.sl false (x295.2.code.map qan)),.d (.int .i64 x295.2.at_),.d (.int .u64 x295.2.seed)],.box [.d (.cx .f32 (0:Nat) (0:Nat)),.d (.cx .f32 (0:Nat) (0:Nat)),.d (.cx .f32 (0:Nat) (0:Nat)),.d (.nils)],.box [.d (.cx .f32 v87.re v87.im),.d (.cx .f32 v88.re v88.im),.d (.cx .f32 v89.re v89.im),.row 3 v187.length 0 v187.length],.row 8 (v187.map qai),.box [.d (.int .i64 v272),.d (.cx .f32 v273.re v273.im),.d (.cx .f32 v274.re v274.im),.d (.int .i64 x275.1),.d (.cx .f32 x295.1.A.re x295.1.A.im),.d (.cx .f32 x295.1.B.re x295.1.B.im),.d (.cx .f32 x295.1.C.re x295.1.C.im),.d (.int .i64 (0:Int))]]) rfl (by simp) rfl (by trivial) ⟨rfl,trivial,rfl,trivial,rfl,trivial,rfl,trivial,rfl,trivial,rfl,trivial,trivial⟩) ?_
                exact hk292 (x295.2.code,x295.2.at_,x295.2.seed,x295.1.A,x295.1.B,x295.1.C) h
              · have hc294:=qgg hc294
                have h:=qbn h hc294
                refine qap ?_
                refine qa7 (qa2 [0,1,2,3,4] (l:=[(0,.ptr 0 0),(2,.ptr 1 0),(3,.ptr 2 0),(4,.d (.int .i64 (w64 ((1:Int) + x90.1)))),(5,.d (.int .i64 v188)),(6,.ptr 4 0)]) (objs:=[.box [.d (.sl false (x293.2.code.map qan)),.d (.int .i64 x293.2.at_),.d (.int .u64 x293.2.seed)],.box [.d (.cx .f32 (0:Nat) (0:Nat)),.d (.cx .f32 (0:Nat) (0:Nat)),.d (.cx .f32 (0:Nat) (0:Nat)),.d (.nils)],.box [.d (.cx .f32 v87.re v87.im),.d (.cx .f32 v88.re v88.im),.d (.cx .f32 v89.re v89.im),.row 3 v187.length 0 v187.length],.row 8 (v187.map qai),.box [.d (.int .i64 v272),.d (.cx .f32 v273.re v273.im),.d (.cx .f32 v274.re v274.im),.d (.int .i64 x275.1),.d (.cx .f32 (0:Nat) (0:Nat)),.d (.cx .f32 (0:Nat) (0:Nat)),.d (.cx .f32 (0:Nat) (0:Nat)),.d (.int .i64 (0:Int))]]) rfl (by simp) rfl (by trivial) ⟨rfl,trivial,rfl,trivial,rfl,trivial,rfl,trivial,rfl,trivial,rfl,trivial,trivial⟩) ?_
                exact hk292 (x293.2.code,x293.2.at_,x293.2.seed,(Cx.mk (0:Nat) (0:Nat)),(Cx.mk (0:Nat) (0:Nat)),(Cx.mk (0:Nat) (0:Nat))) h
          · refine qa5 ?_
            refine qa5 ?_
            refine qa7 (qa2 [0,1,2,3,4] (l:=[(0,.ptr 0 0),(2,.ptr 1 0),(3,.ptr 2 0),(4,.d (.int .i64 (w64 ((1:Int) + x90.1)))),(5,.d (.int .i64 v188)),(6,.ptr 4 0)]) (objs:=[.box [.d (.sl false (v184.map qan)),.d (.int .i64 v185),.d (.int .u64 v186)],.box [.d (.cx .f32 (0:Nat) (0:Nat)),.d (.cx .f32 (0:Nat) (0:Nat)),.d (.cx .f32 (0:Nat) (0:Nat)),.d (.nils)],.box [.d (.cx .f32 v87.re v87.im),.d (.cx .f32 v88.re v88.im),.d (.cx .f32 v89.re v89.im),.row 3 v187.length 0 v187.length],.row 8 (v187.map qai),.box [.d (.int .i64 (w64 (v188 - (1:Int)))),.d (.cx .f32 (0:Nat) (0:Nat)),.d (.cx .f32 (0:Nat) (0:Nat)),.d (.int .i64 (0:Int)),.d (.cx .f32 (0:Nat) (0:Nat)),.d (.cx .f32 (0:Nat) (0:Nat)),.d (.cx .f32 (0:Nat) (0:Nat)),.d (.int .i64 (0:Int))]]) rfl (by simp) rfl (by trivial) ⟨rfl,trivial,rfl,trivial,rfl,trivial,rfl,trivial,rfl,trivial,rfl,trivial,trivial⟩) ?_
            refine qa1 ?_
            refine qa0 hτ rfl rfl rfl ?_
            refine qa0 hτ rfl rfl rfl ?_
            refine qa3 ?_
            refine qao rfl (fun hc297=>?_) (fun hc297=>?_)
            · have h:=if_t h hc297
              refine qb8 (ι:=List Int × Int × Int × Int) (fun (v304,v305,v306,v307)=>St.of [(0,.ptr 0 0),(2,.ptr 1 0),(3,.ptr 2 0),(4,.d (.int .i64 (w64 ((1:Int) + x90.1)))),(5,.d (.int .i64 v188)),(6,.ptr 4 0)] [.box [.d (.sl false (v304.map qan)),.d (.int .i64 v305),.d (.int .u64 v306)],.box [.d (.cx .f32 (0:Nat) (0:Nat)),.d (.cx .f32 (0:Nat) (0:Nat)),.d (.cx .f32 (0:Nat) (0:Nat)),.d (.nils)],.box [.d (.cx .f32 v87.re v87.im),.d (.cx .f32 v88.re v88.im),.d (.cx .f32 v89.re v89.im),.row 3 v187.length 0 v187.length],.row 8 (v187.map qai),.box [.d (.int .i64 v307),.d (.cx .f32 (0:Nat) (0:Nat)),.d (.cx .f32 (0:Nat) (0:Nat)),.d (.int .i64 (0:Int)),.d (.cx .f32 (0:Nat) (0:Nat)),.d (.cx .f32 (0:Nat) (0:Nat)),.d (.cx .f32 (0:Nat) (0:Nat)),.d (.int .i64 (0:Int))]] f49.ntmps 1) (fun (v304,v305,v306,v307)=>qdw n (qb2 n v87 v88 v89 x90 m220) v187 v188 v304 v305 v306 v307 = some r) ?_ (fun hk311=>?_)
              · rintro ⟨v304,v305,v306,v307⟩ h
                replace h:qdw n (qb2 n v87 v88 v89 x90 m220) v187 v188 v304 v305 v306 v307 = some r:=h
                unfold qdw at h
                refine qa5 ?_
                refine qa1 ?_
                refine qa0 hτ rfl rfl rfl ?_
                refine qaa h fun x308 hx308 h=>?_
                refine qag hτ false [0] rfl rfl rfl (qaj func97 rfl rfl) rfl rfl (by simp) ⟨trivial,trivial,trivial⟩ (by trivial) (qb3 n (qau.mk v304 v305 v306) (5:Int) hx308) ?_
                rintro r0 o0 n0 ⟨rfl,rfl,rfl⟩ -
                refine qa0 hτ rfl rfl rfl ?_
                refine qa0 hτ rfl rfl rfl ?_
                refine qa0 hτ rfl rfl rfl ?_
                refine qa3 ?_
                refine qa5 ?_
                refine qa1 ?_
                refine qa0 hτ rfl rfl rfl ?_
                refine qa0 hτ rfl rfl rfl ?_
                refine qaa h fun x309 hx309 h=>?_
                refine qag hτ false [0] rfl rfl rfl (qaj func97 rfl rfl) rfl rfl (by simp) ⟨trivial,trivial,trivial⟩ (by trivial) (qb3 n x308.2 (5:Int) hx309) ?_
                rintro r0 o0 n0 ⟨rfl,rfl,rfl⟩ -
                refine qa0 hτ rfl rfl rfl ?_
                refine qa0 hτ rfl rfl rfl ?_
                refine qa0 hτ rfl rfl rfl ?_
                refine qa0 hτ rfl rfl rfl ?_
                refine qat (qa2 [0,1,2,3,4] (l:=[(0,.ptr 0 0),(2,.ptr 1 0),(3,.ptr 2 0),(4,.d (.int .i64 (w64 ((1:Int) + x90.1)))),(5,.d (.int .i64 v188)),(6,.ptr 4 0),(49,.d (.cx .f32 (qad .quo .f32 (FloatKind.nearest .f32 x308.1) (1098907648:Nat)) (qad .quo .f32 (FloatKind.nearest .f32 x309.1) (1098907648:Nat)))),(50,.ptr 4 1)]) (objs:=[.box [.d (.sl false (x309.2.code.map qan)),.d (.int .i64 x309.2.at_),.d (.int .u64 x309.2.seed)],.box [.d (.cx .f32 (0:Nat) (0:Nat)),.d (.cx .f32 (0:Nat) (0:Nat)),.d (.cx .f32 (0:Nat) (0:Nat)),.d (.nils)],.box [.d (.cx .f32 v87.re v87.im),.d (.cx .f32 v88.re v88.im),.d (.cx .f32 v89.re v89.im),.row 3 v187.length 0 v187.length],.row 8 (v187.map qai),.box [.d (.int .i64 v307),.d (.cx .f32 (0:Nat) (0:Nat)),.d (.cx .f32 (0:Nat) (0:Nat)),.d (.int .i64 (0:Int)),.d (.cx .f32 (0:Nat) (0:Nat)),.d (.cx .f32 (0:Nat) (0:Nat)),.d (.cx .f32 (0:Nat) (0:Nat)),.d (.int .i64 (0:Int))]]) rfl (by simp) rfl (by trivial) ⟨rfl,trivial,rfl,trivial,rfl,trivial,rfl,trivial,rfl,trivial,rfl,trivial,rfl,trivial,rfl,trivial,trivial⟩) ?_
                refine qav hτ rfl rfl rfl ?_
                refine qa3 ?_
                refine qa1 ?_
                refine qa0 hτ rfl rfl rfl ?_
                refine qaa h fun x310 hx310 h=>?_
                refine qag hτ false [0] rfl rfl rfl (qaj func97 rfl rfl) rfl rfl (by simp) ⟨trivial,trivial,trivial⟩ (by trivial) (qb3 n x309.2 (3:Int) hx310) ?_
                rintro r0 o0 n0 ⟨rfl,rfl,rfl⟩ -
                refine qa0 hτ rfl rfl rfl ?_
                refine qa0 hτ rfl rfl rfl ?_
                refine qa0 hτ rfl rfl rfl ?_
                refine qa0 hτ rfl rfl rfl ?_
                refine qav hτ rfl rfl rfl ?_
                refine qa3 ?_
                refine qa7 (qa2 [0,1,2,3,4] (l:=[(0,.ptr 0 0),(2,.ptr 1 0),(3,.ptr 2 0),(4,.d (.int .i64 (w64 ((1:Int) + x90.1)))),(5,.d (.int .i64 v188)),(6,.ptr 4 0)]) (objs:=[.box [.d (.sl false (x310.2.code.map qan)),.d (.int .i64 x310.2.at_),.d (.int .u64 x310.2.seed)],.box [.d (.cx .f32 (0:Nat) (0:Nat)),.d (.cx .f32 (0:Nat) (0:Nat)),.d (.cx .f32 (0:Nat) (0:Nat)),.d (.nils)],.box [.d (.cx .f32 v87.re v87.im),.d (.cx .f32 v88.re v88.im),.d (.cx .f32 v89.re v89.im),.row 3 v187.length 0 v187.length],.row 8 (v187.map qai),.box [.d (.int .i64 v307),.d (.cx .f32 (qad .quo .f32 (FloatKind.nearest .f32 x308.1) (1098907648:Nat)) (qad .quo .f32 (FloatKind.nearest .f32 x309.1) (1098907648:Nat))),.d (.cx .f32 (0:Nat) (qad .quo .f32 (FloatKind.nearest .f32 x310.1) (1098907648:Nat))),.d (.int .i64 (0:Int)),.d (.cx .f32 (0:Nat) (0:Nat)),.d (.cx .f32 (0:Nat) (0:Nat)),.d (.cx .f32 (0:Nat) (0:Nat)),.d (.int .i64 (0:Int))]]) rfl (by simp) rfl (by trivial) ⟨rfl,trivial,rfl,trivial,rfl,trivial,rfl,trivial,rfl,trivial,rfl,trivial,trivial⟩) ?_
                exact hk296 (x310.2.code,x310.2.at_,x310.2.seed,v307,(Cx.mk (qad .quo .f32 (FloatKind.nearest .f32 x308.1) (1098907648:Nat)) (qad .quo .f32 (FloatKind.nearest .f32 x309.1) (1098907648:Nat))),(Cx.mk (0:Nat) (qad .quo .f32 (FloatKind.nearest .f32 x310.1) (1098907648:Nat)))) h
              · refine qa5 ?_
                refine qa5 ?_
                refine qa1 ?_
                refine qa0 hτ rfl rfl rfl ?_
                refine qaa h fun x312 hx312 h=>?_
                refine qag hτ false [0] rfl rfl rfl (qaj func50 rfl rfl) rfl rfl (by simp) ⟨trivial,trivial,trivial⟩ (by trivial) (qec n (qau.mk v184 v185 v186) (2:Int) hx312) ?_
                rintro r0 o0 n0 ⟨rfl,rfl,rfl⟩ -
                refine qa3 ?_
                refine qao rfl (fun hc313=>?_) (fun hc313=>?_)
                · have h:=qbn h hc313
                  refine qa1 ?_
                  refine qa0 hτ rfl rfl rfl ?_
                  refine qa0 hτ rfl rfl rfl ?_
                  refine qaa h fun x314 hx314 h=>?_
                  refine qag hτ false [0] rfl rfl rfl (qaj func97 rfl rfl) rfl rfl (by simp) ⟨trivial,trivial,trivial⟩ (by trivial) (qb3 n x312.2 v188 hx314) ?_
                  rintro r0 o0 n0 ⟨rfl,rfl,rfl⟩ -
                  refine qa0 hτ rfl rfl rfl ?_
                  refine qav hτ rfl rfl rfl ?_
                  refine qa3 ?_
                  refine qa7 (qa2 [0,1,2,3,4] (l:=[(0,.ptr 0 0),(2,.ptr 1 0),(3,.ptr 2 0),(4,.d (.int .i64 (w64 ((1:Int) + x90.1)))),(5,.d (.int .i64 v188)),(6,.ptr 4 0)]) (objs:=[.box [.d (.sl false (x314.2.code.map qan)),.d (.int .i64 x314.2.at_),.d (.int .u64 x314.2.seed)],.box [.d (.cx .f32 (0:Nat) (0:Nat)),.d (.cx .f32 (0:Nat) (0:Nat)),.d (.cx .f32 (0:Nat) (0:Nat)),.d (.nils)],.box [.d (.cx .f32 v87.re v87.im),.d (.cx .f32 v88.re v88.im),.d (.cx .f32 v89.re v89.im),.row 3 v187.length 0 v187.length],.row 8 (v187.map qai),.box [.d (.int .i64 x314.1),.d (.cx .f32 (0:Nat) (0:Nat)),.d (.cx .f32 (0:Nat) (0:Nat)),.d (.int .i64 (0:Int)),.d (.cx .f32 (0:Nat) (0:Nat)),.d (.cx .f32 (0:Nat) (0:Nat)),.d (.cx .f32 (0:Nat) (0:Nat)),.d (.int .i64 (0:Int))]]) rfl (by simp) rfl (by trivial) ⟨rfl,trivial,rfl,trivial,rfl,trivial,rfl,trivial,rfl,trivial,rfl,trivial,trivial⟩) ?_
                  exact hk311 (x314.2.code,x314.2.at_,x314.2.seed,x314.1) h
                · have h:=qbm h hc313
                  refine qap ?_
                  refine qa7 (qa2 [0,1,2,3,4] (l:=[(0,.ptr 0 0),(2,.ptr 1 0),(3,.ptr 2 0),(4,.d (.int .i64 (w64 ((1:Int) + x90.1)))),(5,.d (.int .i64 v188)),(6,.ptr 4 0)]) (objs:=[.box [.d (.sl false (x312.2.code.map qan)),.d (.int .i64 x312.2.at_),.d (.int .u64 x312.2.seed)],.box [.d (.cx .f32 (0:Nat) (0:Nat)),.d (.cx .f32 (0:Nat) (0:Nat)),.d (.cx .f32 (0:Nat) (0:Nat)),.d (.nils)],.box [.d (.cx .f32 v87.re v87.im),.d (.cx .f32 v88.re v88.im),.d (.cx .f32 v89.re v89.im),.row 3 v187.length 0 v187.length],.row 8 (v187.map qai),.box [.d (.int .i64 (w64 (v188 - (1:Int)))),.d (.cx .f32 (0:Nat) (0:Nat)),.d (.cx .f32 (0:Nat) (0:Nat)),.d (.int .i64 (0:Int)),.d (.cx .f32 (0:Nat) (0:Nat)),.d (.cx .f32 (0:Nat) (0:Nat)),.d (.cx .f32 (0:Nat) (0:Nat)),.d (.int .i64 (0:Int))]]) rfl (by simp) rfl (by trivial) ⟨rfl,trivial,rfl,trivial,rfl,trivial,rfl,trivial,rfl,trivial,rfl,trivial,trivial⟩) ?_
                  exact hk311 (x312.2.code,x312.2.at_,x312.2.seed,(w64 (v188 - (1:Int)))) h
            · have h:=if_f h hc297
              refine qap ?_
              refine qa7 (qa2 [0,1,2,3,4] (l:=[(0,.ptr 0 0),(2,.ptr 1 0),(3,.ptr 2 0),(4,.d (.int .i64 (w64 ((1:Int) + x90.1)))),(5,.d (.int .i64 v188)),(6,.ptr 4 0)]) (objs:=[.box [.d (.sl false (v184.map qan)),.d (.int .i64 v185),.d (.int .u64 v186)],.box [.d (.cx .f32 (0:Nat) (0:Nat)),.d (.cx .f32 (0:Nat) (0:Nat)),.d (.cx .f32 (0:Nat) (0:Nat)),.d (.nils)],.box [.d (.cx .f32 v87.re v87.im),.d (.cx .f32 v88.re v88.im),.d (.cx .f32 v89.re v89.im),.row 3 v187.length 0 v187.length],.row 8 (v187.map qai),.box [.d (.int .i64 (w64 (v188 - (1:Int)))),.d (.cx .f32 (0:Nat) (0:Nat)),.d (.cx .f32 (0:Nat) (0:Nat)),.d (.int .i64 (0:Int)),.d (.cx .f32 (0:Nat) (0:Nat)),.d (.cx .f32 (0:Nat) (0:Nat)),.d (.cx .f32 (0:Nat) (0:Nat)),.d (.int .i64 (0:Int))]]) rfl (by simp) rfl (by trivial) ⟨rfl,trivial,rfl,trivial,rfl,trivial,rfl,trivial,rfl,trivial,rfl,trivial,trivial⟩) ?_
              exact hk296 (v184,v185,v186,(w64 (v188 - (1:Int))),(Cx.mk (0:Nat) (0:Nat)),(Cx.mk (0:Nat) (0:Nat))) h
      · have h:=if_f h hc222
        refine qcr ?_
        refine qa7 (qa2 [0,1,2,3] (l:=[(2,.ptr 1 0),(3,.ptr 2 0)]) (objs:=[.box [.d (.sl false (v184.map qan)),.d (.int .i64 v185),.d (.int .u64 v186)],.box [.d (.cx .f32 (0:Nat) (0:Nat)),.d (.cx .f32 (0:Nat) (0:Nat)),.d (.cx .f32 (0:Nat) (0:Nat)),.d (.nils)],.box [.d (.cx .f32 v87.re v87.im),.d (.cx .f32 v88.re v88.im),.d (.cx .f32 v89.re v89.im),.row 3 v187.length 0 v187.length],.row 8 (v187.map qai)]) rfl (by simp) rfl (by trivial) ⟨rfl,trivial,rfl,trivial,trivial⟩) ?_
        exact hk157 (v184,v185,v186,v187) h
  · refine qa5 ?_
    refine qa5 ?_
    refine qa7 (qa2 [0,1,3,2] (l:=[(0,.ptr 0 0),(2,.ptr 1 0),(3,.ptr 2 0)]) (objs:=[.box [.d (.sl false (x74.2.code.map qan)),.d (.int .i64 x74.2.at_),.d (.int .u64 x74.2.seed)],.box [.d (.cx .f32 (0:Nat) (0:Nat)),.d (.cx .f32 (0:Nat) (0:Nat)),.d (.cx .f32 (0:Nat) (0:Nat)),.d (.nils)],.box [.d (.cx .f32 x75.A.re x75.A.im),.d (.cx .f32 x75.B.re x75.B.im),.d (.cx .f32 x75.C.re x75.C.im),.row 3 (([]:List SBus).length) 0 (([]:List SBus).length)],.row 8 (([]:List SBus).map qai)]) rfl (by simp) rfl (by trivial) ⟨rfl,trivial,rfl,trivial,rfl,trivial,trivial⟩) ?_
    refine qa1 ?_
    refine qa0 hτ rfl rfl rfl ?_
    refine qaa h fun x316 hx316 h=>?_
    refine qag hτ false [0] rfl rfl rfl (qaj func50 rfl rfl) rfl rfl (by simp) ⟨trivial,trivial,trivial⟩ (by trivial) (qec n x74.2 (5:Int) hx316) ?_
    rintro r0 o0 n0 ⟨rfl,rfl,rfl⟩ -
    refine qa3 ?_
    refine qao rfl (fun hc317=>?_) (fun hc317=>?_)
    · have h:=qbn h hc317
      refine qa1 ?_
      refine qa0 hτ rfl rfl rfl ?_
      refine qaa h fun x318 hx318 h=>?_
      refine qag hτ false [0] rfl rfl rfl (qaj func98 rfl rfl) rfl rfl (by simp) ⟨trivial,trivial,trivial⟩ (by trivial) (qkj n x316.2 (40:Int) hx318) ?_
      rintro r0 o0 n0 ⟨rfl,rfl,rfl⟩ -
      refine qa0 hτ rfl rfl rfl ?_
      refine qav hτ rfl rfl rfl ?_
      refine qa3 ?_
      refine qa7 (qa2 [0,1,2,3] (l:=[(0,.ptr 0 0),(2,.ptr 1 0),(3,.ptr 2 0)]) (objs:=[.box [.d (.sl false (x318.2.code.map qan)),.d (.int .i64 x318.2.at_),.d (.int .u64 x318.2.seed)],.box [.d (.cx .f32 (0:Nat) (0:Nat)),.d (.cx .f32 (0:Nat) (0:Nat)),.d (.cx .f32 (0:Nat) (0:Nat)),.d (.nils)],.box [.d (.cx .f32 x318.1.A.re x318.1.A.im),.d (.cx .f32 x318.1.B.re x318.1.B.im),.d (.cx .f32 x318.1.C.re x318.1.C.im),.row 3 (([]:List SBus).length) 0 (([]:List SBus).length)],.row 8 (([]:List SBus).map qai)]) rfl (by simp) rfl (by trivial) ⟨rfl,trivial,rfl,trivial,rfl,trivial,trivial⟩) ?_
      exact hk315 (x318.2.code,x318.2.at_,x318.2.seed,x318.1.A,x318.1.B,x318.1.C) h
    · have h:=qbm h hc317
      refine qap ?_
      refine qa7 (qa2 [0,1,2,3] (l:=[(0,.ptr 0 0),(2,.ptr 1 0),(3,.ptr 2 0)]) (objs:=[.box [.d (.sl false (x316.2.code.map qan)),.d (.int .i64 x316.2.at_),.d (.int .u64 x316.2.seed)],.box [.d (.cx .f32 (0:Nat) (0:Nat)),.d (.cx .f32 (0:Nat) (0:Nat)),.d (.cx .f32 (0:Nat) (0:Nat)),.d (.nils)],.box [.d (.cx .f32 x75.A.re x75.A.im),.d (.cx .f32 x75.B.re x75.B.im),.d (.cx .f32 x75.C.re x75.C.im),.row 3 (([]:List SBus).length) 0 (([]:List SBus).length)],.row 8 (([]:List SBus).map qai)]) rfl (by simp) rfl (by trivial) ⟨rfl,trivial,rfl,trivial,rfl,trivial,trivial⟩) ?_
      exact hk315 (x316.2.code,x316.2.at_,x316.2.seed,x75.A,x75.B,x75.C) h
def qgm (n:Nat) (code_:List Int):Option qax :=
  (qi7 n code_).bind fun x3 =>
  (qgp n x3).bind fun x4 =>
  some (qax.mk x4.1.Source x4.1.qaf)
theorem spec_B10Feeder_ok_fr0 (fr:Bool) (n:Nat) (code_:List Int) {r:qax} (h:qgm n code_ = some r):qb9 prog fr 20 [.d (.sl false (code_.map qan))] [] (fun v o new=>v = .agg [.d (.cx .f32 r.Source.A.re r.Source.A.im),.d (.cx .f32 r.Source.B.re r.Source.B.im),.d (.cx .f32 r.Source.C.re r.Source.C.im),.row 0 r.qaf.length 0 r.qaf.length]∧o = []∧new = [.row 8 (r.qaf.map qai)]):=by
  refine qak hτ func20 rfl (by simp) (by simp) ?_
  unfold qgm at h
  refine qa5 ?_
  refine qa1 ?_
  refine qav hτ rfl rfl rfl ?_
  refine qa3 ?_
  refine qa5 ?_
  refine qa1 ?_
  refine qa0 hτ rfl rfl rfl ?_
  refine qaa h fun x3 hx3 h=>?_
  refine qag hτ false [] rfl rfl rfl (qaj func48 rfl rfl) rfl rfl (by simp) ⟨trivial,trivial⟩ (by trivial) (qm1 n code_ hx3) ?_
  rintro r0 o0 n0 ⟨rfl,rfl,rfl⟩ -
  refine qa0 hτ rfl rfl rfl ?_
  refine qa3 ?_
  refine qa5 ?_
  refine qa1 ?_
  refine qa0 hτ rfl rfl rfl ?_
  refine qaa h fun x4 hx4 h=>?_
  refine qag hτ false [1] rfl rfl rfl (qaj func49 rfl rfl) rfl rfl (by simp) ⟨trivial,trivial⟩ (by trivial) (spec_l02DrawOk_ok n x3 hx4) ?_
  rintro r0 o0 n0 ⟨rfl,rfl,rfl⟩ -
  refine qav hτ rfl rfl rfl ?_
  refine qa3 ?_
  refine qa7 (qa2 [0,2] (l:=[(2,.ptr 0 0)]) (objs:=[.box [.d (.cx .f32 x4.1.Source.A.re x4.1.Source.A.im),.d (.cx .f32 x4.1.Source.B.re x4.1.Source.B.im),.d (.cx .f32 x4.1.Source.C.re x4.1.Source.C.im),.row 1 x4.1.qaf.length 0 x4.1.qaf.length],.row 8 (x4.1.qaf.map qai)]) rfl (by simp) rfl (by trivial) ⟨rfl,trivial,trivial⟩) ?_
  refine qar ?_
  have hr:=Option.some.inj h
  subst hr
  exact qah (.inr rfl) [1] (objs':=[]) (new:=[.row 8 (x4.1.qaf.map qai)]) rfl (by simp) (by simp) rfl (by trivial) rfl rfl (by trivial) (fun _=>⟨by simp [V.flat,V.qbk,V.qbf,D.flat],(qe6 (qjs eSBus_flat _) qal)⟩) ⟨rfl,rfl,rfl⟩
theorem spec_B10Feeder_ok (n:Nat) (code_:List Int) {r:qax} (h:qgm n code_ = some r):qb9 prog false 20 [.d (.sl false (code_.map qan))] [] (fun v o new=>v = .agg [.d (.cx .f32 r.Source.A.re r.Source.A.im),.d (.cx .f32 r.Source.B.re r.Source.B.im),.d (.cx .f32 r.Source.C.re r.Source.C.im),.row 0 r.qaf.length 0 r.qaf.length]∧o = []∧new = [.row 8 (r.qaf.map qai)]):=spec_B10Feeder_ok_fr0 false n code_ h
def qgb (n:Nat) (v63:List Int) (v64:Int) (v65:Int) (v66:List Nat) (v67:List Nat) (v68:List Nat) (v69:List Nat):Option (qbq × qau) :=
  some ((qbq.mk v68 v69),(qau.mk v63 v64 v65))
def qda (n:Nat):Nat→List Int→Int→Int→List Nat→List Nat→List Nat→List Nat→Nat→Nat→Int→Option (qbq × qau)
  | 0,_,_,_,_,_,_,_,_,_,_=>none
  | m100 + 1,v76,v77,v78,v79,v80,v81,v82,v83,v84,v85 =>
    if v85 > (0:Int) then
      grd (room (v81.length + 1) 4) <|
      grd (room (v82.length + 1) 4) <|
      (qaq n (qau.mk v76 v77 v78) (8:Int)).bind fun x105 =>
      (qaq n x105.2 (8:Int)).bind fun x106 =>
      (qda n m100) x106.2.code x106.2.at_ x106.2.seed v79 v80 (v81 ++ [v83]) (v82 ++ [v84]) (qad .add .f32 v83 (qad .quo .f32 (FloatKind.nearest .f32 (w64 ((1:Int) + x105.1))) (1082130432:Nat))) (qad .sub .f32 v84 (qad .quo .f32 (FloatKind.nearest .f32 x106.1) (1082130432:Nat))) (w64 (v85 - (1:Int)))
    else
      qgb n v76 v77 v78 v79 v80 v81 v82
def qi3 (n:Nat) (s_:qau):Option (qbq × qau) :=
  (qaq n s_ (8:Int)).bind fun x32 =>
  (qaq n x32.2 (40:Int)).bind fun x33 =>
  (qaq n x33.2 (4:Int)).bind fun x71 =>
  qda n n x71.2.code x71.2.at_ x71.2.seed ([]:List Nat) ([]:List Nat) ([]:List Nat) ([]:List Nat) (qad .quo .f32 (FloatKind.nearest .f32 (w64 ((1:Int) + x32.1))) (1082130432:Nat)) (qad .quo .f32 (FloatKind.nearest .f32 (w64 ((40:Int) + x33.1))) (1082130432:Nat)) (w64 ((2:Int) + x71.1))
theorem spec_l07DrawOk_ok (n:Nat) (s_:qau) {r:qbq × qau} (h:qi3 n s_ = some r):qb9 prog false 51 [.ptr 0 0] [.box [.d (.sl false (s_.code.map qan)),.d (.int .i64 s_.at_),.d (.int .u64 s_.seed)]] (fun v o new=>v = .agg [.row 1 r.1.qa8.length 0 r.1.qa8.length,.row 2 r.1.Times.length 0 r.1.Times.length]∧o = [.box [.d (.sl false (r.2.code.map qan)),.d (.int .i64 r.2.at_),.d (.int .u64 r.2.seed)]]∧new = [.row 1 (r.1.qa8.map qa4),.row 1 (r.1.Times.map qa4)]):=by
  refine qak hτ func51 rfl (by simp) (by simp) ?_
  unfold qi3 at h
  refine qa5 ?_
  refine qa1 ?_
  refine qav hτ rfl rfl rfl ?_
  refine qa3 ?_
  refine qa5 ?_
  refine qa1 ?_
  refine qa0 hτ rfl rfl rfl ?_
  refine qav hτ rfl rfl rfl ?_
  refine qav hτ rfl rfl rfl ?_
  refine qa3 ?_
  refine qa5 ?_
  refine qa1 ?_
  refine qa0 hτ rfl rfl rfl ?_
  refine qaa h fun x32 hx32 h=>?_
  refine qag hτ false [0] rfl rfl rfl (qaj func97 rfl rfl) rfl rfl (by simp) ⟨trivial,trivial,trivial⟩ (by trivial) (qb3 n s_ (8:Int) hx32) ?_
  rintro r0 o0 n0 ⟨rfl,rfl,rfl⟩ -
  refine qa0 hτ rfl rfl rfl ?_
  refine qa0 hτ rfl rfl rfl ?_
  refine qa0 hτ rfl rfl rfl ?_
  refine qa0 hτ rfl rfl rfl ?_
  refine qa3 ?_
  refine qa5 ?_
  refine qa7 (qa2 [0,1,2] (l:=[(0,.ptr 0 0),(2,.ptr 1 0),(3,.ptr 2 0),(4,.d (.fl .f32 (qad .quo .f32 (FloatKind.nearest .f32 (w64 ((1:Int) + x32.1))) (1082130432:Nat))))]) (objs:=[.box [.d (.sl false (x32.2.code.map qan)),.d (.int .i64 x32.2.at_),.d (.int .u64 x32.2.seed)],.box [.d (.nils),.d (.nils)],.box [.d (.nils),.d (.nils)]]) rfl (by simp) rfl (by trivial) ⟨rfl,trivial,rfl,trivial,rfl,trivial,rfl,trivial,trivial⟩) ?_
  refine qa1 ?_
  refine qa0 hτ rfl rfl rfl ?_
  refine qaa h fun x33 hx33 h=>?_
  refine qag hτ false [0] rfl rfl rfl (qaj func97 rfl rfl) rfl rfl (by simp) ⟨trivial,trivial,trivial⟩ (by trivial) (qb3 n x32.2 (40:Int) hx33) ?_
  rintro r0 o0 n0 ⟨rfl,rfl,rfl⟩ -
  refine qa0 hτ rfl rfl rfl ?_
  refine qa0 hτ rfl rfl rfl ?_
  refine qa0 hτ rfl rfl rfl ?_
  refine qa0 hτ rfl rfl rfl ?_
  refine qa3 ?_
  refine qb8 (ι:=List Int × Int × Int × List Nat × List Nat × List Nat × List Nat) (fun (v63,v64,v65,v66,v67,v68,v69)=>St.of [(2,.ptr 1 0),(3,.ptr 4 0)] [.box [.d (.sl false (v63.map qan)),.d (.int .i64 v64),.d (.int .u64 v65)],.box [.row 2 v66.length 0 v66.length,.row 3 v67.length 0 v67.length],.row 1 (v66.map qa4),.row 1 (v67.map qa4),.box [.row 5 v68.length 0 v68.length,.row 6 v69.length 0 v69.length],.row 1 (v68.map qa4),.row 1 (v69.map qa4)] f51.ntmps 1) (fun (v63,v64,v65,v66,v67,v68,v69)=>qgb n v63 v64 v65 v66 v67 v68 v69 = some r) ?_ (fun hk70=>?_)
  · rintro ⟨v63,v64,v65,v66,v67,v68,v69⟩ h
    replace h:qgb n v63 v64 v65 v66 v67 v68 v69 = some r:=h
    unfold qgb at h
    refine qa5 ?_
    refine qa1 ?_
    refine qa0 hτ rfl rfl rfl ?_
    refine qav hτ rfl rfl rfl ?_
    refine qa3 ?_
    refine qa7 (qa2 [0,1,5,6] (l:=[(2,.ptr 1 0)]) (objs:=[.box [.d (.sl false (v63.map qan)),.d (.int .i64 v64),.d (.int .u64 v65)],.box [.row 2 v68.length 0 v68.length,.row 3 v69.length 0 v69.length],.row 1 (v68.map qa4),.row 1 (v69.map qa4)]) rfl (by simp) rfl (by trivial) ⟨rfl,trivial,trivial⟩) ?_
    refine qar ?_
    have hr:=Option.some.inj h
    subst hr
    exact qah (.inr rfl) [2,3] (objs':=[.box [.d (.sl false (v63.map qan)),.d (.int .i64 v64),.d (.int .u64 v65)]]) (new:=[.row 1 (v68.map qa4),.row 1 (v69.map qa4)]) rfl (by simp) (by simp) rfl (by trivial) rfl rfl (by trivial) (fun h=>nomatch h) ⟨rfl,rfl,rfl⟩
  · refine qa5 ?_
    refine qa5 ?_
    refine qa7 (qa2 [0,1,2] (l:=[(0,.ptr 0 0),(2,.ptr 1 0),(3,.ptr 2 0),(4,.d (.fl .f32 (qad .quo .f32 (FloatKind.nearest .f32 (w64 ((1:Int) + x32.1))) (1082130432:Nat)))),(5,.d (.fl .f32 (qad .quo .f32 (FloatKind.nearest .f32 (w64 ((40:Int) + x33.1))) (1082130432:Nat))))]) (objs:=[.box [.d (.sl false (x33.2.code.map qan)),.d (.int .i64 x33.2.at_),.d (.int .u64 x33.2.seed)],.box [.d (.nils),.d (.nils)],.box [.d (.nils),.d (.nils)]]) rfl (by simp) rfl (by trivial) ⟨rfl,trivial,rfl,trivial,rfl,trivial,rfl,trivial,rfl,trivial,trivial⟩) ?_
    refine qa1 ?_
    refine qa0 hτ rfl rfl rfl ?_
    refine qaa h fun x71 hx71 h=>?_
    refine qag hτ false [0] rfl rfl rfl (qaj func97 rfl rfl) rfl rfl (by simp) ⟨trivial,trivial,trivial⟩ (by trivial) (qb3 n x33.2 (4:Int) hx71) ?_
    rintro r0 o0 n0 ⟨rfl,rfl,rfl⟩ -
    refine qa0 hτ rfl rfl rfl ?_
    refine qa0 hτ rfl rfl rfl ?_
    refine qa3 ?_
    refine qaz ?_
    refine qcs (ι:=Nat × List Int × Int × Int × List Nat × List Nat × List Nat × List Nat × Nat × Nat × Int) (fun (m100,v76,v77,v78,v79,v80,v81,v82,v83,v84,v85)=>St.of [(0,.ptr 0 0),(2,.ptr 1 0),(3,.ptr 4 0),(4,.d (.fl .f32 v83)),(5,.d (.fl .f32 v84)),(6,.d (.int .i64 v85))] [.box [.d (.sl false (v76.map qan)),.d (.int .i64 v77),.d (.int .u64 v78)],.box [.row 2 v79.length 0 v79.length,.row 3 v80.length 0 v80.length],.row 1 (v79.map qa4),.row 1 (v80.map qa4),.box [.row 5 v81.length 0 v81.length,.row 6 v82.length 0 v82.length],.row 1 (v81.map qa4),.row 1 (v82.map qa4)] f51.ntmps 1) (fun (m100,v76,v77,v78,v79,v80,v81,v82,v83,v84,v85)=>qda n m100 v76 v77 v78 v79 v80 v81 v82 v83 v84 v85 = some r) (fun x=>x.1) (n,x71.2.code,x71.2.at_,x71.2.seed,([]:List Nat),([]:List Nat),([]:List Nat),([]:List Nat),(qad .quo .f32 (FloatKind.nearest .f32 (w64 ((1:Int) + x32.1))) (1082130432:Nat)),(qad .quo .f32 (FloatKind.nearest .f32 (w64 ((40:Int) + x33.1))) (1082130432:Nat)),(w64 ((2:Int) + x71.1))) h (Weak.trans (Weak.trans (qa2 [0,1,2] (l:=[(0,.ptr 0 0),(2,.ptr 1 0),(3,.ptr 2 0),(4,.d (.fl .f32 (qad .quo .f32 (FloatKind.nearest .f32 (w64 ((1:Int) + x32.1))) (1082130432:Nat)))),(5,.d (.fl .f32 (qad .quo .f32 (FloatKind.nearest .f32 (w64 ((40:Int) + x33.1))) (1082130432:Nat)))),(6,.d (.int .i64 (w64 ((2:Int) + x71.1))))]) (objs:=[.box [.d (.sl false (x71.2.code.map qan)),.d (.int .i64 x71.2.at_),.d (.int .u64 x71.2.seed)],.box [.d (.nils),.d (.nils)],.box [.d (.nils),.d (.nils)]]) rfl (by simp) rfl (by trivial) ⟨rfl,trivial,rfl,trivial,rfl,trivial,rfl,trivial,rfl,trivial,rfl,trivial,trivial⟩) (qlo [1,1,1,1] (l':=[(0,.ptr 0 0),(2,.ptr 1 0),(3,.ptr 2 0),(4,.d (.fl .f32 (qad .quo .f32 (FloatKind.nearest .f32 (w64 ((1:Int) + x32.1))) (1082130432:Nat)))),(5,.d (.fl .f32 (qad .quo .f32 (FloatKind.nearest .f32 (w64 ((40:Int) + x33.1))) (1082130432:Nat)))),(6,.d (.int .i64 (w64 ((2:Int) + x71.1))))]) (objs':=[.box [.d (.sl false (x71.2.code.map qan)),.d (.int .i64 x71.2.at_),.d (.int .u64 x71.2.seed)],.box [.row 3 (([]:List Nat).length) 0 (([]:List Nat).length),.row 4 (([]:List Nat).length) 0 (([]:List Nat).length)],.box [.row 5 (([]:List Nat).length) 0 (([]:List Nat).length),.row 6 (([]:List Nat).length) 0 (([]:List Nat).length)]]) (.cons (.c (.refl _)) (.cons (.c (.refl _)) (.cons (.c (.refl _)) (.cons (.c (.refl _)) (.cons (.c (.refl _)) (.cons (.c (.refl _)) .nil)))))) (.cons (.refl _) (.cons (.box (.cons (.ghost ⟨Nat.le_of_ble_eq_true rfl,Nat.le_of_ble_eq_true rfl⟩) (.cons (.ghost ⟨Nat.le_of_ble_eq_true rfl,Nat.le_of_ble_eq_true rfl⟩) .nil))) (.cons (.box (.cons (.ghost ⟨Nat.le_of_ble_eq_true rfl,Nat.le_of_ble_eq_true rfl⟩) (.cons (.ghost ⟨Nat.le_of_ble_eq_true rfl,Nat.le_of_ble_eq_true rfl⟩) .nil))) .nil))))) (qa2 [0,1,3,4,2,5,6] (l:=[(0,.ptr 0 0),(2,.ptr 1 0),(3,.ptr 4 0),(4,.d (.fl .f32 (qad .quo .f32 (FloatKind.nearest .f32 (w64 ((1:Int) + x32.1))) (1082130432:Nat)))),(5,.d (.fl .f32 (qad .quo .f32 (FloatKind.nearest .f32 (w64 ((40:Int) + x33.1))) (1082130432:Nat)))),(6,.d (.int .i64 (w64 ((2:Int) + x71.1))))]) (objs:=[.box [.d (.sl false (x71.2.code.map qan)),.d (.int .i64 x71.2.at_),.d (.int .u64 x71.2.seed)],.box [.row 2 (([]:List Nat).length) 0 (([]:List Nat).length),.row 3 (([]:List Nat).length) 0 (([]:List Nat).length)],.row 1 (([]:List Nat).map qa4),.row 1 (([]:List Nat).map qa4),.box [.row 5 (([]:List Nat).length) 0 (([]:List Nat).length),.row 6 (([]:List Nat).length) 0 (([]:List Nat).length)],.row 1 (([]:List Nat).map qa4),.row 1 (([]:List Nat).map qa4)]) rfl (by simp) rfl (by trivial) ⟨rfl,trivial,rfl,trivial,rfl,trivial,rfl,trivial,rfl,trivial,rfl,trivial,trivial⟩)) ?_
    rintro ⟨m100,v76,v77,v78,v79,v80,v81,v82,v83,v84,v85⟩ h
    replace h:qda n m100 v76 v77 v78 v79 v80 v81 v82 v83 v84 v85 = some r:=h
    rcases m100 with _ | m100
    · rw [qda] at h;cases h
    rw [qda] at h
    refine qa5 ?_
    refine qa5 ?_
    refine qa1 ?_
    refine qa0 hτ rfl rfl rfl ?_
    refine qa0 hτ rfl rfl rfl ?_
    refine qa3 ?_
    refine qao rfl (fun hc102=>?_) (fun hc102=>?_)
    · have h:=if_t h hc102
      refine qap ?_
      refine qa5 ?_
      refine qaz ?_
      refine qa5 ?_
      refine qa1 ?_
      refine qa0 hτ rfl rfl rfl ?_
      refine qa0 hτ rfl rfl rfl ?_
      refine qa0 hτ rfl rfl rfl ?_
      refine qav hτ rfl rfl rfl ?_
      refine qf2 h fun hg103 h=>?_
      refine qih hτ rfl rfl (Eq.trans rfl (or_append (f:=qa4) v81 [v83] rfl)) ⟨⟨rfl,Nat.le_of_ble_eq_true rfl⟩,qbx _,rfl,rfl,hg103,by decide,(all1 rfl)⟩ ?_
      refine qa0 hτ rfl rfl rfl ?_
      refine qav hτ rfl rfl rfl ?_
      refine qa3 ?_
      refine qa5 ?_
      refine qa7 (qa2 [0,1,2,3,4,5,6] (l:=[(0,.ptr 0 0),(2,.ptr 1 0),(3,.ptr 4 0),(4,.d (.fl .f32 v83)),(5,.d (.fl .f32 v84)),(6,.d (.int .i64 v85))]) (objs:=[.box [.d (.sl false (v76.map qan)),.d (.int .i64 v77),.d (.int .u64 v78)],.box [.row 2 v79.length 0 v79.length,.row 3 v80.length 0 v80.length],.row 1 (v79.map qa4),.row 1 (v80.map qa4),.box [.row 5 ((v81 ++ [v83]).length) 0 ((v81 ++ [v83]).length),.row 6 v82.length 0 v82.length],.row 1 ((v81 ++ [v83]).map qa4),.row 1 (v82.map qa4)]) rfl (by simp) rfl (by trivial) ⟨rfl,trivial,rfl,trivial,rfl,trivial,rfl,trivial,rfl,trivial,rfl,trivial,trivial⟩) ?_
      refine qa1 ?_
      refine qa0 hτ rfl rfl rfl ?_
      refine qa0 hτ rfl rfl rfl ?_
      refine qa0 hτ rfl rfl rfl ?_
      refine qav hτ rfl rfl rfl ?_
      refine qf2 h fun hg104 h=>?_
      refine qih hτ rfl rfl (Eq.trans rfl (or_append (f:=qa4) v82 [v84] rfl)) ⟨⟨rfl,Nat.le_of_ble_eq_true rfl⟩,qbx _,rfl,rfl,hg104,by decide,(all1 rfl)⟩ ?_
      refine qa0 hτ rfl rfl rfl ?_
      refine qav hτ rfl rfl rfl ?_
      refine qa3 ?_
      refine qa5 ?_
      refine qa7 (qa2 [0,1,2,3,4,5,6] (l:=[(0,.ptr 0 0),(2,.ptr 1 0),(3,.ptr 4 0),(4,.d (.fl .f32 v83)),(5,.d (.fl .f32 v84)),(6,.d (.int .i64 v85))]) (objs:=[.box [.d (.sl false (v76.map qan)),.d (.int .i64 v77),.d (.int .u64 v78)],.box [.row 2 v79.length 0 v79.length,.row 3 v80.length 0 v80.length],.row 1 (v79.map qa4),.row 1 (v80.map qa4),.box [.row 5 ((v81 ++ [v83]).length) 0 ((v81 ++ [v83]).length),.row 6 ((v82 ++ [v84]).length) 0 ((v82 ++ [v84]).length)],.row 1 ((v81 ++ [v83]).map qa4),.row 1 ((v82 ++ [v84]).map qa4)]) rfl (by simp) rfl (by trivial) ⟨rfl,trivial,rfl,trivial,rfl,trivial,rfl,trivial,rfl,trivial,rfl,trivial,trivial⟩) ?_
      refine qa1 ?_
      refine qa0 hτ rfl rfl rfl ?_
      refine qa0 hτ rfl rfl rfl ?_
      refine qaa h fun x105 hx105 h=>?_
      refine qag hτ false [0] rfl rfl rfl (qaj func97 rfl rfl) rfl rfl (by simp) ⟨trivial,trivial,trivial⟩ (by trivial) (qb3 n (qau.mk v76 v77 v78) (8:Int) hx105) ?_
      rintro r0 o0 n0 ⟨rfl,rfl,rfl⟩ -
      refine qa0 hτ rfl rfl rfl ?_
      refine qa0 hτ rfl rfl rfl ?_
      refine qa0 hτ rfl rfl rfl ?_
      refine qa0 hτ rfl rfl rfl ?_
      refine qa0 hτ rfl rfl rfl ?_
      refine qa3 ?_
      refine qa7 (qa2 [0,1,2,3,4,5,6] (l:=[(0,.ptr 0 0),(2,.ptr 1 0),(3,.ptr 4 0),(4,.d (.fl .f32 (qad .add .f32 v83 (qad .quo .f32 (FloatKind.nearest .f32 (w64 ((1:Int) + x105.1))) (1082130432:Nat))))),(5,.d (.fl .f32 v84)),(6,.d (.int .i64 v85))]) (objs:=[.box [.d (.sl false (x105.2.code.map qan)),.d (.int .i64 x105.2.at_),.d (.int .u64 x105.2.seed)],.box [.row 2 v79.length 0 v79.length,.row 3 v80.length 0 v80.length],.row 1 (v79.map qa4),.row 1 (v80.map qa4),.box [.row 5 ((v81 ++ [v83]).length) 0 ((v81 ++ [v83]).length),.row 6 ((v82 ++ [v84]).length) 0 ((v82 ++ [v84]).length)],.row 1 ((v81 ++ [v83]).map qa4),.row 1 ((v82 ++ [v84]).map qa4)]) rfl (by simp) rfl (by trivial) ⟨rfl,trivial,rfl,trivial,rfl,trivial,rfl,trivial,rfl,trivial,rfl,trivial,trivial⟩) ?_
      refine qa1 ?_
      refine qa0 hτ rfl rfl rfl ?_
      refine qa0 hτ rfl rfl rfl ?_
      refine qaa h fun x106 hx106 h=>?_
      refine qag hτ false [0] rfl rfl rfl (qaj func97 rfl rfl) rfl rfl (by simp) ⟨trivial,trivial,trivial⟩ (by trivial) (qb3 n x105.2 (8:Int) hx106) ?_
      rintro r0 o0 n0 ⟨rfl,rfl,rfl⟩ -
      refine qa0 hτ rfl rfl rfl ?_
      refine qa0 hτ rfl rfl rfl ?_
      refine qa0 hτ rfl rfl rfl ?_
      refine qa0 hτ rfl rfl rfl ?_
      refine qa3 ?_
      refine qa7 (qa2 [0,1,2,3,4,5,6] (l:=[(0,.ptr 0 0),(2,.ptr 1 0),(3,.ptr 4 0),(4,.d (.fl .f32 (qad .add .f32 v83 (qad .quo .f32 (FloatKind.nearest .f32 (w64 ((1:Int) + x105.1))) (1082130432:Nat))))),(5,.d (.fl .f32 (qad .sub .f32 v84 (qad .quo .f32 (FloatKind.nearest .f32 x106.1) (1082130432:Nat))))),(6,.d (.int .i64 v85))]) (objs:=[.box [.d (.sl false (x106.2.code.map qan)),.d (.int .i64 x106.2.at_),.d (.int .u64 x106.2.seed)],.box [.row 2 v79.length 0 v79.length,.row 3 v80.length 0 v80.length],.row 1 (v79.map qa4),.row 1 (v80.map qa4),.box [.row 5 ((v81 ++ [v83]).length) 0 ((v81 ++ [v83]).length),.row 6 ((v82 ++ [v84]).length) 0 ((v82 ++ [v84]).length)],.row 1 ((v81 ++ [v83]).map qa4),.row 1 ((v82 ++ [v84]).map qa4)]) rfl (by simp) rfl (by trivial) ⟨rfl,trivial,rfl,trivial,rfl,trivial,rfl,trivial,rfl,trivial,rfl,trivial,trivial⟩) ?_
      refine qa1 ?_
      refine qa0 hτ rfl rfl rfl ?_
      refine qa0 hτ rfl rfl rfl ?_
      refine qa0 hτ rfl rfl rfl ?_
      refine qa3 ?_
      exact ⟨(m100,x106.2.code,x106.2.at_,x106.2.seed,v79,v80,(v81 ++ [v83]),(v82 ++ [v84]),(qad .add .f32 v83 (qad .quo .f32 (FloatKind.nearest .f32 (w64 ((1:Int) + x105.1))) (1082130432:Nat))),(qad .sub .f32 v84 (qad .quo .f32 (FloatKind.nearest .f32 x106.1) (1082130432:Nat))),(w64 (v85 - (1:Int)))),h,Nat.lt_succ_self m100,(qa2 [0,1,2,3,4,5,6] (l:=[(0,.ptr 0 0),(2,.ptr 1 0),(3,.ptr 4 0),(4,.d (.fl .f32 (qad .add .f32 v83 (qad .quo .f32 (FloatKind.nearest .f32 (w64 ((1:Int) + x105.1))) (1082130432:Nat))))),(5,.d (.fl .f32 (qad .sub .f32 v84 (qad .quo .f32 (FloatKind.nearest .f32 x106.1) (1082130432:Nat))))),(6,.d (.int .i64 (w64 (v85 - (1:Int)))))]) (objs:=[.box [.d (.sl false (x106.2.code.map qan)),.d (.int .i64 x106.2.at_),.d (.int .u64 x106.2.seed)],.box [.row 2 v79.length 0 v79.length,.row 3 v80.length 0 v80.length],.row 1 (v79.map qa4),.row 1 (v80.map qa4),.box [.row 5 ((v81 ++ [v83]).length) 0 ((v81 ++ [v83]).length),.row 6 ((v82 ++ [v84]).length) 0 ((v82 ++ [v84]).length)],.row 1 ((v81 ++ [v83]).map qa4),.row 1 ((v82 ++ [v84]).map qa4)]) rfl (by simp) rfl (by trivial) ⟨rfl,trivial,rfl,trivial,rfl,trivial,rfl,trivial,rfl,trivial,rfl,trivial,trivial⟩)⟩
    · have h:=if_f h hc102
      refine qcr ?_
      refine qa7 (qa2 [0,1,2,3,4,5,6] (l:=[(2,.ptr 1 0),(3,.ptr 4 0)]) (objs:=[.box [.d (.sl false (v76.map qan)),.d (.int .i64 v77),.d (.int .u64 v78)],.box [.row 2 v79.length 0 v79.length,.row 3 v80.length 0 v80.length],.row 1 (v79.map qa4),.row 1 (v80.map qa4),.box [.row 5 v81.length 0 v81.length,.row 6 v82.length 0 v82.length],.row 1 (v81.map qa4),.row 1 (v82.map qa4)]) rfl (by simp) rfl (by trivial) ⟨rfl,trivial,rfl,trivial,trivial⟩) ?_
      exact hk70 (v76,v77,v78,v79,v80,v81,v82) h
def qdi (n:Nat) (k52:List Int→Int→Int→List qas→Int→Option (List qas)) (v38:Int) (v61:List Int) (v62:Int) (v63:Int) (v64:List qas):Option (List qas) :=
  k52 v61 v62 v63 v64 (w64 (v38 + (1:Int)))
def qc0 (n:Nat) (f_:qax):Nat→List Int→Int→Int→List qas→Int→Option (List qas)
  | 0,_,_,_,_,_=>none
  | m51 + 1,v34,v35,v36,v37,v38 =>
    if v38 < (f_.qaf.length:Int) then
      (qca n (qau.mk v34 v35 v36) (2:Int)).bind fun x66 =>
      if x66.1 = true then
        (qi3 n x66.2).bind fun x68 =>
        grd (room (v37.length + 1) 56) <|
        qdi n (qc0 n f_ m51) v38 x68.2.code x68.2.at_ x68.2.seed (v37 ++ [(qas.mk v38 x68.1)])
      else
        qdi n (qc0 n f_ m51) v38 x66.2.code x66.2.at_ x66.2.seed v37
    else
      some v37
def qhh (n:Nat) (code_:List Int) (f_:qax):Option (List qas) :=
  (qi7 n code_).bind fun x26 =>
  qc0 n f_ n x26.code x26.at_ x26.seed ([]:List qas) (0:Int)
theorem spec_B10Devices_ok (n:Nat) (code_:List Int) (f_:qax) {r:List qas} (h:qhh n code_ f_ = some r):qb9 prog false 21 [.d (.sl false (code_.map qan)),.agg [.d (.cx .f32 f_.Source.A.re f_.Source.A.im),.d (.cx .f32 f_.Source.B.re f_.Source.B.im),.d (.cx .f32 f_.Source.C.re f_.Source.C.im),.d (.sl false (f_.qaf.map qai))]] [] (fun v o new=>v = .row 0 r.length 0 r.length∧o = []∧new = [.row 3 (r.map qa9)]):=by
  refine qak hτ func21 rfl (by simp) (by simp) ?_
  unfold qhh at h
  refine qa5 ?_
  refine qa1 ?_
  refine qav hτ rfl rfl rfl ?_
  refine qa0 hτ rfl rfl rfl ?_
  refine qa3 ?_
  refine qa5 ?_
  refine qa1 ?_
  refine qa0 hτ rfl rfl rfl ?_
  refine qaa h fun x26 hx26 h=>?_
  refine qag hτ false [] rfl rfl rfl (qaj func48 rfl rfl) rfl rfl (by simp) ⟨trivial,trivial⟩ (by trivial) (qm1 n code_ hx26) ?_
  rintro r0 o0 n0 ⟨rfl,rfl,rfl⟩ -
  refine qa0 hτ rfl rfl rfl ?_
  refine qa3 ?_
  refine qa5 ?_
  refine qa1 ?_
  refine qav hτ rfl rfl rfl ?_
  refine qa0 hτ rfl rfl rfl ?_
  refine qa3 ?_
  refine qa5 ?_
  refine qa5 ?_
  refine qa7 (qa2 [0,1,2] (l:=[(3,.ptr 0 0),(5,.ptr 1 0),(6,.row 2 (([]:List qas).length) 0 (([]:List qas).length))]) (objs:=[.box [.d (.cx .f32 f_.Source.A.re f_.Source.A.im),.d (.cx .f32 f_.Source.B.re f_.Source.B.im),.d (.cx .f32 f_.Source.C.re f_.Source.C.im),.d (.sl false (f_.qaf.map qai))],.box [.d (.sl false (x26.code.map qan)),.d (.int .i64 x26.at_),.d (.int .u64 x26.seed)],.row 3 (([]:List qas).map qa9)]) rfl (by simp) rfl (by trivial) ⟨rfl,trivial,rfl,trivial,rfl,trivial,trivial⟩) ?_
  refine qa1 ?_
  refine qa0 hτ rfl rfl rfl ?_
  refine qa3 ?_
  refine qaz ?_
  refine qcs (ι:=Nat × List Int × Int × Int × List qas × Int) (fun (m51,v34,v35,v36,v37,v38)=>St.of [(3,.ptr 0 0),(5,.ptr 1 0),(6,.row 2 v37.length 0 v37.length),(7,.d (.int .i64 v38))] [.box [.d (.cx .f32 f_.Source.A.re f_.Source.A.im),.d (.cx .f32 f_.Source.B.re f_.Source.B.im),.d (.cx .f32 f_.Source.C.re f_.Source.C.im),.d (.sl false (f_.qaf.map qai))],.box [.d (.sl false (v34.map qan)),.d (.int .i64 v35),.d (.int .u64 v36)],.row 3 (v37.map qa9)] f21.ntmps 0) (fun (m51,v34,v35,v36,v37,v38)=>qc0 n f_ m51 v34 v35 v36 v37 v38 = some r) (fun x=>x.1) (n,x26.code,x26.at_,x26.seed,([]:List qas),(0:Int)) h (qa2 [0,1,2] (l:=[(3,.ptr 0 0),(5,.ptr 1 0),(6,.row 2 (([]:List qas).length) 0 (([]:List qas).length)),(7,.d (.int .i64 (0:Int)))]) (objs:=[.box [.d (.cx .f32 f_.Source.A.re f_.Source.A.im),.d (.cx .f32 f_.Source.B.re f_.Source.B.im),.d (.cx .f32 f_.Source.C.re f_.Source.C.im),.d (.sl false (f_.qaf.map qai))],.box [.d (.sl false (x26.code.map qan)),.d (.int .i64 x26.at_),.d (.int .u64 x26.seed)],.row 3 (([]:List qas).map qa9)]) rfl (by simp) rfl (by trivial) ⟨rfl,trivial,rfl,trivial,rfl,trivial,rfl,trivial,trivial⟩) ?_
  rintro ⟨m51,v34,v35,v36,v37,v38⟩ h
  replace h:qc0 n f_ m51 v34 v35 v36 v37 v38 = some r:=h
  rcases m51 with _ | m51
  · rw [qc0] at h;cases h
  rw [qc0] at h
  refine qa5 ?_
  refine qa5 ?_
  refine qa1 ?_
  refine qa0 hτ rfl rfl rfl ?_
  refine qa0 hτ rfl rfl rfl ?_
  refine qa0 hτ rfl rfl rfl ?_
  refine qa0 hτ (v:=.d (.int .i64 (f_.qaf.length:Int))) rfl rfl (Eq.trans rfl (qdb (f:=qai) f_.qaf)) ?_
  refine qa0 hτ rfl rfl rfl ?_
  refine qa3 ?_
  refine qao rfl (fun hc53=>?_) (fun hc53=>?_)
  · have h:=if_t h hc53
    refine qap ?_
    refine qb8 (ι:=List Int × Int × Int × List qas) (fun (v61,v62,v63,v64)=>St.of [(3,.ptr 0 0),(5,.ptr 1 0),(6,.row 2 v64.length 0 v64.length),(7,.d (.int .i64 v38))] [.box [.d (.cx .f32 f_.Source.A.re f_.Source.A.im),.d (.cx .f32 f_.Source.B.re f_.Source.B.im),.d (.cx .f32 f_.Source.C.re f_.Source.C.im),.d (.sl false (f_.qaf.map qai))],.box [.d (.sl false (v61.map qan)),.d (.int .i64 v62),.d (.int .u64 v63)],.row 3 (v64.map qa9)] f21.ntmps 0) (fun (v61,v62,v63,v64)=>qdi n (qc0 n f_ m51) v38 v61 v62 v63 v64 = some r) ?_ (fun hk65=>?_)
    · rintro ⟨v61,v62,v63,v64⟩ h
      replace h:qdi n (qc0 n f_ m51) v38 v61 v62 v63 v64 = some r:=h
      unfold qdi at h
      refine qa1 ?_
      refine qa0 hτ rfl rfl rfl ?_
      refine qa0 hτ rfl rfl rfl ?_
      refine qa0 hτ rfl rfl rfl ?_
      refine qa3 ?_
      exact ⟨(m51,v61,v62,v63,v64,(w64 (v38 + (1:Int)))),h,Nat.lt_succ_self m51,(qa2 [0,1,2] (l:=[(3,.ptr 0 0),(5,.ptr 1 0),(6,.row 2 v64.length 0 v64.length),(7,.d (.int .i64 (w64 (v38 + (1:Int)))))]) (objs:=[.box [.d (.cx .f32 f_.Source.A.re f_.Source.A.im),.d (.cx .f32 f_.Source.B.re f_.Source.B.im),.d (.cx .f32 f_.Source.C.re f_.Source.C.im),.d (.sl false (f_.qaf.map qai))],.box [.d (.sl false (v61.map qan)),.d (.int .i64 v62),.d (.int .u64 v63)],.row 3 (v64.map qa9)]) rfl (by simp) rfl (by trivial) ⟨rfl,trivial,rfl,trivial,rfl,trivial,rfl,trivial,trivial⟩)⟩
    · refine qa5 ?_
      refine qaz ?_
      refine qa5 ?_
      refine qa1 ?_
      refine qa0 hτ rfl rfl rfl ?_
      refine qaa h fun x66 hx66 h=>?_
      refine qag hτ false [1] rfl rfl rfl (qaj func50 rfl rfl) rfl rfl (by simp) ⟨trivial,trivial,trivial⟩ (by trivial) (qec n (qau.mk v34 v35 v36) (2:Int) hx66) ?_
      rintro r0 o0 n0 ⟨rfl,rfl,rfl⟩ -
      refine qa3 ?_
      refine qa7 (qa2 [0,1,2] (l:=[(3,.ptr 0 0),(5,.ptr 1 0),(6,.row 2 v37.length 0 v37.length),(7,.d (.int .i64 v38)),(19,.d (.bool x66.1))]) (objs:=[.box [.d (.cx .f32 f_.Source.A.re f_.Source.A.im),.d (.cx .f32 f_.Source.B.re f_.Source.B.im),.d (.cx .f32 f_.Source.C.re f_.Source.C.im),.d (.sl false (f_.qaf.map qai))],.box [.d (.sl false (x66.2.code.map qan)),.d (.int .i64 x66.2.at_),.d (.int .u64 x66.2.seed)],.row 3 (v37.map qa9)]) rfl (by simp) rfl (by trivial) ⟨rfl,trivial,rfl,trivial,rfl,trivial,rfl,trivial,rfl,trivial,trivial⟩) ?_
      refine qao rfl (fun hc67=>?_) (fun hc67=>?_)
      · have h:=qbn h hc67
        refine qa1 ?_
        refine qa0 hτ rfl rfl rfl ?_
        refine qa0 hτ rfl rfl rfl ?_
        refine qa0 hτ rfl rfl rfl ?_
        refine qaa h fun x68 hx68 h=>?_
        refine qag hτ false [1] rfl rfl rfl (qaj func51 rfl rfl) rfl rfl (by simp) ⟨trivial,trivial⟩ (by trivial) (spec_l07DrawOk_ok n x66.2 hx68) ?_
        rintro r0 o0 n0 ⟨rfl,rfl,rfl⟩ -
        refine qa0 hτ rfl rfl rfl ?_
        refine qat (qa2 [0,1,2] (l:=[(3,.ptr 0 0),(5,.ptr 1 0),(7,.d (.int .i64 v38)),(20,.row 2 v37.length 0 v37.length),(24,.agg [.d (.int .i64 v38),.d (.sl false (x68.1.qa8.map qa4)),.d (.sl false (x68.1.Times.map qa4))])]) (objs:=[.box [.d (.cx .f32 f_.Source.A.re f_.Source.A.im),.d (.cx .f32 f_.Source.B.re f_.Source.B.im),.d (.cx .f32 f_.Source.C.re f_.Source.C.im),.d (.sl false (f_.qaf.map qai))],.box [.d (.sl false (x68.2.code.map qan)),.d (.int .i64 x68.2.at_),.d (.int .u64 x68.2.seed)],.row 3 (v37.map qa9)]) rfl (by simp) rfl (by trivial) ⟨rfl,trivial,rfl,trivial,rfl,trivial,rfl,trivial,(qto (qbd rfl (qbd (qn5 (f:=qa4) x68.1.qa8 rfl rfl rfl) (qbd (qn5 (f:=qa4) x68.1.Times rfl rfl rfl) qfs)))),⟨trivial,(qn7 (f:=qa4) x68.1.qa8 rfl rfl rfl),(qn7 (f:=qa4) x68.1.Times rfl rfl rfl)⟩,trivial⟩) ?_
        refine qav hτ rfl rfl rfl ?_
        refine qf2 h fun hg69 h=>?_
        refine qih hτ rfl rfl (Eq.trans rfl (or_append (f:=qa9) v37 [(qas.mk v38 x68.1)] rfl)) ⟨⟨rfl,Nat.le_of_ble_eq_true rfl⟩,qbx _,rfl,rfl,hg69,by decide,(all1 rfl)⟩ ?_
        refine qa0 hτ rfl rfl rfl ?_
        refine qa3 ?_
        refine qa7 (qa2 [0,1,2] (l:=[(3,.ptr 0 0),(5,.ptr 1 0),(6,.row 2 ((v37 ++ [(qas.mk v38 x68.1)]).length) 0 ((v37 ++ [(qas.mk v38 x68.1)]).length)),(7,.d (.int .i64 v38))]) (objs:=[.box [.d (.cx .f32 f_.Source.A.re f_.Source.A.im),.d (.cx .f32 f_.Source.B.re f_.Source.B.im),.d (.cx .f32 f_.Source.C.re f_.Source.C.im),.d (.sl false (f_.qaf.map qai))],.box [.d (.sl false (x68.2.code.map qan)),.d (.int .i64 x68.2.at_),.d (.int .u64 x68.2.seed)],.row 3 ((v37 ++ [(qas.mk v38 x68.1)]).map qa9)]) rfl (by simp) rfl (by trivial) ⟨rfl,trivial,rfl,trivial,rfl,trivial,rfl,trivial,trivial⟩) ?_
        exact hk65 (x68.2.code,x68.2.at_,x68.2.seed,(v37 ++ [(qas.mk v38 x68.1)])) h
      · have h:=qbm h hc67
        refine qap ?_
        refine qa7 (qa2 [0,1,2] (l:=[(3,.ptr 0 0),(5,.ptr 1 0),(6,.row 2 v37.length 0 v37.length),(7,.d (.int .i64 v38))]) (objs:=[.box [.d (.cx .f32 f_.Source.A.re f_.Source.A.im),.d (.cx .f32 f_.Source.B.re f_.Source.B.im),.d (.cx .f32 f_.Source.C.re f_.Source.C.im),.d (.sl false (f_.qaf.map qai))],.box [.d (.sl false (x66.2.code.map qan)),.d (.int .i64 x66.2.at_),.d (.int .u64 x66.2.seed)],.row 3 (v37.map qa9)]) rfl (by simp) rfl (by trivial) ⟨rfl,trivial,rfl,trivial,rfl,trivial,rfl,trivial,trivial⟩) ?_
        exact hk65 (x66.2.code,x66.2.at_,x66.2.seed,v37) h
  · have h:=if_f h hc53
    refine qcr ?_
    refine qa5 ?_
    refine qa1 ?_
    refine qa0 hτ rfl rfl rfl ?_
    refine qa0 hτ rfl rfl rfl ?_
    refine qa3 ?_
    refine qa7 (qa2 [2] (l:=[(4,.row 0 v37.length 0 v37.length)]) (objs:=[.row 3 (v37.map qa9)]) rfl (by simp) rfl (by trivial) ⟨rfl,trivial,trivial⟩) ?_
    refine qar ?_
    have hr:=Option.some.inj h
    subst hr
    exact qah (.inr rfl) [0] (objs':=[]) (new:=[.row 3 (v37.map qa9)]) rfl (by simp) (by simp) rfl (by trivial) rfl rfl (by trivial) (fun h=>nomatch h) ⟨rfl,rfl,rfl⟩
def qhn (n:Nat) (code_:List Int) (i_:Int) (n_:Int):Option Int :=
  if n_ ≤ (1:Int) then
    some (0:Int)
  else
    if i_ < (code_.length:Int) then
      (getI code_ i_).bind fun x8 =>
      grd (n_ ≠ 0) <|
      some ((w64 (x8)).tmod n_)
    else
      grd (n_ ≠ 0) <|
      some ((w64 ((w64 (i_ * (37:Int))) + (11:Int))).tmod n_)
theorem laws_b10At_ok_fr0 (fr:Bool) (n:Nat) (code_:List Int) (i_:Int) (n_:Int) {r:Int} (h:qhn n code_ i_ n_ = some r):qb9 prog fr 22 [.d (.sl false (code_.map qan)),.d (.int .i64 i_),.d (.int .i64 n_)] [] (fun v o new=>v = .d (.int .i64 r)∧o = []∧new = []):=by
  refine qak hτ func22 rfl (by simp) (by simp) ?_
  unfold qhn at h
  refine qa5 ?_
  refine qa1 ?_
  refine qa0 hτ rfl rfl rfl ?_
  refine qa3 ?_
  refine qa5 ?_
  refine qa5 ?_
  refine qa1 ?_
  refine qa0 hτ rfl rfl rfl ?_
  refine qa0 hτ rfl rfl rfl ?_
  refine qa3 ?_
  refine qao rfl (fun hc4=>?_) (fun hc4=>?_)
  · have h:=if_t h hc4
    refine qa5 ?_
    refine qa1 ?_
    refine qa0 hτ rfl rfl rfl ?_
    refine qa3 ?_
    refine qa7 (qa2 [] (l:=[(6,.d (.int .i64 (0:Int)))]) (objs:=[]) rfl (by simp) rfl (by trivial) ⟨rfl,trivial,trivial⟩) ?_
    refine qar ?_
    have hr:=Option.some.inj h
    subst hr
    exact qah (.inr rfl) [] (objs':=[]) (new:=[]) rfl (by simp) (by simp) rfl (by trivial) rfl rfl (by trivial) (fun _=>⟨by simp [V.flat,V.qbk,V.qbf,D.flat],qal⟩) ⟨rfl,rfl,rfl⟩
  · have h:=if_f h hc4
    refine qap ?_
    refine qa5 ?_
    refine qa5 ?_
    refine qa1 ?_
    refine qa0 hτ rfl rfl rfl ?_
    refine qa0 hτ rfl rfl rfl ?_
    refine qa0 hτ (v:=.d (.int .i64 (code_.length:Int))) rfl rfl (Eq.trans rfl (qdb (f:=qan) code_)) ?_
    refine qa0 hτ rfl rfl rfl ?_
    refine qa3 ?_
    refine qa7 (qa2 [] (l:=[(0,.d (.sl false (code_.map qan))),(1,.d (.int .i64 i_)),(2,.d (.int .i64 n_)),(12,.d (.bool (decide (i_ < (code_.length:Int)))))]) (objs:=[]) rfl (by simp) rfl (by trivial) ⟨rfl,trivial,rfl,trivial,rfl,trivial,rfl,trivial,trivial⟩) ?_
    refine qao rfl (fun hc7=>?_) (fun hc7=>?_)
    · have h:=if_t h hc7
      refine qa5 ?_
      refine qa1 ?_
      refine qa0 hτ rfl rfl rfl ?_
      refine qa0 hτ rfl rfl rfl ?_
      refine qaa h fun x8 hx8 h=>?_
      refine qbe hτ rfl rfl rfl (qaw hx8).1 (qb5 hx8) rfl ?_
      refine qa0 hτ rfl rfl rfl ?_
      refine qa0 hτ rfl rfl rfl ?_
      refine qa0 hτ rfl rfl rfl ?_
      refine qf2 h fun hg9 h=>?_
      refine qcl hτ rfl rfl rfl hg9 ?_
      refine qa0 hτ rfl rfl rfl ?_
      refine qa3 ?_
      refine qa7 (qa2 [] (l:=[(6,.d (.int .i64 ((w64 (x8)).tmod n_)))]) (objs:=[]) rfl (by simp) rfl (by trivial) ⟨rfl,trivial,trivial⟩) ?_
      refine qar ?_
      have hr:=Option.some.inj h
      subst hr
      exact qah (.inr rfl) [] (objs':=[]) (new:=[]) rfl (by simp) (by simp) rfl (by trivial) rfl rfl (by trivial) (fun _=>⟨by simp [V.flat,V.qbk,V.qbf,D.flat],qal⟩) ⟨rfl,rfl,rfl⟩
    · have h:=if_f h hc7
      refine qap ?_
      refine qa5 ?_
      refine qa1 ?_
      refine qa0 hτ rfl rfl rfl ?_
      refine qa0 hτ rfl rfl rfl ?_
      refine qa0 hτ rfl rfl rfl ?_
      refine qa0 hτ rfl rfl rfl ?_
      refine qf2 h fun hg10 h=>?_
      refine qcl hτ rfl rfl rfl hg10 ?_
      refine qa0 hτ rfl rfl rfl ?_
      refine qa3 ?_
      refine qa7 (qa2 [] (l:=[(6,.d (.int .i64 ((w64 ((w64 (i_ * (37:Int))) + (11:Int))).tmod n_)))]) (objs:=[]) rfl (by simp) rfl (by trivial) ⟨rfl,trivial,trivial⟩) ?_
      refine qar ?_
      have hr:=Option.some.inj h
      subst hr
      exact qah (.inr rfl) [] (objs':=[]) (new:=[]) rfl (by simp) (by simp) rfl (by trivial) rfl rfl (by trivial) (fun _=>⟨by simp [V.flat,V.qbk,V.qbf,D.flat],qal⟩) ⟨rfl,rfl,rfl⟩
theorem qlq (n:Nat) (code_:List Int) (i_:Int) (n_:Int) {r:Int} (h:qhn n code_ i_ n_ = some r):qb9 prog false 22 [.d (.sl false (code_.map qan)),.d (.int .i64 i_),.d (.int .i64 n_)] [] (fun v o new=>v = .d (.int .i64 r)∧o = []∧new = []):=laws_b10At_ok_fr0 false n code_ i_ n_ h
def qg6 (n:Nat) (n_:Int) (low_:Int) (high_:Int):Option Bool :=
  if n_ ≥ low_ then
    some (decide (n_ ≤ high_))
  else
    some false
theorem impl_in_ok_fr0 (fr:Bool) (n:Nat) (n_:Int) (low_:Int) (high_:Int) {r:Bool} (h:qg6 n n_ low_ high_ = some r):qb9 prog fr 62 [.d (.int .i64 n_),.d (.int .i64 low_),.d (.int .i64 high_)] [] (fun v o new=>v = .d (.bool r)∧o = []∧new = []):=by
  refine qak hτ func62 rfl (by simp) (by simp) ?_
  unfold qg6 at h
  refine qa5 ?_
  refine qa1 ?_
  refine qa0 hτ rfl rfl rfl ?_
  refine qa3 ?_
  refine qa5 ?_
  refine qa1 ?_
  refine qa0 hτ rfl rfl rfl ?_
  refine qa0 hτ rfl rfl rfl ?_
  refine qa0 hτ rfl rfl rfl ?_
  refine qa0 hτ rfl rfl rfl ?_
  refine qb4 10 rfl (fun hb3=>?_) (fun hb3=>?_)
  · have h:=if_t h hb3
    refine qa0 hτ rfl rfl rfl ?_
    refine qa0 hτ rfl rfl rfl ?_
    refine qa0 hτ rfl rfl rfl ?_
    refine qa0 hτ rfl rfl rfl ?_
    refine qa0 hτ rfl rfl rfl ?_
    refine qa3 ?_
    refine qa7 (qa2 [] (l:=[(6,.d (.bool (decide (n_ ≤ high_))))]) (objs:=[]) rfl (by simp) rfl (by trivial) ⟨rfl,trivial,trivial⟩) ?_
    refine qar ?_
    have hr:=Option.some.inj h
    subst hr
    exact qah (.inr rfl) [] (objs':=[]) (new:=[]) rfl (by simp) (by simp) rfl (by trivial) rfl rfl (by trivial) (fun _=>⟨by simp [V.flat,V.qbk,V.qbf,D.flat],qal⟩) ⟨rfl,rfl,rfl⟩
  · have h:=if_f h hb3
    refine qa6 rfl rfl ?_
    refine qa6 rfl rfl ?_
    refine qa6 rfl rfl ?_
    refine qa0 hτ rfl rfl rfl ?_
    refine qa0 hτ rfl rfl rfl ?_
    refine qa3 ?_
    refine qa7 (qa2 [] (l:=[(6,.d (.bool false))]) (objs:=[]) rfl (by simp) rfl (by trivial) ⟨rfl,trivial,trivial⟩) ?_
    refine qar ?_
    have hr:=Option.some.inj h
    subst hr
    exact qah (.inr rfl) [] (objs':=[]) (new:=[]) rfl (by simp) (by simp) rfl (by trivial) rfl rfl (by trivial) (fun _=>⟨by simp [V.flat,V.qbk,V.qbf,D.flat],qal⟩) ⟨rfl,rfl,rfl⟩
theorem qix (n:Nat) (n_:Int) (low_:Int) (high_:Int) {r:Bool} (h:qg6 n n_ low_ high_ = some r):qb9 prog false 62 [.d (.int .i64 n_),.d (.int .i64 low_),.d (.int .i64 high_)] [] (fun v o new=>v = .d (.bool r)∧o = []∧new = []):=impl_in_ok_fr0 false n n_ low_ high_ h
def qh9 (n:Nat) (x_:Nat):Option Bool :=
  some (fcmp .eql .f32 (qad .sub .f32 x_ x_) (0:Nat))
theorem impl_IsFinite_ok_fr0 (fr:Bool) (n:Nat) (x_:Nat) {r:Bool} (h:qh9 n x_ = some r):qb9 prog fr 113 [.d (.fl .f32 x_)] [] (fun v o new=>v = .d (.bool r)∧o = []∧new = []):=by
  refine qak hτ func113 rfl (by simp) (by simp) ?_
  unfold qh9 at h
  refine qa5 ?_
  refine qa1 ?_
  refine qa0 hτ rfl rfl rfl ?_
  refine qa3 ?_
  refine qa5 ?_
  refine qa1 ?_
  refine qa0 hτ rfl rfl rfl ?_
  refine qa0 hτ rfl rfl rfl ?_
  refine qa0 hτ rfl rfl rfl ?_
  refine qa0 hτ rfl rfl rfl ?_
  refine qa0 hτ rfl rfl rfl ?_
  refine qa3 ?_
  refine qa7 (qa2 [] (l:=[(2,.d (.bool (fcmp .eql .f32 (qad .sub .f32 x_ x_) (0:Nat))))]) (objs:=[]) rfl (by simp) rfl (by trivial) ⟨rfl,trivial,trivial⟩) ?_
  refine qar ?_
  have hr:=Option.some.inj h
  subst hr
  exact qah (.inr rfl) [] (objs':=[]) (new:=[]) rfl (by simp) (by simp) rfl (by trivial) rfl rfl (by trivial) (fun _=>⟨by simp [V.flat,V.qbk,V.qbf,D.flat],qal⟩) ⟨rfl,rfl,rfl⟩
theorem qlt (n:Nat) (x_:Nat) {r:Bool} (h:qh9 n x_ = some r):qb9 prog false 113 [.d (.fl .f32 x_)] [] (fun v o new=>v = .d (.bool r)∧o = []∧new = []):=impl_IsFinite_ok_fr0 false n x_ h
def qes (n:Nat) (x_:Nat):Option Bool :=
  (qh9 n x_).bind fun x4 =>
  if x4 = true then
    some (fcmp .gtr .f32 x_ (0:Nat))
  else
    some false
theorem impl_plusFinite_ok_fr0 (fr:Bool) (n:Nat) (x_:Nat) {r:Bool} (h:qes n x_ = some r):qb9 prog fr 105 [.d (.fl .f32 x_)] [] (fun v o new=>v = .d (.bool r)∧o = []∧new = []):=by
  refine qak hτ func105 rfl (by simp) (by simp) ?_
  unfold qes at h
  refine qa5 ?_
  refine qa1 ?_
  refine qa0 hτ rfl rfl rfl ?_
  refine qa3 ?_
  refine qa5 ?_
  refine qa1 ?_
  refine qa0 hτ rfl rfl rfl ?_
  refine qaa h fun x4 hx4 h=>?_
  refine qag hτ false [] rfl rfl rfl (qaj func113 rfl rfl) rfl rfl (by simp) ⟨trivial,trivial⟩ (by trivial) (qlt n x_ hx4) ?_
  rintro r0 o0 n0 ⟨rfl,rfl,rfl⟩ -
  refine qa0 hτ rfl rfl rfl ?_
  refine qb4 5 rfl (fun hb5=>?_) (fun hb5=>?_)
  · have h:=qbn h hb5
    refine qa0 hτ rfl rfl rfl ?_
    refine qa0 hτ rfl rfl rfl ?_
    refine qa0 hτ rfl rfl rfl ?_
    refine qa0 hτ rfl rfl rfl ?_
    refine qa3 ?_
    refine qa7 (qa2 [] (l:=[(2,.d (.bool (fcmp .gtr .f32 x_ (0:Nat))))]) (objs:=[]) rfl (by simp) rfl (by trivial) ⟨rfl,trivial,trivial⟩) ?_
    refine qar ?_
    have hr:=Option.some.inj h
    subst hr
    exact qah (.inr rfl) [] (objs':=[]) (new:=[]) rfl (by simp) (by simp) rfl (by trivial) rfl rfl (by trivial) (fun _=>⟨by simp [V.flat,V.qbk,V.qbf,D.flat],qal⟩) ⟨rfl,rfl,rfl⟩
  · have h:=qbm h hb5
    refine qa6 rfl rfl ?_
    refine qa6 rfl rfl ?_
    refine qa0 hτ rfl rfl rfl ?_
    refine qa0 hτ rfl rfl rfl ?_
    refine qa3 ?_
    refine qa7 (qa2 [] (l:=[(2,.d (.bool false))]) (objs:=[]) rfl (by simp) rfl (by trivial) ⟨rfl,trivial,trivial⟩) ?_
    refine qar ?_
    have hr:=Option.some.inj h
    subst hr
    exact qah (.inr rfl) [] (objs':=[]) (new:=[]) rfl (by simp) (by simp) rfl (by trivial) rfl rfl (by trivial) (fun _=>⟨by simp [V.flat,V.qbk,V.qbf,D.flat],qal⟩) ⟨rfl,rfl,rfl⟩
theorem ql9 (n:Nat) (x_:Nat) {r:Bool} (h:qes n x_ = some r):qb9 prog false 105 [.d (.fl .f32 x_)] [] (fun v o new=>v = .d (.bool r)∧o = []∧new = []):=impl_plusFinite_ok_fr0 false n x_ h
def qfq (n:Nat) (k60:Int→Option Bool) (v45:Int):Option Bool :=
  k60 (w64 (v45 + (1:Int)))
def qco (n:Nat) (k60:Int→Option Bool) (v45:Int) (v87:Bool):Option Bool :=
  if v87 = true then
    some false
  else
    qfq n k60 v45
def qbc (n:Nat) (c_:qbq):Nat→Int→Option Bool
  | 0,_=>none
  | m59 + 1,v45 =>
    if v45 < (c_.qa8.length:Int) then
      (getI c_.qa8 v45).bind fun x75 =>
      (qes n x75).bind fun x90 =>
      if x90 = true then
        (getI c_.Times v45).bind fun x92 =>
        (qes n x92).bind fun x93 =>
        if x93 = true then
          if v45 > (0:Int) then
            (getI c_.qa8 (w64 (v45 - (1:Int)))).bind fun x96 =>
            if (fcmp .geq .f32 x96 x75) = true then
              qco n (qbc n c_ m59) v45 true
            else
              (getI c_.Times (w64 (v45 - (1:Int)))).bind fun x98 =>
              qco n (qbc n c_ m59) v45 (fcmp .gtr .f32 x92 x98)
          else
            qco n (qbc n c_ m59) v45 false
        else
          qco n (qbc n c_ m59) v45 true
      else
        qco n (qbc n c_ m59) v45 true
    else
      some true
def qfp (n:Nat) (c_:qbq):Option Bool :=
  qbc n c_ n (0:Int)
def qee (n:Nat) (c_:qbq) (v103:Bool):Option Bool :=
  if v103 = true then
    some false
  else
    qfp n c_
def qdd (n:Nat) (c_:qbq):Option Bool :=
  (qg6 n (c_.qa8.length:Int) (2:Int) (16:Int)).bind fun x106 =>
  if x106 = true then
    qee n c_ (!(decide ((c_.Times.length:Int) = (c_.qa8.length:Int))))
  else
    qee n c_ true
theorem impl_ValidCurve_ok_fr0 (fr:Bool) (n:Nat) (c_:qbq) {r:Bool} (h:qdd n c_ = some r):qb9 prog fr 61 [.agg [.d (.sl false (c_.qa8.map qa4)),.d (.sl false (c_.Times.map qa4))]] [] (fun v o new=>v = .d (.bool r)∧o = []∧new = []):=by
  refine qak hτ func61 rfl (by simp) (by simp) ?_
  unfold qdd at h
  refine qa5 ?_
  refine qa1 ?_
  refine qav hτ rfl rfl rfl ?_
  refine qa0 hτ rfl rfl rfl ?_
  refine qa3 ?_
  refine qb8 (ι:=Unit) (fun _=>St.of [(1,.ptr 0 0)] [.box [.d (.sl false (c_.qa8.map qa4)),.d (.sl false (c_.Times.map qa4))]] f61.ntmps 0) (fun _=>qfp n c_ = some r) ?_ (fun hk99=>?_)
  · rintro ⟨⟩ h
    replace h:qfp n c_ = some r:=h
    unfold qfp at h
    refine qa5 ?_
    refine qa5 ?_
    refine qa1 ?_
    refine qa0 hτ rfl rfl rfl ?_
    refine qa0 hτ rfl rfl rfl ?_
    refine qa0 hτ (v:=.d (.int .i64 (c_.qa8.length:Int))) rfl rfl (Eq.trans rfl (qdb (f:=qa4) c_.qa8)) ?_
    refine qa0 hτ rfl rfl rfl ?_
    refine qa3 ?_
    refine qaz ?_
    refine qcs (ι:=Nat × Int) (fun (m59,v45)=>St.of [(1,.ptr 0 0),(20,.d (.sl false (c_.qa8.map qa4))),(21,.d (.int .i64 (c_.qa8.length:Int))),(22,.d (.int .i64 v45))] [.box [.d (.sl false (c_.qa8.map qa4)),.d (.sl false (c_.Times.map qa4))]] f61.ntmps 0) (fun (m59,v45)=>qbc n c_ m59 v45 = some r) (fun x=>x.1) (n,(0:Int)) h (qa2 [0] (l:=[(1,.ptr 0 0),(20,.d (.sl false (c_.qa8.map qa4))),(21,.d (.int .i64 (c_.qa8.length:Int))),(22,.d (.int .i64 (0:Int)))]) (objs:=[.box [.d (.sl false (c_.qa8.map qa4)),.d (.sl false (c_.Times.map qa4))]]) rfl (by simp) rfl (by trivial) ⟨rfl,trivial,rfl,trivial,rfl,trivial,rfl,trivial,trivial⟩) ?_
    rintro ⟨m59,v45⟩ h
    replace h:qbc n c_ m59 v45 = some r:=h
    rcases m59 with _ | m59
    · rw [qbc] at h;cases h
    rw [qbc] at h
    refine qa5 ?_
    refine qa1 ?_
    refine qa0 hτ rfl rfl rfl ?_
    refine qa3 ?_
    refine qa5 ?_
    refine qao rfl (fun hc61=>?_) (fun hc61=>?_)
    · have h:=if_t h hc61
      refine qap ?_
      refine qb8 (ι:=Unit) (fun _=>St.of [(1,.ptr 0 0),(20,.d (.sl false (c_.qa8.map qa4))),(21,.d (.int .i64 (c_.qa8.length:Int))),(22,.d (.int .i64 v45))] [.box [.d (.sl false (c_.qa8.map qa4)),.d (.sl false (c_.Times.map qa4))]] f61.ntmps 0) (fun _=>qfq n (qbc n c_ m59) v45 = some r) ?_ (fun hk74=>?_)
      · rintro ⟨⟩ h
        replace h:qfq n (qbc n c_ m59) v45 = some r:=h
        unfold qfq at h
        refine qa1 ?_
        refine qa0 hτ rfl rfl rfl ?_
        refine qa0 hτ rfl rfl rfl ?_
        refine qa3 ?_
        exact ⟨(m59,(w64 (v45 + (1:Int)))),h,Nat.lt_succ_self m59,(qa2 [0] (l:=[(1,.ptr 0 0),(20,.d (.sl false (c_.qa8.map qa4))),(21,.d (.int .i64 (c_.qa8.length:Int))),(22,.d (.int .i64 (w64 (v45 + (1:Int)))))]) (objs:=[.box [.d (.sl false (c_.qa8.map qa4)),.d (.sl false (c_.Times.map qa4))]]) rfl (by simp) rfl (by trivial) ⟨rfl,trivial,rfl,trivial,rfl,trivial,rfl,trivial,trivial⟩)⟩
      · refine qa5 ?_
        refine qaz ?_
        refine qa5 ?_
        refine qa1 ?_
        refine qa0 hτ rfl rfl rfl ?_
        refine qaa h fun x75 hx75 h=>?_
        refine qbe hτ rfl rfl rfl (qaw hx75).1 (qb5 hx75) rfl ?_
        refine qa0 hτ rfl rfl rfl ?_
        refine qa0 hτ rfl rfl rfl ?_
        refine qa0 hτ rfl rfl rfl ?_
        refine qa3 ?_
        refine qb8 (ι:=Bool) (fun v87=>St.of [(1,.ptr 0 0),(20,.d (.sl false (c_.qa8.map qa4))),(21,.d (.int .i64 (c_.qa8.length:Int))),(22,.d (.int .i64 v45)),(66,.d (.bool v87))] [.box [.d (.sl false (c_.qa8.map qa4)),.d (.sl false (c_.Times.map qa4))]] f61.ntmps 0) (fun v87=>qco n (qbc n c_ m59) v45 v87 = some r) ?_ (fun hk89=>?_)
        · rintro v87 h
          replace h:qco n (qbc n c_ m59) v45 v87 = some r:=h
          unfold qco at h
          refine qao rfl (fun hc88=>?_) (fun hc88=>?_)
          · have h:=qbn h hc88
            refine qa5 ?_
            refine qa1 ?_
            refine qa0 hτ rfl rfl rfl ?_
            refine qa3 ?_
            refine qa7 (qa2 [] (l:=[(2,.d (.bool false))]) (objs:=[]) rfl (by simp) rfl (by trivial) ⟨rfl,trivial,trivial⟩) ?_
            refine qar ?_
            have hr:=Option.some.inj h
            subst hr
            exact qah (.inr rfl) [] (objs':=[]) (new:=[]) rfl (by simp) (by simp) rfl (by trivial) rfl rfl (by trivial) (fun _=>⟨by simp [V.flat,V.qbk,V.qbf,D.flat],qal⟩) ⟨rfl,rfl,rfl⟩
          · have h:=qbm h hc88
            refine qap ?_
            refine qa7 (qa2 [0] (l:=[(1,.ptr 0 0),(20,.d (.sl false (c_.qa8.map qa4))),(21,.d (.int .i64 (c_.qa8.length:Int))),(22,.d (.int .i64 v45))]) (objs:=[.box [.d (.sl false (c_.qa8.map qa4)),.d (.sl false (c_.Times.map qa4))]]) rfl (by simp) rfl (by trivial) ⟨rfl,trivial,rfl,trivial,rfl,trivial,rfl,trivial,trivial⟩) ?_
            exact hk74 () h
        · refine qa5 ?_
          refine qa7 (qa2 [0] (l:=[(1,.ptr 0 0),(3,.d (.int .i64 v45)),(4,.d (.fl .f32 x75)),(20,.d (.sl false (c_.qa8.map qa4))),(21,.d (.int .i64 (c_.qa8.length:Int))),(22,.d (.int .i64 v45))]) (objs:=[.box [.d (.sl false (c_.qa8.map qa4)),.d (.sl false (c_.Times.map qa4))]]) rfl (by simp) rfl (by trivial) ⟨rfl,trivial,rfl,trivial,rfl,trivial,rfl,trivial,rfl,trivial,rfl,trivial,trivial⟩) ?_
          refine qel ?_
          refine qab hτ [] 0 rfl rfl rfl rfl rfl ?_
          refine qaa h fun x90 hx90 h=>?_
          refine qhw hτ false [] [0] 1 rfl rfl rfl rfl (qaj func105 rfl rfl) rfl rfl (by simp) ⟨trivial,trivial⟩ (by trivial) (ql9 n x75 hx90) ⟨rfl,trivial⟩ ?_
          refine qab hτ [] 2 rfl rfl rfl rfl rfl ?_
          refine qab hτ [] 3 rfl rfl rfl rfl rfl ?_
          refine qig 30 rfl (fun hb91=>?_) (fun hb91=>?_)
          · have hb91:=qgh hb91
            have h:=qbm h hb91
            refine qae 4 rfl rfl rfl ?_
            refine qae 5 rfl rfl rfl ?_
            refine qae 6 rfl rfl rfl ?_
            refine qae 7 rfl rfl rfl ?_
            refine qae 8 rfl rfl rfl ?_
            refine qae 9 rfl rfl rfl ?_
            refine qae 10 rfl rfl rfl ?_
            refine qab hτ [] 11 rfl rfl rfl rfl rfl ?_
            refine qab hτ [] 12 rfl rfl rfl rfl rfl ?_
            refine qae 13 rfl rfl rfl ?_
            refine qae 14 rfl rfl rfl ?_
            refine qae 15 rfl rfl rfl ?_
            refine qae 16 rfl rfl rfl ?_
            refine qae 17 rfl rfl rfl ?_
            refine qae 18 rfl rfl rfl ?_
            refine qae 19 rfl rfl rfl ?_
            refine qae 20 rfl rfl rfl ?_
            refine qae 21 rfl rfl rfl ?_
            refine qae 22 rfl rfl rfl ?_
            refine qae 23 rfl rfl rfl ?_
            refine qae 24 rfl rfl rfl ?_
            refine qae 25 rfl rfl rfl ?_
            refine qae 26 rfl rfl rfl ?_
            refine qae 27 rfl rfl rfl ?_
            refine qae 28 rfl rfl rfl ?_
            refine qae 29 rfl rfl rfl ?_
            refine qae 30 rfl rfl rfl ?_
            refine qae 31 rfl rfl rfl ?_
            refine qae 32 rfl rfl rfl ?_
            refine qae 33 rfl rfl rfl ?_
            refine qae 34 rfl rfl rfl ?_
            refine qae 35 rfl rfl rfl ?_
            refine qae 36 rfl rfl rfl ?_
            refine qae 37 rfl rfl rfl ?_
            refine qae 38 rfl rfl rfl ?_
            refine qab hτ [] 39 rfl rfl rfl rfl rfl ?_
            refine qcy mixed (by kernel_rfl) ?_
            refine qa7 (qa2 [0] (l:=[(1,.ptr 0 0),(20,.d (.sl false (c_.qa8.map qa4))),(21,.d (.int .i64 (c_.qa8.length:Int))),(22,.d (.int .i64 v45)),(66,.d (.bool true))]) (objs:=[.box [.d (.sl false (c_.qa8.map qa4)),.d (.sl false (c_.Times.map qa4))]]) rfl (by simp) rfl (by trivial) ⟨rfl,trivial,rfl,trivial,rfl,trivial,rfl,trivial,rfl,trivial,trivial⟩) ?_
            exact hk89 true h
          · have hb91:=qgg hb91
            have h:=qbn h hb91
            refine qab hτ [0] 4 rfl rfl rfl rfl rfl ?_
            refine qab hτ [0] 5 rfl rfl rfl rfl rfl ?_
            refine qab hτ [] 6 rfl rfl rfl rfl rfl ?_
            refine qaa h fun x92 hx92 h=>?_
            refine qc8 hτ [] 7 rfl rfl rfl rfl rfl (qaw hx92).1 (qb5 hx92) rfl ?_
            refine qab hτ [] 8 rfl rfl rfl rfl rfl ?_
            refine qaa h fun x93 hx93 h=>?_
            refine qhw hτ false [] [0] 9 rfl rfl rfl rfl (qaj func105 rfl rfl) rfl rfl (by simp) ⟨trivial,trivial⟩ (by trivial) (ql9 n x92 hx93) ⟨rfl,trivial⟩ ?_
            refine qab hτ [] 10 rfl rfl rfl rfl rfl ?_
            refine qab hτ [] 11 rfl rfl rfl rfl rfl ?_
            refine qab hτ [] 12 rfl rfl rfl rfl rfl ?_
            refine qig 39 rfl (fun hb94=>?_) (fun hb94=>?_)
            · have hb94:=qgh hb94
              have h:=qbm h hb94
              refine qae 13 rfl rfl rfl ?_
              refine qae 14 rfl rfl rfl ?_
              refine qae 15 rfl rfl rfl ?_
              refine qae 16 rfl rfl rfl ?_
              refine qae 17 rfl rfl rfl ?_
              refine qae 18 rfl rfl rfl ?_
              refine qae 19 rfl rfl rfl ?_
              refine qae 20 rfl rfl rfl ?_
              refine qae 21 rfl rfl rfl ?_
              refine qae 22 rfl rfl rfl ?_
              refine qae 23 rfl rfl rfl ?_
              refine qae 24 rfl rfl rfl ?_
              refine qae 25 rfl rfl rfl ?_
              refine qae 26 rfl rfl rfl ?_
              refine qae 27 rfl rfl rfl ?_
              refine qae 28 rfl rfl rfl ?_
              refine qae 29 rfl rfl rfl ?_
              refine qae 30 rfl rfl rfl ?_
              refine qae 31 rfl rfl rfl ?_
              refine qae 32 rfl rfl rfl ?_
              refine qae 33 rfl rfl rfl ?_
              refine qae 34 rfl rfl rfl ?_
              refine qae 35 rfl rfl rfl ?_
              refine qae 36 rfl rfl rfl ?_
              refine qae 37 rfl rfl rfl ?_
              refine qae 38 rfl rfl rfl ?_
              refine qab hτ [] 39 rfl rfl rfl rfl rfl ?_
              refine qcy mixed (by kernel_rfl) ?_
              refine qa7 (qa2 [0] (l:=[(1,.ptr 0 0),(20,.d (.sl false (c_.qa8.map qa4))),(21,.d (.int .i64 (c_.qa8.length:Int))),(22,.d (.int .i64 v45)),(66,.d (.bool true))]) (objs:=[.box [.d (.sl false (c_.qa8.map qa4)),.d (.sl false (c_.Times.map qa4))]]) rfl (by simp) rfl (by trivial) ⟨rfl,trivial,rfl,trivial,rfl,trivial,rfl,trivial,rfl,trivial,trivial⟩) ?_
              exact hk89 true h
            · have hb94:=qgg hb94
              have h:=qbn h hb94
              refine qab hτ [] 13 rfl rfl rfl rfl rfl ?_
              refine qab hτ [] 14 rfl rfl rfl rfl rfl ?_
              refine qab hτ [] 15 rfl rfl rfl rfl rfl ?_
              refine qig 42 rfl (fun hb95=>?_) (fun hb95=>?_)
              · have h:=if_t h hb95
                refine qab hτ [0] 16 rfl rfl rfl rfl rfl ?_
                refine qab hτ [0] 17 rfl rfl rfl rfl rfl ?_
                refine qab hτ [] 18 rfl rfl rfl rfl rfl ?_
                refine qab hτ [] 19 rfl rfl rfl rfl rfl ?_
                refine qaa h fun x96 hx96 h=>?_
                refine qc8 hτ [] 20 rfl rfl rfl rfl rfl (qaw hx96).1 (qb5 hx96) rfl ?_
                refine qab hτ [] 21 rfl rfl rfl rfl rfl ?_
                refine qab hτ [] 22 rfl rfl rfl rfl rfl ?_
                refine qab hτ [] 23 rfl rfl rfl rfl rfl ?_
                refine qab hτ [] 24 rfl rfl rfl rfl rfl ?_
                refine qig 51 rfl (fun hb97=>?_) (fun hb97=>?_)
                · have h:=qbn h hb97
                  refine qae 25 rfl rfl rfl ?_
                  refine qae 26 rfl rfl rfl ?_
                  refine qae 27 rfl rfl rfl ?_
                  refine qae 28 rfl rfl rfl ?_
                  refine qae 29 rfl rfl rfl ?_
                  refine qae 30 rfl rfl rfl ?_
                  refine qae 31 rfl rfl rfl ?_
                  refine qae 32 rfl rfl rfl ?_
                  refine qae 33 rfl rfl rfl ?_
                  refine qae 34 rfl rfl rfl ?_
                  refine qae 35 rfl rfl rfl ?_
                  refine qae 36 rfl rfl rfl ?_
                  refine qab hτ [] 37 rfl rfl rfl rfl rfl ?_
                  refine qab hτ [] 38 rfl rfl rfl rfl rfl ?_
                  refine qab hτ [] 39 rfl rfl rfl rfl rfl ?_
                  refine qcy mixed (by kernel_rfl) ?_
                  refine qa7 (qa2 [0] (l:=[(1,.ptr 0 0),(20,.d (.sl false (c_.qa8.map qa4))),(21,.d (.int .i64 (c_.qa8.length:Int))),(22,.d (.int .i64 v45)),(66,.d (.bool true))]) (objs:=[.box [.d (.sl false (c_.qa8.map qa4)),.d (.sl false (c_.Times.map qa4))]]) rfl (by simp) rfl (by trivial) ⟨rfl,trivial,rfl,trivial,rfl,trivial,rfl,trivial,rfl,trivial,trivial⟩) ?_
                  exact hk89 true h
                · have h:=qbm h hb97
                  refine qab hτ [0] 25 rfl rfl rfl rfl rfl ?_
                  refine qab hτ [0] 26 rfl rfl rfl rfl rfl ?_
                  refine qab hτ [] 27 rfl rfl rfl rfl rfl ?_
                  refine qc8 hτ [] 28 rfl rfl rfl rfl rfl (qaw hx92).1 (qb5 hx92) rfl ?_
                  refine qab hτ [] 29 rfl rfl rfl rfl rfl ?_
                  refine qab hτ [0] 30 rfl rfl rfl rfl rfl ?_
                  refine qab hτ [0] 31 rfl rfl rfl rfl rfl ?_
                  refine qab hτ [] 32 rfl rfl rfl rfl rfl ?_
                  refine qab hτ [] 33 rfl rfl rfl rfl rfl ?_
                  refine qaa h fun x98 hx98 h=>?_
                  refine qc8 hτ [] 34 rfl rfl rfl rfl rfl (qaw hx98).1 (qb5 hx98) rfl ?_
                  refine qab hτ [] 35 rfl rfl rfl rfl rfl ?_
                  refine qab hτ [] 36 rfl rfl rfl rfl rfl ?_
                  refine qab hτ [] 37 rfl rfl rfl rfl rfl ?_
                  refine qab hτ [] 38 rfl rfl rfl rfl rfl ?_
                  refine qab hτ [] 39 rfl rfl rfl rfl rfl ?_
                  refine qcy mixed (by kernel_rfl) ?_
                  refine qa7 (qa2 [0] (l:=[(1,.ptr 0 0),(20,.d (.sl false (c_.qa8.map qa4))),(21,.d (.int .i64 (c_.qa8.length:Int))),(22,.d (.int .i64 v45)),(66,.d (.bool (fcmp .gtr .f32 x92 x98)))]) (objs:=[.box [.d (.sl false (c_.qa8.map qa4)),.d (.sl false (c_.Times.map qa4))]]) rfl (by simp) rfl (by trivial) ⟨rfl,trivial,rfl,trivial,rfl,trivial,rfl,trivial,rfl,trivial,trivial⟩) ?_
                  exact hk89 (fcmp .gtr .f32 x92 x98) h
              · have h:=if_f h hb95
                refine qae 16 rfl rfl rfl ?_
                refine qae 17 rfl rfl rfl ?_
                refine qae 18 rfl rfl rfl ?_
                refine qae 19 rfl rfl rfl ?_
                refine qae 20 rfl rfl rfl ?_
                refine qae 21 rfl rfl rfl ?_
                refine qae 22 rfl rfl rfl ?_
                refine qae 23 rfl rfl rfl ?_
                refine qae 24 rfl rfl rfl ?_
                refine qae 25 rfl rfl rfl ?_
                refine qae 26 rfl rfl rfl ?_
                refine qae 27 rfl rfl rfl ?_
                refine qae 28 rfl rfl rfl ?_
                refine qae 29 rfl rfl rfl ?_
                refine qae 30 rfl rfl rfl ?_
                refine qae 31 rfl rfl rfl ?_
                refine qae 32 rfl rfl rfl ?_
                refine qae 33 rfl rfl rfl ?_
                refine qae 34 rfl rfl rfl ?_
                refine qae 35 rfl rfl rfl ?_
                refine qae 36 rfl rfl rfl ?_
                refine qae 37 rfl rfl rfl ?_
                refine qab hτ [] 38 rfl rfl rfl rfl rfl ?_
                refine qab hτ [] 39 rfl rfl rfl rfl rfl ?_
                refine qcy mixed (by kernel_rfl) ?_
                refine qa7 (qa2 [0] (l:=[(1,.ptr 0 0),(20,.d (.sl false (c_.qa8.map qa4))),(21,.d (.int .i64 (c_.qa8.length:Int))),(22,.d (.int .i64 v45)),(66,.d (.bool false))]) (objs:=[.box [.d (.sl false (c_.qa8.map qa4)),.d (.sl false (c_.Times.map qa4))]]) rfl (by simp) rfl (by trivial) ⟨rfl,trivial,rfl,trivial,rfl,trivial,rfl,trivial,rfl,trivial,trivial⟩) ?_
                exact hk89 false h
    · have h:=if_f h hc61
      refine qcr ?_
      refine qa5 ?_
      refine qa1 ?_
      refine qa0 hτ rfl rfl rfl ?_
      refine qa3 ?_
      refine qa7 (qa2 [] (l:=[(2,.d (.bool true))]) (objs:=[]) rfl (by simp) rfl (by trivial) ⟨rfl,trivial,trivial⟩) ?_
      refine qar ?_
      have hr:=Option.some.inj h
      subst hr
      exact qah (.inr rfl) [] (objs':=[]) (new:=[]) rfl (by simp) (by simp) rfl (by trivial) rfl rfl (by trivial) (fun _=>⟨by simp [V.flat,V.qbk,V.qbf,D.flat],qal⟩) ⟨rfl,rfl,rfl⟩
  · refine qa5 ?_
    refine qb8 (ι:=Bool) (fun v103=>St.of [(1,.ptr 0 0),(18,.d (.bool v103))] [.box [.d (.sl false (c_.qa8.map qa4)),.d (.sl false (c_.Times.map qa4))]] f61.ntmps 0) (fun v103=>qee n c_ v103 = some r) ?_ (fun hk105=>?_)
    · rintro v103 h
      replace h:qee n c_ v103 = some r:=h
      unfold qee at h
      refine qao rfl (fun hc104=>?_) (fun hc104=>?_)
      · have h:=qbn h hc104
        refine qa5 ?_
        refine qa1 ?_
        refine qa0 hτ rfl rfl rfl ?_
        refine qa3 ?_
        refine qa7 (qa2 [] (l:=[(2,.d (.bool false))]) (objs:=[]) rfl (by simp) rfl (by trivial) ⟨rfl,trivial,trivial⟩) ?_
        refine qar ?_
        have hr:=Option.some.inj h
        subst hr
        exact qah (.inr rfl) [] (objs':=[]) (new:=[]) rfl (by simp) (by simp) rfl (by trivial) rfl rfl (by trivial) (fun _=>⟨by simp [V.flat,V.qbk,V.qbf,D.flat],qal⟩) ⟨rfl,rfl,rfl⟩
      · have h:=qbm h hc104
        refine qap ?_
        refine qa7 (qa2 [0] (l:=[(1,.ptr 0 0)]) (objs:=[.box [.d (.sl false (c_.qa8.map qa4)),.d (.sl false (c_.Times.map qa4))]]) rfl (by simp) rfl (by trivial) ⟨rfl,trivial,trivial⟩) ?_
        exact hk99 () h
    · refine qa5 ?_
      refine qa1 ?_
      refine qa0 hτ rfl rfl rfl ?_
      refine qa0 hτ rfl rfl rfl ?_
      refine qa0 hτ (v:=.d (.int .i64 (c_.qa8.length:Int))) rfl rfl (Eq.trans rfl (qdb (f:=qa4) c_.qa8)) ?_
      refine qaa h fun x106 hx106 h=>?_
      refine qag hτ false [] rfl rfl rfl (qaj func62 rfl rfl) rfl rfl (by simp) ⟨trivial,trivial,trivial,trivial⟩ (by trivial) (qix n (c_.qa8.length:Int) (2:Int) (16:Int) hx106) ?_
      rintro r0 o0 n0 ⟨rfl,rfl,rfl⟩ -
      refine qa0 hτ rfl rfl rfl ?_
      refine qa0 hτ rfl rfl rfl ?_
      refine qb4 10 rfl (fun hb107=>?_) (fun hb107=>?_)
      · have hb107:=qgh hb107
        have h:=qbm h hb107
        refine qa6 rfl rfl ?_
        refine qa6 rfl rfl ?_
        refine qa6 rfl rfl ?_
        refine qa6 rfl rfl ?_
        refine qat (qa2 [0] (l:=[(1,.ptr 0 0),(10,.d (.bool true)),(13,.und),(14,.und)]) (objs:=[.box [.d (.sl false (c_.qa8.map qa4)),.d (.sl false (c_.Times.map qa4))]]) rfl (by simp) rfl (by trivial) ⟨rfl,trivial,rfl,trivial,rfl,trivial,rfl,trivial,trivial⟩) ?_
        refine qa6 rfl rfl ?_
        refine qa6 rfl rfl ?_
        refine qa6 rfl rfl ?_
        refine qa0 hτ rfl rfl rfl ?_
        refine qa3 ?_
        refine qa7 (qa2 [0] (l:=[(1,.ptr 0 0),(18,.d (.bool true))]) (objs:=[.box [.d (.sl false (c_.qa8.map qa4)),.d (.sl false (c_.Times.map qa4))]]) rfl (by simp) rfl (by trivial) ⟨rfl,trivial,rfl,trivial,trivial⟩) ?_
        exact hk105 true h
      · have hb107:=qgg hb107
        have h:=qbn h hb107
        refine qa0 hτ rfl rfl rfl ?_
        refine qa0 hτ rfl rfl rfl ?_
        refine qa0 hτ (v:=.d (.int .i64 (c_.Times.length:Int))) rfl rfl (Eq.trans rfl (qdb (f:=qa4) c_.Times)) ?_
        refine qa0 hτ rfl rfl rfl ?_
        refine qat (qa2 [0] (l:=[(1,.ptr 0 0),(10,.d (.bool false)),(13,.d (.int .i64 (c_.Times.length:Int))),(14,.ptr 0 0)]) (objs:=[.box [.d (.sl false (c_.qa8.map qa4)),.d (.sl false (c_.Times.map qa4))]]) rfl (by simp) rfl (by trivial) ⟨rfl,trivial,rfl,trivial,rfl,trivial,rfl,trivial,trivial⟩) ?_
        refine qa0 hτ rfl rfl rfl ?_
        refine qa0 hτ (v:=.d (.int .i64 (c_.qa8.length:Int))) rfl rfl (Eq.trans rfl (qdb (f:=qa4) c_.qa8)) ?_
        refine qa0 hτ (v:=.d (.bool (!(decide ((c_.Times.length:Int) = (c_.qa8.length:Int)))))) rfl rfl (qon _ _) ?_
        refine qa0 hτ rfl rfl rfl ?_
        refine qa3 ?_
        refine qa7 (qa2 [0] (l:=[(1,.ptr 0 0),(18,.d (.bool (!(decide ((c_.Times.length:Int) = (c_.qa8.length:Int))))))]) (objs:=[.box [.d (.sl false (c_.qa8.map qa4)),.d (.sl false (c_.Times.map qa4))]]) rfl (by simp) rfl (by trivial) ⟨rfl,trivial,rfl,trivial,trivial⟩) ?_
        exact hk105 (!(decide ((c_.Times.length:Int) = (c_.qa8.length:Int)))) h
theorem qib (n:Nat) (c_:qbq) {r:Bool} (h:qdd n c_ = some r):qb9 prog false 61 [.agg [.d (.sl false (c_.qa8.map qa4)),.d (.sl false (c_.Times.map qa4))]] [] (fun v o new=>v = .d (.bool r)∧o = []∧new = []):=impl_ValidCurve_ok_fr0 false n c_ h
def qjw (n:Nat) (kind_:Int):Option Bool :=
  (qg6 n kind_ (0:Int) (2:Int)).bind fun x2 =>
  some x2
theorem impl_kindOk_ok_fr0 (fr:Bool) (n:Nat) (kind_:Int) {r:Bool} (h:qjw n kind_ = some r):qb9 prog fr 106 [.d (.int .i64 kind_)] [] (fun v o new=>v = .d (.bool r)∧o = []∧new = []):=by
  refine qak hτ func106 rfl (by simp) (by simp) ?_
  unfold qjw at h
  refine qa5 ?_
  refine qa1 ?_
  refine qa0 hτ rfl rfl rfl ?_
  refine qa3 ?_
  refine qa5 ?_
  refine qa1 ?_
  refine qa0 hτ rfl rfl rfl ?_
  refine qaa h fun x2 hx2 h=>?_
  refine qag hτ false [] rfl rfl rfl (qaj func62 rfl rfl) rfl rfl (by simp) ⟨trivial,trivial,trivial,trivial⟩ (by trivial) (qix n kind_ (0:Int) (2:Int) hx2) ?_
  rintro r0 o0 n0 ⟨rfl,rfl,rfl⟩ -
  refine qa0 hτ rfl rfl rfl ?_
  refine qa3 ?_
  refine qa7 (qa2 [] (l:=[(2,.d (.bool x2))]) (objs:=[]) rfl (by simp) rfl (by trivial) ⟨rfl,trivial,trivial⟩) ?_
  refine qar ?_
  have hr:=Option.some.inj h
  subst hr
  exact qah (.inr rfl) [] (objs':=[]) (new:=[]) rfl (by simp) (by simp) rfl (by trivial) rfl rfl (by trivial) (fun _=>⟨by simp [V.flat,V.qbk,V.qbf,D.flat],qal⟩) ⟨rfl,rfl,rfl⟩
theorem impl_kindOk_ok (n:Nat) (kind_:Int) {r:Bool} (h:qjw n kind_ = some r):qb9 prog false 106 [.d (.int .i64 kind_)] [] (fun v o new=>v = .d (.bool r)∧o = []∧new = []):=impl_kindOk_ok_fr0 false n kind_ h
end Go.Proofs.Ytmllgpkgjniomaa.AWN
