/- Models and contracts, printed by program. -/
import Derived.Test.YtdnkjocenbepaaaFnBanksB
set_option linter.unusedVariables false
set_option linter.unusedSimpArgs false
set_option linter.unusedSectionVars false
set_option maxHeartbeats 2000000
namespace Go.Proofs.Ytdnkjocenbepaaa.AWN
open Go Go.Proofs.Try
def qbb (x:Int):List D:=[.int .u8 x]
@[simp] theorem eIntu8_len (x:Int):(qbb x).length = 1:=rfl
structure qco where
  code:List Int
  at_:Int
  seed:Int
deriving DecidableEq
structure qa5 where
  A:Cx
  B:Cx
  C:Cx
deriving DecidableEq
structure SBus where
  qaw:Int
  Own:Cx
  Shared:Cx
  Kind:Int
  Load:qa5
  qap:Int
deriving DecidableEq
def qae (x:SBus):List D:=[.int .i64 x.qaw,.cx .f32 x.Own.re x.Own.im,.cx .f32 x.Shared.re x.Shared.im,.int .i64 x.Kind,.cx .f32 x.Load.A.re x.Load.A.im,.cx .f32 x.Load.B.re x.Load.B.im,.cx .f32 x.Load.C.re x.Load.C.im,.int .i64 x.qap]
@[simp] theorem eSBus_len (x:SBus):(qae x).length = 8:=rfl
theorem qjb (x:SBus):∀ c ∈ qae x,c.flat:=by simp [qae,D.flat]
structure qak where
  Source:qa5
  qa8:List SBus
deriving DecidableEq
def qag (x:Nat):List D:=[.fl .f32 x]
@[simp] theorem eNatf32_len (x:Nat):(qag x).length = 1:=rfl
theorem eNatf32_flat (x:Nat):∀ c ∈ qag x,c.flat:=by simp [qag,D.flat]
def qa6 (x:qa5):List D:=[.cx .f32 x.A.re x.A.im,.cx .f32 x.B.re x.B.im,.cx .f32 x.C.re x.C.im]
@[simp] theorem eSPhases_len (x:qa5):(qa6 x).length = 3:=rfl
theorem qgk (x:qa5):∀ c ∈ qa6 x,c.flat:=by simp [qa6,D.flat]
structure qg1 where
  qat:List qa5
  qbj:List qa5
  Rounds:Int
  qgf:Bool
deriving DecidableEq
theorem ext137 {x:Int} (hx:x.toNat < 18446744073709551616):qk8 prog 137 [.d (.int .u64 x)] (.d (.fl .f64 (canon .f64 x.toNat))):=qpb (e:=Extern.MathFloatBits.float64frombits) func137 rfl rfl (by kernel_rfl) (by kernel_rfl) fun W hb H ok vals h=>qkq (k:=.f64) (fun _=>rfl) hx h
theorem ext156 {x:Nat}:qk8 prog 156 [.d (.fl .f64 x)] (.d (.fl .f64 (qjz x))):=qpb (e:=Extern.MathSqrt.sqrt) func156 rfl rfl (by kernel_rfl) (by kernel_rfl) fun W hb H ok vals h=>sqrt_run h
theorem ext170 {x:Int} (hx:x.toNat < 4294967296):qk8 prog 170 [.d (.int .u32 x)] (.d (.fl .f32 (canon .f32 x.toNat))):=qpb (e:=Extern.MathFloatBits.float32frombits) func170 rfl rfl (by kernel_rfl) (by kernel_rfl) fun W hb H ok vals h=>qkq (k:=.f32) (fun _=>rfl) hx h
def qf6 (n:Nat) (code_:List Int) (more_:List Int):Option Bool :=
  if (code_.length:Int) > (1048576:Int) then
    some true
  else
    some (decide ((more_.length:Int) > (1048576:Int)))
theorem laws_b10Long_ok_fr0 (fr:Bool) (n:Nat) (code_:List Int) (more_:List Int) {r:Bool} (h:qf6 n code_ more_ = some r):qay prog fr 8 [.d (.sl false (code_.map qbb)),.d (.sl false (more_.map qbb))] [] (fun v o new=>v = .d (.bool r)∧o = []∧new = []):=by
  refine qai hτ func8 rfl (by simp) (by simp) ?_
  unfold qf6 at h
  refine qa7 ?_
  refine qa2 ?_
  refine qa0 hτ rfl rfl rfl ?_
  refine qa4 ?_
  refine qa7 ?_
  refine qa2 ?_
  refine qa0 hτ rfl rfl rfl ?_
  refine qa0 hτ (v:=.d (.int .i64 (code_.length:Int))) rfl rfl (Eq.trans rfl (qfb (f:=qbb) code_)) ?_
  refine qa0 hτ rfl rfl rfl ?_
  refine qa0 hτ rfl rfl rfl ?_
  refine qba 8 rfl (fun hb3=>?_) (fun hb3=>?_)
  · have h:=if_t h hb3
    refine qaa rfl rfl ?_
    refine qaa rfl rfl ?_
    refine qaa rfl rfl ?_
    refine qa0 hτ rfl rfl rfl ?_
    refine qa0 hτ rfl rfl rfl ?_
    refine qa4 ?_
    refine qa9 (qa3 [] (l:=[(4,.d (.bool true))]) (objs:=[]) rfl (by simp) rfl (by trivial) ⟨rfl,trivial,trivial⟩) ?_
    refine qar ?_
    have hr:=Option.some.inj h
    subst hr
    exact qah (.inr rfl) [] (objs':=[]) (new:=[]) rfl (by simp) (by simp) rfl (by trivial) rfl rfl (by trivial) (fun _=>⟨by simp [V.flat,V.qbd,V.qb6,D.flat],qal⟩) ⟨rfl,rfl,rfl⟩
  · have h:=if_f h hb3
    refine qa0 hτ rfl rfl rfl ?_
    refine qa0 hτ (v:=.d (.int .i64 (more_.length:Int))) rfl rfl (Eq.trans rfl (qfb (f:=qbb) more_)) ?_
    refine qa0 hτ rfl rfl rfl ?_
    refine qa0 hτ rfl rfl rfl ?_
    refine qa0 hτ rfl rfl rfl ?_
    refine qa4 ?_
    refine qa9 (qa3 [] (l:=[(4,.d (.bool (decide ((more_.length:Int) > (1048576:Int)))))]) (objs:=[]) rfl (by simp) rfl (by trivial) ⟨rfl,trivial,trivial⟩) ?_
    refine qar ?_
    have hr:=Option.some.inj h
    subst hr
    exact qah (.inr rfl) [] (objs':=[]) (new:=[]) rfl (by simp) (by simp) rfl (by trivial) rfl rfl (by trivial) (fun _=>⟨by simp [V.flat,V.qbd,V.qb6,D.flat],qal⟩) ⟨rfl,rfl,rfl⟩
theorem laws_b10Long_ok (n:Nat) (code_:List Int) (more_:List Int) {r:Bool} (h:qf6 n code_ more_ = some r):qay prog false 8 [.d (.sl false (code_.map qbb)),.d (.sl false (more_.map qbb))] [] (fun v o new=>v = .d (.bool r)∧o = []∧new = []):=laws_b10Long_ok_fr0 false n code_ more_ h
def qh4 (n:Nat) (code_:List Int):Option qco :=
  some (qco.mk code_ (0:Int) (0:Int))
theorem spec_l00From_ok (n:Nat) (code_:List Int) {r:qco} (h:qh4 n code_ = some r):qay prog false 54 [.d (.sl false (code_.map qbb))] [] (fun v o new=>v = .ptr 0 0∧o = []∧new = [.box [.d (.sl false (r.code.map qbb)),.d (.int .i64 r.at_),.d (.int .u64 r.seed)]]):=by
  refine qai hτ func54 rfl (by simp) (by simp) ?_
  unfold qh4 at h
  refine qa7 ?_
  refine qa2 ?_
  refine qa0 hτ rfl rfl rfl ?_
  refine qa4 ?_
  refine qa7 ?_
  refine qa2 ?_
  refine qa0 hτ rfl rfl rfl ?_
  refine qa0 hτ rfl rfl rfl ?_
  refine qaj hτ rfl rfl rfl ?_
  refine qa0 hτ rfl rfl rfl ?_
  refine qa4 ?_
  refine qa9 (qa3 [0] (l:=[(2,.ptr 0 0)]) (objs:=[.box [.d (.sl false (code_.map qbb)),.d (.int .i64 (0:Int)),.d (.int .u64 (0:Int))]]) rfl (by simp) rfl (by trivial) ⟨rfl,trivial,trivial⟩) ?_
  refine qar ?_
  have hr:=Option.some.inj h
  subst hr
  exact qah (.inr rfl) [0] (objs':=[]) (new:=[.box [.d (.sl false (code_.map qbb)),.d (.int .i64 (0:Int)),.d (.int .u64 (0:Int))]]) rfl (by simp) (by simp) rfl (by trivial) rfl rfl (by trivial) (fun h=>nomatch h) ⟨rfl,rfl,rfl⟩
def qbx (n:Nat) (s_:qco) (v5:Int):Option (Int × qco) :=
  if (w64 (s_.at_ + (1:Int))) ≤ (s_.code.length:Int) then
    some (v5,(qco.mk s_.code (w64 (s_.at_ + (1:Int))) (IntKind.wrap .u64 ((IntKind.wrap .u64 ((IntKind.wrap .u64 (s_.seed * (6364136223846793005:Int))) + (IntKind.wrap .u64 (v5)))) + (1442695040888963407:Int)))))
  else
    some ((w64 ((qcb .and .u64 ((IntKind.wrap .u64 ((IntKind.wrap .u64 ((IntKind.wrap .u64 (s_.seed * (6364136223846793005:Int))) + (IntKind.wrap .u64 (v5)))) + (1442695040888963407:Int))).fdiv (2 ^ min (40:Int).toNat (IntKind.bits .u64))) (255:Int)))),(qco.mk s_.code (w64 (s_.at_ + (1:Int))) (IntKind.wrap .u64 ((IntKind.wrap .u64 ((IntKind.wrap .u64 (s_.seed * (6364136223846793005:Int))) + (IntKind.wrap .u64 (v5)))) + (1442695040888963407:Int)))))
def qdf (n:Nat) (s_:qco):Option (Int × qco) :=
  if s_.at_ < (s_.code.length:Int) then
    (getI s_.code s_.at_).bind fun x9 =>
    qbx n s_ (w64 (x9))
  else
    qbx n s_ (0:Int)
theorem qi9 (n:Nat) (s_:qco) {r:Int × qco} (h:qdf n s_ = some r):qay prog false 112 [.ptr 0 0] [.box [.d (.sl false (s_.code.map qbb)),.d (.int .i64 s_.at_),.d (.int .u64 s_.seed)]] (fun v o new=>v = .d (.int .i64 r.1)∧o = [.box [.d (.sl false (r.2.code.map qbb)),.d (.int .i64 r.2.at_),.d (.int .u64 r.2.seed)]]∧new = []):=by
  refine qai hτ func112 rfl (by simp) (by simp) ?_
  unfold qdf at h
  refine qa7 ?_
  refine qa2 ?_
  refine qa0 hτ rfl rfl rfl ?_
  refine qa4 ?_
  refine qa7 ?_
  refine qa2 ?_
  refine qa0 hτ rfl rfl rfl ?_
  refine qa4 ?_
  refine qc0 (ι:=Int) (fun v5=>St.of [(0,.ptr 0 0),(3,.d (.int .i64 v5))] [.box [.d (.sl false (s_.code.map qbb)),.d (.int .i64 s_.at_),.d (.int .u64 s_.seed)]] f112.ntmps 1) (fun v5=>qbx n s_ v5 = some r) ?_ (fun hk7=>?_)
  · rintro v5 h
    replace h:qbx n s_ v5 = some r:=h
    unfold qbx at h
    refine qa7 ?_
    refine qa2 ?_
    refine qa0 hτ rfl rfl rfl ?_
    refine qa0 hτ rfl rfl rfl ?_
    refine qa0 hτ rfl rfl rfl ?_
    refine qa0 hτ rfl rfl rfl ?_
    refine qa0 hτ rfl rfl rfl ?_
    refine qa0 hτ rfl rfl rfl ?_
    refine qa0 hτ rfl rfl rfl ?_
    refine qaj hτ rfl rfl rfl ?_
    refine qa4 ?_
    refine qa7 ?_
    refine qa9 (qa3 [0] (l:=[(0,.ptr 0 0),(3,.d (.int .i64 v5))]) (objs:=[.box [.d (.sl false (s_.code.map qbb)),.d (.int .i64 (w64 (s_.at_ + (1:Int)))),.d (.int .u64 s_.seed)]]) rfl (by simp) rfl (by trivial) ⟨rfl,trivial,rfl,trivial,trivial⟩) ?_
    refine qa2 ?_
    refine qa0 hτ rfl rfl rfl ?_
    refine qa0 hτ rfl rfl rfl ?_
    refine qa0 hτ rfl rfl rfl ?_
    refine qa0 hτ rfl rfl rfl ?_
    refine qa0 hτ rfl rfl rfl ?_
    refine qa0 hτ rfl rfl rfl ?_
    refine qa0 hτ rfl rfl rfl ?_
    refine qa0 hτ rfl rfl rfl ?_
    refine qa0 hτ rfl rfl rfl ?_
    refine qa0 hτ rfl rfl rfl ?_
    refine qa0 hτ rfl rfl rfl ?_
    refine qa0 hτ rfl rfl rfl ?_
    refine qb2 (qa3 [0] (l:=[(0,.ptr 0 0),(3,.d (.int .i64 v5)),(41,.d (.int .u64 (IntKind.wrap .u64 ((IntKind.wrap .u64 ((IntKind.wrap .u64 (s_.seed * (6364136223846793005:Int))) + (IntKind.wrap .u64 (v5)))) + (1442695040888963407:Int))))),(43,.ptr 0 2)]) (objs:=[.box [.d (.sl false (s_.code.map qbb)),.d (.int .i64 (w64 (s_.at_ + (1:Int)))),.d (.int .u64 s_.seed)]]) rfl (by simp) rfl (by trivial) ⟨rfl,trivial,rfl,trivial,rfl,trivial,rfl,trivial,trivial⟩) ?_
    refine qaj hτ rfl rfl rfl ?_
    refine qa4 ?_
    refine qa7 ?_
    refine qa7 ?_
    refine qdj ?_
    refine qac hτ [] 0 rfl rfl rfl rfl rfl ?_
    refine qac hτ [] 1 rfl rfl rfl rfl rfl ?_
    refine qac hτ [0] 2 rfl rfl rfl rfl rfl ?_
    refine qac hτ [0] 3 rfl rfl rfl rfl rfl ?_
    refine qac hτ [] 4 rfl rfl rfl rfl rfl ?_
    refine qac hτ [] 5 rfl rfl rfl rfl rfl ?_
    refine qac hτ [0] 6 rfl rfl rfl rfl rfl ?_
    refine qac hτ [0] 7 rfl rfl rfl rfl rfl ?_
    refine qac hτ (v:=.d (.int .i64 (s_.code.length:Int))) [] 8 rfl rfl rfl rfl (Eq.trans rfl (qfb (f:=qbb) s_.code)) ?_
    refine qac hτ [] 9 rfl rfl rfl rfl rfl ?_
    refine qe1 mixed (by kernel_rfl) ?_
    refine qa9 (qa3 [0] (l:=[(0,.ptr 0 0),(3,.d (.int .i64 v5)),(53,.d (.bool (decide ((w64 (s_.at_ + (1:Int))) ≤ (s_.code.length:Int)))))]) (objs:=[.box [.d (.sl false (s_.code.map qbb)),.d (.int .i64 (w64 (s_.at_ + (1:Int)))),.d (.int .u64 (IntKind.wrap .u64 ((IntKind.wrap .u64 ((IntKind.wrap .u64 (s_.seed * (6364136223846793005:Int))) + (IntKind.wrap .u64 (v5)))) + (1442695040888963407:Int))))]]) rfl (by simp) rfl (by trivial) ⟨rfl,trivial,rfl,trivial,rfl,trivial,trivial⟩) ?_
    refine qaz rfl (fun hc6=>?_) (fun hc6=>?_)
    · have h:=if_t h hc6
      refine qa7 ?_
      refine qa2 ?_
      refine qa0 hτ rfl rfl rfl ?_
      refine qa0 hτ rfl rfl rfl ?_
      refine qa4 ?_
      refine qa9 (qa3 [0] (l:=[(2,.d (.int .i64 v5))]) (objs:=[.box [.d (.sl false (s_.code.map qbb)),.d (.int .i64 (w64 (s_.at_ + (1:Int)))),.d (.int .u64 (IntKind.wrap .u64 ((IntKind.wrap .u64 ((IntKind.wrap .u64 (s_.seed * (6364136223846793005:Int))) + (IntKind.wrap .u64 (v5)))) + (1442695040888963407:Int))))]]) rfl (by simp) rfl (by trivial) ⟨rfl,trivial,trivial⟩) ?_
      refine qar ?_
      have hr:=Option.some.inj h
      subst hr
      exact qah (.inr rfl) [] (objs':=[.box [.d (.sl false (s_.code.map qbb)),.d (.int .i64 (w64 (s_.at_ + (1:Int)))),.d (.int .u64 (IntKind.wrap .u64 ((IntKind.wrap .u64 ((IntKind.wrap .u64 (s_.seed * (6364136223846793005:Int))) + (IntKind.wrap .u64 (v5)))) + (1442695040888963407:Int))))]]) (new:=[]) rfl (by simp) (by simp) rfl (by trivial) rfl rfl (by trivial) (fun h=>nomatch h) ⟨rfl,rfl,rfl⟩
    · have h:=if_f h hc6
      refine qb4 ?_
      refine qa7 ?_
      refine qa2 ?_
      refine qa0 hτ rfl rfl rfl ?_
      refine qa0 hτ rfl rfl rfl ?_
      refine qa0 hτ rfl rfl rfl ?_
      refine qa0 hτ rfl rfl rfl ?_
      refine qda hτ rfl rfl rfl (by decide) ?_
      refine qa0 hτ rfl rfl rfl ?_
      refine qa0 hτ rfl rfl rfl ?_
      refine qa0 hτ rfl rfl rfl ?_
      refine qa4 ?_
      refine qa9 (qa3 [0] (l:=[(2,.d (.int .i64 (w64 ((qcb .and .u64 ((IntKind.wrap .u64 ((IntKind.wrap .u64 ((IntKind.wrap .u64 (s_.seed * (6364136223846793005:Int))) + (IntKind.wrap .u64 (v5)))) + (1442695040888963407:Int))).fdiv (2 ^ min (40:Int).toNat (IntKind.bits .u64))) (255:Int))))))]) (objs:=[.box [.d (.sl false (s_.code.map qbb)),.d (.int .i64 (w64 (s_.at_ + (1:Int)))),.d (.int .u64 (IntKind.wrap .u64 ((IntKind.wrap .u64 ((IntKind.wrap .u64 (s_.seed * (6364136223846793005:Int))) + (IntKind.wrap .u64 (v5)))) + (1442695040888963407:Int))))]]) rfl (by simp) rfl (by trivial) ⟨rfl,trivial,trivial⟩) ?_
      refine qar ?_
      have hr:=Option.some.inj h
      subst hr
      exact qah (.inr rfl) [] (objs':=[.box [.d (.sl false (s_.code.map qbb)),.d (.int .i64 (w64 (s_.at_ + (1:Int)))),.d (.int .u64 (IntKind.wrap .u64 ((IntKind.wrap .u64 ((IntKind.wrap .u64 (s_.seed * (6364136223846793005:Int))) + (IntKind.wrap .u64 (v5)))) + (1442695040888963407:Int))))]]) (new:=[]) rfl (by simp) (by simp) rfl (by trivial) rfl rfl (by trivial) (fun h=>nomatch h) ⟨rfl,rfl,rfl⟩
  · refine qa7 ?_
    refine qa7 ?_
    refine qdj ?_
    refine qac hτ [] 0 rfl rfl rfl rfl rfl ?_
    refine qac hτ [] 1 rfl rfl rfl rfl rfl ?_
    refine qac hτ [0] 2 rfl rfl rfl rfl rfl ?_
    refine qac hτ [0] 3 rfl rfl rfl rfl rfl ?_
    refine qac hτ [] 4 rfl rfl rfl rfl rfl ?_
    refine qac hτ [] 5 rfl rfl rfl rfl rfl ?_
    refine qac hτ [0] 6 rfl rfl rfl rfl rfl ?_
    refine qac hτ [0] 7 rfl rfl rfl rfl rfl ?_
    refine qac hτ (v:=.d (.int .i64 (s_.code.length:Int))) [] 8 rfl rfl rfl rfl (Eq.trans rfl (qfb (f:=qbb) s_.code)) ?_
    refine qac hτ [] 9 rfl rfl rfl rfl rfl ?_
    refine qe1 mixed (by kernel_rfl) ?_
    refine qa9 (qa3 [0] (l:=[(0,.ptr 0 0),(3,.d (.int .i64 (0:Int))),(13,.d (.bool (decide (s_.at_ < (s_.code.length:Int)))))]) (objs:=[.box [.d (.sl false (s_.code.map qbb)),.d (.int .i64 s_.at_),.d (.int .u64 s_.seed)]]) rfl (by simp) rfl (by trivial) ⟨rfl,trivial,rfl,trivial,rfl,trivial,trivial⟩) ?_
    refine qaz rfl (fun hc8=>?_) (fun hc8=>?_)
    · have h:=if_t h hc8
      refine qdj ?_
      refine qac hτ [] 0 rfl rfl rfl rfl rfl ?_
      refine qac hτ [] 1 rfl rfl rfl rfl rfl ?_
      refine qac hτ [0] 2 rfl rfl rfl rfl rfl ?_
      refine qac hτ [0] 3 rfl rfl rfl rfl rfl ?_
      refine qac hτ [] 4 rfl rfl rfl rfl rfl ?_
      refine qac hτ [] 5 rfl rfl rfl rfl rfl ?_
      refine qac hτ [0] 6 rfl rfl rfl rfl rfl ?_
      refine qac hτ [0] 7 rfl rfl rfl rfl rfl ?_
      refine qab h fun x9 hx9 h=>?_
      refine qgg hτ [] 8 rfl rfl rfl rfl rfl (qei hx9).1 (qfz hx9) rfl ?_
      refine qac hτ [] 9 rfl rfl rfl rfl rfl ?_
      refine qac hτ [] 10 rfl rfl rfl rfl rfl ?_
      refine qac hτ [] 11 rfl rfl rfl rfl rfl ?_
      refine qe1 mixed (by kernel_rfl) ?_
      refine qa9 (qa3 [0] (l:=[(0,.ptr 0 0),(3,.d (.int .i64 (w64 (x9))))]) (objs:=[.box [.d (.sl false (s_.code.map qbb)),.d (.int .i64 s_.at_),.d (.int .u64 s_.seed)]]) rfl (by simp) rfl (by trivial) ⟨rfl,trivial,rfl,trivial,trivial⟩) ?_
      exact hk7 (w64 (x9)) h
    · have h:=if_f h hc8
      refine qb4 ?_
      refine qa9 (qa3 [0] (l:=[(0,.ptr 0 0),(3,.d (.int .i64 (0:Int)))]) (objs:=[.box [.d (.sl false (s_.code.map qbb)),.d (.int .i64 s_.at_),.d (.int .u64 s_.seed)]]) rfl (by simp) rfl (by trivial) ⟨rfl,trivial,rfl,trivial,trivial⟩) ?_
      exact hk7 (0:Int) h
def qby (n:Nat) (n_:Int) (v15:List Int) (v16:Int) (v17:Int) (v18:Int):Option (Int × qco) :=
  grd (n_ ≠ 0) <|
  some ((v18.tmod n_),(qco.mk v15 v16 v17))
def qau (n:Nat) (s_:qco) (n_:Int):Option (Int × qco) :=
  if n_ ≤ (1:Int) then
    some ((0:Int),s_)
  else
    (qdf n s_).bind fun x9 =>
    if n_ > (200:Int) then
      (qdf n x9.2).bind fun x22 =>
      qby n n_ x22.2.code x22.2.at_ x22.2.seed (w64 ((w64 (x9.1 * (256:Int))) + x22.1))
    else
      qby n n_ x9.2.code x9.2.at_ x9.2.seed x9.1
theorem qb9 (n:Nat) (s_:qco) (n_:Int) {r:Int × qco} (h:qau n s_ n_ = some r):qay prog false 56 [.ptr 0 0,.d (.int .i64 n_)] [.box [.d (.sl false (s_.code.map qbb)),.d (.int .i64 s_.at_),.d (.int .u64 s_.seed)]] (fun v o new=>v = .d (.int .i64 r.1)∧o = [.box [.d (.sl false (r.2.code.map qbb)),.d (.int .i64 r.2.at_),.d (.int .u64 r.2.seed)]]∧new = []):=by
  refine qai hτ func56 rfl (by simp) (by simp) ?_
  unfold qau at h
  refine qa7 ?_
  refine qa2 ?_
  refine qa0 hτ rfl rfl rfl ?_
  refine qa4 ?_
  refine qa7 ?_
  refine qa7 ?_
  refine qa2 ?_
  refine qa0 hτ rfl rfl rfl ?_
  refine qa0 hτ rfl rfl rfl ?_
  refine qa4 ?_
  refine qaz rfl (fun hc8=>?_) (fun hc8=>?_)
  · have h:=if_t h hc8
    refine qa7 ?_
    refine qa2 ?_
    refine qa0 hτ rfl rfl rfl ?_
    refine qa4 ?_
    refine qa9 (qa3 [0] (l:=[(4,.d (.int .i64 (0:Int)))]) (objs:=[.box [.d (.sl false (s_.code.map qbb)),.d (.int .i64 s_.at_),.d (.int .u64 s_.seed)]]) rfl (by simp) rfl (by trivial) ⟨rfl,trivial,trivial⟩) ?_
    refine qar ?_
    have hr:=Option.some.inj h
    subst hr
    exact qah (.inr rfl) [] (objs':=[.box [.d (.sl false (s_.code.map qbb)),.d (.int .i64 s_.at_),.d (.int .u64 s_.seed)]]) (new:=[]) rfl (by simp) (by simp) rfl (by trivial) rfl rfl (by trivial) (fun h=>nomatch h) ⟨rfl,rfl,rfl⟩
  · have h:=if_f h hc8
    refine qb4 ?_
    refine qa7 ?_
    refine qa2 ?_
    refine qa0 hτ rfl rfl rfl ?_
    refine qab h fun x9 hx9 h=>?_
    refine qad hτ false [0] rfl rfl rfl (qaf func112 rfl rfl) rfl rfl (by simp) ⟨trivial,trivial⟩ (by trivial) (qi9 n s_ hx9) ?_
    rintro r0 o0 n0 ⟨rfl,rfl,rfl⟩ -
    refine qa0 hτ rfl rfl rfl ?_
    refine qa4 ?_
    refine qc0 (ι:=List Int × Int × Int × Int) (fun (v15,v16,v17,v18)=>St.of [(1,.d (.int .i64 n_)),(5,.d (.int .i64 v18))] [.box [.d (.sl false (v15.map qbb)),.d (.int .i64 v16),.d (.int .u64 v17)]] f56.ntmps 1) (fun (v15,v16,v17,v18)=>qby n n_ v15 v16 v17 v18 = some r) ?_ (fun hk20=>?_)
    · rintro ⟨v15,v16,v17,v18⟩ h
      replace h:qby n n_ v15 v16 v17 v18 = some r:=h
      unfold qby at h
      refine qa7 ?_
      refine qa2 ?_
      refine qa0 hτ rfl rfl rfl ?_
      refine qa0 hτ rfl rfl rfl ?_
      refine qcq h fun hg19 h=>?_
      refine qda hτ rfl rfl rfl hg19 ?_
      refine qa0 hτ rfl rfl rfl ?_
      refine qa4 ?_
      refine qa9 (qa3 [0] (l:=[(4,.d (.int .i64 (v18.tmod n_)))]) (objs:=[.box [.d (.sl false (v15.map qbb)),.d (.int .i64 v16),.d (.int .u64 v17)]]) rfl (by simp) rfl (by trivial) ⟨rfl,trivial,trivial⟩) ?_
      refine qar ?_
      have hr:=Option.some.inj h
      subst hr
      exact qah (.inr rfl) [] (objs':=[.box [.d (.sl false (v15.map qbb)),.d (.int .i64 v16),.d (.int .u64 v17)]]) (new:=[]) rfl (by simp) (by simp) rfl (by trivial) rfl rfl (by trivial) (fun h=>nomatch h) ⟨rfl,rfl,rfl⟩
    · refine qa7 ?_
      refine qa7 ?_
      refine qa9 (qa3 [0] (l:=[(0,.ptr 0 0),(1,.d (.int .i64 n_)),(5,.d (.int .i64 x9.1))]) (objs:=[.box [.d (.sl false (x9.2.code.map qbb)),.d (.int .i64 x9.2.at_),.d (.int .u64 x9.2.seed)]]) rfl (by simp) rfl (by trivial) ⟨rfl,trivial,rfl,trivial,rfl,trivial,trivial⟩) ?_
      refine qa2 ?_
      refine qa0 hτ rfl rfl rfl ?_
      refine qa0 hτ rfl rfl rfl ?_
      refine qa4 ?_
      refine qaz rfl (fun hc21=>?_) (fun hc21=>?_)
      · have h:=if_t h hc21
        refine qa2 ?_
        refine qa0 hτ rfl rfl rfl ?_
        refine qa0 hτ rfl rfl rfl ?_
        refine qa0 hτ rfl rfl rfl ?_
        refine qab h fun x22 hx22 h=>?_
        refine qad hτ false [0] rfl rfl rfl (qaf func112 rfl rfl) rfl rfl (by simp) ⟨trivial,trivial⟩ (by trivial) (qi9 n x9.2 hx22) ?_
        rintro r0 o0 n0 ⟨rfl,rfl,rfl⟩ -
        refine qa0 hτ rfl rfl rfl ?_
        refine qa0 hτ rfl rfl rfl ?_
        refine qa4 ?_
        refine qa9 (qa3 [0] (l:=[(1,.d (.int .i64 n_)),(5,.d (.int .i64 (w64 ((w64 (x9.1 * (256:Int))) + x22.1))))]) (objs:=[.box [.d (.sl false (x22.2.code.map qbb)),.d (.int .i64 x22.2.at_),.d (.int .u64 x22.2.seed)]]) rfl (by simp) rfl (by trivial) ⟨rfl,trivial,rfl,trivial,trivial⟩) ?_
        exact hk20 (x22.2.code,x22.2.at_,x22.2.seed,(w64 ((w64 (x9.1 * (256:Int))) + x22.1))) h
      · have h:=if_f h hc21
        refine qb4 ?_
        refine qa9 (qa3 [0] (l:=[(1,.d (.int .i64 n_)),(5,.d (.int .i64 x9.1))]) (objs:=[.box [.d (.sl false (x9.2.code.map qbb)),.d (.int .i64 x9.2.at_),.d (.int .u64 x9.2.seed)]]) rfl (by simp) rfl (by trivial) ⟨rfl,trivial,rfl,trivial,trivial⟩) ?_
        exact hk20 (x9.2.code,x9.2.at_,x9.2.seed,x9.1) h
def qfw (n:Nat) (n_:Int):Option Nat :=
  grd ((IntKind.wrap .u32 (n_)).toNat < 4294967296) <|
  some (canon .f32 (IntKind.wrap .u32 (n_)).toNat)
theorem spec_l01From_ok_fr0 (fr:Bool) (n:Nat) (n_:Int) {r:Nat} (h:qfw n n_ = some r):qay prog fr 148 [.d (.int .i64 n_)] [] (fun v o new=>v = .d (.fl .f32 r)∧o = []∧new = []):=by
  refine qai hτ func148 rfl (by simp) (by simp) ?_
  unfold qfw at h
  refine qa7 ?_
  refine qa2 ?_
  refine qa0 hτ rfl rfl rfl ?_
  refine qa4 ?_
  refine qa7 ?_
  refine qa2 ?_
  refine qa0 hτ rfl rfl rfl ?_
  refine qa0 hτ rfl rfl rfl ?_
  refine qcq h fun hg2 h=>?_
  refine qp5 hτ rfl rfl rfl (ext170 hg2) ?_
  refine qa0 hτ rfl rfl rfl ?_
  refine qa4 ?_
  refine qa9 (qa3 [] (l:=[(2,.d (.fl .f32 (canon .f32 (IntKind.wrap .u32 (n_)).toNat)))]) (objs:=[]) rfl (by simp) rfl (by trivial) ⟨rfl,trivial,trivial⟩) ?_
  refine qar ?_
  have hr:=Option.some.inj h
  subst hr
  exact qah (.inr rfl) [] (objs':=[]) (new:=[]) rfl (by simp) (by simp) rfl (by trivial) rfl rfl (by trivial) (fun _=>⟨by simp [V.flat,V.qbd,V.qb6,D.flat],qal⟩) ⟨rfl,rfl,rfl⟩
theorem qj6 (n:Nat) (n_:Int) {r:Nat} (h:qfw n n_ = some r):qay prog false 148 [.d (.int .i64 n_)] [] (fun v o new=>v = .d (.fl .f32 r)∧o = []∧new = []):=spec_l01From_ok_fr0 false n n_ h
def qje (n:Nat):Option Nat :=
  grd ((9221120237041090561:Int).toNat < 18446744073709551616) <|
  some (canon .f64 (9221120237041090561:Int).toNat)
theorem math_NaN_ok_fr0 (fr:Bool) (n:Nat) {r:Nat} (h:qje n = some r):qay prog fr 171 [] [] (fun v o new=>v = .d (.fl .f64 r)∧o = []∧new = []):=by
  refine qai hτ func171 rfl (by simp) (by simp) ?_
  unfold qje at h
  refine qa7 ?_
  refine qa2 ?_
  refine qa0 hτ rfl rfl rfl ?_
  refine qa4 ?_
  refine qa7 ?_
  refine qa2 ?_
  refine qcq h fun hg2 h=>?_
  refine qp5 hτ rfl rfl rfl (ext137 hg2) ?_
  refine qa0 hτ rfl rfl rfl ?_
  refine qa4 ?_
  refine qa9 (qa3 [] (l:=[(0,.d (.fl .f64 (canon .f64 (9221120237041090561:Int).toNat)))]) (objs:=[]) rfl (by simp) rfl (by trivial) ⟨rfl,trivial,trivial⟩) ?_
  refine qar ?_
  have hr:=Option.some.inj h
  subst hr
  exact qah (.inr rfl) [] (objs':=[]) (new:=[]) rfl (by simp) (by simp) rfl (by trivial) rfl rfl (by trivial) (fun _=>⟨by simp [V.flat,V.qbd,V.qb6,D.flat],qal⟩) ⟨rfl,rfl,rfl⟩
theorem math_NaN_ok (n:Nat) {r:Nat} (h:qje n = some r):qay prog false 171 [] [] (fun v o new=>v = .d (.fl .f64 r)∧o = []∧new = []):=math_NaN_ok_fr0 false n h
def qec (n:Nat) (v19:Nat) (v23:Nat) (v28:Nat):Option Nat :=
  if (fcmp .geq .f64 v19 (4602678819172646912:Nat)) = true then
    some (fneg .f64 (qa1 .mul .f64 (qa1 .mul .f64 v23 (4618760256179416344:Nat)) v28))
  else
    some (qa1 .mul .f64 (qa1 .mul .f64 v23 (4618760256179416344:Nat)) v28)
def qcf (n:Nat) (v19:Nat) (v23:Nat):Nat→Nat→Int→Option Nat
  | 0,_,_=>none
  | m35 + 1,v31,v32 =>
    if v32 ≥ (1:Int) then
      (qcf n v19 v23 m35) (qa1 .sub .f64 (4607182418800017408:Nat) (qa1 .quo .f64 (qa1 .mul .f64 (qa1 .mul .f64 (qa1 .mul .f64 v23 (4618760256179416344:Nat)) (qa1 .mul .f64 v23 (4618760256179416344:Nat))) v31) (FloatKind.nearest .f64 (w64 ((w64 ((2:Int) * v32)) * (w64 ((w64 ((2:Int) * v32)) + (1:Int)))))))) (w64 (v32 - (1:Int)))
    else
      qec n v19 v23 v31
def qd7 (n:Nat) (v19:Nat) (v23:Nat):Option Nat :=
  qcf n v19 v23 n (4607182418800017408:Nat) (8:Int)
def qd6 (n:Nat) (v19:Nat) (v21:Nat):Option Nat :=
  if (fcmp .gtr .f64 v21 (4598175219545276416:Nat)) = true then
    qd7 n v19 (qa1 .sub .f64 (4602678819172646912:Nat) v21)
  else
    qd7 n v19 v21
def qd5 (n:Nat) (v19:Nat):Option Nat :=
  if (fcmp .geq .f64 v19 (4602678819172646912:Nat)) = true then
    qd6 n v19 (qa1 .sub .f64 v19 (4602678819172646912:Nat))
  else
    qd6 n v19 v19
def qeb (n:Nat) (y_:Nat):Option Nat :=
  (f2i .f64 .i64 y_).bind fun x17 =>
  if (fcmp .lss .f64 (qa1 .sub .f64 y_ (FloatKind.nearest .f64 x17)) (0:Nat)) = true then
    qd5 n (qa1 .add .f64 (qa1 .sub .f64 y_ (FloatKind.nearest .f64 x17)) (4607182418800017408:Nat))
  else
    qd5 n (qa1 .sub .f64 y_ (FloatKind.nearest .f64 x17))
def qd8 (n:Nat) (y_:Nat) (v47:Bool):Option Nat :=
  if v47 = true then
    some (0:Nat)
  else
    qeb n y_
def qea (n:Nat) (y_:Nat):Option Nat :=
  if (fcmp .neq .f64 (qa1 .sub .f64 y_ y_) (0:Nat)) = true then
    (qje n).bind fun x14 =>
    some x14
  else
    if (fcmp .geq .f64 y_ (4841369599423283200:Nat)) = true then
      qd8 n y_ true
    else
      qd8 n y_ (fcmp .leq .f64 y_ (14064741636278059008:Nat))
theorem spec_l01SineWide_ok_fr0 (fr:Bool) (n:Nat) (y_:Nat) {r:Nat} (h:qea n y_ = some r):qay prog fr 149 [.d (.fl .f64 y_)] [] (fun v o new=>v = .d (.fl .f64 r)∧o = []∧new = []):=by
  refine qai hτ func149 rfl (by simp) (by simp) ?_
  unfold qea at h
  refine qa7 ?_
  refine qa2 ?_
  refine qa0 hτ rfl rfl rfl ?_
  refine qa4 ?_
  refine qa7 ?_
  refine qa7 ?_
  refine qa2 ?_
  refine qa0 hτ rfl rfl rfl ?_
  refine qa0 hτ rfl rfl rfl ?_
  refine qa0 hτ rfl rfl rfl ?_
  refine qa0 hτ rfl rfl rfl ?_
  refine qa4 ?_
  refine qaz rfl (fun hc13=>?_) (fun hc13=>?_)
  · have h:=qdl h hc13
    refine qa7 ?_
    refine qa2 ?_
    refine qab h fun x14 hx14 h=>?_
    refine qad hτ false [] rfl rfl rfl (qaf func171 rfl rfl) rfl rfl (by simp) trivial (by trivial) (math_NaN_ok n hx14) ?_
    rintro r0 o0 n0 ⟨rfl,rfl,rfl⟩ -
    refine qa0 hτ rfl rfl rfl ?_
    refine qa4 ?_
    refine qa9 (qa3 [] (l:=[(2,.d (.fl .f64 x14))]) (objs:=[]) rfl (by simp) rfl (by trivial) ⟨rfl,trivial,trivial⟩) ?_
    refine qar ?_
    have hr:=Option.some.inj h
    subst hr
    exact qah (.inr rfl) [] (objs':=[]) (new:=[]) rfl (by simp) (by simp) rfl (by trivial) rfl rfl (by trivial) (fun _=>⟨by simp [V.flat,V.qbd,V.qb6,D.flat],qal⟩) ⟨rfl,rfl,rfl⟩
  · have h:=qdk h hc13
    refine qb4 ?_
    refine qc0 (ι:=Unit) (fun _=>St.of [(0,.d (.fl .f64 y_))] [] f149.ntmps 0) (fun _=>qeb n y_ = some r) ?_ (fun hk44=>?_)
    · rintro ⟨⟩ h
      replace h:qeb n y_ = some r:=h
      unfold qeb at h
      refine qa7 ?_
      refine qa2 ?_
      refine qa0 hτ rfl rfl rfl ?_
      refine qa0 hτ rfl rfl rfl ?_
      refine qab h fun x17 hx17 h=>?_
      refine qsu rfl rfl (qt0 hτ rfl rfl rfl rfl rfl rfl hx17) ?_
      refine qa0 hτ rfl rfl rfl ?_
      refine qa0 hτ rfl rfl rfl ?_
      refine qa0 hτ rfl rfl rfl ?_
      refine qa4 ?_
      refine qc0 (ι:=Nat) (fun v19=>St.of [(3,.d (.fl .f64 v19))] [] f149.ntmps 0) (fun v19=>qd5 n v19 = some r) ?_ (fun hk42=>?_)
      · rintro v19 h
        replace h:qd5 n v19 = some r:=h
        unfold qd5 at h
        refine qa7 ?_
        refine qa2 ?_
        refine qa0 hτ rfl rfl rfl ?_
        refine qa0 hτ rfl rfl rfl ?_
        refine qa0 hτ rfl rfl rfl ?_
        refine qa4 ?_
        refine qc0 (ι:=Nat) (fun v21=>St.of [(3,.d (.fl .f64 v21)),(4,.d (.bool (fcmp .geq .f64 v19 (4602678819172646912:Nat))))] [] f149.ntmps 0) (fun v21=>qd6 n v19 v21 = some r) ?_ (fun hk40=>?_)
        · rintro v21 h
          replace h:qd6 n v19 v21 = some r:=h
          unfold qd6 at h
          refine qc0 (ι:=Nat) (fun v23=>St.of [(3,.d (.fl .f64 v23)),(4,.d (.bool (fcmp .geq .f64 v19 (4602678819172646912:Nat))))] [] f149.ntmps 0) (fun v23=>qd7 n v19 v23 = some r) ?_ (fun hk38=>?_)
          · rintro v23 h
            replace h:qd7 n v19 v23 = some r:=h
            unfold qd7 at h
            refine qa7 ?_
            refine qa2 ?_
            refine qa0 hτ rfl rfl rfl ?_
            refine qa0 hτ rfl rfl rfl ?_
            refine qa0 hτ rfl rfl rfl ?_
            refine qa4 ?_
            refine qa7 ?_
            refine qa2 ?_
            refine qa0 hτ rfl rfl rfl ?_
            refine qa0 hτ rfl rfl rfl ?_
            refine qa0 hτ rfl rfl rfl ?_
            refine qa0 hτ rfl rfl rfl ?_
            refine qa4 ?_
            refine qa7 ?_
            refine qa9 (qa3 [] (l:=[(4,.d (.bool (fcmp .geq .f64 v19 (4602678819172646912:Nat)))),(5,.d (.fl .f64 (qa1 .mul .f64 v23 (4618760256179416344:Nat)))),(6,.d (.fl .f64 (qa1 .mul .f64 (qa1 .mul .f64 v23 (4618760256179416344:Nat)) (qa1 .mul .f64 v23 (4618760256179416344:Nat)))))]) (objs:=[]) rfl (by simp) rfl (by trivial) ⟨rfl,trivial,rfl,trivial,rfl,trivial,trivial⟩) ?_
            refine qa2 ?_
            refine qa0 hτ rfl rfl rfl ?_
            refine qa4 ?_
            refine qc0 (ι:=Nat) (fun v28=>St.of [(4,.d (.bool (fcmp .geq .f64 v19 (4602678819172646912:Nat)))),(5,.d (.fl .f64 (qa1 .mul .f64 v23 (4618760256179416344:Nat)))),(7,.d (.fl .f64 v28))] [] f149.ntmps 0) (fun v28=>qec n v19 v23 v28 = some r) ?_ (fun hk30=>?_)
            · rintro v28 h
              replace h:qec n v19 v23 v28 = some r:=h
              unfold qec at h
              refine qa7 ?_
              refine qa7 ?_
              refine qa2 ?_
              refine qa0 hτ rfl rfl rfl ?_
              refine qa4 ?_
              refine qaz rfl (fun hc29=>?_) (fun hc29=>?_)
              · have h:=qdl h hc29
                refine qa7 ?_
                refine qa2 ?_
                refine qa0 hτ rfl rfl rfl ?_
                refine qa0 hτ rfl rfl rfl ?_
                refine qa0 hτ rfl rfl rfl ?_
                refine qa0 hτ rfl rfl rfl ?_
                refine qa0 hτ rfl rfl rfl ?_
                refine qa4 ?_
                refine qa9 (qa3 [] (l:=[(2,.d (.fl .f64 (fneg .f64 (qa1 .mul .f64 (qa1 .mul .f64 v23 (4618760256179416344:Nat)) v28))))]) (objs:=[]) rfl (by simp) rfl (by trivial) ⟨rfl,trivial,trivial⟩) ?_
                refine qar ?_
                have hr:=Option.some.inj h
                subst hr
                exact qah (.inr rfl) [] (objs':=[]) (new:=[]) rfl (by simp) (by simp) rfl (by trivial) rfl rfl (by trivial) (fun _=>⟨by simp [V.flat,V.qbd,V.qb6,D.flat],qal⟩) ⟨rfl,rfl,rfl⟩
              · have h:=qdk h hc29
                refine qb4 ?_
                refine qa7 ?_
                refine qa2 ?_
                refine qa0 hτ rfl rfl rfl ?_
                refine qa0 hτ rfl rfl rfl ?_
                refine qa0 hτ rfl rfl rfl ?_
                refine qa0 hτ rfl rfl rfl ?_
                refine qa4 ?_
                refine qa9 (qa3 [] (l:=[(2,.d (.fl .f64 (qa1 .mul .f64 (qa1 .mul .f64 v23 (4618760256179416344:Nat)) v28)))]) (objs:=[]) rfl (by simp) rfl (by trivial) ⟨rfl,trivial,trivial⟩) ?_
                refine qar ?_
                have hr:=Option.some.inj h
                subst hr
                exact qah (.inr rfl) [] (objs':=[]) (new:=[]) rfl (by simp) (by simp) rfl (by trivial) rfl rfl (by trivial) (fun _=>⟨by simp [V.flat,V.qbd,V.qb6,D.flat],qal⟩) ⟨rfl,rfl,rfl⟩
            · refine qa7 ?_
              refine qa7 ?_
              refine qa2 ?_
              refine qa0 hτ rfl rfl rfl ?_
              refine qa4 ?_
              refine qbo ?_
              refine qgj (ι:=Nat × Nat × Int) (fun (m35,v31,v32)=>St.of [(4,.d (.bool (fcmp .geq .f64 v19 (4602678819172646912:Nat)))),(5,.d (.fl .f64 (qa1 .mul .f64 v23 (4618760256179416344:Nat)))),(6,.d (.fl .f64 (qa1 .mul .f64 (qa1 .mul .f64 v23 (4618760256179416344:Nat)) (qa1 .mul .f64 v23 (4618760256179416344:Nat))))),(7,.d (.fl .f64 v31)),(8,.d (.int .i64 v32))] [] f149.ntmps 0) (fun (m35,v31,v32)=>qcf n v19 v23 m35 v31 v32 = some r) (fun x=>x.1) (n,(4607182418800017408:Nat),(8:Int)) h (qa3 [] (l:=[(4,.d (.bool (fcmp .geq .f64 v19 (4602678819172646912:Nat)))),(5,.d (.fl .f64 (qa1 .mul .f64 v23 (4618760256179416344:Nat)))),(6,.d (.fl .f64 (qa1 .mul .f64 (qa1 .mul .f64 v23 (4618760256179416344:Nat)) (qa1 .mul .f64 v23 (4618760256179416344:Nat))))),(7,.d (.fl .f64 (4607182418800017408:Nat))),(8,.d (.int .i64 (8:Int)))]) (objs:=[]) rfl (by simp) rfl (by trivial) ⟨rfl,trivial,rfl,trivial,rfl,trivial,rfl,trivial,rfl,trivial,trivial⟩) ?_
              rintro ⟨m35,v31,v32⟩ h
              replace h:qcf n v19 v23 m35 v31 v32 = some r:=h
              rcases m35 with _ | m35
              · rw [qcf] at h;cases h
              rw [qcf] at h
              refine qa7 ?_
              refine qa7 ?_
              refine qa2 ?_
              refine qa0 hτ rfl rfl rfl ?_
              refine qa0 hτ rfl rfl rfl ?_
              refine qa4 ?_
              refine qaz rfl (fun hc37=>?_) (fun hc37=>?_)
              · have h:=if_t h hc37
                refine qb4 ?_
                refine qa7 ?_
                refine qbo ?_
                refine qa2 ?_
                refine qa0 hτ rfl rfl rfl ?_
                refine qa0 hτ rfl rfl rfl ?_
                refine qa0 hτ rfl rfl rfl ?_
                refine qa0 hτ rfl rfl rfl ?_
                refine qa0 hτ rfl rfl rfl ?_
                refine qa0 hτ rfl rfl rfl ?_
                refine qa0 hτ rfl rfl rfl ?_
                refine qa0 hτ rfl rfl rfl ?_
                refine qa0 hτ rfl rfl rfl ?_
                refine qa0 hτ rfl rfl rfl ?_
                refine qb2 (qa3 [] (l:=[(4,.d (.bool (fcmp .geq .f64 v19 (4602678819172646912:Nat)))),(5,.d (.fl .f64 (qa1 .mul .f64 v23 (4618760256179416344:Nat)))),(6,.d (.fl .f64 (qa1 .mul .f64 (qa1 .mul .f64 v23 (4618760256179416344:Nat)) (qa1 .mul .f64 v23 (4618760256179416344:Nat))))),(8,.d (.int .i64 v32)),(49,.d (.fl .f64 (qa1 .mul .f64 (qa1 .mul .f64 (qa1 .mul .f64 v23 (4618760256179416344:Nat)) (qa1 .mul .f64 v23 (4618760256179416344:Nat))) v31))),(56,.d (.fl .f64 (FloatKind.nearest .f64 (w64 ((w64 ((2:Int) * v32)) * (w64 ((w64 ((2:Int) * v32)) + (1:Int))))))))]) (objs:=[]) rfl (by simp) rfl (by trivial) ⟨rfl,trivial,rfl,trivial,rfl,trivial,rfl,trivial,rfl,trivial,rfl,trivial,trivial⟩) ?_
                refine qa0 hτ rfl rfl rfl ?_
                refine qa0 hτ rfl rfl rfl ?_
                refine qa0 hτ rfl rfl rfl ?_
                refine qa4 ?_
                refine qa2 ?_
                refine qa0 hτ rfl rfl rfl ?_
                refine qa0 hτ rfl rfl rfl ?_
                refine qa0 hτ rfl rfl rfl ?_
                refine qa4 ?_
                exact ⟨(m35,(qa1 .sub .f64 (4607182418800017408:Nat) (qa1 .quo .f64 (qa1 .mul .f64 (qa1 .mul .f64 (qa1 .mul .f64 v23 (4618760256179416344:Nat)) (qa1 .mul .f64 v23 (4618760256179416344:Nat))) v31) (FloatKind.nearest .f64 (w64 ((w64 ((2:Int) * v32)) * (w64 ((w64 ((2:Int) * v32)) + (1:Int)))))))),(w64 (v32 - (1:Int)))),h,Nat.lt_succ_self m35,(qa3 [] (l:=[(4,.d (.bool (fcmp .geq .f64 v19 (4602678819172646912:Nat)))),(5,.d (.fl .f64 (qa1 .mul .f64 v23 (4618760256179416344:Nat)))),(6,.d (.fl .f64 (qa1 .mul .f64 (qa1 .mul .f64 v23 (4618760256179416344:Nat)) (qa1 .mul .f64 v23 (4618760256179416344:Nat))))),(7,.d (.fl .f64 (qa1 .sub .f64 (4607182418800017408:Nat) (qa1 .quo .f64 (qa1 .mul .f64 (qa1 .mul .f64 (qa1 .mul .f64 v23 (4618760256179416344:Nat)) (qa1 .mul .f64 v23 (4618760256179416344:Nat))) v31) (FloatKind.nearest .f64 (w64 ((w64 ((2:Int) * v32)) * (w64 ((w64 ((2:Int) * v32)) + (1:Int)))))))))),(8,.d (.int .i64 (w64 (v32 - (1:Int)))))]) (objs:=[]) rfl (by simp) rfl (by trivial) ⟨rfl,trivial,rfl,trivial,rfl,trivial,rfl,trivial,rfl,trivial,trivial⟩)⟩
              · have h:=if_f h hc37
                refine qgi ?_
                refine qa9 (qa3 [] (l:=[(4,.d (.bool (fcmp .geq .f64 v19 (4602678819172646912:Nat)))),(5,.d (.fl .f64 (qa1 .mul .f64 v23 (4618760256179416344:Nat)))),(7,.d (.fl .f64 v31))]) (objs:=[]) rfl (by simp) rfl (by trivial) ⟨rfl,trivial,rfl,trivial,rfl,trivial,trivial⟩) ?_
                exact hk30 v31 h
          · refine qa7 ?_
            refine qa7 ?_
            refine qa2 ?_
            refine qa0 hτ rfl rfl rfl ?_
            refine qa0 hτ rfl rfl rfl ?_
            refine qa4 ?_
            refine qaz rfl (fun hc39=>?_) (fun hc39=>?_)
            · have h:=qdl h hc39
              refine qa2 ?_
              refine qa0 hτ rfl rfl rfl ?_
              refine qa0 hτ rfl rfl rfl ?_
              refine qa0 hτ rfl rfl rfl ?_
              refine qa4 ?_
              refine qa9 (qa3 [] (l:=[(3,.d (.fl .f64 (qa1 .sub .f64 (4602678819172646912:Nat) v21))),(4,.d (.bool (fcmp .geq .f64 v19 (4602678819172646912:Nat))))]) (objs:=[]) rfl (by simp) rfl (by trivial) ⟨rfl,trivial,rfl,trivial,trivial⟩) ?_
              exact hk38 (qa1 .sub .f64 (4602678819172646912:Nat) v21) h
            · have h:=qdk h hc39
              refine qb4 ?_
              refine qa9 (qa3 [] (l:=[(3,.d (.fl .f64 v21)),(4,.d (.bool (fcmp .geq .f64 v19 (4602678819172646912:Nat))))]) (objs:=[]) rfl (by simp) rfl (by trivial) ⟨rfl,trivial,rfl,trivial,trivial⟩) ?_
              exact hk38 v21 h
        · refine qa7 ?_
          refine qa7 ?_
          refine qa2 ?_
          refine qa0 hτ rfl rfl rfl ?_
          refine qa4 ?_
          refine qaz rfl (fun hc41=>?_) (fun hc41=>?_)
          · have h:=qdl h hc41
            refine qa2 ?_
            refine qa0 hτ rfl rfl rfl ?_
            refine qa0 hτ rfl rfl rfl ?_
            refine qa0 hτ rfl rfl rfl ?_
            refine qa4 ?_
            refine qa9 (qa3 [] (l:=[(3,.d (.fl .f64 (qa1 .sub .f64 v19 (4602678819172646912:Nat)))),(4,.d (.bool (fcmp .geq .f64 v19 (4602678819172646912:Nat))))]) (objs:=[]) rfl (by simp) rfl (by trivial) ⟨rfl,trivial,rfl,trivial,trivial⟩) ?_
            exact hk40 (qa1 .sub .f64 v19 (4602678819172646912:Nat)) h
          · have h:=qdk h hc41
            refine qb4 ?_
            refine qa9 (qa3 [] (l:=[(3,.d (.fl .f64 v19)),(4,.d (.bool (fcmp .geq .f64 v19 (4602678819172646912:Nat))))]) (objs:=[]) rfl (by simp) rfl (by trivial) ⟨rfl,trivial,rfl,trivial,trivial⟩) ?_
            exact hk40 v19 h
      · refine qa7 ?_
        refine qa7 ?_
        refine qa9 (qa3 [] (l:=[(3,.d (.fl .f64 (qa1 .sub .f64 y_ (FloatKind.nearest .f64 x17))))]) (objs:=[]) rfl (by simp) rfl (by trivial) ⟨rfl,trivial,trivial⟩) ?_
        refine qa2 ?_
        refine qa0 hτ rfl rfl rfl ?_
        refine qa0 hτ rfl rfl rfl ?_
        refine qa4 ?_
        refine qaz rfl (fun hc43=>?_) (fun hc43=>?_)
        · have h:=qdl h hc43
          refine qa2 ?_
          refine qa0 hτ rfl rfl rfl ?_
          refine qa0 hτ rfl rfl rfl ?_
          refine qa0 hτ rfl rfl rfl ?_
          refine qa4 ?_
          refine qa9 (qa3 [] (l:=[(3,.d (.fl .f64 (qa1 .add .f64 (qa1 .sub .f64 y_ (FloatKind.nearest .f64 x17)) (4607182418800017408:Nat))))]) (objs:=[]) rfl (by simp) rfl (by trivial) ⟨rfl,trivial,trivial⟩) ?_
          exact hk42 (qa1 .add .f64 (qa1 .sub .f64 y_ (FloatKind.nearest .f64 x17)) (4607182418800017408:Nat)) h
        · have h:=qdk h hc43
          refine qb4 ?_
          refine qa9 (qa3 [] (l:=[(3,.d (.fl .f64 (qa1 .sub .f64 y_ (FloatKind.nearest .f64 x17))))]) (objs:=[]) rfl (by simp) rfl (by trivial) ⟨rfl,trivial,trivial⟩) ?_
          exact hk42 (qa1 .sub .f64 y_ (FloatKind.nearest .f64 x17)) h
    · refine qa7 ?_
      refine qc0 (ι:=Bool) (fun v47=>St.of [(0,.d (.fl .f64 y_)),(19,.d (.bool v47))] [] f149.ntmps 0) (fun v47=>qd8 n y_ v47 = some r) ?_ (fun hk49=>?_)
      · rintro v47 h
        replace h:qd8 n y_ v47 = some r:=h
        unfold qd8 at h
        refine qaz rfl (fun hc48=>?_) (fun hc48=>?_)
        · have h:=qdl h hc48
          refine qa7 ?_
          refine qa2 ?_
          refine qa0 hτ rfl rfl rfl ?_
          refine qa4 ?_
          refine qa9 (qa3 [] (l:=[(2,.d (.fl .f64 (0:Nat)))]) (objs:=[]) rfl (by simp) rfl (by trivial) ⟨rfl,trivial,trivial⟩) ?_
          refine qar ?_
          have hr:=Option.some.inj h
          subst hr
          exact qah (.inr rfl) [] (objs':=[]) (new:=[]) rfl (by simp) (by simp) rfl (by trivial) rfl rfl (by trivial) (fun _=>⟨by simp [V.flat,V.qbd,V.qb6,D.flat],qal⟩) ⟨rfl,rfl,rfl⟩
        · have h:=qdk h hc48
          refine qb4 ?_
          refine qa9 (qa3 [] (l:=[(0,.d (.fl .f64 y_))]) (objs:=[]) rfl (by simp) rfl (by trivial) ⟨rfl,trivial,trivial⟩) ?_
          exact hk44 () h
      · refine qa7 ?_
        refine qa2 ?_
        refine qa0 hτ rfl rfl rfl ?_
        refine qa0 hτ rfl rfl rfl ?_
        refine qa0 hτ rfl rfl rfl ?_
        refine qba 16 rfl (fun hb50=>?_) (fun hb50=>?_)
        · have h:=qdl h hb50
          refine qaa rfl rfl ?_
          refine qaa rfl rfl ?_
          refine qa0 hτ rfl rfl rfl ?_
          refine qa4 ?_
          refine qa9 (qa3 [] (l:=[(0,.d (.fl .f64 y_)),(19,.d (.bool true))]) (objs:=[]) rfl (by simp) rfl (by trivial) ⟨rfl,trivial,rfl,trivial,trivial⟩) ?_
          exact hk49 true h
        · have h:=qdk h hb50
          refine qa0 hτ rfl rfl rfl ?_
          refine qa0 hτ rfl rfl rfl ?_
          refine qa0 hτ rfl rfl rfl ?_
          refine qa4 ?_
          refine qa9 (qa3 [] (l:=[(0,.d (.fl .f64 y_)),(19,.d (.bool (fcmp .leq .f64 y_ (14064741636278059008:Nat))))]) (objs:=[]) rfl (by simp) rfl (by trivial) ⟨rfl,trivial,rfl,trivial,trivial⟩) ?_
          exact hk49 (fcmp .leq .f64 y_ (14064741636278059008:Nat)) h
theorem qia (n:Nat) (y_:Nat) {r:Nat} (h:qea n y_ = some r):qay prog false 149 [.d (.fl .f64 y_)] [] (fun v o new=>v = .d (.fl .f64 r)∧o = []∧new = []):=spec_l01SineWide_ok_fr0 false n y_ h
def qbf (n:Nat) (x_:Nat):Option Nat :=
  (qhg .f64 .f32 x_).bind fun x2 =>
  some x2
theorem spec_l01Narrow_ok_fr0 (fr:Bool) (n:Nat) (x_:Nat) {r:Nat} (h:qbf n x_ = some r):qay prog fr 129 [.d (.fl .f64 x_)] [] (fun v o new=>v = .d (.fl .f32 r)∧o = []∧new = []):=by
  refine qai hτ func129 rfl (by simp) (by simp) ?_
  unfold qbf at h
  refine qa7 ?_
  refine qa2 ?_
  refine qa0 hτ rfl rfl rfl ?_
  refine qa4 ?_
  refine qa7 ?_
  refine qa2 ?_
  refine qa0 hτ rfl rfl rfl ?_
  refine qab h fun x2 hx2 h=>?_
  refine qa0 hτ (v:=.d (.fl .f32 x2)) rfl rfl (qh1 hx2) ?_
  refine qa0 hτ rfl rfl rfl ?_
  refine qa4 ?_
  refine qa9 (qa3 [] (l:=[(2,.d (.fl .f32 x2))]) (objs:=[]) rfl (by simp) rfl (by trivial) ⟨rfl,trivial,trivial⟩) ?_
  refine qar ?_
  have hr:=Option.some.inj h
  subst hr
  exact qah (.inr rfl) [] (objs':=[]) (new:=[]) rfl (by simp) (by simp) rfl (by trivial) rfl rfl (by trivial) (fun _=>⟨by simp [V.flat,V.qbd,V.qb6,D.flat],qal⟩) ⟨rfl,rfl,rfl⟩
theorem qbr (n:Nat) (x_:Nat) {r:Nat} (h:qbf n x_ = some r):qay prog false 129 [.d (.fl .f64 x_)] [] (fun v o new=>v = .d (.fl .f32 r)∧o = []∧new = []):=spec_l01Narrow_ok_fr0 false n x_ h
def qf0 (n:Nat) (v35:Nat) (v36:Int):Option Cx :=
  (qea n (qa1 .sub .f64 (4598175219545276416:Nat) v35)).bind fun x37 =>
  (qea n v35).bind fun x38 =>
  if v36 = (1:Int) then
    (qbf n (qa1 .sub .f64 (0:Nat) x38)).bind fun x46 =>
    (qbf n x37).bind fun x47 =>
    some (Cx.mk x46 x47)
  else
    if v36 = (2:Int) then
      (qbf n (qa1 .sub .f64 (0:Nat) x37)).bind fun x49 =>
      (qbf n (qa1 .sub .f64 (0:Nat) x38)).bind fun x50 =>
      some (Cx.mk x49 x50)
    else
      if v36 = (3:Int) then
        (qbf n x38).bind fun x52 =>
        (qbf n (qa1 .sub .f64 (0:Nat) x37)).bind fun x53 =>
        some (Cx.mk x52 x53)
      else
        (qbf n x37).bind fun x54 =>
        (qbf n x38).bind fun x55 =>
        some (Cx.mk x54 x55)
def qcy (n:Nat):Nat→Nat→Int→Option Cx
  | 0,_,_=>none
  | m61 + 1,v57,v58 =>
    if (fcmp .geq .f64 v57 (4598175219545276416:Nat)) = true then
      (qcy n m61) (qa1 .sub .f64 v57 (4598175219545276416:Nat)) (w64 (v58 + (1:Int)))
    else
      qf0 n v57 v58
def qdy (n:Nat) (v30:Nat):Option Cx :=
  qcy n n v30 (0:Int)
def qez (n:Nat) (turns_:Nat):Option Cx :=
  (f2i .f64 .i64 turns_).bind fun x28 =>
  if (fcmp .lss .f64 (qa1 .sub .f64 turns_ (FloatKind.nearest .f64 x28)) (0:Nat)) = true then
    qdy n (qa1 .add .f64 (qa1 .sub .f64 turns_ (FloatKind.nearest .f64 x28)) (4607182418800017408:Nat))
  else
    qdy n (qa1 .sub .f64 turns_ (FloatKind.nearest .f64 x28))
def qdz (n:Nat) (turns_:Nat) (v69:Bool):Option Cx :=
  if v69 = true then
    some (Cx.mk (1065353216:Nat) (0:Nat))
  else
    qez n turns_
def qf5 (n:Nat) (turns_:Nat):Option Cx :=
  if (fcmp .neq .f64 (qa1 .sub .f64 turns_ turns_) (0:Nat)) = true then
    (qfw n (2143289344:Int)).bind fun x24 =>
    (qfw n (2143289344:Int)).bind fun x25 =>
    some (Cx.mk x24 x25)
  else
    if (fcmp .geq .f64 turns_ (4841369599423283200:Nat)) = true then
      qdz n turns_ true
    else
      qdz n turns_ (fcmp .leq .f64 turns_ (14064741636278059008:Nat))
theorem spec_l01Phasor_ok_fr0 (fr:Bool) (n:Nat) (turns_:Nat) {r:Cx} (h:qf5 n turns_ = some r):qay prog fr 111 [.d (.fl .f64 turns_)] [] (fun v o new=>v = .d (.cx .f32 r.re r.im)∧o = []∧new = []):=by
  refine qai hτ func111 rfl (by simp) (by simp) ?_
  unfold qf5 at h
  refine qa7 ?_
  refine qa2 ?_
  refine qa0 hτ rfl rfl rfl ?_
  refine qa4 ?_
  refine qa7 ?_
  refine qa7 ?_
  refine qa2 ?_
  refine qa0 hτ rfl rfl rfl ?_
  refine qa0 hτ rfl rfl rfl ?_
  refine qa0 hτ rfl rfl rfl ?_
  refine qa0 hτ rfl rfl rfl ?_
  refine qa4 ?_
  refine qaz rfl (fun hc23=>?_) (fun hc23=>?_)
  · have h:=qdl h hc23
    refine qa7 ?_
    refine qa2 ?_
    refine qab h fun x24 hx24 h=>?_
    refine qad hτ false [] rfl rfl rfl (qaf func148 rfl rfl) rfl rfl (by simp) ⟨trivial,trivial⟩ (by trivial) (qj6 n (2143289344:Int) hx24) ?_
    rintro r0 o0 n0 ⟨rfl,rfl,rfl⟩ -
    refine qab h fun x25 hx25 h=>?_
    refine qad hτ false [] rfl rfl rfl (qaf func148 rfl rfl) rfl rfl (by simp) ⟨trivial,trivial⟩ (by trivial) (qj6 n (2143289344:Int) hx25) ?_
    rintro r0 o0 n0 ⟨rfl,rfl,rfl⟩ -
    refine qa0 hτ rfl rfl rfl ?_
    refine qa0 hτ rfl rfl rfl ?_
    refine qa4 ?_
    refine qa9 (qa3 [] (l:=[(2,.d (.cx .f32 x24 x25))]) (objs:=[]) rfl (by simp) rfl (by trivial) ⟨rfl,trivial,trivial⟩) ?_
    refine qar ?_
    have hr:=Option.some.inj h
    subst hr
    exact qah (.inr rfl) [] (objs':=[]) (new:=[]) rfl (by simp) (by simp) rfl (by trivial) rfl rfl (by trivial) (fun _=>⟨by simp [V.flat,V.qbd,V.qb6,D.flat],qal⟩) ⟨rfl,rfl,rfl⟩
  · have h:=qdk h hc23
    refine qb4 ?_
    refine qc0 (ι:=Unit) (fun _=>St.of [(0,.d (.fl .f64 turns_))] [] f111.ntmps 0) (fun _=>qez n turns_ = some r) ?_ (fun hk66=>?_)
    · rintro ⟨⟩ h
      replace h:qez n turns_ = some r:=h
      unfold qez at h
      refine qa7 ?_
      refine qa2 ?_
      refine qa0 hτ rfl rfl rfl ?_
      refine qa0 hτ rfl rfl rfl ?_
      refine qab h fun x28 hx28 h=>?_
      refine qsu rfl rfl (qt0 hτ rfl rfl rfl rfl rfl rfl hx28) ?_
      refine qa0 hτ rfl rfl rfl ?_
      refine qa0 hτ rfl rfl rfl ?_
      refine qa0 hτ rfl rfl rfl ?_
      refine qa4 ?_
      refine qc0 (ι:=Nat) (fun v30=>St.of [(3,.d (.fl .f64 v30))] [] f111.ntmps 0) (fun v30=>qdy n v30 = some r) ?_ (fun hk64=>?_)
      · rintro v30 h
        replace h:qdy n v30 = some r:=h
        unfold qdy at h
        refine qa7 ?_
        refine qa2 ?_
        refine qa0 hτ rfl rfl rfl ?_
        refine qa4 ?_
        refine qc0 (ι:=Nat × Int) (fun (v35,v36)=>St.of [(3,.d (.fl .f64 v35)),(4,.d (.int .i64 v36))] [] f111.ntmps 0) (fun (v35,v36)=>qf0 n v35 v36 = some r) ?_ (fun hk56=>?_)
        · rintro ⟨v35,v36⟩ h
          replace h:qf0 n v35 v36 = some r:=h
          unfold qf0 at h
          refine qa7 ?_
          refine qa2 ?_
          refine qa0 hτ rfl rfl rfl ?_
          refine qa0 hτ rfl rfl rfl ?_
          refine qab h fun x37 hx37 h=>?_
          refine qad hτ false [] rfl rfl rfl (qaf func149 rfl rfl) rfl rfl (by simp) ⟨trivial,trivial⟩ (by trivial) (qia n (qa1 .sub .f64 (4598175219545276416:Nat) v35) hx37) ?_
          rintro r0 o0 n0 ⟨rfl,rfl,rfl⟩ -
          refine qa0 hτ rfl rfl rfl ?_
          refine qa4 ?_
          refine qa7 ?_
          refine qa2 ?_
          refine qa0 hτ rfl rfl rfl ?_
          refine qab h fun x38 hx38 h=>?_
          refine qad hτ false [] rfl rfl rfl (qaf func149 rfl rfl) rfl rfl (by simp) ⟨trivial,trivial⟩ (by trivial) (qia n v35 hx38) ?_
          rintro r0 o0 n0 ⟨rfl,rfl,rfl⟩ -
          refine qa0 hτ rfl rfl rfl ?_
          refine qa4 ?_
          refine qa7 ?_
          refine qa7 ?_
          refine qa9 (qa3 [] (l:=[(4,.d (.int .i64 v36)),(5,.d (.fl .f64 x37)),(6,.d (.fl .f64 x38))]) (objs:=[]) rfl (by simp) rfl (by trivial) ⟨rfl,trivial,rfl,trivial,rfl,trivial,trivial⟩) ?_
          refine qa2 ?_
          refine qa0 hτ rfl rfl rfl ?_
          refine qa4 ?_
          refine qbo ?_
          refine qa7 ?_
          refine qa2 ?_
          refine qa0 hτ (v:=.d (.bool (decide (v36 = (1:Int))))) rfl rfl (qj3 _ _) ?_
          refine qa0 hτ rfl rfl rfl ?_
          refine qa4 ?_
          refine qaz rfl (fun hc45=>?_) (fun hc45=>?_)
          · have h:=if_t h hc45
            refine qa7 ?_
            refine qa2 ?_
            refine qa0 hτ rfl rfl rfl ?_
            refine qa0 hτ rfl rfl rfl ?_
            refine qab h fun x46 hx46 h=>?_
            refine qad hτ false [] rfl rfl rfl (qaf func129 rfl rfl) rfl rfl (by simp) ⟨trivial,trivial⟩ (by trivial) (qbr n (qa1 .sub .f64 (0:Nat) x38) hx46) ?_
            rintro r0 o0 n0 ⟨rfl,rfl,rfl⟩ -
            refine qa0 hτ rfl rfl rfl ?_
            refine qab h fun x47 hx47 h=>?_
            refine qad hτ false [] rfl rfl rfl (qaf func129 rfl rfl) rfl rfl (by simp) ⟨trivial,trivial⟩ (by trivial) (qbr n x37 hx47) ?_
            rintro r0 o0 n0 ⟨rfl,rfl,rfl⟩ -
            refine qa0 hτ rfl rfl rfl ?_
            refine qa0 hτ rfl rfl rfl ?_
            refine qa4 ?_
            refine qa9 (qa3 [] (l:=[(2,.d (.cx .f32 x46 x47))]) (objs:=[]) rfl (by simp) rfl (by trivial) ⟨rfl,trivial,trivial⟩) ?_
            refine qar ?_
            have hr:=Option.some.inj h
            subst hr
            exact qah (.inr rfl) [] (objs':=[]) (new:=[]) rfl (by simp) (by simp) rfl (by trivial) rfl rfl (by trivial) (fun _=>⟨by simp [V.flat,V.qbd,V.qb6,D.flat],qal⟩) ⟨rfl,rfl,rfl⟩
          · have h:=if_f h hc45
            refine qa7 ?_
            refine qa2 ?_
            refine qa0 hτ (v:=.d (.bool (decide (v36 = (2:Int))))) rfl rfl (qj3 _ _) ?_
            refine qa0 hτ rfl rfl rfl ?_
            refine qa4 ?_
            refine qaz rfl (fun hc48=>?_) (fun hc48=>?_)
            · have h:=if_t h hc48
              refine qa7 ?_
              refine qa2 ?_
              refine qa0 hτ rfl rfl rfl ?_
              refine qa0 hτ rfl rfl rfl ?_
              refine qab h fun x49 hx49 h=>?_
              refine qad hτ false [] rfl rfl rfl (qaf func129 rfl rfl) rfl rfl (by simp) ⟨trivial,trivial⟩ (by trivial) (qbr n (qa1 .sub .f64 (0:Nat) x37) hx49) ?_
              rintro r0 o0 n0 ⟨rfl,rfl,rfl⟩ -
              refine qa0 hτ rfl rfl rfl ?_
              refine qa0 hτ rfl rfl rfl ?_
              refine qab h fun x50 hx50 h=>?_
              refine qad hτ false [] rfl rfl rfl (qaf func129 rfl rfl) rfl rfl (by simp) ⟨trivial,trivial⟩ (by trivial) (qbr n (qa1 .sub .f64 (0:Nat) x38) hx50) ?_
              rintro r0 o0 n0 ⟨rfl,rfl,rfl⟩ -
              refine qa0 hτ rfl rfl rfl ?_
              refine qb2 (qa3 [] (l:=[(57,.d (.cx .f32 x49 x50))]) (objs:=[]) rfl (by simp) rfl (by trivial) ⟨rfl,trivial,trivial⟩) ?_
              refine qa0 hτ rfl rfl rfl ?_
              refine qa4 ?_
              refine qa9 (qa3 [] (l:=[(2,.d (.cx .f32 x49 x50))]) (objs:=[]) rfl (by simp) rfl (by trivial) ⟨rfl,trivial,trivial⟩) ?_
              refine qar ?_
              have hr:=Option.some.inj h
              subst hr
              exact qah (.inr rfl) [] (objs':=[]) (new:=[]) rfl (by simp) (by simp) rfl (by trivial) rfl rfl (by trivial) (fun _=>⟨by simp [V.flat,V.qbd,V.qb6,D.flat],qal⟩) ⟨rfl,rfl,rfl⟩
            · have h:=if_f h hc48
              refine qa7 ?_
              refine qa2 ?_
              refine qa0 hτ (v:=.d (.bool (decide (v36 = (3:Int))))) rfl rfl (qj3 _ _) ?_
              refine qa0 hτ rfl rfl rfl ?_
              refine qa4 ?_
              refine qa9 (qa3 [] (l:=[(5,.d (.fl .f64 x37)),(6,.d (.fl .f64 x38)),(58,.d (.bool (decide (v36 = (3:Int)))))]) (objs:=[]) rfl (by simp) rfl (by trivial) ⟨rfl,trivial,rfl,trivial,rfl,trivial,trivial⟩) ?_
              refine qaz rfl (fun hc51=>?_) (fun hc51=>?_)
              · have h:=if_t h hc51
                refine qa7 ?_
                refine qa2 ?_
                refine qa0 hτ rfl rfl rfl ?_
                refine qab h fun x52 hx52 h=>?_
                refine qad hτ false [] rfl rfl rfl (qaf func129 rfl rfl) rfl rfl (by simp) ⟨trivial,trivial⟩ (by trivial) (qbr n x38 hx52) ?_
                rintro r0 o0 n0 ⟨rfl,rfl,rfl⟩ -
                refine qa0 hτ rfl rfl rfl ?_
                refine qa0 hτ rfl rfl rfl ?_
                refine qab h fun x53 hx53 h=>?_
                refine qad hτ false [] rfl rfl rfl (qaf func129 rfl rfl) rfl rfl (by simp) ⟨trivial,trivial⟩ (by trivial) (qbr n (qa1 .sub .f64 (0:Nat) x37) hx53) ?_
                rintro r0 o0 n0 ⟨rfl,rfl,rfl⟩ -
                refine qa0 hτ rfl rfl rfl ?_
                refine qa0 hτ rfl rfl rfl ?_
                refine qa4 ?_
                refine qa9 (qa3 [] (l:=[(2,.d (.cx .f32 x52 x53))]) (objs:=[]) rfl (by simp) rfl (by trivial) ⟨rfl,trivial,trivial⟩) ?_
                refine qar ?_
                have hr:=Option.some.inj h
                subst hr
                exact qah (.inr rfl) [] (objs':=[]) (new:=[]) rfl (by simp) (by simp) rfl (by trivial) rfl rfl (by trivial) (fun _=>⟨by simp [V.flat,V.qbd,V.qb6,D.flat],qal⟩) ⟨rfl,rfl,rfl⟩
              · have h:=if_f h hc51
                refine qb4 ?_
                refine qa7 ?_
                refine qa2 ?_
                refine qa0 hτ rfl rfl rfl ?_
                refine qab h fun x54 hx54 h=>?_
                refine qad hτ false [] rfl rfl rfl (qaf func129 rfl rfl) rfl rfl (by simp) ⟨trivial,trivial⟩ (by trivial) (qbr n x37 hx54) ?_
                rintro r0 o0 n0 ⟨rfl,rfl,rfl⟩ -
                refine qa0 hτ rfl rfl rfl ?_
                refine qab h fun x55 hx55 h=>?_
                refine qad hτ false [] rfl rfl rfl (qaf func129 rfl rfl) rfl rfl (by simp) ⟨trivial,trivial⟩ (by trivial) (qbr n x38 hx55) ?_
                rintro r0 o0 n0 ⟨rfl,rfl,rfl⟩ -
                refine qa0 hτ rfl rfl rfl ?_
                refine qa0 hτ rfl rfl rfl ?_
                refine qa4 ?_
                refine qa9 (qa3 [] (l:=[(2,.d (.cx .f32 x54 x55))]) (objs:=[]) rfl (by simp) rfl (by trivial) ⟨rfl,trivial,trivial⟩) ?_
                refine qar ?_
                have hr:=Option.some.inj h
                subst hr
                exact qah (.inr rfl) [] (objs':=[]) (new:=[]) rfl (by simp) (by simp) rfl (by trivial) rfl rfl (by trivial) (fun _=>⟨by simp [V.flat,V.qbd,V.qb6,D.flat],qal⟩) ⟨rfl,rfl,rfl⟩
        · refine qa7 ?_
          refine qbo ?_
          refine qgj (ι:=Nat × Nat × Int) (fun (m61,v57,v58)=>St.of [(3,.d (.fl .f64 v57)),(4,.d (.int .i64 v58))] [] f111.ntmps 0) (fun (m61,v57,v58)=>qcy n m61 v57 v58 = some r) (fun x=>x.1) (n,v30,(0:Int)) h (qa3 [] (l:=[(3,.d (.fl .f64 v30)),(4,.d (.int .i64 (0:Int)))]) (objs:=[]) rfl (by simp) rfl (by trivial) ⟨rfl,trivial,rfl,trivial,trivial⟩) ?_
          rintro ⟨m61,v57,v58⟩ h
          replace h:qcy n m61 v57 v58 = some r:=h
          rcases m61 with _ | m61
          · rw [qcy] at h;cases h
          rw [qcy] at h
          refine qa7 ?_
          refine qa7 ?_
          refine qa2 ?_
          refine qa0 hτ rfl rfl rfl ?_
          refine qa0 hτ rfl rfl rfl ?_
          refine qa4 ?_
          refine qaz rfl (fun hc63=>?_) (fun hc63=>?_)
          · have h:=qdl h hc63
            refine qb4 ?_
            refine qbo ?_
            refine qa7 ?_
            refine qa2 ?_
            refine qa0 hτ rfl rfl rfl ?_
            refine qa0 hτ rfl rfl rfl ?_
            refine qa0 hτ rfl rfl rfl ?_
            refine qa4 ?_
            refine qa2 ?_
            refine qa0 hτ rfl rfl rfl ?_
            refine qa0 hτ rfl rfl rfl ?_
            refine qa0 hτ rfl rfl rfl ?_
            refine qa4 ?_
            exact ⟨(m61,(qa1 .sub .f64 v57 (4598175219545276416:Nat)),(w64 (v58 + (1:Int)))),h,Nat.lt_succ_self m61,(qa3 [] (l:=[(3,.d (.fl .f64 (qa1 .sub .f64 v57 (4598175219545276416:Nat)))),(4,.d (.int .i64 (w64 (v58 + (1:Int)))))]) (objs:=[]) rfl (by simp) rfl (by trivial) ⟨rfl,trivial,rfl,trivial,trivial⟩)⟩
          · have h:=qdk h hc63
            refine qgi ?_
            refine qa9 (qa3 [] (l:=[(3,.d (.fl .f64 v57)),(4,.d (.int .i64 v58))]) (objs:=[]) rfl (by simp) rfl (by trivial) ⟨rfl,trivial,rfl,trivial,trivial⟩) ?_
            exact hk56 (v57,v58) h
      · refine qa7 ?_
        refine qa7 ?_
        refine qa9 (qa3 [] (l:=[(3,.d (.fl .f64 (qa1 .sub .f64 turns_ (FloatKind.nearest .f64 x28))))]) (objs:=[]) rfl (by simp) rfl (by trivial) ⟨rfl,trivial,trivial⟩) ?_
        refine qa2 ?_
        refine qa0 hτ rfl rfl rfl ?_
        refine qa0 hτ rfl rfl rfl ?_
        refine qa4 ?_
        refine qaz rfl (fun hc65=>?_) (fun hc65=>?_)
        · have h:=qdl h hc65
          refine qa2 ?_
          refine qa0 hτ rfl rfl rfl ?_
          refine qa0 hτ rfl rfl rfl ?_
          refine qa0 hτ rfl rfl rfl ?_
          refine qa4 ?_
          refine qa9 (qa3 [] (l:=[(3,.d (.fl .f64 (qa1 .add .f64 (qa1 .sub .f64 turns_ (FloatKind.nearest .f64 x28)) (4607182418800017408:Nat))))]) (objs:=[]) rfl (by simp) rfl (by trivial) ⟨rfl,trivial,trivial⟩) ?_
          exact hk64 (qa1 .add .f64 (qa1 .sub .f64 turns_ (FloatKind.nearest .f64 x28)) (4607182418800017408:Nat)) h
        · have h:=qdk h hc65
          refine qb4 ?_
          refine qa9 (qa3 [] (l:=[(3,.d (.fl .f64 (qa1 .sub .f64 turns_ (FloatKind.nearest .f64 x28))))]) (objs:=[]) rfl (by simp) rfl (by trivial) ⟨rfl,trivial,trivial⟩) ?_
          exact hk64 (qa1 .sub .f64 turns_ (FloatKind.nearest .f64 x28)) h
    · refine qa7 ?_
      refine qc0 (ι:=Bool) (fun v69=>St.of [(0,.d (.fl .f64 turns_)),(19,.d (.bool v69))] [] f111.ntmps 0) (fun v69=>qdz n turns_ v69 = some r) ?_ (fun hk71=>?_)
      · rintro v69 h
        replace h:qdz n turns_ v69 = some r:=h
        unfold qdz at h
        refine qaz rfl (fun hc70=>?_) (fun hc70=>?_)
        · have h:=qdl h hc70
          refine qa7 ?_
          refine qa2 ?_
          refine qa0 hτ rfl rfl rfl ?_
          refine qa4 ?_
          refine qa9 (qa3 [] (l:=[(2,.d (.cx .f32 (1065353216:Nat) (0:Nat)))]) (objs:=[]) rfl (by simp) rfl (by trivial) ⟨rfl,trivial,trivial⟩) ?_
          refine qar ?_
          have hr:=Option.some.inj h
          subst hr
          exact qah (.inr rfl) [] (objs':=[]) (new:=[]) rfl (by simp) (by simp) rfl (by trivial) rfl rfl (by trivial) (fun _=>⟨by simp [V.flat,V.qbd,V.qb6,D.flat],qal⟩) ⟨rfl,rfl,rfl⟩
        · have h:=qdk h hc70
          refine qb4 ?_
          refine qa9 (qa3 [] (l:=[(0,.d (.fl .f64 turns_))]) (objs:=[]) rfl (by simp) rfl (by trivial) ⟨rfl,trivial,trivial⟩) ?_
          exact hk66 () h
      · refine qa7 ?_
        refine qa2 ?_
        refine qa0 hτ rfl rfl rfl ?_
        refine qa0 hτ rfl rfl rfl ?_
        refine qa0 hτ rfl rfl rfl ?_
        refine qba 16 rfl (fun hb72=>?_) (fun hb72=>?_)
        · have h:=qdl h hb72
          refine qaa rfl rfl ?_
          refine qaa rfl rfl ?_
          refine qa0 hτ rfl rfl rfl ?_
          refine qa4 ?_
          refine qa9 (qa3 [] (l:=[(0,.d (.fl .f64 turns_)),(19,.d (.bool true))]) (objs:=[]) rfl (by simp) rfl (by trivial) ⟨rfl,trivial,rfl,trivial,trivial⟩) ?_
          exact hk71 true h
        · have h:=qdk h hb72
          refine qa0 hτ rfl rfl rfl ?_
          refine qa0 hτ rfl rfl rfl ?_
          refine qa0 hτ rfl rfl rfl ?_
          refine qa4 ?_
          refine qa9 (qa3 [] (l:=[(0,.d (.fl .f64 turns_)),(19,.d (.bool (fcmp .leq .f64 turns_ (14064741636278059008:Nat))))]) (objs:=[]) rfl (by simp) rfl (by trivial) ⟨rfl,trivial,rfl,trivial,trivial⟩) ?_
          exact hk71 (fcmp .leq .f64 turns_ (14064741636278059008:Nat)) h
theorem qir (n:Nat) (turns_:Nat) {r:Cx} (h:qf5 n turns_ = some r):qay prog false 111 [.d (.fl .f64 turns_)] [] (fun v o new=>v = .d (.cx .f32 r.re r.im)∧o = []∧new = []):=spec_l01Phasor_ok_fr0 false n turns_ h
def qfx (n:Nat) (x_:Cx):Option Cx :=
  (qhg .f32 .f64 x_.re).bind fun x3 =>
  (qhg .f32 .f64 x_.im).bind fun x4 =>
  some (Cx.mk x3 x4)
theorem spec_l01Wide_ok_fr0 (fr:Bool) (n:Nat) (x_:Cx) {r:Cx} (h:qfx n x_ = some r):qay prog fr 147 [.d (.cx .f32 x_.re x_.im)] [] (fun v o new=>v = .d (.cx .f64 r.re r.im)∧o = []∧new = []):=by
  refine qai hτ func147 rfl (by simp) (by simp) ?_
  unfold qfx at h
  refine qa7 ?_
  refine qa2 ?_
  refine qa0 hτ rfl rfl rfl ?_
  refine qa4 ?_
  refine qa7 ?_
  refine qa2 ?_
  refine qa0 hτ rfl rfl rfl ?_
  refine qa0 hτ rfl rfl rfl ?_
  refine qab h fun x3 hx3 h=>?_
  refine qa0 hτ (v:=.d (.fl .f64 x3)) rfl rfl (qh1 hx3) ?_
  refine qa0 hτ rfl rfl rfl ?_
  refine qa0 hτ rfl rfl rfl ?_
  refine qab h fun x4 hx4 h=>?_
  refine qa0 hτ (v:=.d (.fl .f64 x4)) rfl rfl (qh1 hx4) ?_
  refine qa0 hτ rfl rfl rfl ?_
  refine qa0 hτ rfl rfl rfl ?_
  refine qa4 ?_
  refine qa9 (qa3 [] (l:=[(2,.d (.cx .f64 x3 x4))]) (objs:=[]) rfl (by simp) rfl (by trivial) ⟨rfl,trivial,trivial⟩) ?_
  refine qar ?_
  have hr:=Option.some.inj h
  subst hr
  exact qah (.inr rfl) [] (objs':=[]) (new:=[]) rfl (by simp) (by simp) rfl (by trivial) rfl rfl (by trivial) (fun _=>⟨by simp [V.flat,V.qbd,V.qb6,D.flat],qal⟩) ⟨rfl,rfl,rfl⟩
theorem qj7 (n:Nat) (x_:Cx) {r:Cx} (h:qfx n x_ = some r):qay prog false 147 [.d (.cx .f32 x_.re x_.im)] [] (fun v o new=>v = .d (.cx .f64 r.re r.im)∧o = []∧new = []):=spec_l01Wide_ok_fr0 false n x_ h
def qfo (n:Nat) (x_:Cx) (y_:Cx):Option Cx :=
  some (Cx.mk (qa1 .sub .f64 (qa1 .mul .f64 x_.re y_.re) (qa1 .mul .f64 x_.im y_.im)) (qa1 .add .f64 (qa1 .mul .f64 x_.re y_.im) (qa1 .mul .f64 x_.im y_.re)))
theorem spec_l01WideMul_ok_fr0 (fr:Bool) (n:Nat) (x_:Cx) (y_:Cx) {r:Cx} (h:qfo n x_ y_ = some r):qay prog fr 146 [.d (.cx .f64 x_.re x_.im),.d (.cx .f64 y_.re y_.im)] [] (fun v o new=>v = .d (.cx .f64 r.re r.im)∧o = []∧new = []):=by
  refine qai hτ func146 rfl (by simp) (by simp) ?_
  unfold qfo at h
  refine qa7 ?_
  refine qa2 ?_
  refine qa0 hτ rfl rfl rfl ?_
  refine qa4 ?_
  refine qa7 ?_
  refine qa2 ?_
  refine qa0 hτ rfl rfl rfl ?_
  refine qa0 hτ rfl rfl rfl ?_
  refine qa0 hτ rfl rfl rfl ?_
  refine qa0 hτ rfl rfl rfl ?_
  refine qa0 hτ rfl rfl rfl ?_
  refine qa0 hτ rfl rfl rfl ?_
  refine qa0 hτ rfl rfl rfl ?_
  refine qa0 hτ rfl rfl rfl ?_
  refine qa0 hτ rfl rfl rfl ?_
  refine qa0 hτ rfl rfl rfl ?_
  refine qa0 hτ rfl rfl rfl ?_
  refine qb2 (qa3 [] (l:=[(0,.d (.cx .f64 x_.re x_.im)),(1,.d (.cx .f64 y_.re y_.im)),(17,.d (.fl .f64 (qa1 .sub .f64 (qa1 .mul .f64 x_.re y_.re) (qa1 .mul .f64 x_.im y_.im))))]) (objs:=[]) rfl (by simp) rfl (by trivial) ⟨rfl,trivial,rfl,trivial,rfl,trivial,trivial⟩) ?_
  refine qa0 hτ rfl rfl rfl ?_
  refine qa4 ?_
  refine qa7 ?_
  refine qa2 ?_
  refine qa0 hτ rfl rfl rfl ?_
  refine qa0 hτ rfl rfl rfl ?_
  refine qa0 hτ rfl rfl rfl ?_
  refine qa0 hτ rfl rfl rfl ?_
  refine qa0 hτ rfl rfl rfl ?_
  refine qa0 hτ rfl rfl rfl ?_
  refine qa0 hτ rfl rfl rfl ?_
  refine qa0 hτ rfl rfl rfl ?_
  refine qa0 hτ rfl rfl rfl ?_
  refine qa0 hτ rfl rfl rfl ?_
  refine qa0 hτ rfl rfl rfl ?_
  refine qb2 (qa3 [] (l:=[(5,.d (.fl .f64 (qa1 .sub .f64 (qa1 .mul .f64 x_.re y_.re) (qa1 .mul .f64 x_.im y_.im)))),(28,.d (.fl .f64 (qa1 .add .f64 (qa1 .mul .f64 x_.re y_.im) (qa1 .mul .f64 x_.im y_.re))))]) (objs:=[]) rfl (by simp) rfl (by trivial) ⟨rfl,trivial,rfl,trivial,trivial⟩) ?_
  refine qa0 hτ rfl rfl rfl ?_
  refine qa4 ?_
  refine qa7 ?_
  refine qa2 ?_
  refine qa0 hτ rfl rfl rfl ?_
  refine qa0 hτ rfl rfl rfl ?_
  refine qa0 hτ rfl rfl rfl ?_
  refine qa0 hτ rfl rfl rfl ?_
  refine qa4 ?_
  refine qa9 (qa3 [] (l:=[(4,.d (.cx .f64 (qa1 .sub .f64 (qa1 .mul .f64 x_.re y_.re) (qa1 .mul .f64 x_.im y_.im)) (qa1 .add .f64 (qa1 .mul .f64 x_.re y_.im) (qa1 .mul .f64 x_.im y_.re))))]) (objs:=[]) rfl (by simp) rfl (by trivial) ⟨rfl,trivial,trivial⟩) ?_
  refine qar ?_
  have hr:=Option.some.inj h
  subst hr
  exact qah (.inr rfl) [] (objs':=[]) (new:=[]) rfl (by simp) (by simp) rfl (by trivial) rfl rfl (by trivial) (fun _=>⟨by simp [V.flat,V.qbd,V.qb6,D.flat],qal⟩) ⟨rfl,rfl,rfl⟩
theorem spec_l01WideMul_ok (n:Nat) (x_:Cx) (y_:Cx) {r:Cx} (h:qfo n x_ y_ = some r):qay prog false 146 [.d (.cx .f64 x_.re x_.im),.d (.cx .f64 y_.re y_.im)] [] (fun v o new=>v = .d (.cx .f64 r.re r.im)∧o = []∧new = []):=spec_l01WideMul_ok_fr0 false n x_ y_ h
def qfn (n:Nat) (x_:Cx):Option Cx :=
  (qbf n x_.re).bind fun x3 =>
  (qbf n x_.im).bind fun x4 =>
  some (Cx.mk x3 x4)
theorem spec_l01CNarrow_ok_fr0 (fr:Bool) (n:Nat) (x_:Cx) {r:Cx} (h:qfn n x_ = some r):qay prog fr 145 [.d (.cx .f64 x_.re x_.im)] [] (fun v o new=>v = .d (.cx .f32 r.re r.im)∧o = []∧new = []):=by
  refine qai hτ func145 rfl (by simp) (by simp) ?_
  unfold qfn at h
  refine qa7 ?_
  refine qa2 ?_
  refine qa0 hτ rfl rfl rfl ?_
  refine qa4 ?_
  refine qa7 ?_
  refine qa2 ?_
  refine qa0 hτ rfl rfl rfl ?_
  refine qa0 hτ rfl rfl rfl ?_
  refine qab h fun x3 hx3 h=>?_
  refine qad hτ false [] rfl rfl rfl (qaf func129 rfl rfl) rfl rfl (by simp) ⟨trivial,trivial⟩ (by trivial) (qbr n x_.re hx3) ?_
  rintro r0 o0 n0 ⟨rfl,rfl,rfl⟩ -
  refine qa0 hτ rfl rfl rfl ?_
  refine qa0 hτ rfl rfl rfl ?_
  refine qab h fun x4 hx4 h=>?_
  refine qad hτ false [] rfl rfl rfl (qaf func129 rfl rfl) rfl rfl (by simp) ⟨trivial,trivial⟩ (by trivial) (qbr n x_.im hx4) ?_
  rintro r0 o0 n0 ⟨rfl,rfl,rfl⟩ -
  refine qa0 hτ rfl rfl rfl ?_
  refine qa0 hτ rfl rfl rfl ?_
  refine qa4 ?_
  refine qa9 (qa3 [] (l:=[(2,.d (.cx .f32 x3 x4))]) (objs:=[]) rfl (by simp) rfl (by trivial) ⟨rfl,trivial,trivial⟩) ?_
  refine qar ?_
  have hr:=Option.some.inj h
  subst hr
  exact qah (.inr rfl) [] (objs':=[]) (new:=[]) rfl (by simp) (by simp) rfl (by trivial) rfl rfl (by trivial) (fun _=>⟨by simp [V.flat,V.qbd,V.qb6,D.flat],qal⟩) ⟨rfl,rfl,rfl⟩
theorem spec_l01CNarrow_ok (n:Nat) (x_:Cx) {r:Cx} (h:qfn n x_ = some r):qay prog false 145 [.d (.cx .f64 x_.re x_.im)] [] (fun v o new=>v = .d (.cx .f32 r.re r.im)∧o = []∧new = []):=spec_l01CNarrow_ok_fr0 false n x_ h
def qgp (n:Nat) (x_:Cx) (y_:Cx):Option Cx :=
  (qfx n x_).bind fun x5 =>
  (qfx n y_).bind fun x6 =>
  (qfo n x5 x6).bind fun x7 =>
  (qfn n x7).bind fun x8 =>
  some x8
theorem spec_l01Mul_ok_fr0 (fr:Bool) (n:Nat) (x_:Cx) (y_:Cx) {r:Cx} (h:qgp n x_ y_ = some r):qay prog fr 110 [.d (.cx .f32 x_.re x_.im),.d (.cx .f32 y_.re y_.im)] [] (fun v o new=>v = .d (.cx .f32 r.re r.im)∧o = []∧new = []):=by
  refine qai hτ func110 rfl (by simp) (by simp) ?_
  unfold qgp at h
  refine qa7 ?_
  refine qa2 ?_
  refine qa0 hτ rfl rfl rfl ?_
  refine qa4 ?_
  refine qa7 ?_
  refine qa2 ?_
  refine qa0 hτ rfl rfl rfl ?_
  refine qab h fun x5 hx5 h=>?_
  refine qad hτ false [] rfl rfl rfl (qaf func147 rfl rfl) rfl rfl (by simp) ⟨trivial,trivial⟩ (by trivial) (qj7 n x_ hx5) ?_
  rintro r0 o0 n0 ⟨rfl,rfl,rfl⟩ -
  refine qa0 hτ rfl rfl rfl ?_
  refine qab h fun x6 hx6 h=>?_
  refine qad hτ false [] rfl rfl rfl (qaf func147 rfl rfl) rfl rfl (by simp) ⟨trivial,trivial⟩ (by trivial) (qj7 n y_ hx6) ?_
  rintro r0 o0 n0 ⟨rfl,rfl,rfl⟩ -
  refine qab h fun x7 hx7 h=>?_
  refine qad hτ false [] rfl rfl rfl (qaf func146 rfl rfl) rfl rfl (by simp) ⟨trivial,trivial,trivial⟩ (by trivial) (spec_l01WideMul_ok n x5 x6 hx7) ?_
  rintro r0 o0 n0 ⟨rfl,rfl,rfl⟩ -
  refine qab h fun x8 hx8 h=>?_
  refine qad hτ false [] rfl rfl rfl (qaf func145 rfl rfl) rfl rfl (by simp) ⟨trivial,trivial⟩ (by trivial) (spec_l01CNarrow_ok n x7 hx8) ?_
  rintro r0 o0 n0 ⟨rfl,rfl,rfl⟩ -
  refine qa0 hτ rfl rfl rfl ?_
  refine qa4 ?_
  refine qa9 (qa3 [] (l:=[(4,.d (.cx .f32 x8.re x8.im))]) (objs:=[]) rfl (by simp) rfl (by trivial) ⟨rfl,trivial,trivial⟩) ?_
  refine qar ?_
  have hr:=Option.some.inj h
  subst hr
  exact qah (.inr rfl) [] (objs':=[]) (new:=[]) rfl (by simp) (by simp) rfl (by trivial) rfl rfl (by trivial) (fun _=>⟨by simp [V.flat,V.qbd,V.qb6,D.flat],qal⟩) ⟨rfl,rfl,rfl⟩
theorem qjj (n:Nat) (x_:Cx) (y_:Cx) {r:Cx} (h:qgp n x_ y_ = some r):qay prog false 110 [.d (.cx .f32 x_.re x_.im),.d (.cx .f32 y_.re y_.im)] [] (fun v o new=>v = .d (.cx .f32 r.re r.im)∧o = []∧new = []):=spec_l01Mul_ok_fr0 false n x_ y_ h
def qdq (n:Nat) (x_:Cx):Option qa5 :=
  (qf5 n (fneg .f64 (4599676419421066581:Nat))).bind fun x5 =>
  (qgp n x_ x5).bind fun x6 =>
  (qf5 n (4599676419421066581:Nat)).bind fun x7 =>
  (qgp n x_ x7).bind fun x8 =>
  some (qa5.mk x_ x6 x8)
theorem spec_l02Even_ok_fr0 (fr:Bool) (n:Nat) (x_:Cx) {r:qa5} (h:qdq n x_ = some r):qay prog fr 55 [.d (.cx .f32 x_.re x_.im)] [] (fun v o new=>v = .agg [.d (.cx .f32 r.A.re r.A.im),.d (.cx .f32 r.B.re r.B.im),.d (.cx .f32 r.C.re r.C.im)]∧o = []∧new = []):=by
  refine qai hτ func55 rfl (by simp) (by simp) ?_
  unfold qdq at h
  refine qa7 ?_
  refine qa2 ?_
  refine qaj hτ rfl rfl rfl ?_
  refine qa4 ?_
  refine qa7 ?_
  refine qa2 ?_
  refine qa0 hτ rfl rfl rfl ?_
  refine qa4 ?_
  refine qa7 ?_
  refine qa2 ?_
  refine qa0 hτ rfl rfl rfl ?_
  refine qa0 hτ rfl rfl rfl ?_
  refine qa0 hτ rfl rfl rfl ?_
  refine qa0 hτ rfl rfl rfl ?_
  refine qab h fun x5 hx5 h=>?_
  refine qad hτ false [] rfl rfl rfl (qaf func111 rfl rfl) rfl rfl (by simp) ⟨trivial,trivial⟩ (by trivial) (qir n (fneg .f64 (4599676419421066581:Nat)) hx5) ?_
  rintro r0 o0 n0 ⟨rfl,rfl,rfl⟩ -
  refine qab h fun x6 hx6 h=>?_
  refine qad hτ false [] rfl rfl rfl (qaf func110 rfl rfl) rfl rfl (by simp) ⟨trivial,trivial,trivial⟩ (by trivial) (qjj n x_ x5 hx6) ?_
  rintro r0 o0 n0 ⟨rfl,rfl,rfl⟩ -
  refine qa0 hτ rfl rfl rfl ?_
  refine qa0 hτ rfl rfl rfl ?_
  refine qab h fun x7 hx7 h=>?_
  refine qad hτ false [] rfl rfl rfl (qaf func111 rfl rfl) rfl rfl (by simp) ⟨trivial,trivial⟩ (by trivial) (qir n (4599676419421066581:Nat) hx7) ?_
  rintro r0 o0 n0 ⟨rfl,rfl,rfl⟩ -
  refine qab h fun x8 hx8 h=>?_
  refine qad hτ false [] rfl rfl rfl (qaf func110 rfl rfl) rfl rfl (by simp) ⟨trivial,trivial,trivial⟩ (by trivial) (qjj n x_ x7 hx8) ?_
  rintro r0 o0 n0 ⟨rfl,rfl,rfl⟩ -
  refine qb2 (qa3 [0] (l:=[(2,.ptr 0 0),(4,.d (.cx .f32 x_.re x_.im)),(9,.d (.cx .f32 x6.re x6.im)),(13,.d (.cx .f32 x8.re x8.im))]) (objs:=[.box [.d (.cx .f32 (0:Nat) (0:Nat)),.d (.cx .f32 (0:Nat) (0:Nat)),.d (.cx .f32 (0:Nat) (0:Nat))]]) rfl (by simp) rfl (by trivial) ⟨rfl,trivial,rfl,trivial,rfl,trivial,rfl,trivial,trivial⟩) ?_
  refine qa0 hτ rfl rfl rfl ?_
  refine qaj hτ rfl rfl rfl ?_
  refine qa4 ?_
  refine qa9 (qa3 [0] (l:=[(2,.ptr 0 0)]) (objs:=[.box [.d (.cx .f32 x_.re x_.im),.d (.cx .f32 x6.re x6.im),.d (.cx .f32 x8.re x8.im)]]) rfl (by simp) rfl (by trivial) ⟨rfl,trivial,trivial⟩) ?_
  refine qar ?_
  have hr:=Option.some.inj h
  subst hr
  exact qah (.inr rfl) [] (objs':=[]) (new:=[]) rfl (by simp) (by simp) rfl (by trivial) rfl rfl (by trivial) (fun _=>⟨by simp [V.flat,V.qbd,V.qb6,D.flat],qal⟩) ⟨rfl,rfl,rfl⟩
theorem spec_l02Even_ok (n:Nat) (x_:Cx) {r:qa5} (h:qdq n x_ = some r):qay prog false 55 [.d (.cx .f32 x_.re x_.im)] [] (fun v o new=>v = .agg [.d (.cx .f32 r.A.re r.A.im),.d (.cx .f32 r.B.re r.B.im),.d (.cx .f32 r.C.re r.C.im)]∧o = []∧new = []):=spec_l02Even_ok_fr0 false n x_ h
def qfm (n:Nat) (x37:qa5) (v69:List SBus):Option qak :=
  some (qak.mk x37 v69)
def qce (n:Nat) (x37:qa5):Nat→List Int→Int→Int→List SBus→Int→Option qak
  | 0,_,_,_,_,_=>none
  | m102 + 1,v82,v83,v84,v85,v86 =>
    if v86 > (0:Int) then
      (qau n (qco.mk v82 v83 v84) (v85.length:Int)).bind fun x105 =>
      (qau n x105.2 (4:Int)).bind fun x106 =>
      (qau n x106.2 (4:Int)).bind fun x107 =>
      (qau n x107.2 (2:Int)).bind fun x108 =>
      (qau n x108.2 (9:Int)).bind fun x109 =>
      (qau n x109.2 (3:Int)).bind fun x110 =>
      (qau n x110.2 (9:Int)).bind fun x111 =>
      (qau n x111.2 (9:Int)).bind fun x112 =>
      (qau n x112.2 (30:Int)).bind fun x113 =>
      grd (room (v85.length + 1) 64) <|
      (qce n x37 m102) x113.2.code x113.2.at_ x113.2.seed (v85 ++ [(SBus.mk x105.1 (Cx.mk (qa1 .quo .f32 (FloatKind.nearest .f32 (w64 ((1:Int) + x106.1))) (1115684864:Nat)) (qa1 .quo .f32 (FloatKind.nearest .f32 x107.1) (1115684864:Nat))) (Cx.mk (0:Nat) (0:Nat)) x108.1 (qa5.mk (Cx.mk (qa1 .quo .f32 (FloatKind.nearest .f32 x109.1) (1082130432:Nat)) (qa1 .quo .f32 (FloatKind.nearest .f32 x110.1) (1082130432:Nat))) (Cx.mk (qa1 .quo .f32 (FloatKind.nearest .f32 x111.1) (1082130432:Nat)) (0:Nat)) (Cx.mk (qa1 .quo .f32 (FloatKind.nearest .f32 x112.1) (1082130432:Nat)) (0:Nat))) x113.1)]) (w64 (v86 - (1:Int)))
    else
      qfm n x37 v85
def qf7 (n:Nat) (code_:List Int):Option qak :=
  (qh4 n code_).bind fun x35 =>
  (qau n x35 (16:Int)).bind fun x36 =>
  (qdq n (Cx.mk (FloatKind.nearest .f32 (w64 ((16:Int) + x36.1))) (0:Nat))).bind fun x37 =>
  (qau n x36.2 (5:Int)).bind fun x71 =>
  qce n x37 n x71.2.code x71.2.at_ x71.2.seed [(SBus.mk (-1:Int) (Cx.mk (0:Nat) (0:Nat)) (Cx.mk (0:Nat) (0:Nat)) (0:Int) (qa5.mk (Cx.mk (0:Nat) (0:Nat)) (Cx.mk (0:Nat) (0:Nat)) (Cx.mk (0:Nat) (0:Nat))) (0:Int))] (w64 ((1:Int) + x71.1))
theorem spec_B10Mild_ok_fr0 (fr:Bool) (n:Nat) (code_:List Int) {r:qak} (h:qf7 n code_ = some r):qay prog fr 9 [.d (.sl false (code_.map qbb))] [] (fun v o new=>v = .agg [.d (.cx .f32 r.Source.A.re r.Source.A.im),.d (.cx .f32 r.Source.B.re r.Source.B.im),.d (.cx .f32 r.Source.C.re r.Source.C.im),.row 0 r.qa8.length 0 r.qa8.length]∧o = []∧new = [.row 8 (r.qa8.map qae)]):=by
  refine qai hτ func9 rfl (by simp) (by simp) ?_
  unfold qf7 at h
  refine qa7 ?_
  refine qa2 ?_
  refine qaj hτ rfl rfl rfl ?_
  refine qa4 ?_
  refine qa7 ?_
  refine qa2 ?_
  refine qa0 hτ rfl rfl rfl ?_
  refine qab h fun x35 hx35 h=>?_
  refine qad hτ false [] rfl rfl rfl (qaf func54 rfl rfl) rfl rfl (by simp) ⟨trivial,trivial⟩ (by trivial) (spec_l00From_ok n code_ hx35) ?_
  rintro r0 o0 n0 ⟨rfl,rfl,rfl⟩ -
  refine qa0 hτ rfl rfl rfl ?_
  refine qa4 ?_
  refine qa7 ?_
  refine qa2 ?_
  refine qa0 hτ rfl rfl rfl ?_
  refine qab h fun x36 hx36 h=>?_
  refine qad hτ false [1] rfl rfl rfl (qaf func56 rfl rfl) rfl rfl (by simp) ⟨trivial,trivial,trivial⟩ (by trivial) (qb9 n x35 (16:Int) hx36) ?_
  rintro r0 o0 n0 ⟨rfl,rfl,rfl⟩ -
  refine qa0 hτ rfl rfl rfl ?_
  refine qa0 hτ rfl rfl rfl ?_
  refine qa0 hτ rfl rfl rfl ?_
  refine qab h fun x37 hx37 h=>?_
  refine qad hτ false [] rfl rfl rfl (qaf func55 rfl rfl) rfl rfl (by simp) ⟨trivial,trivial⟩ (by trivial) (spec_l02Even_ok n (Cx.mk (FloatKind.nearest .f32 (w64 ((16:Int) + x36.1))) (0:Nat)) hx37) ?_
  rintro r0 o0 n0 ⟨rfl,rfl,rfl⟩ -
  refine qa0 hτ rfl rfl rfl ?_
  refine qaj hτ rfl rfl rfl ?_
  refine qb2 (qa3 [0,1,2] (l:=[(2,.ptr 0 0),(3,.ptr 1 0),(16,.agg [.d (.cx .f32 x37.A.re x37.A.im),.d (.cx .f32 x37.B.re x37.B.im),.d (.cx .f32 x37.C.re x37.C.im)]),(18,.row 2 ([(SBus.mk (-1:Int) (Cx.mk (0:Nat) (0:Nat)) (Cx.mk (0:Nat) (0:Nat)) (0:Int) (qa5.mk (Cx.mk (0:Nat) (0:Nat)) (Cx.mk (0:Nat) (0:Nat)) (Cx.mk (0:Nat) (0:Nat))) (0:Int))].length) 0 ([(SBus.mk (-1:Int) (Cx.mk (0:Nat) (0:Nat)) (Cx.mk (0:Nat) (0:Nat)) (0:Int) (qa5.mk (Cx.mk (0:Nat) (0:Nat)) (Cx.mk (0:Nat) (0:Nat)) (Cx.mk (0:Nat) (0:Nat))) (0:Int))].length))]) (objs:=[.box [.d (.cx .f32 (0:Nat) (0:Nat)),.d (.cx .f32 (0:Nat) (0:Nat)),.d (.cx .f32 (0:Nat) (0:Nat)),.d (.nils)],.box [.d (.sl false (x36.2.code.map qbb)),.d (.int .i64 x36.2.at_),.d (.int .u64 x36.2.seed)],.row 8 ([(SBus.mk (-1:Int) (Cx.mk (0:Nat) (0:Nat)) (Cx.mk (0:Nat) (0:Nat)) (0:Int) (qa5.mk (Cx.mk (0:Nat) (0:Nat)) (Cx.mk (0:Nat) (0:Nat)) (Cx.mk (0:Nat) (0:Nat))) (0:Int))].map qae)]) rfl (by simp) rfl (by trivial) ⟨rfl,trivial,rfl,trivial,rfl,(by trivial),rfl,trivial,trivial⟩) ?_
  refine qa0 hτ rfl rfl rfl ?_
  refine qaj hτ rfl rfl rfl ?_
  refine qaj hτ rfl rfl rfl ?_
  refine qa4 ?_
  refine qc0 (ι:=List SBus) (fun v69=>St.of [(2,.ptr 0 0),(4,.ptr 1 0)] [.box [.d (.cx .f32 (0:Nat) (0:Nat)),.d (.cx .f32 (0:Nat) (0:Nat)),.d (.cx .f32 (0:Nat) (0:Nat)),.d (.nils)],.box [.d (.cx .f32 x37.A.re x37.A.im),.d (.cx .f32 x37.B.re x37.B.im),.d (.cx .f32 x37.C.re x37.C.im),.row 2 v69.length 0 v69.length],.row 8 (v69.map qae)] f9.ntmps 0) (fun v69=>qfm n x37 v69 = some r) ?_ (fun hk70=>?_)
  · rintro v69 h
    replace h:qfm n x37 v69 = some r:=h
    unfold qfm at h
    refine qa7 ?_
    refine qa2 ?_
    refine qa0 hτ rfl rfl rfl ?_
    refine qaj hτ rfl rfl rfl ?_
    refine qa4 ?_
    refine qa9 (qa3 [0,2] (l:=[(2,.ptr 0 0)]) (objs:=[.box [.d (.cx .f32 x37.A.re x37.A.im),.d (.cx .f32 x37.B.re x37.B.im),.d (.cx .f32 x37.C.re x37.C.im),.row 1 v69.length 0 v69.length],.row 8 (v69.map qae)]) rfl (by simp) rfl (by trivial) ⟨rfl,trivial,trivial⟩) ?_
    refine qar ?_
    have hr:=Option.some.inj h
    subst hr
    exact qah (.inr rfl) [1] (objs':=[]) (new:=[.row 8 (v69.map qae)]) rfl (by simp) (by simp) rfl (by trivial) rfl rfl (by trivial) (fun _=>⟨by simp [V.flat,V.qbd,V.qb6,D.flat],(qd1 (qh2 qjb _) qal)⟩) ⟨rfl,rfl,rfl⟩
  · refine qa7 ?_
    refine qa7 ?_
    refine qa2 ?_
    refine qa0 hτ rfl rfl rfl ?_
    refine qab h fun x71 hx71 h=>?_
    refine qad hτ false [1] rfl rfl rfl (qaf func56 rfl rfl) rfl rfl (by simp) ⟨trivial,trivial,trivial⟩ (by trivial) (qb9 n x36.2 (5:Int) hx71) ?_
    rintro r0 o0 n0 ⟨rfl,rfl,rfl⟩ -
    refine qa0 hτ rfl rfl rfl ?_
    refine qa0 hτ rfl rfl rfl ?_
    refine qa4 ?_
    refine qbo ?_
    refine qgj (ι:=Nat × List Int × Int × Int × List SBus × Int) (fun (m102,v82,v83,v84,v85,v86)=>St.of [(2,.ptr 0 0),(3,.ptr 1 0),(4,.ptr 2 0),(5,.d (.int .i64 v86))] [.box [.d (.cx .f32 (0:Nat) (0:Nat)),.d (.cx .f32 (0:Nat) (0:Nat)),.d (.cx .f32 (0:Nat) (0:Nat)),.d (.nils)],.box [.d (.sl false (v82.map qbb)),.d (.int .i64 v83),.d (.int .u64 v84)],.box [.d (.cx .f32 x37.A.re x37.A.im),.d (.cx .f32 x37.B.re x37.B.im),.d (.cx .f32 x37.C.re x37.C.im),.row 3 v85.length 0 v85.length],.row 8 (v85.map qae)] f9.ntmps 0) (fun (m102,v82,v83,v84,v85,v86)=>qce n x37 m102 v82 v83 v84 v85 v86 = some r) (fun x=>x.1) (n,x71.2.code,x71.2.at_,x71.2.seed,[(SBus.mk (-1:Int) (Cx.mk (0:Nat) (0:Nat)) (Cx.mk (0:Nat) (0:Nat)) (0:Int) (qa5.mk (Cx.mk (0:Nat) (0:Nat)) (Cx.mk (0:Nat) (0:Nat)) (Cx.mk (0:Nat) (0:Nat))) (0:Int))],(w64 ((1:Int) + x71.1))) h (qa3 [0,1,3,2] (l:=[(2,.ptr 0 0),(3,.ptr 1 0),(4,.ptr 2 0),(5,.d (.int .i64 (w64 ((1:Int) + x71.1))))]) (objs:=[.box [.d (.cx .f32 (0:Nat) (0:Nat)),.d (.cx .f32 (0:Nat) (0:Nat)),.d (.cx .f32 (0:Nat) (0:Nat)),.d (.nils)],.box [.d (.sl false (x71.2.code.map qbb)),.d (.int .i64 x71.2.at_),.d (.int .u64 x71.2.seed)],.box [.d (.cx .f32 x37.A.re x37.A.im),.d (.cx .f32 x37.B.re x37.B.im),.d (.cx .f32 x37.C.re x37.C.im),.row 3 ([(SBus.mk (-1:Int) (Cx.mk (0:Nat) (0:Nat)) (Cx.mk (0:Nat) (0:Nat)) (0:Int) (qa5.mk (Cx.mk (0:Nat) (0:Nat)) (Cx.mk (0:Nat) (0:Nat)) (Cx.mk (0:Nat) (0:Nat))) (0:Int))].length) 0 ([(SBus.mk (-1:Int) (Cx.mk (0:Nat) (0:Nat)) (Cx.mk (0:Nat) (0:Nat)) (0:Int) (qa5.mk (Cx.mk (0:Nat) (0:Nat)) (Cx.mk (0:Nat) (0:Nat)) (Cx.mk (0:Nat) (0:Nat))) (0:Int))].length)],.row 8 ([(SBus.mk (-1:Int) (Cx.mk (0:Nat) (0:Nat)) (Cx.mk (0:Nat) (0:Nat)) (0:Int) (qa5.mk (Cx.mk (0:Nat) (0:Nat)) (Cx.mk (0:Nat) (0:Nat)) (Cx.mk (0:Nat) (0:Nat))) (0:Int))].map qae)]) rfl (by simp) rfl (by trivial) ⟨rfl,trivial,rfl,trivial,rfl,trivial,rfl,trivial,trivial⟩) ?_
    rintro ⟨m102,v82,v83,v84,v85,v86⟩ h
    replace h:qce n x37 m102 v82 v83 v84 v85 v86 = some r:=h
    rcases m102 with _ | m102
    · rw [qce] at h;cases h
    rw [qce] at h
    refine qa7 ?_
    refine qa7 ?_
    refine qa2 ?_
    refine qa0 hτ rfl rfl rfl ?_
    refine qa0 hτ rfl rfl rfl ?_
    refine qa4 ?_
    refine qaz rfl (fun hc104=>?_) (fun hc104=>?_)
    · have h:=if_t h hc104
      refine qb4 ?_
      refine qa7 ?_
      refine qbo ?_
      refine qa7 ?_
      refine qa2 ?_
      refine qa0 hτ rfl rfl rfl ?_
      refine qa0 hτ rfl rfl rfl ?_
      refine qa0 hτ rfl rfl rfl ?_
      refine qda hτ rfl rfl rfl (qbu _) ?_
      refine qab h fun x105 hx105 h=>?_
      refine qad hτ false [1] rfl rfl rfl (qaf func56 rfl rfl) rfl rfl (by simp) ⟨trivial,trivial,trivial⟩ (by trivial) (qb9 n (qco.mk v82 v83 v84) (v85.length:Int) hx105) ?_
      rintro r0 o0 n0 ⟨rfl,rfl,rfl⟩ -
      refine qa0 hτ rfl rfl rfl ?_
      refine qaj hτ rfl rfl rfl ?_
      refine qaj hτ rfl rfl rfl ?_
      refine qa4 ?_
      refine qa7 ?_
      refine qa9 (qa3 [0,1,2,3,4] (l:=[(2,.ptr 0 0),(3,.ptr 1 0),(4,.ptr 2 0),(5,.d (.int .i64 v86)),(6,.ptr 4 0)]) (objs:=[.box [.d (.cx .f32 (0:Nat) (0:Nat)),.d (.cx .f32 (0:Nat) (0:Nat)),.d (.cx .f32 (0:Nat) (0:Nat)),.d (.nils)],.box [.d (.sl false (x105.2.code.map qbb)),.d (.int .i64 x105.2.at_),.d (.int .u64 x105.2.seed)],.box [.d (.cx .f32 x37.A.re x37.A.im),.d (.cx .f32 x37.B.re x37.B.im),.d (.cx .f32 x37.C.re x37.C.im),.row 3 v85.length 0 v85.length],.row 8 (v85.map qae),.box [.d (.int .i64 x105.1),.d (.cx .f32 (0:Nat) (0:Nat)),.d (.cx .f32 (0:Nat) (0:Nat)),.d (.int .i64 (0:Int)),.d (.cx .f32 (0:Nat) (0:Nat)),.d (.cx .f32 (0:Nat) (0:Nat)),.d (.cx .f32 (0:Nat) (0:Nat)),.d (.int .i64 (0:Int))]]) rfl (by simp) rfl (by trivial) ⟨rfl,trivial,rfl,trivial,rfl,trivial,rfl,trivial,rfl,trivial,trivial⟩) ?_
      refine qa2 ?_
      refine qa0 hτ rfl rfl rfl ?_
      refine qab h fun x106 hx106 h=>?_
      refine qad hτ false [1] rfl rfl rfl (qaf func56 rfl rfl) rfl rfl (by simp) ⟨trivial,trivial,trivial⟩ (by trivial) (qb9 n x105.2 (4:Int) hx106) ?_
      rintro r0 o0 n0 ⟨rfl,rfl,rfl⟩ -
      refine qa0 hτ rfl rfl rfl ?_
      refine qa0 hτ rfl rfl rfl ?_
      refine qa0 hτ rfl rfl rfl ?_
      refine qa0 hτ rfl rfl rfl ?_
      refine qa4 ?_
      refine qa7 ?_
      refine qa9 (qa3 [0,1,2,3,4] (l:=[(2,.ptr 0 0),(3,.ptr 1 0),(4,.ptr 2 0),(5,.d (.int .i64 v86)),(6,.ptr 4 0),(7,.d (.fl .f32 (qa1 .quo .f32 (FloatKind.nearest .f32 (w64 ((1:Int) + x106.1))) (1115684864:Nat))))]) (objs:=[.box [.d (.cx .f32 (0:Nat) (0:Nat)),.d (.cx .f32 (0:Nat) (0:Nat)),.d (.cx .f32 (0:Nat) (0:Nat)),.d (.nils)],.box [.d (.sl false (x106.2.code.map qbb)),.d (.int .i64 x106.2.at_),.d (.int .u64 x106.2.seed)],.box [.d (.cx .f32 x37.A.re x37.A.im),.d (.cx .f32 x37.B.re x37.B.im),.d (.cx .f32 x37.C.re x37.C.im),.row 3 v85.length 0 v85.length],.row 8 (v85.map qae),.box [.d (.int .i64 x105.1),.d (.cx .f32 (0:Nat) (0:Nat)),.d (.cx .f32 (0:Nat) (0:Nat)),.d (.int .i64 (0:Int)),.d (.cx .f32 (0:Nat) (0:Nat)),.d (.cx .f32 (0:Nat) (0:Nat)),.d (.cx .f32 (0:Nat) (0:Nat)),.d (.int .i64 (0:Int))]]) rfl (by simp) rfl (by trivial) ⟨rfl,trivial,rfl,trivial,rfl,trivial,rfl,trivial,rfl,trivial,rfl,trivial,trivial⟩) ?_
      refine qa2 ?_
      refine qa0 hτ rfl rfl rfl ?_
      refine qa0 hτ rfl rfl rfl ?_
      refine qab h fun x107 hx107 h=>?_
      refine qad hτ false [1] rfl rfl rfl (qaf func56 rfl rfl) rfl rfl (by simp) ⟨trivial,trivial,trivial⟩ (by trivial) (qb9 n x106.2 (4:Int) hx107) ?_
      rintro r0 o0 n0 ⟨rfl,rfl,rfl⟩ -
      refine qa0 hτ rfl rfl rfl ?_
      refine qa0 hτ rfl rfl rfl ?_
      refine qa0 hτ rfl rfl rfl ?_
      refine qa0 hτ rfl rfl rfl ?_
      refine qaj hτ rfl rfl rfl ?_
      refine qa4 ?_
      refine qa7 ?_
      refine qa9 (qa3 [0,1,2,3,4] (l:=[(2,.ptr 0 0),(3,.ptr 1 0),(4,.ptr 2 0),(5,.d (.int .i64 v86)),(6,.ptr 4 0)]) (objs:=[.box [.d (.cx .f32 (0:Nat) (0:Nat)),.d (.cx .f32 (0:Nat) (0:Nat)),.d (.cx .f32 (0:Nat) (0:Nat)),.d (.nils)],.box [.d (.sl false (x107.2.code.map qbb)),.d (.int .i64 x107.2.at_),.d (.int .u64 x107.2.seed)],.box [.d (.cx .f32 x37.A.re x37.A.im),.d (.cx .f32 x37.B.re x37.B.im),.d (.cx .f32 x37.C.re x37.C.im),.row 3 v85.length 0 v85.length],.row 8 (v85.map qae),.box [.d (.int .i64 x105.1),.d (.cx .f32 (qa1 .quo .f32 (FloatKind.nearest .f32 (w64 ((1:Int) + x106.1))) (1115684864:Nat)) (qa1 .quo .f32 (FloatKind.nearest .f32 x107.1) (1115684864:Nat))),.d (.cx .f32 (0:Nat) (0:Nat)),.d (.int .i64 (0:Int)),.d (.cx .f32 (0:Nat) (0:Nat)),.d (.cx .f32 (0:Nat) (0:Nat)),.d (.cx .f32 (0:Nat) (0:Nat)),.d (.int .i64 (0:Int))]]) rfl (by simp) rfl (by trivial) ⟨rfl,trivial,rfl,trivial,rfl,trivial,rfl,trivial,rfl,trivial,trivial⟩) ?_
      refine qa2 ?_
      refine qa0 hτ rfl rfl rfl ?_
      refine qab h fun x108 hx108 h=>?_
      refine qad hτ false [1] rfl rfl rfl (qaf func56 rfl rfl) rfl rfl (by simp) ⟨trivial,trivial,trivial⟩ (by trivial) (qb9 n x107.2 (2:Int) hx108) ?_
      rintro r0 o0 n0 ⟨rfl,rfl,rfl⟩ -
      refine qa0 hτ rfl rfl rfl ?_
      refine qaj hτ rfl rfl rfl ?_
      refine qa4 ?_
      refine qa7 ?_
      refine qa2 ?_
      refine qa0 hτ rfl rfl rfl ?_
      refine qab h fun x109 hx109 h=>?_
      refine qad hτ false [1] rfl rfl rfl (qaf func56 rfl rfl) rfl rfl (by simp) ⟨trivial,trivial,trivial⟩ (by trivial) (qb9 n x108.2 (9:Int) hx109) ?_
      rintro r0 o0 n0 ⟨rfl,rfl,rfl⟩ -
      refine qa0 hτ rfl rfl rfl ?_
      refine qa0 hτ rfl rfl rfl ?_
      refine qa0 hτ rfl rfl rfl ?_
      refine qa4 ?_
      refine qa7 ?_
      refine qa9 (qa3 [0,1,2,3,4] (l:=[(2,.ptr 0 0),(3,.ptr 1 0),(4,.ptr 2 0),(5,.d (.int .i64 v86)),(6,.ptr 4 0),(8,.d (.fl .f32 (qa1 .quo .f32 (FloatKind.nearest .f32 x109.1) (1082130432:Nat))))]) (objs:=[.box [.d (.cx .f32 (0:Nat) (0:Nat)),.d (.cx .f32 (0:Nat) (0:Nat)),.d (.cx .f32 (0:Nat) (0:Nat)),.d (.nils)],.box [.d (.sl false (x109.2.code.map qbb)),.d (.int .i64 x109.2.at_),.d (.int .u64 x109.2.seed)],.box [.d (.cx .f32 x37.A.re x37.A.im),.d (.cx .f32 x37.B.re x37.B.im),.d (.cx .f32 x37.C.re x37.C.im),.row 3 v85.length 0 v85.length],.row 8 (v85.map qae),.box [.d (.int .i64 x105.1),.d (.cx .f32 (qa1 .quo .f32 (FloatKind.nearest .f32 (w64 ((1:Int) + x106.1))) (1115684864:Nat)) (qa1 .quo .f32 (FloatKind.nearest .f32 x107.1) (1115684864:Nat))),.d (.cx .f32 (0:Nat) (0:Nat)),.d (.int .i64 x108.1),.d (.cx .f32 (0:Nat) (0:Nat)),.d (.cx .f32 (0:Nat) (0:Nat)),.d (.cx .f32 (0:Nat) (0:Nat)),.d (.int .i64 (0:Int))]]) rfl (by simp) rfl (by trivial) ⟨rfl,trivial,rfl,trivial,rfl,trivial,rfl,trivial,rfl,trivial,rfl,trivial,trivial⟩) ?_
      refine qa2 ?_
      refine qa0 hτ rfl rfl rfl ?_
      refine qa0 hτ rfl rfl rfl ?_
      refine qab h fun x110 hx110 h=>?_
      refine qad hτ false [1] rfl rfl rfl (qaf func56 rfl rfl) rfl rfl (by simp) ⟨trivial,trivial,trivial⟩ (by trivial) (qb9 n x109.2 (3:Int) hx110) ?_
      rintro r0 o0 n0 ⟨rfl,rfl,rfl⟩ -
      refine qa0 hτ rfl rfl rfl ?_
      refine qa0 hτ rfl rfl rfl ?_
      refine qa0 hτ rfl rfl rfl ?_
      refine qa0 hτ rfl rfl rfl ?_
      refine qa0 hτ rfl rfl rfl ?_
      refine qaj hτ rfl rfl rfl ?_
      refine qa4 ?_
      refine qa7 ?_
      refine qa9 (qa3 [0,1,2,3,4] (l:=[(2,.ptr 0 0),(3,.ptr 1 0),(4,.ptr 2 0),(5,.d (.int .i64 v86)),(6,.ptr 4 0)]) (objs:=[.box [.d (.cx .f32 (0:Nat) (0:Nat)),.d (.cx .f32 (0:Nat) (0:Nat)),.d (.cx .f32 (0:Nat) (0:Nat)),.d (.nils)],.box [.d (.sl false (x110.2.code.map qbb)),.d (.int .i64 x110.2.at_),.d (.int .u64 x110.2.seed)],.box [.d (.cx .f32 x37.A.re x37.A.im),.d (.cx .f32 x37.B.re x37.B.im),.d (.cx .f32 x37.C.re x37.C.im),.row 3 v85.length 0 v85.length],.row 8 (v85.map qae),.box [.d (.int .i64 x105.1),.d (.cx .f32 (qa1 .quo .f32 (FloatKind.nearest .f32 (w64 ((1:Int) + x106.1))) (1115684864:Nat)) (qa1 .quo .f32 (FloatKind.nearest .f32 x107.1) (1115684864:Nat))),.d (.cx .f32 (0:Nat) (0:Nat)),.d (.int .i64 x108.1),.d (.cx .f32 (qa1 .quo .f32 (FloatKind.nearest .f32 x109.1) (1082130432:Nat)) (qa1 .quo .f32 (FloatKind.nearest .f32 x110.1) (1082130432:Nat))),.d (.cx .f32 (0:Nat) (0:Nat)),.d (.cx .f32 (0:Nat) (0:Nat)),.d (.int .i64 (0:Int))]]) rfl (by simp) rfl (by trivial) ⟨rfl,trivial,rfl,trivial,rfl,trivial,rfl,trivial,rfl,trivial,trivial⟩) ?_
      refine qa2 ?_
      refine qa0 hτ rfl rfl rfl ?_
      refine qab h fun x111 hx111 h=>?_
      refine qad hτ false [1] rfl rfl rfl (qaf func56 rfl rfl) rfl rfl (by simp) ⟨trivial,trivial,trivial⟩ (by trivial) (qb9 n x110.2 (9:Int) hx111) ?_
      rintro r0 o0 n0 ⟨rfl,rfl,rfl⟩ -
      refine qa0 hτ rfl rfl rfl ?_
      refine qa0 hτ rfl rfl rfl ?_
      refine qa0 hτ rfl rfl rfl ?_
      refine qa0 hτ rfl rfl rfl ?_
      refine qa0 hτ rfl rfl rfl ?_
      refine qaj hτ rfl rfl rfl ?_
      refine qa4 ?_
      refine qa7 ?_
      refine qa9 (qa3 [0,1,2,3,4] (l:=[(2,.ptr 0 0),(3,.ptr 1 0),(4,.ptr 2 0),(5,.d (.int .i64 v86)),(6,.ptr 4 0)]) (objs:=[.box [.d (.cx .f32 (0:Nat) (0:Nat)),.d (.cx .f32 (0:Nat) (0:Nat)),.d (.cx .f32 (0:Nat) (0:Nat)),.d (.nils)],.box [.d (.sl false (x111.2.code.map qbb)),.d (.int .i64 x111.2.at_),.d (.int .u64 x111.2.seed)],.box [.d (.cx .f32 x37.A.re x37.A.im),.d (.cx .f32 x37.B.re x37.B.im),.d (.cx .f32 x37.C.re x37.C.im),.row 3 v85.length 0 v85.length],.row 8 (v85.map qae),.box [.d (.int .i64 x105.1),.d (.cx .f32 (qa1 .quo .f32 (FloatKind.nearest .f32 (w64 ((1:Int) + x106.1))) (1115684864:Nat)) (qa1 .quo .f32 (FloatKind.nearest .f32 x107.1) (1115684864:Nat))),.d (.cx .f32 (0:Nat) (0:Nat)),.d (.int .i64 x108.1),.d (.cx .f32 (qa1 .quo .f32 (FloatKind.nearest .f32 x109.1) (1082130432:Nat)) (qa1 .quo .f32 (FloatKind.nearest .f32 x110.1) (1082130432:Nat))),.d (.cx .f32 (qa1 .quo .f32 (FloatKind.nearest .f32 x111.1) (1082130432:Nat)) (0:Nat)),.d (.cx .f32 (0:Nat) (0:Nat)),.d (.int .i64 (0:Int))]]) rfl (by simp) rfl (by trivial) ⟨rfl,trivial,rfl,trivial,rfl,trivial,rfl,trivial,rfl,trivial,trivial⟩) ?_
      refine qa2 ?_
      refine qa0 hτ rfl rfl rfl ?_
      refine qab h fun x112 hx112 h=>?_
      refine qad hτ false [1] rfl rfl rfl (qaf func56 rfl rfl) rfl rfl (by simp) ⟨trivial,trivial,trivial⟩ (by trivial) (qb9 n x111.2 (9:Int) hx112) ?_
      rintro r0 o0 n0 ⟨rfl,rfl,rfl⟩ -
      refine qa0 hτ rfl rfl rfl ?_
      refine qa0 hτ rfl rfl rfl ?_
      refine qa0 hτ rfl rfl rfl ?_
      refine qa0 hτ rfl rfl rfl ?_
      refine qa0 hτ rfl rfl rfl ?_
      refine qaj hτ rfl rfl rfl ?_
      refine qa4 ?_
      refine qa7 ?_
      refine qa9 (qa3 [0,1,2,3,4] (l:=[(2,.ptr 0 0),(3,.ptr 1 0),(4,.ptr 2 0),(5,.d (.int .i64 v86)),(6,.ptr 4 0)]) (objs:=[.box [.d (.cx .f32 (0:Nat) (0:Nat)),.d (.cx .f32 (0:Nat) (0:Nat)),.d (.cx .f32 (0:Nat) (0:Nat)),.d (.nils)],.box [.d (.sl false (x112.2.code.map qbb)),.d (.int .i64 x112.2.at_),.d (.int .u64 x112.2.seed)],.box [.d (.cx .f32 x37.A.re x37.A.im),.d (.cx .f32 x37.B.re x37.B.im),.d (.cx .f32 x37.C.re x37.C.im),.row 3 v85.length 0 v85.length],.row 8 (v85.map qae),.box [.d (.int .i64 x105.1),.d (.cx .f32 (qa1 .quo .f32 (FloatKind.nearest .f32 (w64 ((1:Int) + x106.1))) (1115684864:Nat)) (qa1 .quo .f32 (FloatKind.nearest .f32 x107.1) (1115684864:Nat))),.d (.cx .f32 (0:Nat) (0:Nat)),.d (.int .i64 x108.1),.d (.cx .f32 (qa1 .quo .f32 (FloatKind.nearest .f32 x109.1) (1082130432:Nat)) (qa1 .quo .f32 (FloatKind.nearest .f32 x110.1) (1082130432:Nat))),.d (.cx .f32 (qa1 .quo .f32 (FloatKind.nearest .f32 x111.1) (1082130432:Nat)) (0:Nat)),.d (.cx .f32 (qa1 .quo .f32 (FloatKind.nearest .f32 x112.1) (1082130432:Nat)) (0:Nat)),.d (.int .i64 (0:Int))]]) rfl (by simp) rfl (by trivial) ⟨rfl,trivial,rfl,trivial,rfl,trivial,rfl,trivial,rfl,trivial,trivial⟩) ?_
      refine qa2 ?_
      refine qa0 hτ rfl rfl rfl ?_
      refine qab h fun x113 hx113 h=>?_
      refine qad hτ false [1] rfl rfl rfl (qaf func56 rfl rfl) rfl rfl (by simp) ⟨trivial,trivial,trivial⟩ (by trivial) (qb9 n x112.2 (30:Int) hx113) ?_
      rintro r0 o0 n0 ⟨rfl,rfl,rfl⟩ -
      refine qa0 hτ rfl rfl rfl ?_
      refine qaj hτ rfl rfl rfl ?_
      refine qa4 ?_
      refine qa2 ?_
      refine qa0 hτ rfl rfl rfl ?_
      refine qa0 hτ rfl rfl rfl ?_
      refine qa0 hτ rfl rfl rfl ?_
      refine qpr hτ 8 1 (([(SBus.mk x105.1 (Cx.mk (qa1 .quo .f32 (FloatKind.nearest .f32 (w64 ((1:Int) + x106.1))) (1115684864:Nat)) (qa1 .quo .f32 (FloatKind.nearest .f32 x107.1) (1115684864:Nat))) (Cx.mk (0:Nat) (0:Nat)) x108.1 (qa5.mk (Cx.mk (qa1 .quo .f32 (FloatKind.nearest .f32 x109.1) (1082130432:Nat)) (qa1 .quo .f32 (FloatKind.nearest .f32 x110.1) (1082130432:Nat))) (Cx.mk (qa1 .quo .f32 (FloatKind.nearest .f32 x111.1) (1082130432:Nat)) (0:Nat)) (Cx.mk (qa1 .quo .f32 (FloatKind.nearest .f32 x112.1) (1082130432:Nat)) (0:Nat))) x113.1)]:List SBus).map qae) rfl rfl (by kernel_rfl) ?_
      refine qcq h fun hg114 h=>?_
      refine qhs hτ rfl rfl (Eq.trans rfl (or_append (f:=qae) v85 [(SBus.mk x105.1 (Cx.mk (qa1 .quo .f32 (FloatKind.nearest .f32 (w64 ((1:Int) + x106.1))) (1115684864:Nat)) (qa1 .quo .f32 (FloatKind.nearest .f32 x107.1) (1115684864:Nat))) (Cx.mk (0:Nat) (0:Nat)) x108.1 (qa5.mk (Cx.mk (qa1 .quo .f32 (FloatKind.nearest .f32 x109.1) (1082130432:Nat)) (qa1 .quo .f32 (FloatKind.nearest .f32 x110.1) (1082130432:Nat))) (Cx.mk (qa1 .quo .f32 (FloatKind.nearest .f32 x111.1) (1082130432:Nat)) (0:Nat)) (Cx.mk (qa1 .quo .f32 (FloatKind.nearest .f32 x112.1) (1082130432:Nat)) (0:Nat))) x113.1)] rfl)) ⟨⟨rfl,Nat.le_of_ble_eq_true rfl⟩,qbu _,rfl,rfl,hg114,by decide,(all1 rfl)⟩ ?_
      refine qa0 hτ rfl rfl rfl ?_
      refine qaj hτ rfl rfl rfl ?_
      refine qa4 ?_
      refine qa9 (qa3 [0,1,2,3] (l:=[(2,.ptr 0 0),(3,.ptr 1 0),(4,.ptr 2 0),(5,.d (.int .i64 v86))]) (objs:=[.box [.d (.cx .f32 (0:Nat) (0:Nat)),.d (.cx .f32 (0:Nat) (0:Nat)),.d (.cx .f32 (0:Nat) (0:Nat)),.d (.nils)],.box [.d (.sl false (x113.2.code.map qbb)),.d (.int .i64 x113.2.at_),.d (.int .u64 x113.2.seed)],.box [.d (.cx .f32 x37.A.re x37.A.im),.d (.cx .f32 x37.B.re x37.B.im),.d (.cx .f32 x37.C.re x37.C.im),.row 3 ((v85 ++ [(SBus.mk x105.1 (Cx.mk (qa1 .quo .f32 (FloatKind.nearest .f32 (w64 ((1:Int) + x106.1))) (1115684864:Nat)) (qa1 .quo .f32 (FloatKind.nearest .f32 x107.1) (1115684864:Nat))) (Cx.mk (0:Nat) (0:Nat)) x108.1 (qa5.mk (Cx.mk (qa1 .quo .f32 (FloatKind.nearest .f32 x109.1) (1082130432:Nat)) (qa1 .quo .f32 (FloatKind.nearest .f32 x110.1) (1082130432:Nat))) (Cx.mk (qa1 .quo .f32 (FloatKind.nearest .f32 x111.1) (1082130432:Nat)) (0:Nat)) (Cx.mk (qa1 .quo .f32 (FloatKind.nearest .f32 x112.1) (1082130432:Nat)) (0:Nat))) x113.1)]).length) 0 ((v85 ++ [(SBus.mk x105.1 (Cx.mk (qa1 .quo .f32 (FloatKind.nearest .f32 (w64 ((1:Int) + x106.1))) (1115684864:Nat)) (qa1 .quo .f32 (FloatKind.nearest .f32 x107.1) (1115684864:Nat))) (Cx.mk (0:Nat) (0:Nat)) x108.1 (qa5.mk (Cx.mk (qa1 .quo .f32 (FloatKind.nearest .f32 x109.1) (1082130432:Nat)) (qa1 .quo .f32 (FloatKind.nearest .f32 x110.1) (1082130432:Nat))) (Cx.mk (qa1 .quo .f32 (FloatKind.nearest .f32 x111.1) (1082130432:Nat)) (0:Nat)) (Cx.mk (qa1 .quo .f32 (FloatKind.nearest .f32 x112.1) (1082130432:Nat)) (0:Nat))) x113.1)]).length)],.row 8 ((v85 ++ [(SBus.mk x105.1 (Cx.mk (qa1 .quo .f32 (FloatKind.nearest .f32 (w64 ((1:Int) + x106.1))) (1115684864:Nat)) (qa1 .quo .f32 (FloatKind.nearest .f32 x107.1) (1115684864:Nat))) (Cx.mk (0:Nat) (0:Nat)) x108.1 (qa5.mk (Cx.mk (qa1 .quo .f32 (FloatKind.nearest .f32 x109.1) (1082130432:Nat)) (qa1 .quo .f32 (FloatKind.nearest .f32 x110.1) (1082130432:Nat))) (Cx.mk (qa1 .quo .f32 (FloatKind.nearest .f32 x111.1) (1082130432:Nat)) (0:Nat)) (Cx.mk (qa1 .quo .f32 (FloatKind.nearest .f32 x112.1) (1082130432:Nat)) (0:Nat))) x113.1)]).map qae)]) rfl (by simp) rfl (by trivial) ⟨rfl,trivial,rfl,trivial,rfl,trivial,rfl,trivial,trivial⟩) ?_
      refine qa2 ?_
      refine qa0 hτ rfl rfl rfl ?_
      refine qa0 hτ rfl rfl rfl ?_
      refine qa0 hτ rfl rfl rfl ?_
      refine qa4 ?_
      exact ⟨(m102,x113.2.code,x113.2.at_,x113.2.seed,(v85 ++ [(SBus.mk x105.1 (Cx.mk (qa1 .quo .f32 (FloatKind.nearest .f32 (w64 ((1:Int) + x106.1))) (1115684864:Nat)) (qa1 .quo .f32 (FloatKind.nearest .f32 x107.1) (1115684864:Nat))) (Cx.mk (0:Nat) (0:Nat)) x108.1 (qa5.mk (Cx.mk (qa1 .quo .f32 (FloatKind.nearest .f32 x109.1) (1082130432:Nat)) (qa1 .quo .f32 (FloatKind.nearest .f32 x110.1) (1082130432:Nat))) (Cx.mk (qa1 .quo .f32 (FloatKind.nearest .f32 x111.1) (1082130432:Nat)) (0:Nat)) (Cx.mk (qa1 .quo .f32 (FloatKind.nearest .f32 x112.1) (1082130432:Nat)) (0:Nat))) x113.1)]),(w64 (v86 - (1:Int)))),h,Nat.lt_succ_self m102,(qa3 [0,1,2,3] (l:=[(2,.ptr 0 0),(3,.ptr 1 0),(4,.ptr 2 0),(5,.d (.int .i64 (w64 (v86 - (1:Int)))))]) (objs:=[.box [.d (.cx .f32 (0:Nat) (0:Nat)),.d (.cx .f32 (0:Nat) (0:Nat)),.d (.cx .f32 (0:Nat) (0:Nat)),.d (.nils)],.box [.d (.sl false (x113.2.code.map qbb)),.d (.int .i64 x113.2.at_),.d (.int .u64 x113.2.seed)],.box [.d (.cx .f32 x37.A.re x37.A.im),.d (.cx .f32 x37.B.re x37.B.im),.d (.cx .f32 x37.C.re x37.C.im),.row 3 ((v85 ++ [(SBus.mk x105.1 (Cx.mk (qa1 .quo .f32 (FloatKind.nearest .f32 (w64 ((1:Int) + x106.1))) (1115684864:Nat)) (qa1 .quo .f32 (FloatKind.nearest .f32 x107.1) (1115684864:Nat))) (Cx.mk (0:Nat) (0:Nat)) x108.1 (qa5.mk (Cx.mk (qa1 .quo .f32 (FloatKind.nearest .f32 x109.1) (1082130432:Nat)) (qa1 .quo .f32 (FloatKind.nearest .f32 x110.1) (1082130432:Nat))) (Cx.mk (qa1 .quo .f32 (FloatKind.nearest .f32 x111.1) (1082130432:Nat)) (0:Nat)) (Cx.mk (qa1 .quo .f32 (FloatKind.nearest .f32 x112.1) (1082130432:Nat)) (0:Nat))) x113.1)]).length) 0 ((v85 ++ [(SBus.mk x105.1 (Cx.mk (qa1 .quo .f32 (FloatKind.nearest .f32 (w64 ((1:Int) + x106.1))) (1115684864:Nat)) (qa1 .quo .f32 (FloatKind.nearest .f32 x107.1) (1115684864:Nat))) (Cx.mk (0:Nat) (0:Nat)) x108.1 (qa5.mk (Cx.mk (qa1 .quo .f32 (FloatKind.nearest .f32 x109.1) (1082130432:Nat)) (qa1 .quo .f32 (FloatKind.nearest .f32 x110.1) (1082130432:Nat))) (Cx.mk (qa1 .quo .f32 (FloatKind.nearest .f32 x111.1) (1082130432:Nat)) (0:Nat)) (Cx.mk (qa1 .quo .f32 (FloatKind.nearest .f32 x112.1) (1082130432:Nat)) (0:Nat))) x113.1)]).length)],.row 8 ((v85 ++ [(SBus.mk x105.1 (Cx.mk (qa1 .quo .f32 (FloatKind.nearest .f32 (w64 ((1:Int) + x106.1))) (1115684864:Nat)) (qa1 .quo .f32 (FloatKind.nearest .f32 x107.1) (1115684864:Nat))) (Cx.mk (0:Nat) (0:Nat)) x108.1 (qa5.mk (Cx.mk (qa1 .quo .f32 (FloatKind.nearest .f32 x109.1) (1082130432:Nat)) (qa1 .quo .f32 (FloatKind.nearest .f32 x110.1) (1082130432:Nat))) (Cx.mk (qa1 .quo .f32 (FloatKind.nearest .f32 x111.1) (1082130432:Nat)) (0:Nat)) (Cx.mk (qa1 .quo .f32 (FloatKind.nearest .f32 x112.1) (1082130432:Nat)) (0:Nat))) x113.1)]).map qae)]) rfl (by simp) rfl (by trivial) ⟨rfl,trivial,rfl,trivial,rfl,trivial,rfl,trivial,trivial⟩)⟩
    · have h:=if_f h hc104
      refine qgi ?_
      refine qa9 (qa3 [0,2,3] (l:=[(2,.ptr 0 0),(4,.ptr 1 0)]) (objs:=[.box [.d (.cx .f32 (0:Nat) (0:Nat)),.d (.cx .f32 (0:Nat) (0:Nat)),.d (.cx .f32 (0:Nat) (0:Nat)),.d (.nils)],.box [.d (.cx .f32 x37.A.re x37.A.im),.d (.cx .f32 x37.B.re x37.B.im),.d (.cx .f32 x37.C.re x37.C.im),.row 2 v85.length 0 v85.length],.row 8 (v85.map qae)]) rfl (by simp) rfl (by trivial) ⟨rfl,trivial,rfl,trivial,trivial⟩) ?_
      exact hk70 v85 h
theorem spec_B10Mild_ok (n:Nat) (code_:List Int) {r:qak} (h:qf7 n code_ = some r):qay prog false 9 [.d (.sl false (code_.map qbb))] [] (fun v o new=>v = .agg [.d (.cx .f32 r.Source.A.re r.Source.A.im),.d (.cx .f32 r.Source.B.re r.Source.B.im),.d (.cx .f32 r.Source.C.re r.Source.C.im),.row 0 r.qa8.length 0 r.qa8.length]∧o = []∧new = [.row 8 (r.qa8.map qae)]):=spec_B10Mild_ok_fr0 false n code_ h
def qe8 (n:Nat) (code_:List Int) (i_:Int) (n_:Int):Option Int :=
  if n_ ≤ (1:Int) then
    some (0:Int)
  else
    if i_ < (code_.length:Int) then
      (getI code_ i_).bind fun x8 =>
      grd (n_ ≠ 0) <|
      some ((w64 (x8)).tmod n_)
    else
      grd (n_ ≠ 0) <|
      some ((w64 ((w64 (i_ * (37:Int))) + (11:Int))).tmod n_)
theorem laws_b10At_ok_fr0 (fr:Bool) (n:Nat) (code_:List Int) (i_:Int) (n_:Int) {r:Int} (h:qe8 n code_ i_ n_ = some r):qay prog fr 10 [.d (.sl false (code_.map qbb)),.d (.int .i64 i_),.d (.int .i64 n_)] [] (fun v o new=>v = .d (.int .i64 r)∧o = []∧new = []):=by
  refine qai hτ func10 rfl (by simp) (by simp) ?_
  unfold qe8 at h
  refine qa7 ?_
  refine qa2 ?_
  refine qa0 hτ rfl rfl rfl ?_
  refine qa4 ?_
  refine qa7 ?_
  refine qa7 ?_
  refine qa2 ?_
  refine qa0 hτ rfl rfl rfl ?_
  refine qa0 hτ rfl rfl rfl ?_
  refine qa4 ?_
  refine qaz rfl (fun hc4=>?_) (fun hc4=>?_)
  · have h:=if_t h hc4
    refine qa7 ?_
    refine qa2 ?_
    refine qa0 hτ rfl rfl rfl ?_
    refine qa4 ?_
    refine qa9 (qa3 [] (l:=[(6,.d (.int .i64 (0:Int)))]) (objs:=[]) rfl (by simp) rfl (by trivial) ⟨rfl,trivial,trivial⟩) ?_
    refine qar ?_
    have hr:=Option.some.inj h
    subst hr
    exact qah (.inr rfl) [] (objs':=[]) (new:=[]) rfl (by simp) (by simp) rfl (by trivial) rfl rfl (by trivial) (fun _=>⟨by simp [V.flat,V.qbd,V.qb6,D.flat],qal⟩) ⟨rfl,rfl,rfl⟩
  · have h:=if_f h hc4
    refine qb4 ?_
    refine qa7 ?_
    refine qa7 ?_
    refine qa2 ?_
    refine qa0 hτ rfl rfl rfl ?_
    refine qa0 hτ rfl rfl rfl ?_
    refine qa0 hτ (v:=.d (.int .i64 (code_.length:Int))) rfl rfl (Eq.trans rfl (qfb (f:=qbb) code_)) ?_
    refine qa0 hτ rfl rfl rfl ?_
    refine qa4 ?_
    refine qa9 (qa3 [] (l:=[(0,.d (.sl false (code_.map qbb))),(1,.d (.int .i64 i_)),(2,.d (.int .i64 n_)),(12,.d (.bool (decide (i_ < (code_.length:Int)))))]) (objs:=[]) rfl (by simp) rfl (by trivial) ⟨rfl,trivial,rfl,trivial,rfl,trivial,rfl,trivial,trivial⟩) ?_
    refine qaz rfl (fun hc7=>?_) (fun hc7=>?_)
    · have h:=if_t h hc7
      refine qa7 ?_
      refine qa2 ?_
      refine qa0 hτ rfl rfl rfl ?_
      refine qa0 hτ rfl rfl rfl ?_
      refine qab h fun x8 hx8 h=>?_
      refine qh0 hτ rfl rfl rfl (qei hx8).1 (qfz hx8) rfl ?_
      refine qa0 hτ rfl rfl rfl ?_
      refine qa0 hτ rfl rfl rfl ?_
      refine qa0 hτ rfl rfl rfl ?_
      refine qcq h fun hg9 h=>?_
      refine qda hτ rfl rfl rfl hg9 ?_
      refine qa0 hτ rfl rfl rfl ?_
      refine qa4 ?_
      refine qa9 (qa3 [] (l:=[(6,.d (.int .i64 ((w64 (x8)).tmod n_)))]) (objs:=[]) rfl (by simp) rfl (by trivial) ⟨rfl,trivial,trivial⟩) ?_
      refine qar ?_
      have hr:=Option.some.inj h
      subst hr
      exact qah (.inr rfl) [] (objs':=[]) (new:=[]) rfl (by simp) (by simp) rfl (by trivial) rfl rfl (by trivial) (fun _=>⟨by simp [V.flat,V.qbd,V.qb6,D.flat],qal⟩) ⟨rfl,rfl,rfl⟩
    · have h:=if_f h hc7
      refine qb4 ?_
      refine qa7 ?_
      refine qa2 ?_
      refine qa0 hτ rfl rfl rfl ?_
      refine qa0 hτ rfl rfl rfl ?_
      refine qa0 hτ rfl rfl rfl ?_
      refine qa0 hτ rfl rfl rfl ?_
      refine qcq h fun hg10 h=>?_
      refine qda hτ rfl rfl rfl hg10 ?_
      refine qa0 hτ rfl rfl rfl ?_
      refine qa4 ?_
      refine qa9 (qa3 [] (l:=[(6,.d (.int .i64 ((w64 ((w64 (i_ * (37:Int))) + (11:Int))).tmod n_)))]) (objs:=[]) rfl (by simp) rfl (by trivial) ⟨rfl,trivial,trivial⟩) ?_
      refine qar ?_
      have hr:=Option.some.inj h
      subst hr
      exact qah (.inr rfl) [] (objs':=[]) (new:=[]) rfl (by simp) (by simp) rfl (by trivial) rfl rfl (by trivial) (fun _=>⟨by simp [V.flat,V.qbd,V.qb6,D.flat],qal⟩) ⟨rfl,rfl,rfl⟩
theorem qhm (n:Nat) (code_:List Int) (i_:Int) (n_:Int) {r:Int} (h:qe8 n code_ i_ n_ = some r):qay prog false 10 [.d (.sl false (code_.map qbb)),.d (.int .i64 i_),.d (.int .i64 n_)] [] (fun v o new=>v = .d (.int .i64 r)∧o = []∧new = []):=laws_b10At_ok_fr0 false n code_ i_ n_ h
def qck (n:Nat) (n_:Int) (low_:Int) (high_:Int):Option Bool :=
  if n_ ≥ low_ then
    some (decide (n_ ≤ high_))
  else
    some false
theorem impl_in_ok_fr0 (fr:Bool) (n:Nat) (n_:Int) (low_:Int) (high_:Int) {r:Bool} (h:qck n n_ low_ high_ = some r):qay prog fr 58 [.d (.int .i64 n_),.d (.int .i64 low_),.d (.int .i64 high_)] [] (fun v o new=>v = .d (.bool r)∧o = []∧new = []):=by
  refine qai hτ func58 rfl (by simp) (by simp) ?_
  unfold qck at h
  refine qa7 ?_
  refine qa2 ?_
  refine qa0 hτ rfl rfl rfl ?_
  refine qa4 ?_
  refine qa7 ?_
  refine qa2 ?_
  refine qa0 hτ rfl rfl rfl ?_
  refine qa0 hτ rfl rfl rfl ?_
  refine qa0 hτ rfl rfl rfl ?_
  refine qa0 hτ rfl rfl rfl ?_
  refine qba 10 rfl (fun hb3=>?_) (fun hb3=>?_)
  · have h:=if_t h hb3
    refine qa0 hτ rfl rfl rfl ?_
    refine qa0 hτ rfl rfl rfl ?_
    refine qa0 hτ rfl rfl rfl ?_
    refine qa0 hτ rfl rfl rfl ?_
    refine qa0 hτ rfl rfl rfl ?_
    refine qa4 ?_
    refine qa9 (qa3 [] (l:=[(6,.d (.bool (decide (n_ ≤ high_))))]) (objs:=[]) rfl (by simp) rfl (by trivial) ⟨rfl,trivial,trivial⟩) ?_
    refine qar ?_
    have hr:=Option.some.inj h
    subst hr
    exact qah (.inr rfl) [] (objs':=[]) (new:=[]) rfl (by simp) (by simp) rfl (by trivial) rfl rfl (by trivial) (fun _=>⟨by simp [V.flat,V.qbd,V.qb6,D.flat],qal⟩) ⟨rfl,rfl,rfl⟩
  · have h:=if_f h hb3
    refine qaa rfl rfl ?_
    refine qaa rfl rfl ?_
    refine qaa rfl rfl ?_
    refine qa0 hτ rfl rfl rfl ?_
    refine qa0 hτ rfl rfl rfl ?_
    refine qa4 ?_
    refine qa9 (qa3 [] (l:=[(6,.d (.bool false))]) (objs:=[]) rfl (by simp) rfl (by trivial) ⟨rfl,trivial,trivial⟩) ?_
    refine qar ?_
    have hr:=Option.some.inj h
    subst hr
    exact qah (.inr rfl) [] (objs':=[]) (new:=[]) rfl (by simp) (by simp) rfl (by trivial) rfl rfl (by trivial) (fun _=>⟨by simp [V.flat,V.qbd,V.qb6,D.flat],qal⟩) ⟨rfl,rfl,rfl⟩
theorem qfk (n:Nat) (n_:Int) (low_:Int) (high_:Int) {r:Bool} (h:qck n n_ low_ high_ = some r):qay prog false 58 [.d (.int .i64 n_),.d (.int .i64 low_),.d (.int .i64 high_)] [] (fun v o new=>v = .d (.bool r)∧o = []∧new = []):=impl_in_ok_fr0 false n n_ low_ high_ h
def qgo (n:Nat) (kind_:Int):Option Bool :=
  (qck n kind_ (0:Int) (2:Int)).bind fun x2 =>
  some x2
theorem impl_kindOk_ok_fr0 (fr:Bool) (n:Nat) (kind_:Int) {r:Bool} (h:qgo n kind_ = some r):qay prog fr 67 [.d (.int .i64 kind_)] [] (fun v o new=>v = .d (.bool r)∧o = []∧new = []):=by
  refine qai hτ func67 rfl (by simp) (by simp) ?_
  unfold qgo at h
  refine qa7 ?_
  refine qa2 ?_
  refine qa0 hτ rfl rfl rfl ?_
  refine qa4 ?_
  refine qa7 ?_
  refine qa2 ?_
  refine qa0 hτ rfl rfl rfl ?_
  refine qab h fun x2 hx2 h=>?_
  refine qad hτ false [] rfl rfl rfl (qaf func58 rfl rfl) rfl rfl (by simp) ⟨trivial,trivial,trivial,trivial⟩ (by trivial) (qfk n kind_ (0:Int) (2:Int) hx2) ?_
  rintro r0 o0 n0 ⟨rfl,rfl,rfl⟩ -
  refine qa0 hτ rfl rfl rfl ?_
  refine qa4 ?_
  refine qa9 (qa3 [] (l:=[(2,.d (.bool x2))]) (objs:=[]) rfl (by simp) rfl (by trivial) ⟨rfl,trivial,trivial⟩) ?_
  refine qar ?_
  have hr:=Option.some.inj h
  subst hr
  exact qah (.inr rfl) [] (objs':=[]) (new:=[]) rfl (by simp) (by simp) rfl (by trivial) rfl rfl (by trivial) (fun _=>⟨by simp [V.flat,V.qbd,V.qb6,D.flat],qal⟩) ⟨rfl,rfl,rfl⟩
theorem impl_kindOk_ok (n:Nat) (kind_:Int) {r:Bool} (h:qgo n kind_ = some r):qay prog false 67 [.d (.int .i64 kind_)] [] (fun v o new=>v = .d (.bool r)∧o = []∧new = []):=impl_kindOk_ok_fr0 false n kind_ h
def qd4 (n:Nat) (f_:qak):Option Bool :=
  (qck n (f_.qa8.length:Int) (1:Int) (16:Int)).bind fun x58 =>
  some x58
def qcc (n:Nat) (k89:Int→Option Bool) (v73:Int):Option Bool :=
  k89 (w64 (v73 + (1:Int)))
def qbw (n:Nat) (k89:Int→Option Bool) (v73:Int) (v122:Bool):Option Bool :=
  if v122 = true then
    some false
  else
    qcc n k89 v73
def qbi (n:Nat) (k89:Int→Option Bool) (v73:Int) (x105:SBus) (v117:Bool):Option Bool :=
  if v117 = true then
    some false
  else
    if v73 > (0:Int) then
      (qck n x105.qaw (0:Int) (w64 (v73 - (1:Int)))).bind fun x126 =>
      qbw n k89 v73 (!x126)
    else
      qbw n k89 v73 false
def qcd (n:Nat) (k89:Int→Option Bool) (v73:Int) (x105:SBus) (v110:Bool):Option Bool :=
  if v110 = true then
    some false
  else
    if v73 = (0:Int) then
      if x105.qaw = (-1:Int) then
        if (fcmp .eql .f32 x105.Own.re (0:Nat) && fcmp .eql .f32 x105.Own.im (0:Nat)) = true then
          qbi n k89 v73 x105 (!(fcmp .eql .f32 x105.Shared.re (0:Nat) && fcmp .eql .f32 x105.Shared.im (0:Nat)))
        else
          qbi n k89 v73 x105 true
      else
        qbi n k89 v73 x105 true
    else
      qbi n k89 v73 x105 false
def qaq (n:Nat) (f_:qak):Nat→Int→Option Bool
  | 0,_=>none
  | m88 + 1,v73 =>
    if v73 < (f_.qa8.length:Int) then
      (getI f_.qa8 v73).bind fun x105 =>
      (qgo n x105.Kind).bind fun x132 =>
      if x132 = true then
        (qck n x105.qap (0:Int) (1000000:Int)).bind fun x134 =>
        qcd n (qaq n f_ m88) v73 x105 (!x134)
      else
        qcd n (qaq n f_ m88) v73 x105 true
    else
      qd4 n f_
def qbh (n:Nat) (f_:qak):Option Bool :=
  qaq n f_ n (0:Int)
theorem impl_ValidFeeder_ok_fr0 (fr:Bool) (n:Nat) (f_:qak) {r:Bool} (h:qbh n f_ = some r):qay prog fr 13 [.agg [.d (.cx .f32 f_.Source.A.re f_.Source.A.im),.d (.cx .f32 f_.Source.B.re f_.Source.B.im),.d (.cx .f32 f_.Source.C.re f_.Source.C.im),.d (.sl false (f_.qa8.map qae))]] [] (fun v o new=>v = .d (.bool r)∧o = []∧new = []):=by
  refine qai hτ func13 rfl (by simp) (by simp) ?_
  unfold qbh at h
  refine qa7 ?_
  refine qa2 ?_
  refine qaj hτ rfl rfl rfl ?_
  refine qa0 hτ rfl rfl rfl ?_
  refine qa4 ?_
  refine qc0 (ι:=Unit) (fun _=>St.of [(1,.ptr 0 0)] [.box [.d (.cx .f32 f_.Source.A.re f_.Source.A.im),.d (.cx .f32 f_.Source.B.re f_.Source.B.im),.d (.cx .f32 f_.Source.C.re f_.Source.C.im),.d (.sl false (f_.qa8.map qae))]] f13.ntmps 0) (fun _=>qd4 n f_ = some r) ?_ (fun hk59=>?_)
  · rintro ⟨⟩ h
    replace h:qd4 n f_ = some r:=h
    unfold qd4 at h
    refine qa7 ?_
    refine qa2 ?_
    refine qa0 hτ rfl rfl rfl ?_
    refine qa0 hτ rfl rfl rfl ?_
    refine qa0 hτ (v:=.d (.int .i64 (f_.qa8.length:Int))) rfl rfl (Eq.trans rfl (qfb (f:=qae) f_.qa8)) ?_
    refine qab h fun x58 hx58 h=>?_
    refine qad hτ false [] rfl rfl rfl (qaf func58 rfl rfl) rfl rfl (by simp) ⟨trivial,trivial,trivial,trivial⟩ (by trivial) (qfk n (f_.qa8.length:Int) (1:Int) (16:Int) hx58) ?_
    rintro r0 o0 n0 ⟨rfl,rfl,rfl⟩ -
    refine qa0 hτ rfl rfl rfl ?_
    refine qa4 ?_
    refine qa9 (qa3 [] (l:=[(2,.d (.bool x58))]) (objs:=[]) rfl (by simp) rfl (by trivial) ⟨rfl,trivial,trivial⟩) ?_
    refine qar ?_
    have hr:=Option.some.inj h
    subst hr
    exact qah (.inr rfl) [] (objs':=[]) (new:=[]) rfl (by simp) (by simp) rfl (by trivial) rfl rfl (by trivial) (fun _=>⟨by simp [V.flat,V.qbd,V.qb6,D.flat],qal⟩) ⟨rfl,rfl,rfl⟩
  · refine qa7 ?_
    refine qa7 ?_
    refine qa2 ?_
    refine qa0 hτ rfl rfl rfl ?_
    refine qa0 hτ rfl rfl rfl ?_
    refine qa0 hτ (v:=.d (.int .i64 (f_.qa8.length:Int))) rfl rfl (Eq.trans rfl (qfb (f:=qae) f_.qa8)) ?_
    refine qa0 hτ rfl rfl rfl ?_
    refine qa4 ?_
    refine qbo ?_
    refine qgj (ι:=Nat × Int) (fun (m88,v73)=>St.of [(1,.ptr 0 0),(6,.d (.sl false (f_.qa8.map qae))),(7,.d (.int .i64 (f_.qa8.length:Int))),(8,.d (.int .i64 v73))] [.box [.d (.cx .f32 f_.Source.A.re f_.Source.A.im),.d (.cx .f32 f_.Source.B.re f_.Source.B.im),.d (.cx .f32 f_.Source.C.re f_.Source.C.im),.d (.sl false (f_.qa8.map qae))]] f13.ntmps 0) (fun (m88,v73)=>qaq n f_ m88 v73 = some r) (fun x=>x.1) (n,(0:Int)) h (qa3 [0] (l:=[(1,.ptr 0 0),(6,.d (.sl false (f_.qa8.map qae))),(7,.d (.int .i64 (f_.qa8.length:Int))),(8,.d (.int .i64 (0:Int)))]) (objs:=[.box [.d (.cx .f32 f_.Source.A.re f_.Source.A.im),.d (.cx .f32 f_.Source.B.re f_.Source.B.im),.d (.cx .f32 f_.Source.C.re f_.Source.C.im),.d (.sl false (f_.qa8.map qae))]]) rfl (by simp) rfl (by trivial) ⟨rfl,trivial,rfl,trivial,rfl,trivial,rfl,trivial,trivial⟩) ?_
    rintro ⟨m88,v73⟩ h
    replace h:qaq n f_ m88 v73 = some r:=h
    rcases m88 with _ | m88
    · rw [qaq] at h;cases h
    rw [qaq] at h
    refine qa7 ?_
    refine qa2 ?_
    refine qa0 hτ rfl rfl rfl ?_
    refine qa4 ?_
    refine qa7 ?_
    refine qaz rfl (fun hc90=>?_) (fun hc90=>?_)
    · have h:=if_t h hc90
      refine qb4 ?_
      refine qc0 (ι:=Unit) (fun _=>St.of [(1,.ptr 0 0),(6,.d (.sl false (f_.qa8.map qae))),(7,.d (.int .i64 (f_.qa8.length:Int))),(8,.d (.int .i64 v73))] [.box [.d (.cx .f32 f_.Source.A.re f_.Source.A.im),.d (.cx .f32 f_.Source.B.re f_.Source.B.im),.d (.cx .f32 f_.Source.C.re f_.Source.C.im),.d (.sl false (f_.qa8.map qae))]] f13.ntmps 0) (fun _=>qcc n (qaq n f_ m88) v73 = some r) ?_ (fun hk104=>?_)
      · rintro ⟨⟩ h
        replace h:qcc n (qaq n f_ m88) v73 = some r:=h
        unfold qcc at h
        refine qa2 ?_
        refine qa0 hτ rfl rfl rfl ?_
        refine qa0 hτ rfl rfl rfl ?_
        refine qa4 ?_
        exact ⟨(m88,(w64 (v73 + (1:Int)))),h,Nat.lt_succ_self m88,(qa3 [0] (l:=[(1,.ptr 0 0),(6,.d (.sl false (f_.qa8.map qae))),(7,.d (.int .i64 (f_.qa8.length:Int))),(8,.d (.int .i64 (w64 (v73 + (1:Int)))))]) (objs:=[.box [.d (.cx .f32 f_.Source.A.re f_.Source.A.im),.d (.cx .f32 f_.Source.B.re f_.Source.B.im),.d (.cx .f32 f_.Source.C.re f_.Source.C.im),.d (.sl false (f_.qa8.map qae))]]) rfl (by simp) rfl (by trivial) ⟨rfl,trivial,rfl,trivial,rfl,trivial,rfl,trivial,trivial⟩)⟩
      · refine qa7 ?_
        refine qbo ?_
        refine qa7 ?_
        refine qa2 ?_
        refine qa0 hτ rfl rfl rfl ?_
        refine qab h fun x105 hx105 h=>?_
        refine qh0 hτ rfl rfl rfl (qei hx105).1 (qfz hx105) rfl ?_
        refine qa0 hτ rfl rfl rfl ?_
        refine qaj hτ rfl rfl rfl ?_
        refine qa0 hτ rfl rfl rfl ?_
        refine qaj hτ rfl rfl rfl ?_
        refine qa4 ?_
        refine qbo ?_
        refine qc0 (ι:=Bool) (fun v110=>St.of [(1,.ptr 0 0),(3,.d (.int .i64 v73)),(4,.ptr 1 0),(6,.d (.sl false (f_.qa8.map qae))),(7,.d (.int .i64 (f_.qa8.length:Int))),(8,.d (.int .i64 v73)),(13,.d (.bool v110))] [.box [.d (.cx .f32 f_.Source.A.re f_.Source.A.im),.d (.cx .f32 f_.Source.B.re f_.Source.B.im),.d (.cx .f32 f_.Source.C.re f_.Source.C.im),.d (.sl false (f_.qa8.map qae))],.box [.d (.int .i64 x105.qaw),.d (.cx .f32 x105.Own.re x105.Own.im),.d (.cx .f32 x105.Shared.re x105.Shared.im),.d (.int .i64 x105.Kind),.d (.cx .f32 x105.Load.A.re x105.Load.A.im),.d (.cx .f32 x105.Load.B.re x105.Load.B.im),.d (.cx .f32 x105.Load.C.re x105.Load.C.im),.d (.int .i64 x105.qap)]] f13.ntmps 0) (fun v110=>qcd n (qaq n f_ m88) v73 x105 v110 = some r) ?_ (fun hk131=>?_)
        · rintro v110 h
          replace h:qcd n (qaq n f_ m88) v73 x105 v110 = some r:=h
          unfold qcd at h
          refine qaz rfl (fun hc111=>?_) (fun hc111=>?_)
          · have h:=qdl h hc111
            refine qa7 ?_
            refine qa2 ?_
            refine qa0 hτ rfl rfl rfl ?_
            refine qa4 ?_
            refine qa9 (qa3 [] (l:=[(2,.d (.bool false))]) (objs:=[]) rfl (by simp) rfl (by trivial) ⟨rfl,trivial,trivial⟩) ?_
            refine qar ?_
            have hr:=Option.some.inj h
            subst hr
            exact qah (.inr rfl) [] (objs':=[]) (new:=[]) rfl (by simp) (by simp) rfl (by trivial) rfl rfl (by trivial) (fun _=>⟨by simp [V.flat,V.qbd,V.qb6,D.flat],qal⟩) ⟨rfl,rfl,rfl⟩
          · have h:=qdk h hc111
            refine qc0 (ι:=Bool) (fun v117=>St.of [(1,.ptr 0 0),(3,.d (.int .i64 v73)),(4,.ptr 1 0),(6,.d (.sl false (f_.qa8.map qae))),(7,.d (.int .i64 (f_.qa8.length:Int))),(8,.d (.int .i64 v73)),(24,.d (.bool v117))] [.box [.d (.cx .f32 f_.Source.A.re f_.Source.A.im),.d (.cx .f32 f_.Source.B.re f_.Source.B.im),.d (.cx .f32 f_.Source.C.re f_.Source.C.im),.d (.sl false (f_.qa8.map qae))],.box [.d (.int .i64 x105.qaw),.d (.cx .f32 x105.Own.re x105.Own.im),.d (.cx .f32 x105.Shared.re x105.Shared.im),.d (.int .i64 x105.Kind),.d (.cx .f32 x105.Load.A.re x105.Load.A.im),.d (.cx .f32 x105.Load.B.re x105.Load.B.im),.d (.cx .f32 x105.Load.C.re x105.Load.C.im),.d (.int .i64 x105.qap)]] f13.ntmps 0) (fun v117=>qbi n (qaq n f_ m88) v73 x105 v117 = some r) ?_ (fun hk127=>?_)
            · rintro v117 h
              replace h:qbi n (qaq n f_ m88) v73 x105 v117 = some r:=h
              unfold qbi at h
              refine qaz rfl (fun hc118=>?_) (fun hc118=>?_)
              · have h:=qdl h hc118
                refine qa7 ?_
                refine qa2 ?_
                refine qa0 hτ rfl rfl rfl ?_
                refine qa4 ?_
                refine qa9 (qa3 [] (l:=[(2,.d (.bool false))]) (objs:=[]) rfl (by simp) rfl (by trivial) ⟨rfl,trivial,trivial⟩) ?_
                refine qar ?_
                have hr:=Option.some.inj h
                subst hr
                exact qah (.inr rfl) [] (objs':=[]) (new:=[]) rfl (by simp) (by simp) rfl (by trivial) rfl rfl (by trivial) (fun _=>⟨by simp [V.flat,V.qbd,V.qb6,D.flat],qal⟩) ⟨rfl,rfl,rfl⟩
              · have h:=qdk h hc118
                refine qc0 (ι:=Bool) (fun v122=>St.of [(1,.ptr 0 0),(6,.d (.sl false (f_.qa8.map qae))),(7,.d (.int .i64 (f_.qa8.length:Int))),(8,.d (.int .i64 v73)),(42,.d (.bool v122))] [.box [.d (.cx .f32 f_.Source.A.re f_.Source.A.im),.d (.cx .f32 f_.Source.B.re f_.Source.B.im),.d (.cx .f32 f_.Source.C.re f_.Source.C.im),.d (.sl false (f_.qa8.map qae))]] f13.ntmps 0) (fun v122=>qbw n (qaq n f_ m88) v73 v122 = some r) ?_ (fun hk124=>?_)
                · rintro v122 h
                  replace h:qbw n (qaq n f_ m88) v73 v122 = some r:=h
                  unfold qbw at h
                  refine qaz rfl (fun hc123=>?_) (fun hc123=>?_)
                  · have h:=qdl h hc123
                    refine qa7 ?_
                    refine qa2 ?_
                    refine qa0 hτ rfl rfl rfl ?_
                    refine qa4 ?_
                    refine qa9 (qa3 [] (l:=[(2,.d (.bool false))]) (objs:=[]) rfl (by simp) rfl (by trivial) ⟨rfl,trivial,trivial⟩) ?_
                    refine qar ?_
                    have hr:=Option.some.inj h
                    subst hr
                    exact qah (.inr rfl) [] (objs':=[]) (new:=[]) rfl (by simp) (by simp) rfl (by trivial) rfl rfl (by trivial) (fun _=>⟨by simp [V.flat,V.qbd,V.qb6,D.flat],qal⟩) ⟨rfl,rfl,rfl⟩
                  · have h:=qdk h hc123
                    refine qb4 ?_
                    refine qa9 (qa3 [0] (l:=[(1,.ptr 0 0),(6,.d (.sl false (f_.qa8.map qae))),(7,.d (.int .i64 (f_.qa8.length:Int))),(8,.d (.int .i64 v73))]) (objs:=[.box [.d (.cx .f32 f_.Source.A.re f_.Source.A.im),.d (.cx .f32 f_.Source.B.re f_.Source.B.im),.d (.cx .f32 f_.Source.C.re f_.Source.C.im),.d (.sl false (f_.qa8.map qae))]]) rfl (by simp) rfl (by trivial) ⟨rfl,trivial,rfl,trivial,rfl,trivial,rfl,trivial,trivial⟩) ?_
                    exact hk104 () h
                · refine qa7 ?_
                  refine qa2 ?_
                  refine qa0 hτ rfl rfl rfl ?_
                  refine qa0 hτ rfl rfl rfl ?_
                  refine qa0 hτ rfl rfl rfl ?_
                  refine qba 45 rfl (fun hb125=>?_) (fun hb125=>?_)
                  · have h:=if_t h hb125
                    refine qa0 hτ rfl rfl rfl ?_
                    refine qa0 hτ rfl rfl rfl ?_
                    refine qa0 hτ rfl rfl rfl ?_
                    refine qa0 hτ rfl rfl rfl ?_
                    refine qab h fun x126 hx126 h=>?_
                    refine qad hτ false [] rfl rfl rfl (qaf func58 rfl rfl) rfl rfl (by simp) ⟨trivial,trivial,trivial,trivial⟩ (by trivial) (qfk n x105.qaw (0:Int) (w64 (v73 - (1:Int))) hx126) ?_
                    rintro r0 o0 n0 ⟨rfl,rfl,rfl⟩ -
                    refine qa0 hτ rfl rfl rfl ?_
                    refine qa0 hτ rfl rfl rfl ?_
                    refine qa0 hτ rfl rfl rfl ?_
                    refine qa4 ?_
                    refine qa9 (qa3 [0] (l:=[(1,.ptr 0 0),(6,.d (.sl false (f_.qa8.map qae))),(7,.d (.int .i64 (f_.qa8.length:Int))),(8,.d (.int .i64 v73)),(42,.d (.bool (!x126)))]) (objs:=[.box [.d (.cx .f32 f_.Source.A.re f_.Source.A.im),.d (.cx .f32 f_.Source.B.re f_.Source.B.im),.d (.cx .f32 f_.Source.C.re f_.Source.C.im),.d (.sl false (f_.qa8.map qae))]]) rfl (by simp) rfl (by trivial) ⟨rfl,trivial,rfl,trivial,rfl,trivial,rfl,trivial,rfl,trivial,trivial⟩) ?_
                    exact hk124 (!x126) h
                  · have h:=if_f h hb125
                    refine qaa rfl rfl ?_
                    refine qaa rfl rfl ?_
                    refine qaa rfl rfl ?_
                    refine qaa rfl rfl ?_
                    refine qaa rfl rfl ?_
                    refine qaa rfl rfl ?_
                    refine qa0 hτ rfl rfl rfl ?_
                    refine qa0 hτ rfl rfl rfl ?_
                    refine qa4 ?_
                    refine qa9 (qa3 [0] (l:=[(1,.ptr 0 0),(6,.d (.sl false (f_.qa8.map qae))),(7,.d (.int .i64 (f_.qa8.length:Int))),(8,.d (.int .i64 v73)),(42,.d (.bool false))]) (objs:=[.box [.d (.cx .f32 f_.Source.A.re f_.Source.A.im),.d (.cx .f32 f_.Source.B.re f_.Source.B.im),.d (.cx .f32 f_.Source.C.re f_.Source.C.im),.d (.sl false (f_.qa8.map qae))]]) rfl (by simp) rfl (by trivial) ⟨rfl,trivial,rfl,trivial,rfl,trivial,rfl,trivial,rfl,trivial,trivial⟩) ?_
                    exact hk124 false h
            · refine qa7 ?_
              refine qa2 ?_
              refine qa0 hτ rfl rfl rfl ?_
              refine qa0 hτ (v:=.d (.bool (decide (v73 = (0:Int))))) rfl rfl (qj3 _ _) ?_
              refine qa0 hτ rfl rfl rfl ?_
              refine qba 27 rfl (fun hb128=>?_) (fun hb128=>?_)
              · have h:=if_t h hb128
                refine qa0 hτ rfl rfl rfl ?_
                refine qa0 hτ rfl rfl rfl ?_
                refine qa0 hτ (v:=.d (.bool (!(decide (x105.qaw = (-1:Int)))))) rfl rfl (qrf _ _) ?_
                refine qa0 hτ rfl rfl rfl ?_
                refine qba 31 rfl (fun hb129=>?_) (fun hb129=>?_)
                · have hb129:=qil hb129
                  have h:=if_f h hb129
                  refine qaa rfl rfl ?_
                  refine qaa rfl rfl ?_
                  refine qaa rfl rfl ?_
                  refine qa0 hτ rfl rfl rfl ?_
                  refine qa0 hτ rfl rfl rfl ?_
                  refine qb2 (qa3 [0,1] (l:=[(1,.ptr 0 0),(3,.d (.int .i64 v73)),(4,.ptr 1 0),(6,.d (.sl false (f_.qa8.map qae))),(7,.d (.int .i64 (f_.qa8.length:Int))),(8,.d (.int .i64 v73)),(27,.d (.bool true)),(36,.d (.bool true))]) (objs:=[.box [.d (.cx .f32 f_.Source.A.re f_.Source.A.im),.d (.cx .f32 f_.Source.B.re f_.Source.B.im),.d (.cx .f32 f_.Source.C.re f_.Source.C.im),.d (.sl false (f_.qa8.map qae))],.box [.d (.int .i64 x105.qaw),.d (.cx .f32 x105.Own.re x105.Own.im),.d (.cx .f32 x105.Shared.re x105.Shared.im),.d (.int .i64 x105.Kind),.d (.cx .f32 x105.Load.A.re x105.Load.A.im),.d (.cx .f32 x105.Load.B.re x105.Load.B.im),.d (.cx .f32 x105.Load.C.re x105.Load.C.im),.d (.int .i64 x105.qap)]]) rfl (by simp) rfl (by trivial) ⟨rfl,trivial,rfl,trivial,rfl,trivial,rfl,trivial,rfl,trivial,rfl,trivial,rfl,trivial,rfl,trivial,trivial⟩) ?_
                  refine qaa rfl rfl ?_
                  refine qaa rfl rfl ?_
                  refine qaa rfl rfl ?_
                  refine qa0 hτ rfl rfl rfl ?_
                  refine qa0 hτ rfl rfl rfl ?_
                  refine qa0 hτ rfl rfl rfl ?_
                  refine qa4 ?_
                  refine qa9 (qa3 [0,1] (l:=[(1,.ptr 0 0),(3,.d (.int .i64 v73)),(4,.ptr 1 0),(6,.d (.sl false (f_.qa8.map qae))),(7,.d (.int .i64 (f_.qa8.length:Int))),(8,.d (.int .i64 v73)),(24,.d (.bool true))]) (objs:=[.box [.d (.cx .f32 f_.Source.A.re f_.Source.A.im),.d (.cx .f32 f_.Source.B.re f_.Source.B.im),.d (.cx .f32 f_.Source.C.re f_.Source.C.im),.d (.sl false (f_.qa8.map qae))],.box [.d (.int .i64 x105.qaw),.d (.cx .f32 x105.Own.re x105.Own.im),.d (.cx .f32 x105.Shared.re x105.Shared.im),.d (.int .i64 x105.Kind),.d (.cx .f32 x105.Load.A.re x105.Load.A.im),.d (.cx .f32 x105.Load.B.re x105.Load.B.im),.d (.cx .f32 x105.Load.C.re x105.Load.C.im),.d (.int .i64 x105.qap)]]) rfl (by simp) rfl (by trivial) ⟨rfl,trivial,rfl,trivial,rfl,trivial,rfl,trivial,rfl,trivial,rfl,trivial,rfl,trivial,trivial⟩) ?_
                  exact hk127 true h
                · have hb129:=qik hb129
                  have h:=if_t h hb129
                  refine qa0 hτ rfl rfl rfl ?_
                  refine qa0 hτ rfl rfl rfl ?_
                  refine qa0 hτ rfl rfl rfl ?_
                  refine qa0 hτ rfl rfl rfl ?_
                  refine qa0 hτ rfl rfl rfl ?_
                  refine qb2 (qa3 [0,1] (l:=[(1,.ptr 0 0),(3,.d (.int .i64 v73)),(4,.ptr 1 0),(6,.d (.sl false (f_.qa8.map qae))),(7,.d (.int .i64 (f_.qa8.length:Int))),(8,.d (.int .i64 v73)),(27,.d (.bool true)),(36,.d (.bool (!(fcmp .eql .f32 x105.Own.re (0:Nat) && fcmp .eql .f32 x105.Own.im (0:Nat)))))]) (objs:=[.box [.d (.cx .f32 f_.Source.A.re f_.Source.A.im),.d (.cx .f32 f_.Source.B.re f_.Source.B.im),.d (.cx .f32 f_.Source.C.re f_.Source.C.im),.d (.sl false (f_.qa8.map qae))],.box [.d (.int .i64 x105.qaw),.d (.cx .f32 x105.Own.re x105.Own.im),.d (.cx .f32 x105.Shared.re x105.Shared.im),.d (.int .i64 x105.Kind),.d (.cx .f32 x105.Load.A.re x105.Load.A.im),.d (.cx .f32 x105.Load.B.re x105.Load.B.im),.d (.cx .f32 x105.Load.C.re x105.Load.C.im),.d (.int .i64 x105.qap)]]) rfl (by simp) rfl (by trivial) ⟨rfl,trivial,rfl,trivial,rfl,trivial,rfl,trivial,rfl,trivial,rfl,trivial,rfl,trivial,rfl,trivial,trivial⟩) ?_
                  refine qba 36 rfl (fun hb130=>?_) (fun hb130=>?_)
                  · have hb130:=qil hb130
                    have h:=qdk h hb130
                    refine qaa rfl rfl ?_
                    refine qaa rfl rfl ?_
                    refine qaa rfl rfl ?_
                    refine qa0 hτ rfl rfl rfl ?_
                    refine qa0 hτ rfl rfl rfl ?_
                    refine qa0 hτ rfl rfl rfl ?_
                    refine qa4 ?_
                    refine qa9 (qa3 [0,1] (l:=[(1,.ptr 0 0),(3,.d (.int .i64 v73)),(4,.ptr 1 0),(6,.d (.sl false (f_.qa8.map qae))),(7,.d (.int .i64 (f_.qa8.length:Int))),(8,.d (.int .i64 v73)),(24,.d (.bool true))]) (objs:=[.box [.d (.cx .f32 f_.Source.A.re f_.Source.A.im),.d (.cx .f32 f_.Source.B.re f_.Source.B.im),.d (.cx .f32 f_.Source.C.re f_.Source.C.im),.d (.sl false (f_.qa8.map qae))],.box [.d (.int .i64 x105.qaw),.d (.cx .f32 x105.Own.re x105.Own.im),.d (.cx .f32 x105.Shared.re x105.Shared.im),.d (.int .i64 x105.Kind),.d (.cx .f32 x105.Load.A.re x105.Load.A.im),.d (.cx .f32 x105.Load.B.re x105.Load.B.im),.d (.cx .f32 x105.Load.C.re x105.Load.C.im),.d (.int .i64 x105.qap)]]) rfl (by simp) rfl (by trivial) ⟨rfl,trivial,rfl,trivial,rfl,trivial,rfl,trivial,rfl,trivial,rfl,trivial,rfl,trivial,trivial⟩) ?_
                    exact hk127 true h
                  · have hb130:=qik hb130
                    have h:=qdl h hb130
                    refine qa0 hτ rfl rfl rfl ?_
                    refine qa0 hτ rfl rfl rfl ?_
                    refine qa0 hτ rfl rfl rfl ?_
                    refine qa0 hτ rfl rfl rfl ?_
                    refine qa0 hτ rfl rfl rfl ?_
                    refine qa0 hτ rfl rfl rfl ?_
                    refine qa4 ?_
                    refine qa9 (qa3 [0,1] (l:=[(1,.ptr 0 0),(3,.d (.int .i64 v73)),(4,.ptr 1 0),(6,.d (.sl false (f_.qa8.map qae))),(7,.d (.int .i64 (f_.qa8.length:Int))),(8,.d (.int .i64 v73)),(24,.d (.bool (!(fcmp .eql .f32 x105.Shared.re (0:Nat) && fcmp .eql .f32 x105.Shared.im (0:Nat)))))]) (objs:=[.box [.d (.cx .f32 f_.Source.A.re f_.Source.A.im),.d (.cx .f32 f_.Source.B.re f_.Source.B.im),.d (.cx .f32 f_.Source.C.re f_.Source.C.im),.d (.sl false (f_.qa8.map qae))],.box [.d (.int .i64 x105.qaw),.d (.cx .f32 x105.Own.re x105.Own.im),.d (.cx .f32 x105.Shared.re x105.Shared.im),.d (.int .i64 x105.Kind),.d (.cx .f32 x105.Load.A.re x105.Load.A.im),.d (.cx .f32 x105.Load.B.re x105.Load.B.im),.d (.cx .f32 x105.Load.C.re x105.Load.C.im),.d (.int .i64 x105.qap)]]) rfl (by simp) rfl (by trivial) ⟨rfl,trivial,rfl,trivial,rfl,trivial,rfl,trivial,rfl,trivial,rfl,trivial,rfl,trivial,trivial⟩) ?_
                    exact hk127 (!(fcmp .eql .f32 x105.Shared.re (0:Nat) && fcmp .eql .f32 x105.Shared.im (0:Nat))) h
              · have h:=if_f h hb128
                refine qaa rfl rfl ?_
                refine qaa rfl rfl ?_
                refine qaa rfl rfl ?_
                refine qaa rfl rfl ?_
                refine qaa rfl rfl ?_
                refine qaa rfl rfl ?_
                refine qaa rfl rfl ?_
                refine qaa rfl rfl ?_
                refine qaa rfl rfl ?_
                refine qb2 (qa3 [0,1] (l:=[(1,.ptr 0 0),(3,.d (.int .i64 v73)),(4,.ptr 1 0),(6,.d (.sl false (f_.qa8.map qae))),(7,.d (.int .i64 (f_.qa8.length:Int))),(8,.d (.int .i64 v73)),(27,.d (.bool false)),(36,.und)]) (objs:=[.box [.d (.cx .f32 f_.Source.A.re f_.Source.A.im),.d (.cx .f32 f_.Source.B.re f_.Source.B.im),.d (.cx .f32 f_.Source.C.re f_.Source.C.im),.d (.sl false (f_.qa8.map qae))],.box [.d (.int .i64 x105.qaw),.d (.cx .f32 x105.Own.re x105.Own.im),.d (.cx .f32 x105.Shared.re x105.Shared.im),.d (.int .i64 x105.Kind),.d (.cx .f32 x105.Load.A.re x105.Load.A.im),.d (.cx .f32 x105.Load.B.re x105.Load.B.im),.d (.cx .f32 x105.Load.C.re x105.Load.C.im),.d (.int .i64 x105.qap)]]) rfl (by simp) rfl (by trivial) ⟨rfl,trivial,rfl,trivial,rfl,trivial,rfl,trivial,rfl,trivial,rfl,trivial,rfl,trivial,rfl,trivial,trivial⟩) ?_
                refine qaa rfl rfl ?_
                refine qaa rfl rfl ?_
                refine qaa rfl rfl ?_
                refine qaa rfl rfl ?_
                refine qa0 hτ rfl rfl rfl ?_
                refine qa0 hτ rfl rfl rfl ?_
                refine qa4 ?_
                refine qa9 (qa3 [0,1] (l:=[(1,.ptr 0 0),(3,.d (.int .i64 v73)),(4,.ptr 1 0),(6,.d (.sl false (f_.qa8.map qae))),(7,.d (.int .i64 (f_.qa8.length:Int))),(8,.d (.int .i64 v73)),(24,.d (.bool false))]) (objs:=[.box [.d (.cx .f32 f_.Source.A.re f_.Source.A.im),.d (.cx .f32 f_.Source.B.re f_.Source.B.im),.d (.cx .f32 f_.Source.C.re f_.Source.C.im),.d (.sl false (f_.qa8.map qae))],.box [.d (.int .i64 x105.qaw),.d (.cx .f32 x105.Own.re x105.Own.im),.d (.cx .f32 x105.Shared.re x105.Shared.im),.d (.int .i64 x105.Kind),.d (.cx .f32 x105.Load.A.re x105.Load.A.im),.d (.cx .f32 x105.Load.B.re x105.Load.B.im),.d (.cx .f32 x105.Load.C.re x105.Load.C.im),.d (.int .i64 x105.qap)]]) rfl (by simp) rfl (by trivial) ⟨rfl,trivial,rfl,trivial,rfl,trivial,rfl,trivial,rfl,trivial,rfl,trivial,rfl,trivial,trivial⟩) ?_
                exact hk127 false h
        · refine qa7 ?_
          refine qa9 (qa3 [0,1] (l:=[(1,.ptr 0 0),(3,.d (.int .i64 v73)),(4,.ptr 1 0),(6,.d (.sl false (f_.qa8.map qae))),(7,.d (.int .i64 (f_.qa8.length:Int))),(8,.d (.int .i64 v73))]) (objs:=[.box [.d (.cx .f32 f_.Source.A.re f_.Source.A.im),.d (.cx .f32 f_.Source.B.re f_.Source.B.im),.d (.cx .f32 f_.Source.C.re f_.Source.C.im),.d (.sl false (f_.qa8.map qae))],.box [.d (.int .i64 x105.qaw),.d (.cx .f32 x105.Own.re x105.Own.im),.d (.cx .f32 x105.Shared.re x105.Shared.im),.d (.int .i64 x105.Kind),.d (.cx .f32 x105.Load.A.re x105.Load.A.im),.d (.cx .f32 x105.Load.B.re x105.Load.B.im),.d (.cx .f32 x105.Load.C.re x105.Load.C.im),.d (.int .i64 x105.qap)]]) rfl (by simp) rfl (by trivial) ⟨rfl,trivial,rfl,trivial,rfl,trivial,rfl,trivial,rfl,trivial,rfl,trivial,trivial⟩) ?_
          refine qa2 ?_
          refine qa0 hτ rfl rfl rfl ?_
          refine qa0 hτ rfl rfl rfl ?_
          refine qab h fun x132 hx132 h=>?_
          refine qad hτ false [] rfl rfl rfl (qaf func67 rfl rfl) rfl rfl (by simp) ⟨trivial,trivial⟩ (by trivial) (impl_kindOk_ok n x105.Kind hx132) ?_
          rintro r0 o0 n0 ⟨rfl,rfl,rfl⟩ -
          refine qa0 hτ rfl rfl rfl ?_
          refine qa0 hτ rfl rfl rfl ?_
          refine qba 18 rfl (fun hb133=>?_) (fun hb133=>?_)
          · have hb133:=qil hb133
            have h:=qdk h hb133
            refine qaa rfl rfl ?_
            refine qaa rfl rfl ?_
            refine qaa rfl rfl ?_
            refine qaa rfl rfl ?_
            refine qa0 hτ rfl rfl rfl ?_
            refine qa0 hτ rfl rfl rfl ?_
            refine qa4 ?_
            refine qa9 (qa3 [0,1] (l:=[(1,.ptr 0 0),(3,.d (.int .i64 v73)),(4,.ptr 1 0),(6,.d (.sl false (f_.qa8.map qae))),(7,.d (.int .i64 (f_.qa8.length:Int))),(8,.d (.int .i64 v73)),(13,.d (.bool true))]) (objs:=[.box [.d (.cx .f32 f_.Source.A.re f_.Source.A.im),.d (.cx .f32 f_.Source.B.re f_.Source.B.im),.d (.cx .f32 f_.Source.C.re f_.Source.C.im),.d (.sl false (f_.qa8.map qae))],.box [.d (.int .i64 x105.qaw),.d (.cx .f32 x105.Own.re x105.Own.im),.d (.cx .f32 x105.Shared.re x105.Shared.im),.d (.int .i64 x105.Kind),.d (.cx .f32 x105.Load.A.re x105.Load.A.im),.d (.cx .f32 x105.Load.B.re x105.Load.B.im),.d (.cx .f32 x105.Load.C.re x105.Load.C.im),.d (.int .i64 x105.qap)]]) rfl (by simp) rfl (by trivial) ⟨rfl,trivial,rfl,trivial,rfl,trivial,rfl,trivial,rfl,trivial,rfl,trivial,rfl,trivial,trivial⟩) ?_
            exact hk131 true h
          · have hb133:=qik hb133
            have h:=qdl h hb133
            refine qa0 hτ rfl rfl rfl ?_
            refine qa0 hτ rfl rfl rfl ?_
            refine qab h fun x134 hx134 h=>?_
            refine qad hτ false [] rfl rfl rfl (qaf func58 rfl rfl) rfl rfl (by simp) ⟨trivial,trivial,trivial,trivial⟩ (by trivial) (qfk n x105.qap (0:Int) (1000000:Int) hx134) ?_
            rintro r0 o0 n0 ⟨rfl,rfl,rfl⟩ -
            refine qa0 hτ rfl rfl rfl ?_
            refine qa0 hτ rfl rfl rfl ?_
            refine qa0 hτ rfl rfl rfl ?_
            refine qa4 ?_
            refine qa9 (qa3 [0,1] (l:=[(1,.ptr 0 0),(3,.d (.int .i64 v73)),(4,.ptr 1 0),(6,.d (.sl false (f_.qa8.map qae))),(7,.d (.int .i64 (f_.qa8.length:Int))),(8,.d (.int .i64 v73)),(13,.d (.bool (!x134)))]) (objs:=[.box [.d (.cx .f32 f_.Source.A.re f_.Source.A.im),.d (.cx .f32 f_.Source.B.re f_.Source.B.im),.d (.cx .f32 f_.Source.C.re f_.Source.C.im),.d (.sl false (f_.qa8.map qae))],.box [.d (.int .i64 x105.qaw),.d (.cx .f32 x105.Own.re x105.Own.im),.d (.cx .f32 x105.Shared.re x105.Shared.im),.d (.int .i64 x105.Kind),.d (.cx .f32 x105.Load.A.re x105.Load.A.im),.d (.cx .f32 x105.Load.B.re x105.Load.B.im),.d (.cx .f32 x105.Load.C.re x105.Load.C.im),.d (.int .i64 x105.qap)]]) rfl (by simp) rfl (by trivial) ⟨rfl,trivial,rfl,trivial,rfl,trivial,rfl,trivial,rfl,trivial,rfl,trivial,rfl,trivial,trivial⟩) ?_
            exact hk131 (!x134) h
    · have h:=if_f h hc90
      refine qgi ?_
      refine qa9 (qa3 [0] (l:=[(1,.ptr 0 0)]) (objs:=[.box [.d (.cx .f32 f_.Source.A.re f_.Source.A.im),.d (.cx .f32 f_.Source.B.re f_.Source.B.im),.d (.cx .f32 f_.Source.C.re f_.Source.C.im),.d (.sl false (f_.qa8.map qae))]]) rfl (by simp) rfl (by trivial) ⟨rfl,trivial,trivial⟩) ?_
      exact hk59 () h
theorem qcr (n:Nat) (f_:qak) {r:Bool} (h:qbh n f_ = some r):qay prog false 13 [.agg [.d (.cx .f32 f_.Source.A.re f_.Source.A.im),.d (.cx .f32 f_.Source.B.re f_.Source.B.im),.d (.cx .f32 f_.Source.C.re f_.Source.C.im),.d (.sl false (f_.qa8.map qae))]] [] (fun v o new=>v = .d (.bool r)∧o = []∧new = []):=impl_ValidFeeder_ok_fr0 false n f_ h
def qds (n:Nat) (f_:qak) (bus_:Int):Option Bool :=
  (qbh n f_).bind fun x5 =>
  if x5 = true then
    (qck n bus_ (0:Int) (w64 ((f_.qa8.length:Int) - (1:Int)))).bind fun x7 =>
    some x7
  else
    some false
theorem qic (n:Nat) (f_:qak) (bus_:Int) {r:Bool} (h:qds n f_ bus_ = some r):qay prog false 57 [.ptr 0 0,.d (.int .i64 bus_)] [.box [.d (.cx .f32 f_.Source.A.re f_.Source.A.im),.d (.cx .f32 f_.Source.B.re f_.Source.B.im),.d (.cx .f32 f_.Source.C.re f_.Source.C.im),.d (.sl false (f_.qa8.map qae))]] (fun v o new=>v = .d (.bool r)∧o = [.box [.d (.cx .f32 f_.Source.A.re f_.Source.A.im),.d (.cx .f32 f_.Source.B.re f_.Source.B.im),.d (.cx .f32 f_.Source.C.re f_.Source.C.im),.d (.sl false (f_.qa8.map qae))]]∧new = []):=by
  refine qai hτ func57 rfl (by simp) (by simp) ?_
  unfold qds at h
  refine qa7 ?_
  refine qa2 ?_
  refine qa0 hτ rfl rfl rfl ?_
  refine qa4 ?_
  refine qa7 ?_
  refine qa2 ?_
  refine qa0 hτ rfl rfl rfl ?_
  refine qa0 hτ rfl rfl rfl ?_
  refine qa0 hτ rfl rfl rfl ?_
  refine qab h fun x5 hx5 h=>?_
  refine qad hτ false [] rfl rfl rfl (qaf func13 rfl rfl) rfl rfl (by simp) ⟨(by trivial),trivial⟩ (by trivial) (qcr n f_ hx5) ?_
  rintro r0 o0 n0 ⟨rfl,rfl,rfl⟩ -
  refine qa0 hτ rfl rfl rfl ?_
  refine qba 9 rfl (fun hb6=>?_) (fun hb6=>?_)
  · have h:=qdl h hb6
    refine qa0 hτ rfl rfl rfl ?_
    refine qa0 hτ rfl rfl rfl ?_
    refine qa0 hτ rfl rfl rfl ?_
    refine qa0 hτ rfl rfl rfl ?_
    refine qa0 hτ rfl rfl rfl ?_
    refine qa0 hτ (v:=.d (.int .i64 (f_.qa8.length:Int))) rfl rfl (Eq.trans rfl (qfb (f:=qae) f_.qa8)) ?_
    refine qb2 (qa3 [0] (l:=[(9,.d (.bool true)),(10,.d (.int .i64 bus_)),(15,.d (.int .i64 (f_.qa8.length:Int)))]) (objs:=[.box [.d (.cx .f32 f_.Source.A.re f_.Source.A.im),.d (.cx .f32 f_.Source.B.re f_.Source.B.im),.d (.cx .f32 f_.Source.C.re f_.Source.C.im),.d (.sl false (f_.qa8.map qae))]]) rfl (by simp) rfl (by trivial) ⟨rfl,trivial,rfl,trivial,rfl,trivial,trivial⟩) ?_
    refine qa0 hτ rfl rfl rfl ?_
    refine qab h fun x7 hx7 h=>?_
    refine qad hτ false [] rfl rfl rfl (qaf func58 rfl rfl) rfl rfl (by simp) ⟨trivial,trivial,trivial,trivial⟩ (by trivial) (qfk n bus_ (0:Int) (w64 ((f_.qa8.length:Int) - (1:Int))) hx7) ?_
    rintro r0 o0 n0 ⟨rfl,rfl,rfl⟩ -
    refine qa0 hτ rfl rfl rfl ?_
    refine qa0 hτ rfl rfl rfl ?_
    refine qa4 ?_
    refine qa9 (qa3 [0] (l:=[(4,.d (.bool x7))]) (objs:=[.box [.d (.cx .f32 f_.Source.A.re f_.Source.A.im),.d (.cx .f32 f_.Source.B.re f_.Source.B.im),.d (.cx .f32 f_.Source.C.re f_.Source.C.im),.d (.sl false (f_.qa8.map qae))]]) rfl (by simp) rfl (by trivial) ⟨rfl,trivial,trivial⟩) ?_
    refine qar ?_
    have hr:=Option.some.inj h
    subst hr
    exact qah (.inr rfl) [] (objs':=[.box [.d (.cx .f32 f_.Source.A.re f_.Source.A.im),.d (.cx .f32 f_.Source.B.re f_.Source.B.im),.d (.cx .f32 f_.Source.C.re f_.Source.C.im),.d (.sl false (f_.qa8.map qae))]]) (new:=[]) rfl (by simp) (by simp) rfl (by trivial) rfl rfl (by trivial) (fun h=>nomatch h) ⟨rfl,rfl,rfl⟩
  · have h:=qdk h hb6
    refine qaa rfl rfl ?_
    refine qaa rfl rfl ?_
    refine qaa rfl rfl ?_
    refine qaa rfl rfl ?_
    refine qaa rfl rfl ?_
    refine qaa rfl rfl ?_
    refine qb2 (qa3 [0] (l:=[(9,.d (.bool false)),(10,.und),(15,.und)]) (objs:=[.box [.d (.cx .f32 f_.Source.A.re f_.Source.A.im),.d (.cx .f32 f_.Source.B.re f_.Source.B.im),.d (.cx .f32 f_.Source.C.re f_.Source.C.im),.d (.sl false (f_.qa8.map qae))]]) rfl (by simp) rfl (by trivial) ⟨rfl,trivial,rfl,trivial,rfl,trivial,trivial⟩) ?_
    refine qaa rfl rfl ?_
    refine qaa rfl rfl ?_
    refine qa0 hτ rfl rfl rfl ?_
    refine qa0 hτ rfl rfl rfl ?_
    refine qa4 ?_
    refine qa9 (qa3 [0] (l:=[(4,.d (.bool false))]) (objs:=[.box [.d (.cx .f32 f_.Source.A.re f_.Source.A.im),.d (.cx .f32 f_.Source.B.re f_.Source.B.im),.d (.cx .f32 f_.Source.C.re f_.Source.C.im),.d (.sl false (f_.qa8.map qae))]]) rfl (by simp) rfl (by trivial) ⟨rfl,trivial,trivial⟩) ?_
    refine qar ?_
    have hr:=Option.some.inj h
    subst hr
    exact qah (.inr rfl) [] (objs':=[.box [.d (.cx .f32 f_.Source.A.re f_.Source.A.im),.d (.cx .f32 f_.Source.B.re f_.Source.B.im),.d (.cx .f32 f_.Source.C.re f_.Source.C.im),.d (.sl false (f_.qa8.map qae))]]) (new:=[]) rfl (by simp) (by simp) rfl (by trivial) rfl rfl (by trivial) (fun h=>nomatch h) ⟨rfl,rfl,rfl⟩
def qel (n:Nat) (x_:Nat):Option Bool :=
  some (fcmp .eql .f32 (qa1 .sub .f32 x_ x_) (0:Nat))
theorem impl_IsFinite_ok_fr0 (fr:Bool) (n:Nat) (x_:Nat) {r:Bool} (h:qel n x_ = some r):qay prog fr 63 [.d (.fl .f32 x_)] [] (fun v o new=>v = .d (.bool r)∧o = []∧new = []):=by
  refine qai hτ func63 rfl (by simp) (by simp) ?_
  unfold qel at h
  refine qa7 ?_
  refine qa2 ?_
  refine qa0 hτ rfl rfl rfl ?_
  refine qa4 ?_
  refine qa7 ?_
  refine qa2 ?_
  refine qa0 hτ rfl rfl rfl ?_
  refine qa0 hτ rfl rfl rfl ?_
  refine qa0 hτ rfl rfl rfl ?_
  refine qa0 hτ rfl rfl rfl ?_
  refine qa0 hτ rfl rfl rfl ?_
  refine qa4 ?_
  refine qa9 (qa3 [] (l:=[(2,.d (.bool (fcmp .eql .f32 (qa1 .sub .f32 x_ x_) (0:Nat))))]) (objs:=[]) rfl (by simp) rfl (by trivial) ⟨rfl,trivial,trivial⟩) ?_
  refine qar ?_
  have hr:=Option.some.inj h
  subst hr
  exact qah (.inr rfl) [] (objs':=[]) (new:=[]) rfl (by simp) (by simp) rfl (by trivial) rfl rfl (by trivial) (fun _=>⟨by simp [V.flat,V.qbd,V.qb6,D.flat],qal⟩) ⟨rfl,rfl,rfl⟩
theorem impl_IsFinite_ok (n:Nat) (x_:Nat) {r:Bool} (h:qel n x_ = some r):qay prog false 63 [.d (.fl .f32 x_)] [] (fun v o new=>v = .d (.bool r)∧o = []∧new = []):=impl_IsFinite_ok_fr0 false n x_ h
def qfv (n:Nat) (s_:List SBus):Option (List SBus) :=
  grd (room (([]:List SBus).length + s_.length) 64) <|
  some (([]:List SBus) ++ s_)
theorem slices_Clone_ok_fr0 (fr:Bool) (n:Nat) (s_:List SBus) {r:List SBus} (h:qfv n s_ = some r):qay prog fr 115 [.d (.sl false (s_.map qae))] [] (fun v o new=>v = .row 0 r.length 0 r.length∧o = []∧new = [.row 8 (r.map qae)]):=by
  refine qai hτ func115 rfl (by simp) (by simp) ?_
  unfold qfv at h
  refine qa7 ?_
  refine qa2 ?_
  refine qa0 hτ rfl rfl rfl ?_
  refine qa4 ?_
  refine qa7 ?_
  refine qa7 ?_
  refine qa2 ?_
  refine qa0 hτ rfl rfl rfl ?_
  refine qo7 rfl rfl (qrp hτ rfl rfl rfl rfl rfl) fun q4 hq4=>?_
  refine qa4 ?_
  refine qaz rfl (fun hc5=>?_) (fun hc5=>?_)
  · have hl:=List.map_eq_nil_iff.1 (hq4 (by simpa using hc5))
    subst hl
    replace h:(some ([]:List SBus)) = some r:=by simpa [grd,room] using h
    refine qa7 ?_
    refine qa2 ?_
    refine qa0 hτ rfl rfl rfl ?_
    refine qa4 ?_
    refine qa9 (qa3 [] (l:=[(2,.d (.nils))]) (objs:=[]) rfl (by simp) rfl (by trivial) ⟨rfl,trivial,trivial⟩) ?_
    refine qa9 (qhq [8] (l':=[(2,.row 0 (([]:List SBus).length) 0 (([]:List SBus).length))]) (objs':=[]) (.cons (.c (.ghost ⟨Nat.le_of_ble_eq_true rfl,Nat.le_of_ble_eq_true rfl⟩)) .nil) .nil) ?_
    refine qar ?_
    have hr:=Option.some.inj h
    subst hr
    exact qah (.inr rfl) [0] (objs':=[]) (new:=[.row 8 (([]:List SBus).map qae)]) rfl (by simp) (by simp) rfl (by trivial) rfl rfl (by trivial) (fun _=>⟨by simp [V.flat,V.qbd,V.qb6,D.flat],(qd1 (qh2 qjb _) qal)⟩) ⟨rfl,rfl,rfl⟩
  · refine qb4 ?_
    refine qa7 ?_
    refine qa2 ?_
    refine qaj hτ rfl rfl rfl ?_
    refine qa0 hτ rfl rfl rfl ?_
    refine qcq h fun hg6 h=>?_
    refine qhs hτ rfl rfl (Eq.trans rfl (or_append (f:=qae) ([]:List SBus) s_ rfl)) ⟨trivial,qbu _,rfl,rfl,(qqc (f:=qae) hg6),by decide,(ql1 (f:=qae) (fun _=>rfl) _)⟩ ?_
    refine qa0 hτ rfl rfl rfl ?_
    refine qa4 ?_
    refine qa9 (qa3 [0] (l:=[(2,.row 0 ((([]:List SBus) ++ s_).length) 0 ((([]:List SBus) ++ s_).length))]) (objs:=[.row 8 ((([]:List SBus) ++ s_).map qae)]) rfl (by simp) rfl (by trivial) ⟨rfl,trivial,trivial⟩) ?_
    refine qar ?_
    have hr:=Option.some.inj h
    subst hr
    exact qah (.inr rfl) [0] (objs':=[]) (new:=[.row 8 ((([]:List SBus) ++ s_).map qae)]) rfl (by simp) (by simp) rfl (by trivial) rfl rfl (by trivial) (fun _=>⟨by simp [V.flat,V.qbd,V.qb6,D.flat],(qd1 (qh2 qjb _) qal)⟩) ⟨rfl,rfl,rfl⟩
theorem slices_Clone_ok (n:Nat) (s_:List SBus) {r:List SBus} (h:qfv n s_ = some r):qay prog false 115 [.d (.sl false (s_.map qae))] [] (fun v o new=>v = .row 0 r.length 0 r.length∧o = []∧new = [.row 8 (r.map qae)]):=slices_Clone_ok_fr0 false n s_ h
def qdd (n:Nat) (f_:qak):Option qak :=
  (qfv n f_.qa8).bind fun x2 =>
  some (qak.mk f_.Source x2)
theorem impl_cloneFeeder_ok_fr0 (fr:Bool) (n:Nat) (f_:qak) {r:qak} (h:qdd n f_ = some r):qay prog fr 64 [.agg [.d (.cx .f32 f_.Source.A.re f_.Source.A.im),.d (.cx .f32 f_.Source.B.re f_.Source.B.im),.d (.cx .f32 f_.Source.C.re f_.Source.C.im),.d (.sl false (f_.qa8.map qae))]] [] (fun v o new=>v = .agg [.d (.cx .f32 r.Source.A.re r.Source.A.im),.d (.cx .f32 r.Source.B.re r.Source.B.im),.d (.cx .f32 r.Source.C.re r.Source.C.im),.row 0 r.qa8.length 0 r.qa8.length]∧o = []∧new = [.row 8 (r.qa8.map qae)]):=by
  refine qai hτ func64 rfl (by simp) (by simp) ?_
  unfold qdd at h
  refine qa7 ?_
  refine qa2 ?_
  refine qaj hτ rfl rfl rfl ?_
  refine qaj hτ rfl rfl rfl ?_
  refine qa4 ?_
  refine qa7 ?_
  refine qdj ?_
  refine qac hτ [0] 0 rfl rfl rfl rfl rfl ?_
  refine qac hτ [0] 1 rfl rfl rfl rfl rfl ?_
  refine qac hτ [0] 2 rfl rfl rfl rfl rfl ?_
  refine qac hτ [0] 3 rfl rfl rfl rfl rfl ?_
  refine qab h fun x2 hx2 h=>?_
  refine qb8 hτ false [] [0,1] 4 rfl rfl rfl rfl (qaf func115 rfl rfl) rfl rfl (by simp) ⟨trivial,trivial⟩ (by trivial) (slices_Clone_ok n f_.qa8 hx2) ⟨rfl,rfl,trivial⟩ ?_
  refine qac hτ [] 5 rfl rfl rfl rfl rfl ?_
  refine qbs hτ [0,2] 6 rfl rfl rfl rfl ⟨rfl,rfl,trivial⟩ ?_
  refine qe1 mixed (by kernel_rfl) ?_
  refine qa9 (qa3 [1,2] (l:=[(2,.ptr 0 0)]) (objs:=[.box [.d (.cx .f32 f_.Source.A.re f_.Source.A.im),.d (.cx .f32 f_.Source.B.re f_.Source.B.im),.d (.cx .f32 f_.Source.C.re f_.Source.C.im),.row 1 x2.length 0 x2.length],.row 8 (x2.map qae)]) rfl (by simp) rfl (by trivial) ⟨rfl,trivial,trivial⟩) ?_
  refine qar ?_
  have hr:=Option.some.inj h
  subst hr
  exact qah (.inr rfl) [1] (objs':=[]) (new:=[.row 8 (x2.map qae)]) rfl (by simp) (by simp) rfl (by trivial) rfl rfl (by trivial) (fun _=>⟨by simp [V.flat,V.qbd,V.qb6,D.flat],(qd1 (qh2 qjb _) qal)⟩) ⟨rfl,rfl,rfl⟩
theorem impl_cloneFeeder_ok (n:Nat) (f_:qak) {r:qak} (h:qdd n f_ = some r):qay prog false 64 [.agg [.d (.cx .f32 f_.Source.A.re f_.Source.A.im),.d (.cx .f32 f_.Source.B.re f_.Source.B.im),.d (.cx .f32 f_.Source.C.re f_.Source.C.im),.d (.sl false (f_.qa8.map qae))]] [] (fun v o new=>v = .agg [.d (.cx .f32 r.Source.A.re r.Source.A.im),.d (.cx .f32 r.Source.B.re r.Source.B.im),.d (.cx .f32 r.Source.C.re r.Source.C.im),.row 0 r.qa8.length 0 r.qa8.length]∧o = []∧new = [.row 8 (r.qa8.map qae)]):=impl_cloneFeeder_ok_fr0 false n f_ h
def qeg (n:Nat) (x_:Cx):Option (Nat × Nat) :=
  (qhg .f32 .f64 x_.re).bind fun x3 =>
  (qhg .f32 .f64 x_.im).bind fun x4 =>
  some (x3,x4)
theorem impl_wide_ok_fr0 (fr:Bool) (n:Nat) (x_:Cx) {r:Nat × Nat} (h:qeg n x_ = some r):qay prog fr 109 [.d (.cx .f32 x_.re x_.im)] [] (fun v o new=>v = .tup [.d (.fl .f64 r.1),.d (.fl .f64 r.2)]∧o = []∧new = []):=by
  refine qai hτ func109 rfl (by simp) (by simp) ?_
  unfold qeg at h
  refine qa7 ?_
  refine qa2 ?_
  refine qa0 hτ rfl rfl rfl ?_
  refine qa0 hτ rfl rfl rfl ?_
  refine qa4 ?_
  refine qa7 ?_
  refine qa2 ?_
  refine qa0 hτ rfl rfl rfl ?_
  refine qa0 hτ rfl rfl rfl ?_
  refine qab h fun x3 hx3 h=>?_
  refine qa0 hτ (v:=.d (.fl .f64 x3)) rfl rfl (qh1 hx3) ?_
  refine qa0 hτ rfl rfl rfl ?_
  refine qa0 hτ rfl rfl rfl ?_
  refine qab h fun x4 hx4 h=>?_
  refine qa0 hτ (v:=.d (.fl .f64 x4)) rfl rfl (qh1 hx4) ?_
  refine qa0 hτ rfl rfl rfl ?_
  refine qa0 hτ rfl rfl rfl ?_
  refine qa4 ?_
  refine qa9 (qa3 [] (l:=[(2,.d (.fl .f64 x3)),(3,.d (.fl .f64 x4))]) (objs:=[]) rfl (by simp) rfl (by trivial) ⟨rfl,trivial,rfl,trivial,trivial⟩) ?_
  refine qar ?_
  have hr:=Option.some.inj h
  subst hr
  exact qah (.inr rfl) [] (objs':=[]) (new:=[]) rfl (by simp) (by simp) rfl (by trivial) rfl rfl (by trivial) (fun _=>⟨by simp [V.flat,V.qbd,V.qb6,D.flat],qal⟩) ⟨rfl,rfl,rfl⟩
theorem qhc (n:Nat) (x_:Cx) {r:Nat × Nat} (h:qeg n x_ = some r):qay prog false 109 [.d (.cx .f32 x_.re x_.im)] [] (fun v o new=>v = .tup [.d (.fl .f64 r.1),.d (.fl .f64 r.2)]∧o = []∧new = []):=impl_wide_ok_fr0 false n x_ h
def qci (n:Nat) (x_:Cx):Option Cx :=
  some (Cx.mk x_.re (fneg .f32 x_.im))
theorem impl_ConjugateOf_ok_fr0 (fr:Bool) (n:Nat) (x_:Cx) {r:Cx} (h:qci n x_ = some r):qay prog fr 116 [.d (.cx .f32 x_.re x_.im)] [] (fun v o new=>v = .d (.cx .f32 r.re r.im)∧o = []∧new = []):=by
  refine qai hτ func116 rfl (by simp) (by simp) ?_
  unfold qci at h
  refine qa7 ?_
  refine qa2 ?_
  refine qa0 hτ rfl rfl rfl ?_
  refine qa4 ?_
  refine qa7 ?_
  refine qa2 ?_
  refine qa0 hτ rfl rfl rfl ?_
  refine qa0 hτ rfl rfl rfl ?_
  refine qa0 hτ rfl rfl rfl ?_
  refine qa0 hτ rfl rfl rfl ?_
  refine qa0 hτ rfl rfl rfl ?_
  refine qa0 hτ rfl rfl rfl ?_
  refine qa0 hτ rfl rfl rfl ?_
  refine qa4 ?_
  refine qa9 (qa3 [] (l:=[(2,.d (.cx .f32 x_.re (fneg .f32 x_.im)))]) (objs:=[]) rfl (by simp) rfl (by trivial) ⟨rfl,trivial,trivial⟩) ?_
  refine qar ?_
  have hr:=Option.some.inj h
  subst hr
  exact qah (.inr rfl) [] (objs':=[]) (new:=[]) rfl (by simp) (by simp) rfl (by trivial) rfl rfl (by trivial) (fun _=>⟨by simp [V.flat,V.qbd,V.qb6,D.flat],qal⟩) ⟨rfl,rfl,rfl⟩
theorem qhy (n:Nat) (x_:Cx) {r:Cx} (h:qci n x_ = some r):qay prog false 116 [.d (.cx .f32 x_.re x_.im)] [] (fun v o new=>v = .d (.cx .f32 r.re r.im)∧o = []∧new = []):=impl_ConjugateOf_ok_fr0 false n x_ h
def qff (n:Nat) (x_:Cx):Option Nat :=
  (qeg n x_).bind fun x2 =>
  some (qa1 .add .f64 (qa1 .mul .f64 x2.1 x2.1) (qa1 .mul .f64 x2.2 x2.2))
theorem impl_power_ok_fr0 (fr:Bool) (n:Nat) (x_:Cx) {r:Nat} (h:qff n x_ = some r):qay prog fr 117 [.d (.cx .f32 x_.re x_.im)] [] (fun v o new=>v = .d (.fl .f64 r)∧o = []∧new = []):=by
  refine qai hτ func117 rfl (by simp) (by simp) ?_
  unfold qff at h
  refine qa7 ?_
  refine qa2 ?_
  refine qa0 hτ rfl rfl rfl ?_
  refine qa4 ?_
  refine qa7 ?_
  refine qa2 ?_
  refine qa0 hτ rfl rfl rfl ?_
  refine qab h fun x2 hx2 h=>?_
  refine qad hτ false [] rfl rfl rfl (qaf func109 rfl rfl) rfl rfl (by simp) ⟨trivial,trivial⟩ (by trivial) (qhc n x_ hx2) ?_
  rintro r0 o0 n0 ⟨rfl,rfl,rfl⟩ -
  refine qa0 hτ rfl rfl rfl ?_
  refine qa0 hτ rfl rfl rfl ?_
  refine qa0 hτ rfl rfl rfl ?_
  refine qa0 hτ rfl rfl rfl ?_
  refine qa0 hτ rfl rfl rfl ?_
  refine qa4 ?_
  refine qa7 ?_
  refine qa9 (qa3 [] (l:=[(3,.d (.fl .f64 x2.1)),(4,.d (.fl .f64 x2.2))]) (objs:=[]) rfl (by simp) rfl (by trivial) ⟨rfl,trivial,rfl,trivial,trivial⟩) ?_
  refine qa2 ?_
  refine qa0 hτ rfl rfl rfl ?_
  refine qa0 hτ rfl rfl rfl ?_
  refine qa0 hτ rfl rfl rfl ?_
  refine qa0 hτ rfl rfl rfl ?_
  refine qa0 hτ rfl rfl rfl ?_
  refine qa0 hτ rfl rfl rfl ?_
  refine qa0 hτ rfl rfl rfl ?_
  refine qa0 hτ rfl rfl rfl ?_
  refine qa4 ?_
  refine qa9 (qa3 [] (l:=[(2,.d (.fl .f64 (qa1 .add .f64 (qa1 .mul .f64 x2.1 x2.1) (qa1 .mul .f64 x2.2 x2.2))))]) (objs:=[]) rfl (by simp) rfl (by trivial) ⟨rfl,trivial,trivial⟩) ?_
  refine qar ?_
  have hr:=Option.some.inj h
  subst hr
  exact qah (.inr rfl) [] (objs':=[]) (new:=[]) rfl (by simp) (by simp) rfl (by trivial) rfl rfl (by trivial) (fun _=>⟨by simp [V.flat,V.qbd,V.qb6,D.flat],qal⟩) ⟨rfl,rfl,rfl⟩
theorem qk0 (n:Nat) (x_:Cx) {r:Nat} (h:qff n x_ = some r):qay prog false 117 [.d (.cx .f32 x_.re x_.im)] [] (fun v o new=>v = .d (.fl .f64 r)∧o = []∧new = []):=impl_power_ok_fr0 false n x_ h
def qbe (n:Nat) (x_:Cx) (y_:Cx):Option Cx :=
  (qeg n x_).bind fun x7 =>
  (qci n y_).bind fun x8 =>
  (qeg n x8).bind fun x9 =>
  (qff n y_).bind fun x10 =>
  (qhg .f64 .f32 (qa1 .quo .f64 (qa1 .sub .f64 (qa1 .mul .f64 x7.1 x9.1) (qa1 .mul .f64 x7.2 x9.2)) x10)).bind fun x11 =>
  (qhg .f64 .f32 (qa1 .quo .f64 (qa1 .add .f64 (qa1 .mul .f64 x7.1 x9.2) (qa1 .mul .f64 x7.2 x9.1)) x10)).bind fun x12 =>
  some (Cx.mk x11 x12)
theorem impl_QuotientOf_ok_fr0 (fr:Bool) (n:Nat) (x_:Cx) (y_:Cx) {r:Cx} (h:qbe n x_ y_ = some r):qay prog fr 65 [.d (.cx .f32 x_.re x_.im),.d (.cx .f32 y_.re y_.im)] [] (fun v o new=>v = .d (.cx .f32 r.re r.im)∧o = []∧new = []):=by
  refine qai hτ func65 rfl (by simp) (by simp) ?_
  unfold qbe at h
  refine qa7 ?_
  refine qa2 ?_
  refine qa0 hτ rfl rfl rfl ?_
  refine qa4 ?_
  refine qa7 ?_
  refine qa2 ?_
  refine qa0 hτ rfl rfl rfl ?_
  refine qab h fun x7 hx7 h=>?_
  refine qad hτ false [] rfl rfl rfl (qaf func109 rfl rfl) rfl rfl (by simp) ⟨trivial,trivial⟩ (by trivial) (qhc n x_ hx7) ?_
  rintro r0 o0 n0 ⟨rfl,rfl,rfl⟩ -
  refine qa0 hτ rfl rfl rfl ?_
  refine qa0 hτ rfl rfl rfl ?_
  refine qa0 hτ rfl rfl rfl ?_
  refine qa0 hτ rfl rfl rfl ?_
  refine qa0 hτ rfl rfl rfl ?_
  refine qa4 ?_
  refine qa7 ?_
  refine qa9 (qa3 [] (l:=[(1,.d (.cx .f32 y_.re y_.im)),(5,.d (.fl .f64 x7.1)),(6,.d (.fl .f64 x7.2))]) (objs:=[]) rfl (by simp) rfl (by trivial) ⟨rfl,trivial,rfl,trivial,rfl,trivial,trivial⟩) ?_
  refine qa2 ?_
  refine qa0 hτ rfl rfl rfl ?_
  refine qab h fun x8 hx8 h=>?_
  refine qad hτ false [] rfl rfl rfl (qaf func116 rfl rfl) rfl rfl (by simp) ⟨trivial,trivial⟩ (by trivial) (qhy n y_ hx8) ?_
  rintro r0 o0 n0 ⟨rfl,rfl,rfl⟩ -
  refine qab h fun x9 hx9 h=>?_
  refine qad hτ false [] rfl rfl rfl (qaf func109 rfl rfl) rfl rfl (by simp) ⟨trivial,trivial⟩ (by trivial) (qhc n x8 hx9) ?_
  rintro r0 o0 n0 ⟨rfl,rfl,rfl⟩ -
  refine qa0 hτ rfl rfl rfl ?_
  refine qa0 hτ rfl rfl rfl ?_
  refine qa0 hτ rfl rfl rfl ?_
  refine qa0 hτ rfl rfl rfl ?_
  refine qa0 hτ rfl rfl rfl ?_
  refine qa4 ?_
  refine qa7 ?_
  refine qa9 (qa3 [] (l:=[(1,.d (.cx .f32 y_.re y_.im)),(5,.d (.fl .f64 x7.1)),(6,.d (.fl .f64 x7.2)),(7,.d (.fl .f64 x9.1)),(8,.d (.fl .f64 x9.2))]) (objs:=[]) rfl (by simp) rfl (by trivial) ⟨rfl,trivial,rfl,trivial,rfl,trivial,rfl,trivial,rfl,trivial,trivial⟩) ?_
  refine qa2 ?_
  refine qa0 hτ rfl rfl rfl ?_
  refine qab h fun x10 hx10 h=>?_
  refine qad hτ false [] rfl rfl rfl (qaf func117 rfl rfl) rfl rfl (by simp) ⟨trivial,trivial⟩ (by trivial) (qk0 n y_ hx10) ?_
  rintro r0 o0 n0 ⟨rfl,rfl,rfl⟩ -
  refine qa0 hτ rfl rfl rfl ?_
  refine qa4 ?_
  refine qa7 ?_
  refine qa2 ?_
  refine qa0 hτ rfl rfl rfl ?_
  refine qa0 hτ rfl rfl rfl ?_
  refine qa0 hτ rfl rfl rfl ?_
  refine qa0 hτ rfl rfl rfl ?_
  refine qa0 hτ rfl rfl rfl ?_
  refine qa0 hτ rfl rfl rfl ?_
  refine qa0 hτ rfl rfl rfl ?_
  refine qa0 hτ rfl rfl rfl ?_
  refine qa0 hτ rfl rfl rfl ?_
  refine qb2 (qa3 [] (l:=[(6,.d (.fl .f64 x7.2)),(7,.d (.fl .f64 x9.1)),(9,.d (.fl .f64 x10)),(31,.d (.fl .f64 (qa1 .sub .f64 (qa1 .mul .f64 x7.1 x9.1) (qa1 .mul .f64 x7.2 x9.2)))),(32,.d (.fl .f64 x7.1)),(33,.d (.fl .f64 x9.2))]) (objs:=[]) rfl (by simp) rfl (by trivial) ⟨rfl,trivial,rfl,trivial,rfl,trivial,rfl,trivial,rfl,trivial,rfl,trivial,trivial⟩) ?_
  refine qa0 hτ rfl rfl rfl ?_
  refine qa0 hτ rfl rfl rfl ?_
  refine qa0 hτ rfl rfl rfl ?_
  refine qa0 hτ rfl rfl rfl ?_
  refine qa0 hτ rfl rfl rfl ?_
  refine qa0 hτ rfl rfl rfl ?_
  refine qa0 hτ rfl rfl rfl ?_
  refine qa4 ?_
  refine qa7 ?_
  refine qa9 (qa3 [] (l:=[(9,.d (.fl .f64 x10)),(10,.d (.fl .f64 (qa1 .sub .f64 (qa1 .mul .f64 x7.1 x9.1) (qa1 .mul .f64 x7.2 x9.2)))),(11,.d (.fl .f64 (qa1 .add .f64 (qa1 .mul .f64 x7.1 x9.2) (qa1 .mul .f64 x7.2 x9.1))))]) (objs:=[]) rfl (by simp) rfl (by trivial) ⟨rfl,trivial,rfl,trivial,rfl,trivial,trivial⟩) ?_
  refine qa2 ?_
  refine qa0 hτ rfl rfl rfl ?_
  refine qa0 hτ rfl rfl rfl ?_
  refine qa0 hτ rfl rfl rfl ?_
  refine qab h fun x11 hx11 h=>?_
  refine qa0 hτ (v:=.d (.fl .f32 x11)) rfl rfl (qh1 hx11) ?_
  refine qa0 hτ rfl rfl rfl ?_
  refine qa0 hτ rfl rfl rfl ?_
  refine qa0 hτ rfl rfl rfl ?_
  refine qab h fun x12 hx12 h=>?_
  refine qa0 hτ (v:=.d (.fl .f32 x12)) rfl rfl (qh1 hx12) ?_
  refine qa0 hτ rfl rfl rfl ?_
  refine qa0 hτ rfl rfl rfl ?_
  refine qa4 ?_
  refine qa9 (qa3 [] (l:=[(4,.d (.cx .f32 x11 x12))]) (objs:=[]) rfl (by simp) rfl (by trivial) ⟨rfl,trivial,trivial⟩) ?_
  refine qar ?_
  have hr:=Option.some.inj h
  subst hr
  exact qah (.inr rfl) [] (objs':=[]) (new:=[]) rfl (by simp) (by simp) rfl (by trivial) rfl rfl (by trivial) (fun _=>⟨by simp [V.flat,V.qbd,V.qb6,D.flat],qal⟩) ⟨rfl,rfl,rfl⟩
theorem qgm (n:Nat) (x_:Cx) (y_:Cx) {r:Cx} (h:qbe n x_ y_ = some r):qay prog false 65 [.d (.cx .f32 x_.re x_.im),.d (.cx .f32 y_.re y_.im)] [] (fun v o new=>v = .d (.cx .f32 r.re r.im)∧o = []∧new = []):=impl_QuotientOf_ok_fr0 false n x_ y_ h
def qgx (n:Nat) (f_:qak):Option (qak × Bool) :=
  (qbh n f_).bind fun x3 =>
  if x3 = true then
    some (f_,true)
  else
    some ((qak.mk (qa5.mk (Cx.mk (0:Nat) (0:Nat)) (Cx.mk (0:Nat) (0:Nat)) (Cx.mk (0:Nat) (0:Nat))) ([]:List SBus)),false)
theorem impl_told_ok (n:Nat) (f_:qak) {r:qak × Bool} (h:qgx n f_ = some r):qay prog false 66 [.agg [.d (.cx .f32 f_.Source.A.re f_.Source.A.im),.d (.cx .f32 f_.Source.B.re f_.Source.B.im),.d (.cx .f32 f_.Source.C.re f_.Source.C.im),.d (.sl false (f_.qa8.map qae))]] [] (fun v o new=>v = .tup [.agg [.d (.cx .f32 r.1.Source.A.re r.1.Source.A.im),.d (.cx .f32 r.1.Source.B.re r.1.Source.B.im),.d (.cx .f32 r.1.Source.C.re r.1.Source.C.im),.d (.sl false (r.1.qa8.map qae))],.d (.bool r.2)]∧o = []∧new = []):=by
  refine qai hτ func66 rfl (by simp) (by simp) ?_
  unfold qgx at h
  refine qa7 ?_
  refine qa2 ?_
  refine qaj hτ rfl rfl rfl ?_
  refine qaj hτ rfl rfl rfl ?_
  refine qa0 hτ rfl rfl rfl ?_
  refine qa4 ?_
  refine qa7 ?_
  refine qa7 ?_
  refine qa2 ?_
  refine qa0 hτ rfl rfl rfl ?_
  refine qab h fun x3 hx3 h=>?_
  refine qad hτ false [] rfl rfl rfl (qaf func13 rfl rfl) rfl rfl (by simp) ⟨(by trivial),trivial⟩ (by trivial) (qcr n f_ hx3) ?_
  rintro r0 o0 n0 ⟨rfl,rfl,rfl⟩ -
  refine qa0 hτ rfl rfl rfl ?_
  refine qa4 ?_
  refine qa9 (qa3 [0,1] (l:=[(1,.ptr 0 0),(2,.ptr 1 0),(6,.d (.bool (!x3)))]) (objs:=[.box [.d (.cx .f32 f_.Source.A.re f_.Source.A.im),.d (.cx .f32 f_.Source.B.re f_.Source.B.im),.d (.cx .f32 f_.Source.C.re f_.Source.C.im),.d (.sl false (f_.qa8.map qae))],.box [.d (.cx .f32 (0:Nat) (0:Nat)),.d (.cx .f32 (0:Nat) (0:Nat)),.d (.cx .f32 (0:Nat) (0:Nat)),.d (.nils)]]) rfl (by simp) rfl (by trivial) ⟨rfl,trivial,rfl,trivial,rfl,trivial,trivial⟩) ?_
  refine qaz rfl (fun hc4=>?_) (fun hc4=>?_)
  · have hc4:=qil hc4
    have h:=qdk h hc4
    refine qa7 ?_
    refine qa2 ?_
    refine qa0 hτ rfl rfl rfl ?_
    refine qaj hτ rfl rfl rfl ?_
    refine qa0 hτ rfl rfl rfl ?_
    refine qa4 ?_
    refine qa9 (qa3 [1] (l:=[(2,.ptr 0 0),(3,.d (.bool false))]) (objs:=[.box [.d (.cx .f32 (0:Nat) (0:Nat)),.d (.cx .f32 (0:Nat) (0:Nat)),.d (.cx .f32 (0:Nat) (0:Nat)),.d (.nils)]]) rfl (by simp) rfl (by trivial) ⟨rfl,trivial,rfl,trivial,trivial⟩) ?_
    refine qa9 (qhq [] (l':=[(2,.ptr 0 0),(3,.d (.bool false))]) (objs':=[.box [.d (.cx .f32 (0:Nat) (0:Nat)),.d (.cx .f32 (0:Nat) (0:Nat)),.d (.cx .f32 (0:Nat) (0:Nat)),.d (.sl false (([]:List SBus).map qae))]]) (.cons (.c (.refl _)) (.cons (.c (.refl _)) .nil)) (.cons (.box (.cons (.refl _) (.cons (.refl _) (.cons (.refl _) (.cons (.d .nil) .nil))))) .nil)) ?_
    refine qar ?_
    have hr:=Option.some.inj h
    subst hr
    exact qah (.inr rfl) [] (objs':=[]) (new:=[]) rfl (by simp) (by simp) rfl (by trivial) rfl rfl (by trivial) (fun h=>nomatch h) ⟨rfl,rfl,rfl⟩
  · have hc4:=qik hc4
    have h:=qdl h hc4
    refine qb4 ?_
    refine qa7 ?_
    refine qa2 ?_
    refine qa0 hτ rfl rfl rfl ?_
    refine qaj hτ rfl rfl rfl ?_
    refine qa0 hτ rfl rfl rfl ?_
    refine qa4 ?_
    refine qa9 (qa3 [1] (l:=[(2,.ptr 0 0),(3,.d (.bool true))]) (objs:=[.box [.d (.cx .f32 f_.Source.A.re f_.Source.A.im),.d (.cx .f32 f_.Source.B.re f_.Source.B.im),.d (.cx .f32 f_.Source.C.re f_.Source.C.im),.d (.sl false (f_.qa8.map qae))]]) rfl (by simp) rfl (by trivial) ⟨rfl,trivial,rfl,trivial,trivial⟩) ?_
    refine qar ?_
    have hr:=Option.some.inj h
    subst hr
    exact qah (.inr rfl) [] (objs':=[]) (new:=[]) rfl (by simp) (by simp) rfl (by trivial) rfl rfl (by trivial) (fun h=>nomatch h) ⟨rfl,rfl,rfl⟩
def qej (n:Nat) (f_:qak) (bus_:Int) (size_:Nat):Option (qak × Bool) :=
  (qdd n f_).bind fun x15 =>
  (qbe n (Cx.mk (1065353216:Nat) (0:Nat)) (Cx.mk (0:Nat) size_)).bind fun x16 =>
  grd (room (x15.qa8.length + 1) 64) <|
  (qgx n (qak.mk x15.Source (x15.qa8 ++ [(SBus.mk bus_ (Cx.mk (0:Nat) (0:Nat)) (Cx.mk (0:Nat) (0:Nat)) (2:Int) (qa5.mk x16 x16 x16) (0:Int))]))).bind fun x18 =>
  some (x18.1,x18.2)
def qcs (n:Nat) (f_:qak) (bus_:Int) (size_:Nat) (v25:Bool):Option (qak × Bool) :=
  if v25 = true then
    some ((qak.mk (qa5.mk (Cx.mk (0:Nat) (0:Nat)) (Cx.mk (0:Nat) (0:Nat)) (Cx.mk (0:Nat) (0:Nat))) ([]:List SBus)),false)
  else
    qej n f_ bus_ size_
def qdp (n:Nat) (f_:qak) (bus_:Int) (size_:Nat):Option (qak × Bool) :=
  (qds n f_ bus_).bind fun x28 =>
  if x28 = true then
    (qel n size_).bind fun x30 =>
    if x30 = true then
      qcs n f_ bus_ size_ (fcmp .eql .f32 size_ (0:Nat))
    else
      qcs n f_ bus_ size_ true
  else
    qcs n f_ bus_ size_ true
theorem qhx (n:Nat) (f_:qak) (bus_:Int) (size_:Nat) {r:qak × Bool} (h:qdp n f_ bus_ size_ = some r):qay prog false 12 [.agg [.d (.cx .f32 f_.Source.A.re f_.Source.A.im),.d (.cx .f32 f_.Source.B.re f_.Source.B.im),.d (.cx .f32 f_.Source.C.re f_.Source.C.im),.d (.sl false (f_.qa8.map qae))],.d (.int .i64 bus_),.d (.fl .f32 size_)] [] (fun v o new=>v = .tup [.agg [.d (.cx .f32 r.1.Source.A.re r.1.Source.A.im),.d (.cx .f32 r.1.Source.B.re r.1.Source.B.im),.d (.cx .f32 r.1.Source.C.re r.1.Source.C.im),.d (.sl false (r.1.qa8.map qae))],.d (.bool r.2)]∧o = []∧new = []):=by
  refine qai hτ func12 rfl (by simp) (by simp) ?_
  unfold qdp at h
  refine qa7 ?_
  refine qa2 ?_
  refine qaj hτ rfl rfl rfl ?_
  refine qaj hτ rfl rfl rfl ?_
  refine qa0 hτ rfl rfl rfl ?_
  refine qa4 ?_
  refine qc0 (ι:=Unit) (fun _=>St.of [(1,.d (.int .i64 bus_)),(2,.d (.fl .f32 size_)),(3,.ptr 0 0),(6,.ptr 1 0)] [.box [.d (.cx .f32 f_.Source.A.re f_.Source.A.im),.d (.cx .f32 f_.Source.B.re f_.Source.B.im),.d (.cx .f32 f_.Source.C.re f_.Source.C.im),.d (.sl false (f_.qa8.map qae))],.box [.d (.cx .f32 (0:Nat) (0:Nat)),.d (.cx .f32 (0:Nat) (0:Nat)),.d (.cx .f32 (0:Nat) (0:Nat)),.d (.nils)]] f12.ntmps 0) (fun _=>qej n f_ bus_ size_ = some r) ?_ (fun hk19=>?_)
  · rintro ⟨⟩ h
    replace h:qej n f_ bus_ size_ = some r:=h
    unfold qej at h
    refine qa7 ?_
    refine qa2 ?_
    refine qa0 hτ rfl rfl rfl ?_
    refine qab h fun x15 hx15 h=>?_
    refine qad hτ false [] rfl rfl rfl (qaf func64 rfl rfl) rfl rfl (by simp) ⟨(by trivial),trivial⟩ (by trivial) (impl_cloneFeeder_ok n f_ hx15) ?_
    rintro r0 o0 n0 ⟨rfl,rfl,rfl⟩ -
    refine qa0 hτ rfl rfl rfl ?_
    refine qa0 hτ rfl rfl rfl ?_
    refine qab h fun x16 hx16 h=>?_
    refine qad hτ false [] rfl rfl rfl (qaf func65 rfl rfl) rfl rfl (by simp) ⟨trivial,trivial,trivial⟩ (by trivial) (qgm n (Cx.mk (1065353216:Nat) (0:Nat)) (Cx.mk (0:Nat) size_) hx16) ?_
    rintro r0 o0 n0 ⟨rfl,rfl,rfl⟩ -
    refine qaj hτ rfl rfl rfl ?_
    refine qaj hτ rfl rfl rfl ?_
    refine qa0 hτ rfl rfl rfl ?_
    refine qa4 ?_
    refine qa7 ?_
    refine qa9 (qa3 [1,3,2] (l:=[(1,.d (.int .i64 bus_)),(6,.ptr 0 0),(8,.ptr 1 0),(9,.d (.cx .f32 x16.re x16.im))]) (objs:=[.box [.d (.cx .f32 (0:Nat) (0:Nat)),.d (.cx .f32 (0:Nat) (0:Nat)),.d (.cx .f32 (0:Nat) (0:Nat)),.d (.nils)],.box [.d (.cx .f32 x15.Source.A.re x15.Source.A.im),.d (.cx .f32 x15.Source.B.re x15.Source.B.im),.d (.cx .f32 x15.Source.C.re x15.Source.C.im),.row 2 x15.qa8.length 0 x15.qa8.length],.row 8 (x15.qa8.map qae)]) rfl (by simp) rfl (by trivial) ⟨rfl,trivial,rfl,trivial,rfl,trivial,rfl,trivial,trivial⟩) ?_
    refine qa2 ?_
    refine qa0 hτ rfl rfl rfl ?_
    refine qa0 hτ rfl rfl rfl ?_
    refine qa0 hτ rfl rfl rfl ?_
    refine qa0 hτ rfl rfl rfl ?_
    refine qa0 hτ rfl rfl rfl ?_
    refine qa0 hτ rfl rfl rfl ?_
    refine qa0 hτ rfl rfl rfl ?_
    refine qa0 hτ rfl rfl rfl ?_
    refine qaj hτ rfl rfl rfl ?_
    refine qcq h fun hg17 h=>?_
    refine qhs hτ rfl rfl (Eq.trans rfl (or_append (f:=qae) x15.qa8 [(SBus.mk bus_ (Cx.mk (0:Nat) (0:Nat)) (Cx.mk (0:Nat) (0:Nat)) (2:Int) (qa5.mk x16 x16 x16) (0:Int))] rfl)) ⟨⟨rfl,Nat.le_of_ble_eq_true rfl⟩,qbu _,rfl,rfl,hg17,by decide,(all1 rfl)⟩ ?_
    refine qa0 hτ rfl rfl rfl ?_
    refine qaj hτ rfl rfl rfl ?_
    refine qa4 ?_
    refine qa7 ?_
    refine qa9 (qa3 [0,1,2] (l:=[(6,.ptr 0 0),(8,.ptr 1 0)]) (objs:=[.box [.d (.cx .f32 (0:Nat) (0:Nat)),.d (.cx .f32 (0:Nat) (0:Nat)),.d (.cx .f32 (0:Nat) (0:Nat)),.d (.nils)],.box [.d (.cx .f32 x15.Source.A.re x15.Source.A.im),.d (.cx .f32 x15.Source.B.re x15.Source.B.im),.d (.cx .f32 x15.Source.C.re x15.Source.C.im),.row 2 ((x15.qa8 ++ [(SBus.mk bus_ (Cx.mk (0:Nat) (0:Nat)) (Cx.mk (0:Nat) (0:Nat)) (2:Int) (qa5.mk x16 x16 x16) (0:Int))]).length) 0 ((x15.qa8 ++ [(SBus.mk bus_ (Cx.mk (0:Nat) (0:Nat)) (Cx.mk (0:Nat) (0:Nat)) (2:Int) (qa5.mk x16 x16 x16) (0:Int))]).length)],.row 8 ((x15.qa8 ++ [(SBus.mk bus_ (Cx.mk (0:Nat) (0:Nat)) (Cx.mk (0:Nat) (0:Nat)) (2:Int) (qa5.mk x16 x16 x16) (0:Int))]).map qae)]) rfl (by simp) rfl (by trivial) ⟨rfl,trivial,rfl,trivial,trivial⟩) ?_
    refine qa2 ?_
    refine qa0 hτ rfl rfl rfl ?_
    refine qb2 (qa3 [0] (l:=[(6,.ptr 0 0),(39,.agg [.d (.cx .f32 x15.Source.A.re x15.Source.A.im),.d (.cx .f32 x15.Source.B.re x15.Source.B.im),.d (.cx .f32 x15.Source.C.re x15.Source.C.im),.d (.sl false ((x15.qa8 ++ [(SBus.mk bus_ (Cx.mk (0:Nat) (0:Nat)) (Cx.mk (0:Nat) (0:Nat)) (2:Int) (qa5.mk x16 x16 x16) (0:Int))]).map qae))])]) (objs:=[.box [.d (.cx .f32 (0:Nat) (0:Nat)),.d (.cx .f32 (0:Nat) (0:Nat)),.d (.cx .f32 (0:Nat) (0:Nat)),.d (.nils)]]) rfl (by simp) rfl (by trivial) ⟨rfl,trivial,(qpa (qax rfl (qax rfl (qax rfl (qax (qit (f:=qae) (j:=2) (sz:=8) (x15.qa8 ++ [(SBus.mk bus_ (Cx.mk (0:Nat) (0:Nat)) (Cx.mk (0:Nat) (0:Nat)) (2:Int) (qa5.mk x16 x16 x16) (0:Int))]) rfl rfl rfl) qfp))))),⟨trivial,trivial,trivial,(qiu (f:=qae) (j:=2) (sz:=8) (x15.qa8 ++ [(SBus.mk bus_ (Cx.mk (0:Nat) (0:Nat)) (Cx.mk (0:Nat) (0:Nat)) (2:Int) (qa5.mk x16 x16 x16) (0:Int))]) rfl rfl rfl)⟩,trivial⟩) ?_
    refine qab h fun x18 hx18 h=>?_
    refine qad hτ false [] rfl rfl rfl (qaf func66 rfl rfl) rfl rfl (by simp) ⟨(by trivial),trivial⟩ (by trivial) (impl_told_ok n (qak.mk x15.Source (x15.qa8 ++ [(SBus.mk bus_ (Cx.mk (0:Nat) (0:Nat)) (Cx.mk (0:Nat) (0:Nat)) (2:Int) (qa5.mk x16 x16 x16) (0:Int))])) hx18) ?_
    rintro r0 o0 n0 ⟨rfl,rfl,rfl⟩ -
    refine qa0 hτ rfl rfl rfl ?_
    refine qa0 hτ rfl rfl rfl ?_
    refine qaj hτ rfl rfl rfl ?_
    refine qa0 hτ rfl rfl rfl ?_
    refine qa4 ?_
    refine qa9 (qa3 [0] (l:=[(6,.ptr 0 0),(7,.d (.bool x18.2))]) (objs:=[.box [.d (.cx .f32 x18.1.Source.A.re x18.1.Source.A.im),.d (.cx .f32 x18.1.Source.B.re x18.1.Source.B.im),.d (.cx .f32 x18.1.Source.C.re x18.1.Source.C.im),.d (.sl false (x18.1.qa8.map qae))]]) rfl (by simp) rfl (by trivial) ⟨rfl,trivial,rfl,trivial,trivial⟩) ?_
    refine qar ?_
    have hr:=Option.some.inj h
    subst hr
    exact qah (.inr rfl) [] (objs':=[]) (new:=[]) rfl (by simp) (by simp) rfl (by trivial) rfl rfl (by trivial) (fun h=>nomatch h) ⟨rfl,rfl,rfl⟩
  · refine qa7 ?_
    refine qc0 (ι:=Bool) (fun v25=>St.of [(1,.d (.int .i64 bus_)),(2,.d (.fl .f32 size_)),(3,.ptr 0 0),(6,.ptr 1 0),(21,.d (.bool v25))] [.box [.d (.cx .f32 f_.Source.A.re f_.Source.A.im),.d (.cx .f32 f_.Source.B.re f_.Source.B.im),.d (.cx .f32 f_.Source.C.re f_.Source.C.im),.d (.sl false (f_.qa8.map qae))],.box [.d (.cx .f32 (0:Nat) (0:Nat)),.d (.cx .f32 (0:Nat) (0:Nat)),.d (.cx .f32 (0:Nat) (0:Nat)),.d (.nils)]] f12.ntmps 0) (fun v25=>qcs n f_ bus_ size_ v25 = some r) ?_ (fun hk27=>?_)
    · rintro v25 h
      replace h:qcs n f_ bus_ size_ v25 = some r:=h
      unfold qcs at h
      refine qaz rfl (fun hc26=>?_) (fun hc26=>?_)
      · have h:=qdl h hc26
        refine qa7 ?_
        refine qa2 ?_
        refine qa0 hτ rfl rfl rfl ?_
        refine qaj hτ rfl rfl rfl ?_
        refine qa0 hτ rfl rfl rfl ?_
        refine qa4 ?_
        refine qa9 (qa3 [1] (l:=[(6,.ptr 0 0),(7,.d (.bool false))]) (objs:=[.box [.d (.cx .f32 (0:Nat) (0:Nat)),.d (.cx .f32 (0:Nat) (0:Nat)),.d (.cx .f32 (0:Nat) (0:Nat)),.d (.nils)]]) rfl (by simp) rfl (by trivial) ⟨rfl,trivial,rfl,trivial,trivial⟩) ?_
        refine qa9 (qhq [] (l':=[(6,.ptr 0 0),(7,.d (.bool false))]) (objs':=[.box [.d (.cx .f32 (0:Nat) (0:Nat)),.d (.cx .f32 (0:Nat) (0:Nat)),.d (.cx .f32 (0:Nat) (0:Nat)),.d (.sl false (([]:List SBus).map qae))]]) (.cons (.c (.refl _)) (.cons (.c (.refl _)) .nil)) (.cons (.box (.cons (.refl _) (.cons (.refl _) (.cons (.refl _) (.cons (.d .nil) .nil))))) .nil)) ?_
        refine qar ?_
        have hr:=Option.some.inj h
        subst hr
        exact qah (.inr rfl) [] (objs':=[]) (new:=[]) rfl (by simp) (by simp) rfl (by trivial) rfl rfl (by trivial) (fun h=>nomatch h) ⟨rfl,rfl,rfl⟩
      · have h:=qdk h hc26
        refine qb4 ?_
        refine qa9 (qa3 [0,1] (l:=[(1,.d (.int .i64 bus_)),(2,.d (.fl .f32 size_)),(3,.ptr 0 0),(6,.ptr 1 0)]) (objs:=[.box [.d (.cx .f32 f_.Source.A.re f_.Source.A.im),.d (.cx .f32 f_.Source.B.re f_.Source.B.im),.d (.cx .f32 f_.Source.C.re f_.Source.C.im),.d (.sl false (f_.qa8.map qae))],.box [.d (.cx .f32 (0:Nat) (0:Nat)),.d (.cx .f32 (0:Nat) (0:Nat)),.d (.cx .f32 (0:Nat) (0:Nat)),.d (.nils)]]) rfl (by simp) rfl (by trivial) ⟨rfl,trivial,rfl,trivial,rfl,trivial,rfl,trivial,trivial⟩) ?_
        exact hk19 () h
    · refine qa7 ?_
      refine qa2 ?_
      refine qa0 hτ rfl rfl rfl ?_
      refine qab h fun x28 hx28 h=>?_
      refine qad hτ false [0] rfl rfl rfl (qaf func57 rfl rfl) rfl rfl (by simp) ⟨trivial,trivial,trivial⟩ (by trivial) (qic n f_ bus_ hx28) ?_
      rintro r0 o0 n0 ⟨rfl,rfl,rfl⟩ -
      refine qa0 hτ rfl rfl rfl ?_
      refine qa0 hτ rfl rfl rfl ?_
      refine qba 13 rfl (fun hb29=>?_) (fun hb29=>?_)
      · have hb29:=qil hb29
        have h:=qdk h hb29
        refine qaa rfl rfl ?_
        refine qaa rfl rfl ?_
        refine qaa rfl rfl ?_
        refine qa0 hτ rfl rfl rfl ?_
        refine qa0 hτ rfl rfl rfl ?_
        refine qb2 (qa3 [0,1] (l:=[(1,.d (.int .i64 bus_)),(2,.d (.fl .f32 size_)),(3,.ptr 0 0),(6,.ptr 1 0),(18,.d (.bool true))]) (objs:=[.box [.d (.cx .f32 f_.Source.A.re f_.Source.A.im),.d (.cx .f32 f_.Source.B.re f_.Source.B.im),.d (.cx .f32 f_.Source.C.re f_.Source.C.im),.d (.sl false (f_.qa8.map qae))],.box [.d (.cx .f32 (0:Nat) (0:Nat)),.d (.cx .f32 (0:Nat) (0:Nat)),.d (.cx .f32 (0:Nat) (0:Nat)),.d (.nils)]]) rfl (by simp) rfl (by trivial) ⟨rfl,trivial,rfl,trivial,rfl,trivial,rfl,trivial,rfl,trivial,trivial⟩) ?_
        refine qaa rfl rfl ?_
        refine qaa rfl rfl ?_
        refine qa0 hτ rfl rfl rfl ?_
        refine qa4 ?_
        refine qa9 (qa3 [0,1] (l:=[(1,.d (.int .i64 bus_)),(2,.d (.fl .f32 size_)),(3,.ptr 0 0),(6,.ptr 1 0),(21,.d (.bool true))]) (objs:=[.box [.d (.cx .f32 f_.Source.A.re f_.Source.A.im),.d (.cx .f32 f_.Source.B.re f_.Source.B.im),.d (.cx .f32 f_.Source.C.re f_.Source.C.im),.d (.sl false (f_.qa8.map qae))],.box [.d (.cx .f32 (0:Nat) (0:Nat)),.d (.cx .f32 (0:Nat) (0:Nat)),.d (.cx .f32 (0:Nat) (0:Nat)),.d (.nils)]]) rfl (by simp) rfl (by trivial) ⟨rfl,trivial,rfl,trivial,rfl,trivial,rfl,trivial,rfl,trivial,trivial⟩) ?_
        exact hk27 true h
      · have hb29:=qik hb29
        have h:=qdl h hb29
        refine qa0 hτ rfl rfl rfl ?_
        refine qab h fun x30 hx30 h=>?_
        refine qad hτ false [] rfl rfl rfl (qaf func63 rfl rfl) rfl rfl (by simp) ⟨trivial,trivial⟩ (by trivial) (impl_IsFinite_ok n size_ hx30) ?_
        rintro r0 o0 n0 ⟨rfl,rfl,rfl⟩ -
        refine qa0 hτ rfl rfl rfl ?_
        refine qa0 hτ rfl rfl rfl ?_
        refine qa0 hτ rfl rfl rfl ?_
        refine qb2 (qa3 [0,1] (l:=[(1,.d (.int .i64 bus_)),(2,.d (.fl .f32 size_)),(3,.ptr 0 0),(6,.ptr 1 0),(18,.d (.bool (!x30)))]) (objs:=[.box [.d (.cx .f32 f_.Source.A.re f_.Source.A.im),.d (.cx .f32 f_.Source.B.re f_.Source.B.im),.d (.cx .f32 f_.Source.C.re f_.Source.C.im),.d (.sl false (f_.qa8.map qae))],.box [.d (.cx .f32 (0:Nat) (0:Nat)),.d (.cx .f32 (0:Nat) (0:Nat)),.d (.cx .f32 (0:Nat) (0:Nat)),.d (.nils)]]) rfl (by simp) rfl (by trivial) ⟨rfl,trivial,rfl,trivial,rfl,trivial,rfl,trivial,rfl,trivial,trivial⟩) ?_
        refine qba 18 rfl (fun hb31=>?_) (fun hb31=>?_)
        · have hb31:=qil hb31
          have h:=qdk h hb31
          refine qaa rfl rfl ?_
          refine qaa rfl rfl ?_
          refine qa0 hτ rfl rfl rfl ?_
          refine qa4 ?_
          refine qa9 (qa3 [0,1] (l:=[(1,.d (.int .i64 bus_)),(2,.d (.fl .f32 size_)),(3,.ptr 0 0),(6,.ptr 1 0),(21,.d (.bool true))]) (objs:=[.box [.d (.cx .f32 f_.Source.A.re f_.Source.A.im),.d (.cx .f32 f_.Source.B.re f_.Source.B.im),.d (.cx .f32 f_.Source.C.re f_.Source.C.im),.d (.sl false (f_.qa8.map qae))],.box [.d (.cx .f32 (0:Nat) (0:Nat)),.d (.cx .f32 (0:Nat) (0:Nat)),.d (.cx .f32 (0:Nat) (0:Nat)),.d (.nils)]]) rfl (by simp) rfl (by trivial) ⟨rfl,trivial,rfl,trivial,rfl,trivial,rfl,trivial,rfl,trivial,trivial⟩) ?_
          exact hk27 true h
        · have hb31:=qik hb31
          have h:=qdl h hb31
          refine qa0 hτ rfl rfl rfl ?_
          refine qa0 hτ rfl rfl rfl ?_
          refine qa0 hτ rfl rfl rfl ?_
          refine qa4 ?_
          refine qa9 (qa3 [0,1] (l:=[(1,.d (.int .i64 bus_)),(2,.d (.fl .f32 size_)),(3,.ptr 0 0),(6,.ptr 1 0),(21,.d (.bool (fcmp .eql .f32 size_ (0:Nat))))]) (objs:=[.box [.d (.cx .f32 f_.Source.A.re f_.Source.A.im),.d (.cx .f32 f_.Source.B.re f_.Source.B.im),.d (.cx .f32 f_.Source.C.re f_.Source.C.im),.d (.sl false (f_.qa8.map qae))],.box [.d (.cx .f32 (0:Nat) (0:Nat)),.d (.cx .f32 (0:Nat) (0:Nat)),.d (.cx .f32 (0:Nat) (0:Nat)),.d (.nils)]]) rfl (by simp) rfl (by trivial) ⟨rfl,trivial,rfl,trivial,rfl,trivial,rfl,trivial,rfl,trivial,trivial⟩) ?_
          exact hk27 (fcmp .eql .f32 size_ (0:Nat)) h
def qif (n:Nat) (x_:Int) (y_:Int):Option (Int × Int) :=
  some ((IntKind.wrap .u64 ((IntKind.wrap .u64 ((IntKind.wrap .u64 ((x_.fdiv (2 ^ min (32:Int).toNat (IntKind.bits .u64))) * (y_.fdiv (2 ^ min (32:Int).toNat (IntKind.bits .u64))))) + ((IntKind.wrap .u64 ((IntKind.wrap .u64 ((x_.fdiv (2 ^ min (32:Int).toNat (IntKind.bits .u64))) * (qcb .and .u64 y_ (4294967295:Int)))) + ((IntKind.wrap .u64 ((qcb .and .u64 x_ (4294967295:Int)) * (qcb .and .u64 y_ (4294967295:Int)))).fdiv (2 ^ min (32:Int).toNat (IntKind.bits .u64))))).fdiv (2 ^ min (32:Int).toNat (IntKind.bits .u64))))) + ((IntKind.wrap .u64 ((qcb .and .u64 (IntKind.wrap .u64 ((IntKind.wrap .u64 ((x_.fdiv (2 ^ min (32:Int).toNat (IntKind.bits .u64))) * (qcb .and .u64 y_ (4294967295:Int)))) + ((IntKind.wrap .u64 ((qcb .and .u64 x_ (4294967295:Int)) * (qcb .and .u64 y_ (4294967295:Int)))).fdiv (2 ^ min (32:Int).toNat (IntKind.bits .u64))))) (4294967295:Int)) + (IntKind.wrap .u64 ((qcb .and .u64 x_ (4294967295:Int)) * (y_.fdiv (2 ^ min (32:Int).toNat (IntKind.bits .u64))))))).fdiv (2 ^ min (32:Int).toNat (IntKind.bits .u64))))),(IntKind.wrap .u64 (x_ * y_)))
theorem bits_Mul64_ok_fr0 (fr:Bool) (n:Nat) (x_:Int) (y_:Int) {r:Int × Int} (h:qif n x_ y_ = some r):qay prog fr 173 [.d (.int .u64 x_),.d (.int .u64 y_)] [] (fun v o new=>v = .tup [.d (.int .u64 r.1),.d (.int .u64 r.2)]∧o = []∧new = []):=by
  refine qai hτ func173 rfl (by simp) (by simp) ?_
  unfold qif at h
  refine qa7 ?_
  refine qa2 ?_
  refine qa0 hτ rfl rfl rfl ?_
  refine qa0 hτ rfl rfl rfl ?_
  refine qa4 ?_
  refine qa7 ?_
  refine qa2 ?_
  refine qa0 hτ rfl rfl rfl ?_
  refine qa0 hτ rfl rfl rfl ?_
  refine qa0 hτ rfl rfl rfl ?_
  refine qa4 ?_
  refine qa7 ?_
  refine qa2 ?_
  refine qa0 hτ rfl rfl rfl ?_
  refine qda hτ rfl rfl rfl (by decide) ?_
  refine qa0 hτ rfl rfl rfl ?_
  refine qa4 ?_
  refine qa7 ?_
  refine qa9 (qa3 [] (l:=[(0,.d (.int .u64 x_)),(1,.d (.int .u64 y_)),(6,.d (.int .u64 (qcb .and .u64 x_ (4294967295:Int)))),(7,.d (.int .u64 (x_.fdiv (2 ^ min (32:Int).toNat (IntKind.bits .u64)))))]) (objs:=[]) rfl (by simp) rfl (by trivial) ⟨rfl,trivial,rfl,trivial,rfl,trivial,rfl,trivial,trivial⟩) ?_
  refine qa2 ?_
  refine qa0 hτ rfl rfl rfl ?_
  refine qa0 hτ rfl rfl rfl ?_
  refine qa0 hτ rfl rfl rfl ?_
  refine qa4 ?_
  refine qa7 ?_
  refine qa2 ?_
  refine qa0 hτ rfl rfl rfl ?_
  refine qda hτ rfl rfl rfl (by decide) ?_
  refine qa0 hτ rfl rfl rfl ?_
  refine qa4 ?_
  refine qa7 ?_
  refine qa9 (qa3 [] (l:=[(0,.d (.int .u64 x_)),(1,.d (.int .u64 y_)),(6,.d (.int .u64 (qcb .and .u64 x_ (4294967295:Int)))),(7,.d (.int .u64 (x_.fdiv (2 ^ min (32:Int).toNat (IntKind.bits .u64))))),(8,.d (.int .u64 (qcb .and .u64 y_ (4294967295:Int)))),(9,.d (.int .u64 (y_.fdiv (2 ^ min (32:Int).toNat (IntKind.bits .u64)))))]) (objs:=[]) rfl (by simp) rfl (by trivial) ⟨rfl,trivial,rfl,trivial,rfl,trivial,rfl,trivial,rfl,trivial,rfl,trivial,trivial⟩) ?_
  refine qa2 ?_
  refine qa0 hτ rfl rfl rfl ?_
  refine qa0 hτ rfl rfl rfl ?_
  refine qa0 hτ rfl rfl rfl ?_
  refine qa0 hτ rfl rfl rfl ?_
  refine qa4 ?_
  refine qa7 ?_
  refine qa2 ?_
  refine qa0 hτ rfl rfl rfl ?_
  refine qa0 hτ rfl rfl rfl ?_
  refine qa0 hτ rfl rfl rfl ?_
  refine qa0 hτ rfl rfl rfl ?_
  refine qda hτ rfl rfl rfl (by decide) ?_
  refine qa0 hτ rfl rfl rfl ?_
  refine qa0 hτ rfl rfl rfl ?_
  refine qa4 ?_
  refine qa7 ?_
  refine qa9 (qa3 [] (l:=[(0,.d (.int .u64 x_)),(1,.d (.int .u64 y_)),(6,.d (.int .u64 (qcb .and .u64 x_ (4294967295:Int)))),(7,.d (.int .u64 (x_.fdiv (2 ^ min (32:Int).toNat (IntKind.bits .u64))))),(9,.d (.int .u64 (y_.fdiv (2 ^ min (32:Int).toNat (IntKind.bits .u64))))),(11,.d (.int .u64 (IntKind.wrap .u64 ((IntKind.wrap .u64 ((x_.fdiv (2 ^ min (32:Int).toNat (IntKind.bits .u64))) * (qcb .and .u64 y_ (4294967295:Int)))) + ((IntKind.wrap .u64 ((qcb .and .u64 x_ (4294967295:Int)) * (qcb .and .u64 y_ (4294967295:Int)))).fdiv (2 ^ min (32:Int).toNat (IntKind.bits .u64)))))))]) (objs:=[]) rfl (by simp) rfl (by trivial) ⟨rfl,trivial,rfl,trivial,rfl,trivial,rfl,trivial,rfl,trivial,rfl,trivial,trivial⟩) ?_
  refine qa2 ?_
  refine qa0 hτ rfl rfl rfl ?_
  refine qa0 hτ rfl rfl rfl ?_
  refine qa0 hτ rfl rfl rfl ?_
  refine qa4 ?_
  refine qa7 ?_
  refine qa2 ?_
  refine qa0 hτ rfl rfl rfl ?_
  refine qda hτ rfl rfl rfl (by decide) ?_
  refine qa0 hτ rfl rfl rfl ?_
  refine qa4 ?_
  refine qa7 ?_
  refine qa9 (qa3 [] (l:=[(0,.d (.int .u64 x_)),(1,.d (.int .u64 y_)),(6,.d (.int .u64 (qcb .and .u64 x_ (4294967295:Int)))),(7,.d (.int .u64 (x_.fdiv (2 ^ min (32:Int).toNat (IntKind.bits .u64))))),(9,.d (.int .u64 (y_.fdiv (2 ^ min (32:Int).toNat (IntKind.bits .u64))))),(12,.d (.int .u64 (qcb .and .u64 (IntKind.wrap .u64 ((IntKind.wrap .u64 ((x_.fdiv (2 ^ min (32:Int).toNat (IntKind.bits .u64))) * (qcb .and .u64 y_ (4294967295:Int)))) + ((IntKind.wrap .u64 ((qcb .and .u64 x_ (4294967295:Int)) * (qcb .and .u64 y_ (4294967295:Int)))).fdiv (2 ^ min (32:Int).toNat (IntKind.bits .u64))))) (4294967295:Int)))),(13,.d (.int .u64 ((IntKind.wrap .u64 ((IntKind.wrap .u64 ((x_.fdiv (2 ^ min (32:Int).toNat (IntKind.bits .u64))) * (qcb .and .u64 y_ (4294967295:Int)))) + ((IntKind.wrap .u64 ((qcb .and .u64 x_ (4294967295:Int)) * (qcb .and .u64 y_ (4294967295:Int)))).fdiv (2 ^ min (32:Int).toNat (IntKind.bits .u64))))).fdiv (2 ^ min (32:Int).toNat (IntKind.bits .u64)))))]) (objs:=[]) rfl (by simp) rfl (by trivial) ⟨rfl,trivial,rfl,trivial,rfl,trivial,rfl,trivial,rfl,trivial,rfl,trivial,rfl,trivial,trivial⟩) ?_
  refine qa2 ?_
  refine qa0 hτ rfl rfl rfl ?_
  refine qa0 hτ rfl rfl rfl ?_
  refine qa0 hτ rfl rfl rfl ?_
  refine qa0 hτ rfl rfl rfl ?_
  refine qa0 hτ rfl rfl rfl ?_
  refine qa0 hτ rfl rfl rfl ?_
  refine qa4 ?_
  refine qa7 ?_
  refine qa9 (qa3 [] (l:=[(0,.d (.int .u64 x_)),(1,.d (.int .u64 y_)),(7,.d (.int .u64 (x_.fdiv (2 ^ min (32:Int).toNat (IntKind.bits .u64))))),(9,.d (.int .u64 (y_.fdiv (2 ^ min (32:Int).toNat (IntKind.bits .u64))))),(12,.d (.int .u64 (IntKind.wrap .u64 ((qcb .and .u64 (IntKind.wrap .u64 ((IntKind.wrap .u64 ((x_.fdiv (2 ^ min (32:Int).toNat (IntKind.bits .u64))) * (qcb .and .u64 y_ (4294967295:Int)))) + ((IntKind.wrap .u64 ((qcb .and .u64 x_ (4294967295:Int)) * (qcb .and .u64 y_ (4294967295:Int)))).fdiv (2 ^ min (32:Int).toNat (IntKind.bits .u64))))) (4294967295:Int)) + (IntKind.wrap .u64 ((qcb .and .u64 x_ (4294967295:Int)) * (y_.fdiv (2 ^ min (32:Int).toNat (IntKind.bits .u64))))))))),(13,.d (.int .u64 ((IntKind.wrap .u64 ((IntKind.wrap .u64 ((x_.fdiv (2 ^ min (32:Int).toNat (IntKind.bits .u64))) * (qcb .and .u64 y_ (4294967295:Int)))) + ((IntKind.wrap .u64 ((qcb .and .u64 x_ (4294967295:Int)) * (qcb .and .u64 y_ (4294967295:Int)))).fdiv (2 ^ min (32:Int).toNat (IntKind.bits .u64))))).fdiv (2 ^ min (32:Int).toNat (IntKind.bits .u64)))))]) (objs:=[]) rfl (by simp) rfl (by trivial) ⟨rfl,trivial,rfl,trivial,rfl,trivial,rfl,trivial,rfl,trivial,rfl,trivial,trivial⟩) ?_
  refine qa2 ?_
  refine qa0 hτ rfl rfl rfl ?_
  refine qa0 hτ rfl rfl rfl ?_
  refine qa0 hτ rfl rfl rfl ?_
  refine qa0 hτ rfl rfl rfl ?_
  refine qa0 hτ rfl rfl rfl ?_
  refine qa0 hτ rfl rfl rfl ?_
  refine qda hτ rfl rfl rfl (by decide) ?_
  refine qa0 hτ rfl rfl rfl ?_
  refine qa0 hτ rfl rfl rfl ?_
  refine qa4 ?_
  refine qa7 ?_
  refine qa9 (qa3 [] (l:=[(0,.d (.int .u64 x_)),(1,.d (.int .u64 y_)),(4,.d (.int .u64 (IntKind.wrap .u64 ((IntKind.wrap .u64 ((IntKind.wrap .u64 ((x_.fdiv (2 ^ min (32:Int).toNat (IntKind.bits .u64))) * (y_.fdiv (2 ^ min (32:Int).toNat (IntKind.bits .u64))))) + ((IntKind.wrap .u64 ((IntKind.wrap .u64 ((x_.fdiv (2 ^ min (32:Int).toNat (IntKind.bits .u64))) * (qcb .and .u64 y_ (4294967295:Int)))) + ((IntKind.wrap .u64 ((qcb .and .u64 x_ (4294967295:Int)) * (qcb .and .u64 y_ (4294967295:Int)))).fdiv (2 ^ min (32:Int).toNat (IntKind.bits .u64))))).fdiv (2 ^ min (32:Int).toNat (IntKind.bits .u64))))) + ((IntKind.wrap .u64 ((qcb .and .u64 (IntKind.wrap .u64 ((IntKind.wrap .u64 ((x_.fdiv (2 ^ min (32:Int).toNat (IntKind.bits .u64))) * (qcb .and .u64 y_ (4294967295:Int)))) + ((IntKind.wrap .u64 ((qcb .and .u64 x_ (4294967295:Int)) * (qcb .and .u64 y_ (4294967295:Int)))).fdiv (2 ^ min (32:Int).toNat (IntKind.bits .u64))))) (4294967295:Int)) + (IntKind.wrap .u64 ((qcb .and .u64 x_ (4294967295:Int)) * (y_.fdiv (2 ^ min (32:Int).toNat (IntKind.bits .u64))))))).fdiv (2 ^ min (32:Int).toNat (IntKind.bits .u64)))))))]) (objs:=[]) rfl (by simp) rfl (by trivial) ⟨rfl,trivial,rfl,trivial,rfl,trivial,trivial⟩) ?_
  refine qa2 ?_
  refine qa0 hτ rfl rfl rfl ?_
  refine qa0 hτ rfl rfl rfl ?_
  refine qa0 hτ rfl rfl rfl ?_
  refine qa0 hτ rfl rfl rfl ?_
  refine qa4 ?_
  refine qa9 (qa3 [] (l:=[(4,.d (.int .u64 (IntKind.wrap .u64 ((IntKind.wrap .u64 ((IntKind.wrap .u64 ((x_.fdiv (2 ^ min (32:Int).toNat (IntKind.bits .u64))) * (y_.fdiv (2 ^ min (32:Int).toNat (IntKind.bits .u64))))) + ((IntKind.wrap .u64 ((IntKind.wrap .u64 ((x_.fdiv (2 ^ min (32:Int).toNat (IntKind.bits .u64))) * (qcb .and .u64 y_ (4294967295:Int)))) + ((IntKind.wrap .u64 ((qcb .and .u64 x_ (4294967295:Int)) * (qcb .and .u64 y_ (4294967295:Int)))).fdiv (2 ^ min (32:Int).toNat (IntKind.bits .u64))))).fdiv (2 ^ min (32:Int).toNat (IntKind.bits .u64))))) + ((IntKind.wrap .u64 ((qcb .and .u64 (IntKind.wrap .u64 ((IntKind.wrap .u64 ((x_.fdiv (2 ^ min (32:Int).toNat (IntKind.bits .u64))) * (qcb .and .u64 y_ (4294967295:Int)))) + ((IntKind.wrap .u64 ((qcb .and .u64 x_ (4294967295:Int)) * (qcb .and .u64 y_ (4294967295:Int)))).fdiv (2 ^ min (32:Int).toNat (IntKind.bits .u64))))) (4294967295:Int)) + (IntKind.wrap .u64 ((qcb .and .u64 x_ (4294967295:Int)) * (y_.fdiv (2 ^ min (32:Int).toNat (IntKind.bits .u64))))))).fdiv (2 ^ min (32:Int).toNat (IntKind.bits .u64))))))),(5,.d (.int .u64 (IntKind.wrap .u64 (x_ * y_))))]) (objs:=[]) rfl (by simp) rfl (by trivial) ⟨rfl,trivial,rfl,trivial,trivial⟩) ?_
  refine qar ?_
  have hr:=Option.some.inj h
  subst hr
  exact qah (.inr rfl) [] (objs':=[]) (new:=[]) rfl (by simp) (by simp) rfl (by trivial) rfl rfl (by trivial) (fun _=>⟨by simp [V.flat,V.qbd,V.qb6,D.flat],qal⟩) ⟨rfl,rfl,rfl⟩
theorem bits_Mul64_ok (n:Nat) (x_:Int) (y_:Int) {r:Int × Int} (h:qif n x_ y_ = some r):qay prog false 173 [.d (.int .u64 x_),.d (.int .u64 y_)] [] (fun v o new=>v = .tup [.d (.int .u64 r.1),.d (.int .u64 r.2)]∧o = []∧new = []):=bits_Mul64_ok_fr0 false n x_ y_ h
def qjd (n:Nat) (x_:Int) (y_:Int):Option (Int × Int) :=
  (qif n x_ y_).bind fun x2 =>
  some (x2.1,x2.2)
theorem bits_Mul_ok_fr0 (fr:Bool) (n:Nat) (x_:Int) (y_:Int) {r:Int × Int} (h:qjd n x_ y_ = some r):qay prog fr 150 [.d (.int .u64 x_),.d (.int .u64 y_)] [] (fun v o new=>v = .tup [.d (.int .u64 r.1),.d (.int .u64 r.2)]∧o = []∧new = []):=by
  refine qai hτ func150 rfl (by simp) (by simp) ?_
  unfold qjd at h
  refine qa7 ?_
  refine qa2 ?_
  refine qa0 hτ rfl rfl rfl ?_
  refine qa0 hτ rfl rfl rfl ?_
  refine qa4 ?_
  refine qa7 ?_
  refine qaz (b:=false) rfl (fun hd=>nomatch hd) (fun _=>?_)
  refine qb4 ?_
  refine qa7 ?_
  refine qa2 ?_
  refine qa0 hτ rfl rfl rfl ?_
  refine qa0 hτ rfl rfl rfl ?_
  refine qab h fun x2 hx2 h=>?_
  refine qad hτ false [] rfl rfl rfl (qaf func173 rfl rfl) rfl rfl (by simp) ⟨trivial,trivial,trivial⟩ (by trivial) (bits_Mul64_ok n x_ y_ hx2) ?_
  rintro r0 o0 n0 ⟨rfl,rfl,rfl⟩ -
  refine qa0 hτ rfl rfl rfl ?_
  refine qa0 hτ rfl rfl rfl ?_
  refine qa0 hτ rfl rfl rfl ?_
  refine qa0 hτ rfl rfl rfl ?_
  refine qa0 hτ rfl rfl rfl ?_
  refine qa4 ?_
  refine qa7 ?_
  refine qa9 (qa3 [] (l:=[(8,.d (.int .u64 x2.1)),(9,.d (.int .u64 x2.2))]) (objs:=[]) rfl (by simp) rfl (by trivial) ⟨rfl,trivial,rfl,trivial,trivial⟩) ?_
  refine qa2 ?_
  refine qa0 hτ rfl rfl rfl ?_
  refine qa0 hτ rfl rfl rfl ?_
  refine qa0 hτ rfl rfl rfl ?_
  refine qa0 hτ rfl rfl rfl ?_
  refine qa4 ?_
  refine qa9 (qa3 [] (l:=[(4,.d (.int .u64 x2.1)),(5,.d (.int .u64 x2.2))]) (objs:=[]) rfl (by simp) rfl (by trivial) ⟨rfl,trivial,rfl,trivial,trivial⟩) ?_
  refine qar ?_
  have hr:=Option.some.inj h
  subst hr
  exact qah (.inr rfl) [] (objs':=[]) (new:=[]) rfl (by simp) (by simp) rfl (by trivial) rfl rfl (by trivial) (fun _=>⟨by simp [V.flat,V.qbd,V.qb6,D.flat],qal⟩) ⟨rfl,rfl,rfl⟩
theorem bits_Mul_ok (n:Nat) (x_:Int) (y_:Int) {r:Int × Int} (h:qjd n x_ y_ = some r):qay prog false 150 [.d (.int .u64 x_),.d (.int .u64 y_)] [] (fun v o new=>v = .tup [.d (.int .u64 r.1),.d (.int .u64 r.2)]∧o = []∧new = []):=bits_Mul_ok_fr0 false n x_ y_ h
def qde (n:Nat):Nat→List qa5→Int→Option (List qa5)
  | 0,_,_=>none
  | m32 + 1,v25,v26 =>
    if v26 < (v25.length:Int) then
      grd (0 ≤ v26∧v26 ≤ (v25.length:Int)∧(v25.length:Int) ≤ (v25.length:Int)∧0 < v25.length) <|
      grd (0 ≤ (0:Int)∧(0:Int) ≤ v26∧v26 ≤ (v25.length:Int)∧0 < v25.length) <|
      grd ((0 + v26.toNat) + ((v25.length:Int).toNat - v26.toNat) ≤ v25.length∧0 < v25.length) <|
      (qde n m32) (setL v25 (0 + v26.toNat) ((((v25).drop (0 + (0:Int).toNat)).take (v26.toNat - (0:Int).toNat)).take (min (((v25).drop (0 + (0:Int).toNat)).take (v26.toNat - (0:Int).toNat)).length ((v25.length:Int).toNat - v26.toNat)))) (w64 (v26 + ((min (((v25).drop (0 + (0:Int).toNat)).take (v26.toNat - (0:Int).toNat)).length ((v25.length:Int).toNat - v26.toNat):Nat):Int)))
    else
      some v25
def qf9 (n:Nat) (x_:List qa5) (x17:Int × Int):Option (List qa5) :=
  grd (0 ≤ (w64 (x17.2))∧room (w64 (x17.2)).toNat 24) <|
  grd (0 + (List.replicate (w64 (x17.2)).toNat (qa5.mk (Cx.mk (0:Nat) (0:Nat)) (Cx.mk (0:Nat) (0:Nat)) (Cx.mk (0:Nat) (0:Nat)))).length ≤ ((List.replicate (w64 (x17.2)).toNat (qa5.mk (Cx.mk (0:Nat) (0:Nat)) (Cx.mk (0:Nat) (0:Nat)) (Cx.mk (0:Nat) (0:Nat)))).length)∧0 < ((List.replicate (w64 (x17.2)).toNat (qa5.mk (Cx.mk (0:Nat) (0:Nat)) (Cx.mk (0:Nat) (0:Nat)) (Cx.mk (0:Nat) (0:Nat)))).length)) <|
  qde n n (setL (List.replicate (w64 (x17.2)).toNat (qa5.mk (Cx.mk (0:Nat) (0:Nat)) (Cx.mk (0:Nat) (0:Nat)) (Cx.mk (0:Nat) (0:Nat)))) 0 (x_.take (min x_.length ((List.replicate (w64 (x17.2)).toNat (qa5.mk (Cx.mk (0:Nat) (0:Nat)) (Cx.mk (0:Nat) (0:Nat)) (Cx.mk (0:Nat) (0:Nat)))).length)))) ((min x_.length ((List.replicate (w64 (x17.2)).toNat (qa5.mk (Cx.mk (0:Nat) (0:Nat)) (Cx.mk (0:Nat) (0:Nat)) (Cx.mk (0:Nat) (0:Nat)))).length):Nat):Int)
def qe9 (n:Nat) (x_:List qa5) (x17:Int × Int) (v41:Bool):Option (List qa5) :=
  if v41 = true then
    none
  else
    qf9 n x_ x17
def qbq (n:Nat) (x_:List qa5) (count_:Int):Option (List qa5) :=
  if count_ < (0:Int) then
    none
  else
    (qjd n (IntKind.wrap .u64 ((x_.length:Int))) (IntKind.wrap .u64 (count_))).bind fun x17 =>
    if x17.1 > (0:Int) then
      qe9 n x_ x17 true
    else
      qe9 n x_ x17 (decide (x17.2 > (9223372036854775807:Int)))
theorem slices_Repeat_ok_fr0 (fr:Bool) (n:Nat) (x_:List qa5) (count_:Int) {r:List qa5} (h:qbq n x_ count_ = some r):qay prog fr 114 [.d (.sl false (x_.map qa6)),.d (.int .i64 count_)] [] (fun v o new=>v = .row 0 r.length 0 r.length∧o = []∧new = [.row 3 (r.map qa6)]):=by
  refine qai hτ func114 rfl (by simp) (by simp) ?_
  unfold qbq at h
  refine qa7 ?_
  refine qa2 ?_
  refine qa0 hτ rfl rfl rfl ?_
  refine qa4 ?_
  refine qa7 ?_
  refine qa7 ?_
  refine qa2 ?_
  refine qa0 hτ rfl rfl rfl ?_
  refine qa0 hτ rfl rfl rfl ?_
  refine qa4 ?_
  refine qaz rfl (fun hc16=>?_) (fun hc16=>?_)
  · have h:=if_t h hc16
    refine qa2 ?_
    exact nomatch h
  · have h:=if_f h hc16
    refine qb4 ?_
    refine qa7 ?_
    refine qa2 ?_
    refine qa0 hτ rfl rfl rfl ?_
    refine qa0 hτ (v:=.d (.int .i64 (x_.length:Int))) rfl rfl (Eq.trans rfl (qfb (f:=qa6) x_)) ?_
    refine qa0 hτ rfl rfl rfl ?_
    refine qa0 hτ rfl rfl rfl ?_
    refine qa0 hτ rfl rfl rfl ?_
    refine qab h fun x17 hx17 h=>?_
    refine qad hτ false [] rfl rfl rfl (qaf func150 rfl rfl) rfl rfl (by simp) ⟨trivial,trivial,trivial⟩ (by trivial) (bits_Mul_ok n (IntKind.wrap .u64 ((x_.length:Int))) (IntKind.wrap .u64 (count_)) hx17) ?_
    rintro r0 o0 n0 ⟨rfl,rfl,rfl⟩ -
    refine qa0 hτ rfl rfl rfl ?_
    refine qa0 hτ rfl rfl rfl ?_
    refine qa0 hτ rfl rfl rfl ?_
    refine qb2 (qa3 [] (l:=[(0,.d (.sl false (x_.map qa6))),(19,.d (.int .u64 x17.1)),(20,.d (.int .u64 x17.2))]) (objs:=[]) rfl (by simp) rfl (by trivial) ⟨rfl,trivial,rfl,trivial,rfl,trivial,trivial⟩) ?_
    refine qa0 hτ rfl rfl rfl ?_
    refine qa0 hτ rfl rfl rfl ?_
    refine qa4 ?_
    refine qc0 (ι:=Unit) (fun _=>St.of [(0,.d (.sl false (x_.map qa6))),(6,.d (.int .u64 x17.2))] [] f114.ntmps 0) (fun _=>qf9 n x_ x17 = some r) ?_ (fun hk38=>?_)
    · rintro ⟨⟩ h
      replace h:qf9 n x_ x17 = some r:=h
      unfold qf9 at h
      refine qa7 ?_
      refine qa2 ?_
      refine qa0 hτ rfl rfl rfl ?_
      refine qa0 hτ rfl rfl rfl ?_
      refine qcq h fun hg20 h=>?_
      refine qhs hτ rfl rfl (Eq.trans rfl (qkg (f:=qa6) (x:=(qa5.mk (Cx.mk (0:Nat) (0:Nat)) (Cx.mk (0:Nat) (0:Nat)) (Cx.mk (0:Nat) (0:Nat)))) rfl)) (qii hg20 (by decide)) ?_
      refine qa0 hτ rfl rfl rfl ?_
      refine qa4 ?_
      refine qa7 ?_
      refine qa2 ?_
      refine qa0 hτ rfl rfl rfl ?_
      refine qa0 hτ rfl rfl rfl ?_
      refine qcq h fun hg21 h=>?_
      refine qhs hτ rfl rfl (Eq.trans rfl (qre (f:=qa6) (List.replicate (w64 (x17.2)).toNat (qa5.mk (Cx.mk (0:Nat) (0:Nat)) (Cx.mk (0:Nat) (0:Nat)) (Cx.mk (0:Nat) (0:Nat)))) x_ 0 ((List.replicate (w64 (x17.2)).toNat (qa5.mk (Cx.mk (0:Nat) (0:Nat)) (Cx.mk (0:Nat) (0:Nat)) (Cx.mk (0:Nat) (0:Nat)))).length) rfl)) ⟨trivial,(qbu _),hg21.1,hg21.2,(ql1 (f:=qa6) (fun _=>rfl) _)⟩ ?_
      refine qa0 hτ rfl rfl rfl ?_
      refine qa4 ?_
      refine qa7 ?_
      refine qbo ?_
      refine qgj (ι:=Nat × List qa5 × Int) (fun (m32,v25,v26)=>St.of [(7,.row 0 v25.length 0 v25.length),(8,.d (.int .i64 v26))] [.row 3 (v25.map qa6)] f114.ntmps 0) (fun (m32,v25,v26)=>qde n m32 v25 v26 = some r) (fun x=>x.1) (n,(setL (List.replicate (w64 (x17.2)).toNat (qa5.mk (Cx.mk (0:Nat) (0:Nat)) (Cx.mk (0:Nat) (0:Nat)) (Cx.mk (0:Nat) (0:Nat)))) 0 (x_.take (min x_.length ((List.replicate (w64 (x17.2)).toNat (qa5.mk (Cx.mk (0:Nat) (0:Nat)) (Cx.mk (0:Nat) (0:Nat)) (Cx.mk (0:Nat) (0:Nat)))).length)))),((min x_.length ((List.replicate (w64 (x17.2)).toNat (qa5.mk (Cx.mk (0:Nat) (0:Nat)) (Cx.mk (0:Nat) (0:Nat)) (Cx.mk (0:Nat) (0:Nat)))).length):Nat):Int)) h (qa3 [0] (l:=[(7,.row 0 ((setL (List.replicate (w64 (x17.2)).toNat (qa5.mk (Cx.mk (0:Nat) (0:Nat)) (Cx.mk (0:Nat) (0:Nat)) (Cx.mk (0:Nat) (0:Nat)))) 0 (x_.take (min x_.length ((List.replicate (w64 (x17.2)).toNat (qa5.mk (Cx.mk (0:Nat) (0:Nat)) (Cx.mk (0:Nat) (0:Nat)) (Cx.mk (0:Nat) (0:Nat)))).length)))).length) 0 ((setL (List.replicate (w64 (x17.2)).toNat (qa5.mk (Cx.mk (0:Nat) (0:Nat)) (Cx.mk (0:Nat) (0:Nat)) (Cx.mk (0:Nat) (0:Nat)))) 0 (x_.take (min x_.length ((List.replicate (w64 (x17.2)).toNat (qa5.mk (Cx.mk (0:Nat) (0:Nat)) (Cx.mk (0:Nat) (0:Nat)) (Cx.mk (0:Nat) (0:Nat)))).length)))).length)),(8,.d (.int .i64 ((min x_.length ((List.replicate (w64 (x17.2)).toNat (qa5.mk (Cx.mk (0:Nat) (0:Nat)) (Cx.mk (0:Nat) (0:Nat)) (Cx.mk (0:Nat) (0:Nat)))).length):Nat):Int)))]) (objs:=[.row 3 ((setL (List.replicate (w64 (x17.2)).toNat (qa5.mk (Cx.mk (0:Nat) (0:Nat)) (Cx.mk (0:Nat) (0:Nat)) (Cx.mk (0:Nat) (0:Nat)))) 0 (x_.take (min x_.length ((List.replicate (w64 (x17.2)).toNat (qa5.mk (Cx.mk (0:Nat) (0:Nat)) (Cx.mk (0:Nat) (0:Nat)) (Cx.mk (0:Nat) (0:Nat)))).length)))).map qa6)]) rfl (by simp) rfl (by trivial) ⟨(ql0 rfl (by simp [qix])),trivial,rfl,trivial,trivial⟩) ?_
      rintro ⟨m32,v25,v26⟩ h
      replace h:qde n m32 v25 v26 = some r:=h
      rcases m32 with _ | m32
      · rw [qde] at h;cases h
      rw [qde] at h
      refine qa7 ?_
      refine qa7 ?_
      refine qa2 ?_
      refine qa0 hτ rfl rfl rfl ?_
      refine qa0 hτ rfl rfl rfl ?_
      refine qda hτ rfl rfl rfl (qbu _) ?_
      refine qa0 hτ rfl rfl rfl ?_
      refine qa4 ?_
      refine qaz rfl (fun hc34=>?_) (fun hc34=>?_)
      · have h:=if_t h hc34
        refine qb4 ?_
        refine qbo ?_
        refine qdj ?_
        refine qac hτ [] 0 rfl rfl rfl rfl rfl ?_
        refine qac hτ [] 1 rfl rfl rfl rfl rfl ?_
        refine qac hτ [] 2 rfl rfl rfl rfl rfl ?_
        refine qcq h fun hg35 h=>?_
        refine qgh hτ (v:=.row 0 v25.length (0 + v26.toNat) ((v25.length:Int).toNat - v26.toNat)) [0] 3 rfl rfl rfl rfl rfl ⟨(qbu _),hg35.1,hg35.2.1,hg35.2.2.1,by omega,hg35.2.2.2⟩ ?_
        refine qac hτ [] 4 rfl rfl rfl rfl rfl ?_
        refine qac hτ [] 5 rfl rfl rfl rfl rfl ?_
        refine qcq h fun hg36 h=>?_
        refine qgh hτ (v:=.row 0 v25.length (0 + (0:Int).toNat) (v26.toNat - (0:Int).toNat)) [0] 6 rfl rfl rfl rfl rfl ⟨(qbu _),hg36.1,hg36.2.1,hg36.2.2.1,by omega,hg36.2.2.2⟩ ?_
        refine qcq h fun hg37 h=>?_
        refine qg7 hτ [] 7 rfl rfl rfl (Eq.trans rfl (qre (f:=qa6) v25 (((v25).drop (0 + (0:Int).toNat)).take (v26.toNat - (0:Int).toNat)) (0 + v26.toNat) ((v25.length:Int).toNat - v26.toNat) (qrb _ _ _))) ⟨⟨(qbu _),by omega⟩,(qbu _),hg37.1,hg37.2,(by rw [qrb];exact ql1 (f:=qa6) (fun _=>rfl) _)⟩ trivial ?_
        refine qac hτ [] 8 rfl rfl rfl rfl rfl ?_
        refine qac hτ [] 9 rfl rfl rfl rfl rfl ?_
        refine qe1 mixed (by kernel_rfl) ?_
        exact ⟨(m32,(setL v25 (0 + v26.toNat) ((((v25).drop (0 + (0:Int).toNat)).take (v26.toNat - (0:Int).toNat)).take (min (((v25).drop (0 + (0:Int).toNat)).take (v26.toNat - (0:Int).toNat)).length ((v25.length:Int).toNat - v26.toNat)))),(w64 (v26 + ((min (((v25).drop (0 + (0:Int).toNat)).take (v26.toNat - (0:Int).toNat)).length ((v25.length:Int).toNat - v26.toNat):Nat):Int)))),h,Nat.lt_succ_self m32,(qa3 [0] (l:=[(7,.row 0 ((setL v25 (0 + v26.toNat) ((((v25).drop (0 + (0:Int).toNat)).take (v26.toNat - (0:Int).toNat)).take (min (((v25).drop (0 + (0:Int).toNat)).take (v26.toNat - (0:Int).toNat)).length ((v25.length:Int).toNat - v26.toNat)))).length) 0 ((setL v25 (0 + v26.toNat) ((((v25).drop (0 + (0:Int).toNat)).take (v26.toNat - (0:Int).toNat)).take (min (((v25).drop (0 + (0:Int).toNat)).take (v26.toNat - (0:Int).toNat)).length ((v25.length:Int).toNat - v26.toNat)))).length)),(8,.d (.int .i64 (w64 (v26 + ((min (((v25).drop (0 + (0:Int).toNat)).take (v26.toNat - (0:Int).toNat)).length ((v25.length:Int).toNat - v26.toNat):Nat):Int)))))]) (objs:=[.row 3 ((setL v25 (0 + v26.toNat) ((((v25).drop (0 + (0:Int).toNat)).take (v26.toNat - (0:Int).toNat)).take (min (((v25).drop (0 + (0:Int).toNat)).take (v26.toNat - (0:Int).toNat)).length ((v25.length:Int).toNat - v26.toNat)))).map qa6)]) rfl (by simp) rfl (by trivial) ⟨(ql0 rfl (by simp [qix])),trivial,rfl,trivial,trivial⟩)⟩
      · have h:=if_f h hc34
        refine qgi ?_
        refine qa7 ?_
        refine qa2 ?_
        refine qa0 hτ rfl rfl rfl ?_
        refine qa0 hτ rfl rfl rfl ?_
        refine qa4 ?_
        refine qa9 (qa3 [0] (l:=[(4,.row 0 v25.length 0 v25.length)]) (objs:=[.row 3 (v25.map qa6)]) rfl (by simp) rfl (by trivial) ⟨rfl,trivial,trivial⟩) ?_
        refine qar ?_
        have hr:=Option.some.inj h
        subst hr
        exact qah (.inr rfl) [0] (objs':=[]) (new:=[.row 3 (v25.map qa6)]) rfl (by simp) (by simp) rfl (by trivial) rfl rfl (by trivial) (fun _=>⟨by simp [V.flat,V.qbd,V.qb6,D.flat],(qd1 (qh2 qgk _) qal)⟩) ⟨rfl,rfl,rfl⟩
    · refine qa7 ?_
      refine qc0 (ι:=Bool) (fun v41=>St.of [(0,.d (.sl false (x_.map qa6))),(6,.d (.int .u64 x17.2)),(26,.d (.bool v41))] [] f114.ntmps 0) (fun v41=>qe9 n x_ x17 v41 = some r) ?_ (fun hk43=>?_)
      · rintro v41 h
        replace h:qe9 n x_ x17 v41 = some r:=h
        unfold qe9 at h
        refine qaz rfl (fun hc42=>?_) (fun hc42=>?_)
        · have h:=qdl h hc42
          refine qa2 ?_
          exact nomatch h
        · have h:=qdk h hc42
          refine qb4 ?_
          refine qa9 (qa3 [] (l:=[(0,.d (.sl false (x_.map qa6))),(6,.d (.int .u64 x17.2))]) (objs:=[]) rfl (by simp) rfl (by trivial) ⟨rfl,trivial,rfl,trivial,trivial⟩) ?_
          exact hk38 () h
      · refine qa7 ?_
        refine qa2 ?_
        refine qa0 hτ rfl rfl rfl ?_
        refine qa0 hτ rfl rfl rfl ?_
        refine qa0 hτ rfl rfl rfl ?_
        refine qba 23 rfl (fun hb44=>?_) (fun hb44=>?_)
        · have h:=if_t h hb44
          refine qaa rfl rfl ?_
          refine qaa rfl rfl ?_
          refine qa0 hτ rfl rfl rfl ?_
          refine qa4 ?_
          refine qa9 (qa3 [] (l:=[(0,.d (.sl false (x_.map qa6))),(6,.d (.int .u64 x17.2)),(26,.d (.bool true))]) (objs:=[]) rfl (by simp) rfl (by trivial) ⟨rfl,trivial,rfl,trivial,rfl,trivial,trivial⟩) ?_
          exact hk43 true h
        · have h:=if_f h hb44
          refine qa0 hτ rfl rfl rfl ?_
          refine qa0 hτ rfl rfl rfl ?_
          refine qa0 hτ rfl rfl rfl ?_
          refine qa4 ?_
          refine qa9 (qa3 [] (l:=[(0,.d (.sl false (x_.map qa6))),(6,.d (.int .u64 x17.2)),(26,.d (.bool (decide (x17.2 > (9223372036854775807:Int)))))]) (objs:=[]) rfl (by simp) rfl (by trivial) ⟨rfl,trivial,rfl,trivial,rfl,trivial,trivial⟩) ?_
          exact hk43 (decide (x17.2 > (9223372036854775807:Int))) h
theorem slices_Repeat_ok_fr (n:Nat) (x_:List qa5) (count_:Int) {r:List qa5} (h:qbq n x_ count_ = some r):qay prog true 114 [.d (.sl false (x_.map qa6)),.d (.int .i64 count_)] [] (fun v o new=>v = .row 0 r.length 0 r.length∧o = []∧new = [.row 3 (r.map qa6)]):=slices_Repeat_ok_fr0 true n x_ count_ h
def qcj (n:Nat) (f_:qak):Option (List qa5) :=
  (qbq n [f_.Source] (f_.qa8.length:Int)).bind fun x2 =>
  some x2
theorem qhz (n:Nat) (f_:qak) {r:List qa5} (h:qcj n f_ = some r):qay prog false 61 [.ptr 0 0] [.box [.d (.cx .f32 f_.Source.A.re f_.Source.A.im),.d (.cx .f32 f_.Source.B.re f_.Source.B.im),.d (.cx .f32 f_.Source.C.re f_.Source.C.im),.d (.sl false (f_.qa8.map qae))]] (fun v o new=>v = .row 1 r.length 0 r.length∧o = [.box [.d (.cx .f32 f_.Source.A.re f_.Source.A.im),.d (.cx .f32 f_.Source.B.re f_.Source.B.im),.d (.cx .f32 f_.Source.C.re f_.Source.C.im),.d (.sl false (f_.qa8.map qae))]]∧new = [.row 3 (r.map qa6)]):=by
  refine qai hτ func61 rfl (by simp) (by simp) ?_
  unfold qcj at h
  refine qa7 ?_
  refine qa2 ?_
  refine qa0 hτ rfl rfl rfl ?_
  refine qa4 ?_
  refine qa7 ?_
  refine qdj ?_
  refine qac hτ [] 0 rfl rfl rfl rfl rfl ?_
  refine qac hτ [] 1 rfl rfl rfl rfl rfl ?_
  refine qac hτ [0] 2 rfl rfl rfl rfl rfl ?_
  refine qac hτ [0] 3 rfl rfl rfl rfl rfl ?_
  refine qac hτ [] 5 rfl rfl rfl rfl rfl ?_
  refine qac hτ [] 6 rfl rfl rfl rfl rfl ?_
  refine qac hτ [0] 7 rfl rfl rfl rfl rfl ?_
  refine qac hτ [0] 8 rfl rfl rfl rfl rfl ?_
  refine qac hτ (v:=.d (.int .i64 (f_.qa8.length:Int))) [] 9 rfl rfl rfl rfl (Eq.trans rfl (qfb (f:=qae) f_.qa8)) ?_
  refine qbs hτ [0] 4 rfl rfl rfl rfl ⟨rfl,trivial⟩ ?_
  refine qab h fun x2 hx2 h=>?_
  refine qb8 hτ true [] [0,1] 10 rfl rfl rfl rfl (qaf func114 rfl rfl) (qax (qhl (f:=qa6) (j:=1) (sz:=3) [f_.Source] rfl rfl rfl) (qax rfl qfp)) rfl (by simp) ⟨(qgl (f:=qa6) (j:=1) (sz:=3) [f_.Source] rfl rfl rfl),trivial,trivial⟩ (by trivial) (slices_Repeat_ok_fr n [f_.Source] (f_.qa8.length:Int) hx2) ⟨rfl,rfl,trivial⟩ ?_
  refine qac hτ [] 11 rfl rfl rfl rfl rfl ?_
  refine qe1 mixed (by kernel_rfl) ?_
  refine qa9 (qa3 [0,2] (l:=[(2,.row 1 x2.length 0 x2.length)]) (objs:=[.box [.d (.cx .f32 f_.Source.A.re f_.Source.A.im),.d (.cx .f32 f_.Source.B.re f_.Source.B.im),.d (.cx .f32 f_.Source.C.re f_.Source.C.im),.d (.sl false (f_.qa8.map qae))],.row 3 (x2.map qa6)]) rfl (by simp) rfl (by trivial) ⟨rfl,trivial,trivial⟩) ?_
  refine qar ?_
  have hr:=Option.some.inj h
  subst hr
  exact qah (.inr rfl) [1] (objs':=[.box [.d (.cx .f32 f_.Source.A.re f_.Source.A.im),.d (.cx .f32 f_.Source.B.re f_.Source.B.im),.d (.cx .f32 f_.Source.C.re f_.Source.C.im),.d (.sl false (f_.qa8.map qae))]]) (new:=[.row 3 (x2.map qa6)]) rfl (by simp) (by simp) rfl (by trivial) rfl rfl (by trivial) (fun h=>nomatch h) ⟨rfl,rfl,rfl⟩
end Go.Proofs.Ytdnkjocenbepaaa.AWN
