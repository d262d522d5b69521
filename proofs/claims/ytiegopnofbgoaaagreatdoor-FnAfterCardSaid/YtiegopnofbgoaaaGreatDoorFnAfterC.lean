/- Models and contracts, printed by program. -/
import Derived.Test.YtiegopnofbgoaaaGreatDoorFnAfterB
set_option linter.unusedVariables false
set_option linter.unusedSimpArgs false
set_option linter.unusedSectionVars false
set_option maxHeartbeats 2000000
namespace Go.Proofs.YtiegopnofbgoaaaGreatDoor.AWN
open Go Go.Proofs.Tryz
def qav (x:Int):List D:=[.int .u8 x]
@[simp] theorem eIntu8_len (x:Int):(qav x).length = 1:=rfl
structure qas where
 code:List Int
 at_:Int
 seed:Int
deriving DecidableEq
structure qad where
 A:Cx
 B:Cx
 C:Cx
deriving DecidableEq
structure SBus where
 qaw:Int
 Own:Cx
 Shared:Cx
 Kind:Int
 Load:qad
 qag:Int
deriving DecidableEq
def qac (x:SBus):List D:=[.int .i64 x.qaw,.cx .f32 x.Own.re x.Own.im,.cx .f32 x.Shared.re x.Shared.im,.int .i64 x.Kind,.cx .f32 x.Load.A.re x.Load.A.im,.cx .f32 x.Load.B.re x.Load.B.im,.cx .f32 x.Load.C.re x.Load.C.im,.int .i64 x.qag]
@[simp] theorem eSBus_len (x:SBus):(qac x).length = 8:=rfl
theorem qol (x:SBus):∀ c ∈ qac x,c.flat:=by simp [qac,D.flat]
def qa6 (x:Int):List D:=[.int .i64 x]
@[simp] theorem eInti64_len (x:Int):(qa6 x).length = 1:=rfl
theorem qff (x:Int):∀ c ∈ qa6 x,c.flat:=by simp [qa6,D.flat]
structure qau where
 Source:qad
 qa7:List SBus
deriving DecidableEq
structure STie where
 A:Int
 B:Int
 Own:Cx
 Shared:Cx
 Most:Int
deriving DecidableEq
def qam (x:STie):List D:=[.int .i64 x.A,.int .i64 x.B,.cx .f32 x.Own.re x.Own.im,.cx .f32 x.Shared.re x.Shared.im,.int .i64 x.Most]
@[simp] theorem eSTie_len (x:STie):(qam x).length = 5:=rfl
theorem eSTie_flat (x:STie):∀ c ∈ qam x,c.flat:=by simp [qam,D.flat]
structure qbk where
 qa0:qau
 Ties:List STie
deriving DecidableEq
structure qdg where
 bus:Int
 own:Cx
 shared:Cx
deriving DecidableEq
def qdh (x:qdg):List D:=[.int .i64 x.bus,.cx .f32 x.own.re x.own.im,.cx .f32 x.shared.re x.shared.im]
@[simp] theorem eSLink_len (x:qdg):(qdh x).length = 3:=rfl
def qai (x:qad):List D:=[.cx .f32 x.A.re x.A.im,.cx .f32 x.B.re x.B.im,.cx .f32 x.C.re x.C.im]
@[simp] theorem eSPhases_len (x:qad):(qai x).length = 3:=rfl
theorem qmd (x:qad):∀ c ∈ qai x,c.flat:=by simp [qai,D.flat]
structure ql4 where
 qd1:List qad
 qil:List qad
 Rounds:Int
 qve:Bool
deriving DecidableEq
structure qno where
 a0:Cx
 a1:Cx
 a2:Cx
deriving DecidableEq
theorem qxg {x:Nat} (hx:isnan .f32 x = false):qnn prog 55 [.d (.fl .f32 x)] (.d (.int .u32 x)):=qs9 (e:=Extern.MathFloatBits.float32bits) func55 rfl rfl (by kernel_rfl) (by kernel_rfl) fun W hb H ok vals h=>bits_run (fun _=>rfl) hx h
theorem ext93 {x:Nat}:qnn prog 93 [.d (.fl .f64 x)] (.d (.fl .f64 (qvy x))):=qs9 (e:=Extern.MathSqrt.sqrt) func93 rfl rfl (by kernel_rfl) (by kernel_rfl) fun W hb H ok vals h=>sqrt_run h
theorem ext102 {x:Int} (hx:x.toNat < 4294967296):qnn prog 102 [.d (.int .u32 x)] (.d (.fl .f32 (canon .f32 x.toNat))):=qs9 (e:=Extern.MathFloatBits.float32frombits) func102 rfl rfl (by kernel_rfl) (by kernel_rfl) fun W hb H ok vals h=>qp1 (k:=.f32) (fun _=>rfl) hx h
theorem ext106 {x:Int} (hx:x.toNat < 18446744073709551616):qnn prog 106 [.d (.int .u64 x)] (.d (.fl .f64 (canon .f64 x.toNat))):=qs9 (e:=Extern.MathFloatBits.float64frombits) func106 rfl rfl (by kernel_rfl) (by kernel_rfl) fun W hb H ok vals h=>qp1 (k:=.f64) (fun _=>rfl) hx h
def qj5 (n:Nat) (code_:List Int) (more_:List Int):Option Bool :=
 if (code_.length:Int) > (48:Int) then
  some true
 else
  some (decide ((more_.length:Int) > (48:Int)))
theorem laws_r8Long_ok_fr0 (fr:Bool) (n:Nat) (code_:List Int) (more_:List Int) {r:Bool} (h:qj5 n code_ more_ = some r):qb1 prog fr 4 [.d (.sl false (code_.map qav)),.d (.sl false (more_.map qav))] [] (fun v o new=>v = .d (.bool r)∧o = []∧new = []):=by
 refine qak hτ func4 rfl (by simp) (by simp) ?_
 unfold qj5 at h
 refine qa8<|qa2<|qa1 hτ rfl rfl rfl<|qa5<|qa8 ?_
 refine qa2<|qa1 hτ rfl rfl rfl ?_
 refine qa1 hτ (v:=.d (.int .i64 (code_.length:Int))) rfl rfl (Eq.trans rfl (qei (f:=qav) code_)) ?_
 refine qa1 hτ rfl rfl rfl<|qa1 hτ rfl rfl rfl ?_
 refine qbq 8 rfl (fun hb3=>?_) (fun hb3=>?_)
 ·have h:=if_t h hb3
  refine qab rfl rfl<|qab rfl rfl<|qab rfl rfl<|qa1 hτ rfl rfl rfl<|qa1 hτ rfl rfl rfl ?_
  refine qa5 ?_
  refine qaa (qa3 [] (l:=[(4,.d (.bool true))]) (objs:=[]) rfl (by simp) rfl (by trivial) ⟨rfl,trivial,trivial⟩) ?_
  refine qap ?_
  have hr:=Option.some.inj h
  subst hr
  exact qah (.inr rfl) [] (objs':=[]) (new:=[]) rfl (by simp) (by simp) rfl (by trivial) rfl rfl (by trivial) (fun _=>⟨by simp [V.flat,V.qbg,V.qbb,D.flat],qan⟩) ⟨rfl,rfl,rfl⟩
 ·have h:=if_f h hb3
  refine qa1 hτ rfl rfl rfl ?_
  refine qa1 hτ (v:=.d (.int .i64 (more_.length:Int))) rfl rfl (Eq.trans rfl (qei (f:=qav) more_)) ?_
  refine qa1 hτ rfl rfl rfl<|qa1 hτ rfl rfl rfl<|qa1 hτ rfl rfl rfl<|qa5 ?_
  refine qaa (qa3 [] (l:=[(4,.d (.bool (decide ((more_.length:Int) > (48:Int)))))]) (objs:=[]) rfl (by simp) rfl (by trivial) ⟨rfl,trivial,trivial⟩) ?_
  refine qap ?_
  have hr:=Option.some.inj h
  subst hr
  exact qah (.inr rfl) [] (objs':=[]) (new:=[]) rfl (by simp) (by simp) rfl (by trivial) rfl rfl (by trivial) (fun _=>⟨by simp [V.flat,V.qbg,V.qbb,D.flat],qan⟩) ⟨rfl,rfl,rfl⟩
theorem laws_r8Long_ok (n:Nat) (code_:List Int) (more_:List Int) {r:Bool} (h:qj5 n code_ more_ = some r):qb1 prog false 4 [.d (.sl false (code_.map qav)),.d (.sl false (more_.map qav))] [] (fun v o new=>v = .d (.bool r)∧o = []∧new = []):=laws_r8Long_ok_fr0 false n code_ more_ h
def qkj (n:Nat) (code_:List Int):Option qas :=
 some (qas.mk code_ (0:Int) (0:Int))
theorem spec_l00From_ok (n:Nat) (code_:List Int) {r:qas} (h:qkj n code_ = some r):qb1 prog false 18 [.d (.sl false (code_.map qav))] [] (fun v o new=>v = .ptr 0 0∧o = []∧new = [.box [.d (.sl false (r.code.map qav)),.d (.int .i64 r.at_),.d (.int .u64 r.seed)]]):=by
 refine qak hτ func18 rfl (by simp) (by simp) ?_
 unfold qkj at h
 refine qa8<|qa2<|qa1 hτ rfl rfl rfl<|qa5<|qa8 ?_
 refine qa2<|qa1 hτ rfl rfl rfl<|qa1 hτ rfl rfl rfl<|qal hτ rfl rfl rfl<|qa1 hτ rfl rfl rfl ?_
 refine qa5 ?_
 refine qaa (qa3 [0] (l:=[(2,.ptr 0 0)]) (objs:=[.box [.d (.sl false (code_.map qav)),.d (.int .i64 (0:Int)),.d (.int .u64 (0:Int))]]) rfl (by simp) rfl (by trivial) ⟨rfl,trivial,trivial⟩) ?_
 refine qap ?_
 have hr:=Option.some.inj h
 subst hr
 exact qah (.inr rfl) [0] (objs':=[]) (new:=[.box [.d (.sl false (code_.map qav)),.d (.int .i64 (0:Int)),.d (.int .u64 (0:Int))]]) rfl (by simp) (by simp) rfl (by trivial) rfl rfl (by trivial) (fun h=>nomatch h) ⟨rfl,rfl,rfl⟩
def qdn (n:Nat) (s_:qas) (v5:Int):Option (Int × qas) :=
 if (w64 (s_.at_ + (1:Int))) ≤ (s_.code.length:Int) then
  some (v5,(qas.mk s_.code (w64 (s_.at_ + (1:Int))) (IntKind.wrap .u64 ((IntKind.wrap .u64 ((IntKind.wrap .u64 (s_.seed * (6364136223846793005:Int))) + (IntKind.wrap .u64 (v5)))) + (1442695040888963407:Int)))))
 else
  some ((w64 ((qcu .and .u64 ((IntKind.wrap .u64 ((IntKind.wrap .u64 ((IntKind.wrap .u64 (s_.seed * (6364136223846793005:Int))) + (IntKind.wrap .u64 (v5)))) + (1442695040888963407:Int))).fdiv (2 ^ min (40:Int).toNat (IntKind.bits .u64))) (255:Int)))),(qas.mk s_.code (w64 (s_.at_ + (1:Int))) (IntKind.wrap .u64 ((IntKind.wrap .u64 ((IntKind.wrap .u64 (s_.seed * (6364136223846793005:Int))) + (IntKind.wrap .u64 (v5)))) + (1442695040888963407:Int)))))
def qfz (n:Nat) (s_:qas):Option (Int × qas) :=
 if s_.at_ < (s_.code.length:Int) then
  (getI s_.code s_.at_).bind fun x9 =>
  qdn n s_ (w64 (x9))
 else
  qdn n s_ (0:Int)
theorem qlq (n:Nat) (s_:qas) {r:Int × qas} (h:qfz n s_ = some r):qb1 prog false 66 [.ptr 0 0] [.box [.d (.sl false (s_.code.map qav)),.d (.int .i64 s_.at_),.d (.int .u64 s_.seed)]] (fun v o new=>v = .d (.int .i64 r.1)∧o = [.box [.d (.sl false (r.2.code.map qav)),.d (.int .i64 r.2.at_),.d (.int .u64 r.2.seed)]]∧new = []):=by
 refine qak hτ func66 rfl (by simp) (by simp) ?_
 unfold qfz at h
 refine qa8<|qa2<|qa1 hτ rfl rfl rfl<|qa5<|qa8 ?_
 refine qa2<|qa1 hτ rfl rfl rfl<|qa5 ?_
 refine qby (ι:=Int) (fun v5=>St.of [(0,.ptr 0 0),(3,.d (.int .i64 v5))] [.box [.d (.sl false (s_.code.map qav)),.d (.int .i64 s_.at_),.d (.int .u64 s_.seed)]] f66.ntmps 1) (fun v5=>qdn n s_ v5 = some r) ?_ (fun hk7=>?_)
 ·rintro v5 h
  replace h:qdn n s_ v5 = some r:=h
  unfold qdn at h
  refine qa8<|qa2<|qa1 hτ rfl rfl rfl<|qa1 hτ rfl rfl rfl<|qa1 hτ rfl rfl rfl ?_
  refine qa1 hτ rfl rfl rfl<|qa1 hτ rfl rfl rfl<|qa1 hτ rfl rfl rfl<|qa1 hτ rfl rfl rfl<|qal hτ rfl rfl rfl ?_
  refine qa5<|qa8 ?_
  refine qaa (qa3 [0] (l:=[(0,.ptr 0 0),(3,.d (.int .i64 v5))]) (objs:=[.box [.d (.sl false (s_.code.map qav)),.d (.int .i64 (w64 (s_.at_ + (1:Int)))),.d (.int .u64 s_.seed)]]) rfl (by simp) rfl (by trivial) ⟨rfl,trivial,rfl,trivial,trivial⟩) ?_
  refine qa2<|qa1 hτ rfl rfl rfl<|qa1 hτ rfl rfl rfl<|qa1 hτ rfl rfl rfl<|qa1 hτ rfl rfl rfl ?_
  refine qa1 hτ rfl rfl rfl<|qa1 hτ rfl rfl rfl<|qa1 hτ rfl rfl rfl<|qa1 hτ rfl rfl rfl<|qa1 hτ rfl rfl rfl ?_
  refine qa1 hτ rfl rfl rfl<|qa1 hτ rfl rfl rfl<|qa1 hτ rfl rfl rfl ?_
  refine qb3 (qa3 [0] (l:=[(0,.ptr 0 0),(3,.d (.int .i64 v5)),(41,.d (.int .u64 (IntKind.wrap .u64 ((IntKind.wrap .u64 ((IntKind.wrap .u64 (s_.seed * (6364136223846793005:Int))) + (IntKind.wrap .u64 (v5)))) + (1442695040888963407:Int))))),(43,.ptr 0 2)]) (objs:=[.box [.d (.sl false (s_.code.map qav)),.d (.int .i64 (w64 (s_.at_ + (1:Int)))),.d (.int .u64 s_.seed)]]) rfl (by simp) rfl (by trivial) ⟨rfl,trivial,rfl,trivial,rfl,trivial,rfl,trivial,trivial⟩) ?_
  refine qal hτ rfl rfl rfl<|qa5<|qa8<|qa8<|qd5 ?_
  refine qa4 hτ [] 0 rfl rfl rfl rfl rfl ?_
  refine qa4 hτ [] 1 rfl rfl rfl rfl rfl ?_
  refine qa4 hτ [0] 2 rfl rfl rfl rfl rfl ?_
  refine qa4 hτ [0] 3 rfl rfl rfl rfl rfl ?_
  refine qa4 hτ [] 4 rfl rfl rfl rfl rfl ?_
  refine qa4 hτ [] 5 rfl rfl rfl rfl rfl ?_
  refine qa4 hτ [0] 6 rfl rfl rfl rfl rfl ?_
  refine qa4 hτ [0] 7 rfl rfl rfl rfl rfl ?_
  refine qa4 hτ (v:=.d (.int .i64 (s_.code.length:Int))) [] 8 rfl rfl rfl rfl (Eq.trans rfl (qei (f:=qav) s_.code)) ?_
  refine qa4 hτ [] 9 rfl rfl rfl rfl rfl ?_
  refine qbo mixed (by kernel_rfl) ?_
  refine qaa (qa3 [0] (l:=[(0,.ptr 0 0),(3,.d (.int .i64 v5)),(53,.d (.bool (decide ((w64 (s_.at_ + (1:Int))) ≤ (s_.code.length:Int)))))]) (objs:=[.box [.d (.sl false (s_.code.map qav)),.d (.int .i64 (w64 (s_.at_ + (1:Int)))),.d (.int .u64 (IntKind.wrap .u64 ((IntKind.wrap .u64 ((IntKind.wrap .u64 (s_.seed * (6364136223846793005:Int))) + (IntKind.wrap .u64 (v5)))) + (1442695040888963407:Int))))]]) rfl (by simp) rfl (by trivial) ⟨rfl,trivial,rfl,trivial,rfl,trivial,trivial⟩) ?_
  refine qaq rfl (fun hc6=>?_) (fun hc6=>?_)
  ·have h:=if_t h hc6
   refine qa8<|qa2<|qa1 hτ rfl rfl rfl<|qa1 hτ rfl rfl rfl<|qa5 ?_
   refine qaa (qa3 [0] (l:=[(2,.d (.int .i64 v5))]) (objs:=[.box [.d (.sl false (s_.code.map qav)),.d (.int .i64 (w64 (s_.at_ + (1:Int)))),.d (.int .u64 (IntKind.wrap .u64 ((IntKind.wrap .u64 ((IntKind.wrap .u64 (s_.seed * (6364136223846793005:Int))) + (IntKind.wrap .u64 (v5)))) + (1442695040888963407:Int))))]]) rfl (by simp) rfl (by trivial) ⟨rfl,trivial,trivial⟩) ?_
   refine qap ?_
   have hr:=Option.some.inj h
   subst hr
   exact qah (.inr rfl) [] (objs':=[.box [.d (.sl false (s_.code.map qav)),.d (.int .i64 (w64 (s_.at_ + (1:Int)))),.d (.int .u64 (IntKind.wrap .u64 ((IntKind.wrap .u64 ((IntKind.wrap .u64 (s_.seed * (6364136223846793005:Int))) + (IntKind.wrap .u64 (v5)))) + (1442695040888963407:Int))))]]) (new:=[]) rfl (by simp) (by simp) rfl (by trivial) rfl rfl (by trivial) (fun h=>nomatch h) ⟨rfl,rfl,rfl⟩
  ·have h:=if_f h hc6
   refine qat<|qa8<|qa2<|qa1 hτ rfl rfl rfl<|qa1 hτ rfl rfl rfl ?_
   refine qa1 hτ rfl rfl rfl<|qa1 hτ rfl rfl rfl ?_
   refine qcg hτ rfl rfl rfl (by decide) ?_
   refine qa1 hτ rfl rfl rfl<|qa1 hτ rfl rfl rfl<|qa1 hτ rfl rfl rfl<|qa5 ?_
   refine qaa (qa3 [0] (l:=[(2,.d (.int .i64 (w64 ((qcu .and .u64 ((IntKind.wrap .u64 ((IntKind.wrap .u64 ((IntKind.wrap .u64 (s_.seed * (6364136223846793005:Int))) + (IntKind.wrap .u64 (v5)))) + (1442695040888963407:Int))).fdiv (2 ^ min (40:Int).toNat (IntKind.bits .u64))) (255:Int))))))]) (objs:=[.box [.d (.sl false (s_.code.map qav)),.d (.int .i64 (w64 (s_.at_ + (1:Int)))),.d (.int .u64 (IntKind.wrap .u64 ((IntKind.wrap .u64 ((IntKind.wrap .u64 (s_.seed * (6364136223846793005:Int))) + (IntKind.wrap .u64 (v5)))) + (1442695040888963407:Int))))]]) rfl (by simp) rfl (by trivial) ⟨rfl,trivial,trivial⟩) ?_
   refine qap ?_
   have hr:=Option.some.inj h
   subst hr
   exact qah (.inr rfl) [] (objs':=[.box [.d (.sl false (s_.code.map qav)),.d (.int .i64 (w64 (s_.at_ + (1:Int)))),.d (.int .u64 (IntKind.wrap .u64 ((IntKind.wrap .u64 ((IntKind.wrap .u64 (s_.seed * (6364136223846793005:Int))) + (IntKind.wrap .u64 (v5)))) + (1442695040888963407:Int))))]]) (new:=[]) rfl (by simp) (by simp) rfl (by trivial) rfl rfl (by trivial) (fun h=>nomatch h) ⟨rfl,rfl,rfl⟩
 ·refine qa8<|qa8<|qd5 ?_
  refine qa4 hτ [] 0 rfl rfl rfl rfl rfl ?_
  refine qa4 hτ [] 1 rfl rfl rfl rfl rfl ?_
  refine qa4 hτ [0] 2 rfl rfl rfl rfl rfl ?_
  refine qa4 hτ [0] 3 rfl rfl rfl rfl rfl ?_
  refine qa4 hτ [] 4 rfl rfl rfl rfl rfl ?_
  refine qa4 hτ [] 5 rfl rfl rfl rfl rfl ?_
  refine qa4 hτ [0] 6 rfl rfl rfl rfl rfl ?_
  refine qa4 hτ [0] 7 rfl rfl rfl rfl rfl ?_
  refine qa4 hτ (v:=.d (.int .i64 (s_.code.length:Int))) [] 8 rfl rfl rfl rfl (Eq.trans rfl (qei (f:=qav) s_.code)) ?_
  refine qa4 hτ [] 9 rfl rfl rfl rfl rfl ?_
  refine qbo mixed (by kernel_rfl) ?_
  refine qaa (qa3 [0] (l:=[(0,.ptr 0 0),(3,.d (.int .i64 (0:Int))),(13,.d (.bool (decide (s_.at_ < (s_.code.length:Int)))))]) (objs:=[.box [.d (.sl false (s_.code.map qav)),.d (.int .i64 s_.at_),.d (.int .u64 s_.seed)]]) rfl (by simp) rfl (by trivial) ⟨rfl,trivial,rfl,trivial,rfl,trivial,trivial⟩) ?_
  refine qaq rfl (fun hc8=>?_) (fun hc8=>?_)
  ·have h:=if_t h hc8
   refine qd5 ?_
   refine qa4 hτ [] 0 rfl rfl rfl rfl rfl ?_
   refine qa4 hτ [] 1 rfl rfl rfl rfl rfl ?_
   refine qa4 hτ [0] 2 rfl rfl rfl rfl rfl ?_
   refine qa4 hτ [0] 3 rfl rfl rfl rfl rfl ?_
   refine qa4 hτ [] 4 rfl rfl rfl rfl rfl ?_
   refine qa4 hτ [] 5 rfl rfl rfl rfl rfl ?_
   refine qa4 hτ [0] 6 rfl rfl rfl rfl rfl ?_
   refine qa4 hτ [0] 7 rfl rfl rfl rfl rfl ?_
   refine qaf h fun x9 hx9 h=>?_
   refine qbx hτ [] 8 rfl rfl rfl rfl rfl (qb8 hx9).1 (qbm hx9) rfl ?_
   refine qa4 hτ [] 9 rfl rfl rfl rfl rfl ?_
   refine qa4 hτ [] 10 rfl rfl rfl rfl rfl ?_
   refine qa4 hτ [] 11 rfl rfl rfl rfl rfl ?_
   refine qbo mixed (by kernel_rfl) ?_
   refine qaa (qa3 [0] (l:=[(0,.ptr 0 0),(3,.d (.int .i64 (w64 (x9))))]) (objs:=[.box [.d (.sl false (s_.code.map qav)),.d (.int .i64 s_.at_),.d (.int .u64 s_.seed)]]) rfl (by simp) rfl (by trivial) ⟨rfl,trivial,rfl,trivial,trivial⟩) ?_
   exact hk7 (w64 (x9)) h
  ·have h:=if_f h hc8
   refine qat ?_
   refine qaa (qa3 [0] (l:=[(0,.ptr 0 0),(3,.d (.int .i64 (0:Int)))]) (objs:=[.box [.d (.sl false (s_.code.map qav)),.d (.int .i64 s_.at_),.d (.int .u64 s_.seed)]]) rfl (by simp) rfl (by trivial) ⟨rfl,trivial,rfl,trivial,trivial⟩) ?_
   exact hk7 (0:Int) h
def qdo (n:Nat) (n_:Int) (v15:List Int) (v16:Int) (v17:Int) (v18:Int):Option (Int × qas) :=
 grd (n_ ≠ 0) <|
 some ((v18.tmod n_),(qas.mk v15 v16 v17))
def qar (n:Nat) (s_:qas) (n_:Int):Option (Int × qas) :=
 if n_ ≤ (1:Int) then
  some ((0:Int),s_)
 else
  (qfz n s_).bind fun x9 =>
  if n_ > (200:Int) then
   (qfz n x9.2).bind fun x22 =>
   qdo n n_ x22.2.code x22.2.at_ x22.2.seed (w64 ((w64 (x9.1 * (256:Int))) + x22.1))
  else
   qdo n n_ x9.2.code x9.2.at_ x9.2.seed x9.1
theorem qb7 (n:Nat) (s_:qas) (n_:Int) {r:Int × qas} (h:qar n s_ n_ = some r):qb1 prog false 46 [.ptr 0 0,.d (.int .i64 n_)] [.box [.d (.sl false (s_.code.map qav)),.d (.int .i64 s_.at_),.d (.int .u64 s_.seed)]] (fun v o new=>v = .d (.int .i64 r.1)∧o = [.box [.d (.sl false (r.2.code.map qav)),.d (.int .i64 r.2.at_),.d (.int .u64 r.2.seed)]]∧new = []):=by
 refine qak hτ func46 rfl (by simp) (by simp) ?_
 unfold qar at h
 refine qa8<|qa2<|qa1 hτ rfl rfl rfl<|qa5<|qa8 ?_
 refine qa8<|qa2<|qa1 hτ rfl rfl rfl<|qa1 hτ rfl rfl rfl<|qa5 ?_
 refine qaq rfl (fun hc8=>?_) (fun hc8=>?_)
 ·have h:=if_t h hc8
  refine qa8<|qa2<|qa1 hτ rfl rfl rfl<|qa5 ?_
  refine qaa (qa3 [0] (l:=[(4,.d (.int .i64 (0:Int)))]) (objs:=[.box [.d (.sl false (s_.code.map qav)),.d (.int .i64 s_.at_),.d (.int .u64 s_.seed)]]) rfl (by simp) rfl (by trivial) ⟨rfl,trivial,trivial⟩) ?_
  refine qap ?_
  have hr:=Option.some.inj h
  subst hr
  exact qah (.inr rfl) [] (objs':=[.box [.d (.sl false (s_.code.map qav)),.d (.int .i64 s_.at_),.d (.int .u64 s_.seed)]]) (new:=[]) rfl (by simp) (by simp) rfl (by trivial) rfl rfl (by trivial) (fun h=>nomatch h) ⟨rfl,rfl,rfl⟩
 ·have h:=if_f h hc8
  refine qat<|qa8<|qa2<|qa1 hτ rfl rfl rfl ?_
  refine qaf h fun x9 hx9 h=>?_
  refine qae hτ false [0] rfl rfl rfl (qaj func66 rfl rfl) rfl rfl (by simp) ⟨trivial,trivial⟩ (by trivial) (qlq n s_ hx9) ?_
  rintro r0 o0 n0 ⟨rfl,rfl,rfl⟩ -
  refine qa1 hτ rfl rfl rfl<|qa5 ?_
  refine qby (ι:=List Int × Int × Int × Int) (fun (v15,v16,v17,v18)=>St.of [(1,.d (.int .i64 n_)),(5,.d (.int .i64 v18))] [.box [.d (.sl false (v15.map qav)),.d (.int .i64 v16),.d (.int .u64 v17)]] f46.ntmps 1) (fun (v15,v16,v17,v18)=>qdo n n_ v15 v16 v17 v18 = some r) ?_ (fun hk20=>?_)
  ·rintro ⟨v15,v16,v17,v18⟩ h
   replace h:qdo n n_ v15 v16 v17 v18 = some r:=h
   unfold qdo at h
   refine qa8<|qa2<|qa1 hτ rfl rfl rfl<|qa1 hτ rfl rfl rfl ?_
   refine qci h fun hg19 h=>?_
   refine qcg hτ rfl rfl rfl hg19 ?_
   refine qa1 hτ rfl rfl rfl<|qa5 ?_
   refine qaa (qa3 [0] (l:=[(4,.d (.int .i64 (v18.tmod n_)))]) (objs:=[.box [.d (.sl false (v15.map qav)),.d (.int .i64 v16),.d (.int .u64 v17)]]) rfl (by simp) rfl (by trivial) ⟨rfl,trivial,trivial⟩) ?_
   refine qap ?_
   have hr:=Option.some.inj h
   subst hr
   exact qah (.inr rfl) [] (objs':=[.box [.d (.sl false (v15.map qav)),.d (.int .i64 v16),.d (.int .u64 v17)]]) (new:=[]) rfl (by simp) (by simp) rfl (by trivial) rfl rfl (by trivial) (fun h=>nomatch h) ⟨rfl,rfl,rfl⟩
  ·refine qa8<|qa8 ?_
   refine qaa (qa3 [0] (l:=[(0,.ptr 0 0),(1,.d (.int .i64 n_)),(5,.d (.int .i64 x9.1))]) (objs:=[.box [.d (.sl false (x9.2.code.map qav)),.d (.int .i64 x9.2.at_),.d (.int .u64 x9.2.seed)]]) rfl (by simp) rfl (by trivial) ⟨rfl,trivial,rfl,trivial,rfl,trivial,trivial⟩) ?_
   refine qa2<|qa1 hτ rfl rfl rfl<|qa1 hτ rfl rfl rfl<|qa5 ?_
   refine qaq rfl (fun hc21=>?_) (fun hc21=>?_)
   ·have h:=if_t h hc21
    refine qa2<|qa1 hτ rfl rfl rfl<|qa1 hτ rfl rfl rfl<|qa1 hτ rfl rfl rfl ?_
    refine qaf h fun x22 hx22 h=>?_
    refine qae hτ false [0] rfl rfl rfl (qaj func66 rfl rfl) rfl rfl (by simp) ⟨trivial,trivial⟩ (by trivial) (qlq n x9.2 hx22) ?_
    rintro r0 o0 n0 ⟨rfl,rfl,rfl⟩ -
    refine qa1 hτ rfl rfl rfl<|qa1 hτ rfl rfl rfl<|qa5 ?_
    refine qaa (qa3 [0] (l:=[(1,.d (.int .i64 n_)),(5,.d (.int .i64 (w64 ((w64 (x9.1 * (256:Int))) + x22.1))))]) (objs:=[.box [.d (.sl false (x22.2.code.map qav)),.d (.int .i64 x22.2.at_),.d (.int .u64 x22.2.seed)]]) rfl (by simp) rfl (by trivial) ⟨rfl,trivial,rfl,trivial,trivial⟩) ?_
    exact hk20 (x22.2.code,x22.2.at_,x22.2.seed,(w64 ((w64 (x9.1 * (256:Int))) + x22.1))) h
   ·have h:=if_f h hc21
    refine qat ?_
    refine qaa (qa3 [0] (l:=[(1,.d (.int .i64 n_)),(5,.d (.int .i64 x9.1))]) (objs:=[.box [.d (.sl false (x9.2.code.map qav)),.d (.int .i64 x9.2.at_),.d (.int .u64 x9.2.seed)]]) rfl (by simp) rfl (by trivial) ⟨rfl,trivial,rfl,trivial,trivial⟩) ?_
    exact hk20 (x9.2.code,x9.2.at_,x9.2.seed,x9.1) h
def qe0 (n:Nat) (n_:Int):Option Nat :=
 grd ((IntKind.wrap .u32 (n_)).toNat < 4294967296) <|
 some (canon .f32 (IntKind.wrap .u32 (n_)).toNat)
theorem spec_l01From_ok_fr0 (fr:Bool) (n:Nat) (n_:Int) {r:Nat} (h:qe0 n n_ = some r):qb1 prog fr 98 [.d (.int .i64 n_)] [] (fun v o new=>v = .d (.fl .f32 r)∧o = []∧new = []):=by
 refine qak hτ func98 rfl (by simp) (by simp) ?_
 unfold qe0 at h
 refine qa8<|qa2<|qa1 hτ rfl rfl rfl<|qa5<|qa8 ?_
 refine qa2<|qa1 hτ rfl rfl rfl<|qa1 hτ rfl rfl rfl ?_
 refine qci h fun hg2 h=>?_
 refine qpr hτ rfl rfl rfl (ext102 hg2) ?_
 refine qa1 hτ rfl rfl rfl<|qa5 ?_
 refine qaa (qa3 [] (l:=[(2,.d (.fl .f32 (canon .f32 (IntKind.wrap .u32 (n_)).toNat)))]) (objs:=[]) rfl (by simp) rfl (by trivial) ⟨rfl,trivial,trivial⟩) ?_
 refine qap ?_
 have hr:=Option.some.inj h
 subst hr
 exact qah (.inr rfl) [] (objs':=[]) (new:=[]) rfl (by simp) (by simp) rfl (by trivial) rfl rfl (by trivial) (fun _=>⟨by simp [V.flat,V.qbg,V.qbb,D.flat],qan⟩) ⟨rfl,rfl,rfl⟩
theorem qhx (n:Nat) (n_:Int) {r:Nat} (h:qe0 n n_ = some r):qb1 prog false 98 [.d (.int .i64 n_)] [] (fun v o new=>v = .d (.fl .f32 r)∧o = []∧new = []):=spec_l01From_ok_fr0 false n n_ h
def qn8 (n:Nat):Option Nat :=
 grd ((9221120237041090561:Int).toNat < 18446744073709551616) <|
 some (canon .f64 (9221120237041090561:Int).toNat)
theorem math_NaN_ok_fr0 (fr:Bool) (n:Nat) {r:Nat} (h:qn8 n = some r):qb1 prog fr 103 [] [] (fun v o new=>v = .d (.fl .f64 r)∧o = []∧new = []):=by
 refine qak hτ func103 rfl (by simp) (by simp) ?_
 unfold qn8 at h
 refine qa8<|qa2<|qa1 hτ rfl rfl rfl<|qa5<|qa8 ?_
 refine qa2 ?_
 refine qci h fun hg2 h=>?_
 refine qpr hτ rfl rfl rfl (ext106 hg2) ?_
 refine qa1 hτ rfl rfl rfl<|qa5 ?_
 refine qaa (qa3 [] (l:=[(0,.d (.fl .f64 (canon .f64 (9221120237041090561:Int).toNat)))]) (objs:=[]) rfl (by simp) rfl (by trivial) ⟨rfl,trivial,trivial⟩) ?_
 refine qap ?_
 have hr:=Option.some.inj h
 subst hr
 exact qah (.inr rfl) [] (objs':=[]) (new:=[]) rfl (by simp) (by simp) rfl (by trivial) rfl rfl (by trivial) (fun _=>⟨by simp [V.flat,V.qbg,V.qbb,D.flat],qan⟩) ⟨rfl,rfl,rfl⟩
theorem math_NaN_ok (n:Nat) {r:Nat} (h:qn8 n = some r):qb1 prog false 103 [] [] (fun v o new=>v = .d (.fl .f64 r)∧o = []∧new = []):=math_NaN_ok_fr0 false n h
def qhe (n:Nat) (v19:Nat) (v23:Nat) (v28:Nat):Option Nat :=
 if (fcmp .geq .f64 v19 (4602678819172646912:Nat)) = true then
  some (fneg .f64 (qao .mul .f64 (qao .mul .f64 v23 (4618760256179416344:Nat)) v28))
 else
  some (qao .mul .f64 (qao .mul .f64 v23 (4618760256179416344:Nat)) v28)
def qef (n:Nat) (v19:Nat) (v23:Nat):Nat→Nat→Int→Option Nat
 | 0,_,_=>none
 | m35 + 1,v31,v32 =>
  if v32 ≥ (1:Int) then
   (qef n v19 v23 m35) (qao .sub .f64 (4607182418800017408:Nat) (qao .quo .f64 (qao .mul .f64 (qao .mul .f64 (qao .mul .f64 v23 (4618760256179416344:Nat)) (qao .mul .f64 v23 (4618760256179416344:Nat))) v31) (FloatKind.nearest .f64 (w64 ((w64 ((2:Int) * v32)) * (w64 ((w64 ((2:Int) * v32)) + (1:Int)))))))) (w64 (v32 - (1:Int)))
  else
   qhe n v19 v23 v31
def qfp (n:Nat) (v19:Nat) (v23:Nat):Option Nat :=
 qef n v19 v23 n (4607182418800017408:Nat) (8:Int)
def qfo (n:Nat) (v19:Nat) (v21:Nat):Option Nat :=
 if (fcmp .gtr .f64 v21 (4598175219545276416:Nat)) = true then
  qfp n v19 (qao .sub .f64 (4602678819172646912:Nat) v21)
 else
  qfp n v19 v21
def qfn (n:Nat) (v19:Nat):Option Nat :=
 if (fcmp .geq .f64 v19 (4602678819172646912:Nat)) = true then
  qfo n v19 (qao .sub .f64 v19 (4602678819172646912:Nat))
 else
  qfo n v19 v19
def qhd (n:Nat) (y_:Nat):Option Nat :=
 (f2i .f64 .i64 y_).bind fun x17 =>
 if (fcmp .lss .f64 (qao .sub .f64 y_ (FloatKind.nearest .f64 x17)) (0:Nat)) = true then
  qfn n (qao .add .f64 (qao .sub .f64 y_ (FloatKind.nearest .f64 x17)) (4607182418800017408:Nat))
 else
  qfn n (qao .sub .f64 y_ (FloatKind.nearest .f64 x17))
def qfq (n:Nat) (y_:Nat) (v47:Bool):Option Nat :=
 if v47 = true then
  some (0:Nat)
 else
  qhd n y_
def qhc (n:Nat) (y_:Nat):Option Nat :=
 if (fcmp .neq .f64 (qao .sub .f64 y_ y_) (0:Nat)) = true then
  (qn8 n).bind fun x14 =>
  some x14
 else
  if (fcmp .geq .f64 y_ (4841369599423283200:Nat)) = true then
   qfq n y_ true
  else
   qfq n y_ (fcmp .leq .f64 y_ (14064741636278059008:Nat))
theorem spec_l01SineWide_ok_fr0 (fr:Bool) (n:Nat) (y_:Nat) {r:Nat} (h:qhc n y_ = some r):qb1 prog fr 99 [.d (.fl .f64 y_)] [] (fun v o new=>v = .d (.fl .f64 r)∧o = []∧new = []):=by
 refine qak hτ func99 rfl (by simp) (by simp) ?_
 unfold qhc at h
 refine qa8<|qa2<|qa1 hτ rfl rfl rfl<|qa5<|qa8 ?_
 refine qa8<|qa2<|qa1 hτ rfl rfl rfl<|qa1 hτ rfl rfl rfl<|qa1 hτ rfl rfl rfl ?_
 refine qa1 hτ rfl rfl rfl<|qa5 ?_
 refine qaq rfl (fun hc13=>?_) (fun hc13=>?_)
 ·have h:=qeh h hc13
  refine qa8<|qa2 ?_
  refine qaf h fun x14 hx14 h=>?_
  refine qae hτ false [] rfl rfl rfl (qaj func103 rfl rfl) rfl rfl (by simp) trivial (by trivial) (math_NaN_ok n hx14) ?_
  rintro r0 o0 n0 ⟨rfl,rfl,rfl⟩ -
  refine qa1 hτ rfl rfl rfl<|qa5 ?_
  refine qaa (qa3 [] (l:=[(2,.d (.fl .f64 x14))]) (objs:=[]) rfl (by simp) rfl (by trivial) ⟨rfl,trivial,trivial⟩) ?_
  refine qap ?_
  have hr:=Option.some.inj h
  subst hr
  exact qah (.inr rfl) [] (objs':=[]) (new:=[]) rfl (by simp) (by simp) rfl (by trivial) rfl rfl (by trivial) (fun _=>⟨by simp [V.flat,V.qbg,V.qbb,D.flat],qan⟩) ⟨rfl,rfl,rfl⟩
 ·have h:=qeg h hc13
  refine qat ?_
  refine qby (ι:=Unit) (fun _=>St.of [(0,.d (.fl .f64 y_))] [] f99.ntmps 0) (fun _=>qhd n y_ = some r) ?_ (fun hk44=>?_)
  ·rintro ⟨⟩ h
   replace h:qhd n y_ = some r:=h
   unfold qhd at h
   refine qa8<|qa2<|qa1 hτ rfl rfl rfl<|qa1 hτ rfl rfl rfl ?_
   refine qaf h fun x17 hx17 h=>?_
   refine qxf rfl rfl (qxk hτ rfl rfl rfl rfl rfl rfl hx17) ?_
   refine qa1 hτ rfl rfl rfl<|qa1 hτ rfl rfl rfl<|qa1 hτ rfl rfl rfl<|qa5 ?_
   refine qby (ι:=Nat) (fun v19=>St.of [(3,.d (.fl .f64 v19))] [] f99.ntmps 0) (fun v19=>qfn n v19 = some r) ?_ (fun hk42=>?_)
   ·rintro v19 h
    replace h:qfn n v19 = some r:=h
    unfold qfn at h
    refine qa8<|qa2<|qa1 hτ rfl rfl rfl<|qa1 hτ rfl rfl rfl<|qa1 hτ rfl rfl rfl ?_
    refine qa5 ?_
    refine qby (ι:=Nat) (fun v21=>St.of [(3,.d (.fl .f64 v21)),(4,.d (.bool (fcmp .geq .f64 v19 (4602678819172646912:Nat))))] [] f99.ntmps 0) (fun v21=>qfo n v19 v21 = some r) ?_ (fun hk40=>?_)
    ·rintro v21 h
     replace h:qfo n v19 v21 = some r:=h
     unfold qfo at h
     refine qby (ι:=Nat) (fun v23=>St.of [(3,.d (.fl .f64 v23)),(4,.d (.bool (fcmp .geq .f64 v19 (4602678819172646912:Nat))))] [] f99.ntmps 0) (fun v23=>qfp n v19 v23 = some r) ?_ (fun hk38=>?_)
     ·rintro v23 h
      replace h:qfp n v19 v23 = some r:=h
      unfold qfp at h
      refine qa8<|qa2<|qa1 hτ rfl rfl rfl<|qa1 hτ rfl rfl rfl<|qa1 hτ rfl rfl rfl ?_
      refine qa5<|qa8<|qa2<|qa1 hτ rfl rfl rfl<|qa1 hτ rfl rfl rfl ?_
      refine qa1 hτ rfl rfl rfl<|qa1 hτ rfl rfl rfl<|qa5<|qa8 ?_
      refine qaa (qa3 [] (l:=[(4,.d (.bool (fcmp .geq .f64 v19 (4602678819172646912:Nat)))),(5,.d (.fl .f64 (qao .mul .f64 v23 (4618760256179416344:Nat)))),(6,.d (.fl .f64 (qao .mul .f64 (qao .mul .f64 v23 (4618760256179416344:Nat)) (qao .mul .f64 v23 (4618760256179416344:Nat)))))]) (objs:=[]) rfl (by simp) rfl (by trivial) ⟨rfl,trivial,rfl,trivial,rfl,trivial,trivial⟩) ?_
      refine qa2<|qa1 hτ rfl rfl rfl<|qa5 ?_
      refine qby (ι:=Nat) (fun v28=>St.of [(4,.d (.bool (fcmp .geq .f64 v19 (4602678819172646912:Nat)))),(5,.d (.fl .f64 (qao .mul .f64 v23 (4618760256179416344:Nat)))),(7,.d (.fl .f64 v28))] [] f99.ntmps 0) (fun v28=>qhe n v19 v23 v28 = some r) ?_ (fun hk30=>?_)
      ·rintro v28 h
       replace h:qhe n v19 v23 v28 = some r:=h
       unfold qhe at h
       refine qa8<|qa8<|qa2<|qa1 hτ rfl rfl rfl<|qa5 ?_
       refine qaq rfl (fun hc29=>?_) (fun hc29=>?_)
       ·have h:=qeh h hc29
        refine qa8<|qa2<|qa1 hτ rfl rfl rfl<|qa1 hτ rfl rfl rfl<|qa1 hτ rfl rfl rfl ?_
        refine qa1 hτ rfl rfl rfl<|qa1 hτ rfl rfl rfl<|qa5 ?_
        refine qaa (qa3 [] (l:=[(2,.d (.fl .f64 (fneg .f64 (qao .mul .f64 (qao .mul .f64 v23 (4618760256179416344:Nat)) v28))))]) (objs:=[]) rfl (by simp) rfl (by trivial) ⟨rfl,trivial,trivial⟩) ?_
        refine qap ?_
        have hr:=Option.some.inj h
        subst hr
        exact qah (.inr rfl) [] (objs':=[]) (new:=[]) rfl (by simp) (by simp) rfl (by trivial) rfl rfl (by trivial) (fun _=>⟨by simp [V.flat,V.qbg,V.qbb,D.flat],qan⟩) ⟨rfl,rfl,rfl⟩
       ·have h:=qeg h hc29
        refine qat<|qa8<|qa2<|qa1 hτ rfl rfl rfl<|qa1 hτ rfl rfl rfl ?_
        refine qa1 hτ rfl rfl rfl<|qa1 hτ rfl rfl rfl<|qa5 ?_
        refine qaa (qa3 [] (l:=[(2,.d (.fl .f64 (qao .mul .f64 (qao .mul .f64 v23 (4618760256179416344:Nat)) v28)))]) (objs:=[]) rfl (by simp) rfl (by trivial) ⟨rfl,trivial,trivial⟩) ?_
        refine qap ?_
        have hr:=Option.some.inj h
        subst hr
        exact qah (.inr rfl) [] (objs':=[]) (new:=[]) rfl (by simp) (by simp) rfl (by trivial) rfl rfl (by trivial) (fun _=>⟨by simp [V.flat,V.qbg,V.qbb,D.flat],qan⟩) ⟨rfl,rfl,rfl⟩
      ·refine qa8<|qa8<|qa2<|qa1 hτ rfl rfl rfl<|qa5 ?_
       refine qay ?_
       refine qde (ι:=Nat × Nat × Int) (fun (m35,v31,v32)=>St.of [(4,.d (.bool (fcmp .geq .f64 v19 (4602678819172646912:Nat)))),(5,.d (.fl .f64 (qao .mul .f64 v23 (4618760256179416344:Nat)))),(6,.d (.fl .f64 (qao .mul .f64 (qao .mul .f64 v23 (4618760256179416344:Nat)) (qao .mul .f64 v23 (4618760256179416344:Nat))))),(7,.d (.fl .f64 v31)),(8,.d (.int .i64 v32))] [] f99.ntmps 0) (fun (m35,v31,v32)=>qef n v19 v23 m35 v31 v32 = some r) (fun x=>x.1) (n,(4607182418800017408:Nat),(8:Int)) h (qa3 [] (l:=[(4,.d (.bool (fcmp .geq .f64 v19 (4602678819172646912:Nat)))),(5,.d (.fl .f64 (qao .mul .f64 v23 (4618760256179416344:Nat)))),(6,.d (.fl .f64 (qao .mul .f64 (qao .mul .f64 v23 (4618760256179416344:Nat)) (qao .mul .f64 v23 (4618760256179416344:Nat))))),(7,.d (.fl .f64 (4607182418800017408:Nat))),(8,.d (.int .i64 (8:Int)))]) (objs:=[]) rfl (by simp) rfl (by trivial) ⟨rfl,trivial,rfl,trivial,rfl,trivial,rfl,trivial,rfl,trivial,trivial⟩) ?_
       rintro ⟨m35,v31,v32⟩ h
       replace h:qef n v19 v23 m35 v31 v32 = some r:=h
       rcases m35 with _ | m35
       ·rw [qef] at h;cases h
       rw [qef] at h
       refine qa8<|qa8<|qa2<|qa1 hτ rfl rfl rfl<|qa1 hτ rfl rfl rfl ?_
       refine qa5 ?_
       refine qaq rfl (fun hc37=>?_) (fun hc37=>?_)
       ·have h:=if_t h hc37
        refine qat<|qa8<|qay<|qa2<|qa1 hτ rfl rfl rfl ?_
        refine qa1 hτ rfl rfl rfl<|qa1 hτ rfl rfl rfl<|qa1 hτ rfl rfl rfl<|qa1 hτ rfl rfl rfl<|qa1 hτ rfl rfl rfl ?_
        refine qa1 hτ rfl rfl rfl<|qa1 hτ rfl rfl rfl<|qa1 hτ rfl rfl rfl<|qa1 hτ rfl rfl rfl ?_
        refine qb3 (qa3 [] (l:=[(4,.d (.bool (fcmp .geq .f64 v19 (4602678819172646912:Nat)))),(5,.d (.fl .f64 (qao .mul .f64 v23 (4618760256179416344:Nat)))),(6,.d (.fl .f64 (qao .mul .f64 (qao .mul .f64 v23 (4618760256179416344:Nat)) (qao .mul .f64 v23 (4618760256179416344:Nat))))),(8,.d (.int .i64 v32)),(49,.d (.fl .f64 (qao .mul .f64 (qao .mul .f64 (qao .mul .f64 v23 (4618760256179416344:Nat)) (qao .mul .f64 v23 (4618760256179416344:Nat))) v31))),(56,.d (.fl .f64 (FloatKind.nearest .f64 (w64 ((w64 ((2:Int) * v32)) * (w64 ((w64 ((2:Int) * v32)) + (1:Int))))))))]) (objs:=[]) rfl (by simp) rfl (by trivial) ⟨rfl,trivial,rfl,trivial,rfl,trivial,rfl,trivial,rfl,trivial,rfl,trivial,trivial⟩) ?_
        refine qa1 hτ rfl rfl rfl<|qa1 hτ rfl rfl rfl<|qa1 hτ rfl rfl rfl<|qa5<|qa2 ?_
        refine qa1 hτ rfl rfl rfl<|qa1 hτ rfl rfl rfl<|qa1 hτ rfl rfl rfl<|qa5 ?_
        exact ⟨(m35,(qao .sub .f64 (4607182418800017408:Nat) (qao .quo .f64 (qao .mul .f64 (qao .mul .f64 (qao .mul .f64 v23 (4618760256179416344:Nat)) (qao .mul .f64 v23 (4618760256179416344:Nat))) v31) (FloatKind.nearest .f64 (w64 ((w64 ((2:Int) * v32)) * (w64 ((w64 ((2:Int) * v32)) + (1:Int)))))))),(w64 (v32 - (1:Int)))),h,Nat.lt_succ_self m35,(qa3 [] (l:=[(4,.d (.bool (fcmp .geq .f64 v19 (4602678819172646912:Nat)))),(5,.d (.fl .f64 (qao .mul .f64 v23 (4618760256179416344:Nat)))),(6,.d (.fl .f64 (qao .mul .f64 (qao .mul .f64 v23 (4618760256179416344:Nat)) (qao .mul .f64 v23 (4618760256179416344:Nat))))),(7,.d (.fl .f64 (qao .sub .f64 (4607182418800017408:Nat) (qao .quo .f64 (qao .mul .f64 (qao .mul .f64 (qao .mul .f64 v23 (4618760256179416344:Nat)) (qao .mul .f64 v23 (4618760256179416344:Nat))) v31) (FloatKind.nearest .f64 (w64 ((w64 ((2:Int) * v32)) * (w64 ((w64 ((2:Int) * v32)) + (1:Int)))))))))),(8,.d (.int .i64 (w64 (v32 - (1:Int)))))]) (objs:=[]) rfl (by simp) rfl (by trivial) ⟨rfl,trivial,rfl,trivial,rfl,trivial,rfl,trivial,rfl,trivial,trivial⟩)⟩
       ·have h:=if_f h hc37
        refine qd3 ?_
        refine qaa (qa3 [] (l:=[(4,.d (.bool (fcmp .geq .f64 v19 (4602678819172646912:Nat)))),(5,.d (.fl .f64 (qao .mul .f64 v23 (4618760256179416344:Nat)))),(7,.d (.fl .f64 v31))]) (objs:=[]) rfl (by simp) rfl (by trivial) ⟨rfl,trivial,rfl,trivial,rfl,trivial,trivial⟩) ?_
        exact hk30 v31 h
     ·refine qa8<|qa8<|qa2<|qa1 hτ rfl rfl rfl<|qa1 hτ rfl rfl rfl ?_
      refine qa5 ?_
      refine qaq rfl (fun hc39=>?_) (fun hc39=>?_)
      ·have h:=qeh h hc39
       refine qa2<|qa1 hτ rfl rfl rfl<|qa1 hτ rfl rfl rfl<|qa1 hτ rfl rfl rfl<|qa5 ?_
       refine qaa (qa3 [] (l:=[(3,.d (.fl .f64 (qao .sub .f64 (4602678819172646912:Nat) v21))),(4,.d (.bool (fcmp .geq .f64 v19 (4602678819172646912:Nat))))]) (objs:=[]) rfl (by simp) rfl (by trivial) ⟨rfl,trivial,rfl,trivial,trivial⟩) ?_
       exact hk38 (qao .sub .f64 (4602678819172646912:Nat) v21) h
      ·have h:=qeg h hc39
       refine qat ?_
       refine qaa (qa3 [] (l:=[(3,.d (.fl .f64 v21)),(4,.d (.bool (fcmp .geq .f64 v19 (4602678819172646912:Nat))))]) (objs:=[]) rfl (by simp) rfl (by trivial) ⟨rfl,trivial,rfl,trivial,trivial⟩) ?_
       exact hk38 v21 h
    ·refine qa8<|qa8<|qa2<|qa1 hτ rfl rfl rfl<|qa5 ?_
     refine qaq rfl (fun hc41=>?_) (fun hc41=>?_)
     ·have h:=qeh h hc41
      refine qa2<|qa1 hτ rfl rfl rfl<|qa1 hτ rfl rfl rfl<|qa1 hτ rfl rfl rfl<|qa5 ?_
      refine qaa (qa3 [] (l:=[(3,.d (.fl .f64 (qao .sub .f64 v19 (4602678819172646912:Nat)))),(4,.d (.bool (fcmp .geq .f64 v19 (4602678819172646912:Nat))))]) (objs:=[]) rfl (by simp) rfl (by trivial) ⟨rfl,trivial,rfl,trivial,trivial⟩) ?_
      exact hk40 (qao .sub .f64 v19 (4602678819172646912:Nat)) h
     ·have h:=qeg h hc41
      refine qat ?_
      refine qaa (qa3 [] (l:=[(3,.d (.fl .f64 v19)),(4,.d (.bool (fcmp .geq .f64 v19 (4602678819172646912:Nat))))]) (objs:=[]) rfl (by simp) rfl (by trivial) ⟨rfl,trivial,rfl,trivial,trivial⟩) ?_
      exact hk40 v19 h
   ·refine qa8<|qa8 ?_
    refine qaa (qa3 [] (l:=[(3,.d (.fl .f64 (qao .sub .f64 y_ (FloatKind.nearest .f64 x17))))]) (objs:=[]) rfl (by simp) rfl (by trivial) ⟨rfl,trivial,trivial⟩) ?_
    refine qa2<|qa1 hτ rfl rfl rfl<|qa1 hτ rfl rfl rfl<|qa5 ?_
    refine qaq rfl (fun hc43=>?_) (fun hc43=>?_)
    ·have h:=qeh h hc43
     refine qa2<|qa1 hτ rfl rfl rfl<|qa1 hτ rfl rfl rfl<|qa1 hτ rfl rfl rfl<|qa5 ?_
     refine qaa (qa3 [] (l:=[(3,.d (.fl .f64 (qao .add .f64 (qao .sub .f64 y_ (FloatKind.nearest .f64 x17)) (4607182418800017408:Nat))))]) (objs:=[]) rfl (by simp) rfl (by trivial) ⟨rfl,trivial,trivial⟩) ?_
     exact hk42 (qao .add .f64 (qao .sub .f64 y_ (FloatKind.nearest .f64 x17)) (4607182418800017408:Nat)) h
    ·have h:=qeg h hc43
     refine qat ?_
     refine qaa (qa3 [] (l:=[(3,.d (.fl .f64 (qao .sub .f64 y_ (FloatKind.nearest .f64 x17))))]) (objs:=[]) rfl (by simp) rfl (by trivial) ⟨rfl,trivial,trivial⟩) ?_
     exact hk42 (qao .sub .f64 y_ (FloatKind.nearest .f64 x17)) h
  ·refine qa8 ?_
   refine qby (ι:=Bool) (fun v47=>St.of [(0,.d (.fl .f64 y_)),(19,.d (.bool v47))] [] f99.ntmps 0) (fun v47=>qfq n y_ v47 = some r) ?_ (fun hk49=>?_)
   ·rintro v47 h
    replace h:qfq n y_ v47 = some r:=h
    unfold qfq at h
    refine qaq rfl (fun hc48=>?_) (fun hc48=>?_)
    ·have h:=qeh h hc48
     refine qa8<|qa2<|qa1 hτ rfl rfl rfl<|qa5 ?_
     refine qaa (qa3 [] (l:=[(2,.d (.fl .f64 (0:Nat)))]) (objs:=[]) rfl (by simp) rfl (by trivial) ⟨rfl,trivial,trivial⟩) ?_
     refine qap ?_
     have hr:=Option.some.inj h
     subst hr
     exact qah (.inr rfl) [] (objs':=[]) (new:=[]) rfl (by simp) (by simp) rfl (by trivial) rfl rfl (by trivial) (fun _=>⟨by simp [V.flat,V.qbg,V.qbb,D.flat],qan⟩) ⟨rfl,rfl,rfl⟩
    ·have h:=qeg h hc48
     refine qat ?_
     refine qaa (qa3 [] (l:=[(0,.d (.fl .f64 y_))]) (objs:=[]) rfl (by simp) rfl (by trivial) ⟨rfl,trivial,trivial⟩) ?_
     exact hk44 () h
   ·refine qa8<|qa2<|qa1 hτ rfl rfl rfl<|qa1 hτ rfl rfl rfl<|qa1 hτ rfl rfl rfl ?_
    refine qbq 16 rfl (fun hb50=>?_) (fun hb50=>?_)
    ·have h:=qeh h hb50
     refine qab rfl rfl<|qab rfl rfl<|qa1 hτ rfl rfl rfl<|qa5 ?_
     refine qaa (qa3 [] (l:=[(0,.d (.fl .f64 y_)),(19,.d (.bool true))]) (objs:=[]) rfl (by simp) rfl (by trivial) ⟨rfl,trivial,rfl,trivial,trivial⟩) ?_
     exact hk49 true h
    ·have h:=qeg h hb50
     refine qa1 hτ rfl rfl rfl<|qa1 hτ rfl rfl rfl<|qa1 hτ rfl rfl rfl<|qa5 ?_
     refine qaa (qa3 [] (l:=[(0,.d (.fl .f64 y_)),(19,.d (.bool (fcmp .leq .f64 y_ (14064741636278059008:Nat))))]) (objs:=[]) rfl (by simp) rfl (by trivial) ⟨rfl,trivial,rfl,trivial,trivial⟩) ?_
     exact hk49 (fcmp .leq .f64 y_ (14064741636278059008:Nat)) h
theorem qlr (n:Nat) (y_:Nat) {r:Nat} (h:qhc n y_ = some r):qb1 prog false 99 [.d (.fl .f64 y_)] [] (fun v o new=>v = .d (.fl .f64 r)∧o = []∧new = []):=spec_l01SineWide_ok_fr0 false n y_ h
def qcm (n:Nat) (x_:Nat):Option Nat :=
 (ql6 .f64 .f32 x_).bind fun x2 =>
 some x2
theorem spec_l01Narrow_ok_fr0 (fr:Bool) (n:Nat) (x_:Nat) {r:Nat} (h:qcm n x_ = some r):qb1 prog fr 100 [.d (.fl .f64 x_)] [] (fun v o new=>v = .d (.fl .f32 r)∧o = []∧new = []):=by
 refine qak hτ func100 rfl (by simp) (by simp) ?_
 unfold qcm at h
 refine qa8<|qa2<|qa1 hτ rfl rfl rfl<|qa5<|qa8 ?_
 refine qa2<|qa1 hτ rfl rfl rfl ?_
 refine qaf h fun x2 hx2 h=>?_
 refine qa1 hτ (v:=.d (.fl .f32 x2)) rfl rfl (qnz hx2) ?_
 refine qa1 hτ rfl rfl rfl<|qa5 ?_
 refine qaa (qa3 [] (l:=[(2,.d (.fl .f32 x2))]) (objs:=[]) rfl (by simp) rfl (by trivial) ⟨rfl,trivial,trivial⟩) ?_
 refine qap ?_
 have hr:=Option.some.inj h
 subst hr
 exact qah (.inr rfl) [] (objs':=[]) (new:=[]) rfl (by simp) (by simp) rfl (by trivial) rfl rfl (by trivial) (fun _=>⟨by simp [V.flat,V.qbg,V.qbb,D.flat],qan⟩) ⟨rfl,rfl,rfl⟩
theorem qdb (n:Nat) (x_:Nat) {r:Nat} (h:qcm n x_ = some r):qb1 prog false 100 [.d (.fl .f64 x_)] [] (fun v o new=>v = .d (.fl .f32 r)∧o = []∧new = []):=spec_l01Narrow_ok_fr0 false n x_ h
def qi3 (n:Nat) (v35:Nat) (v36:Int):Option Cx :=
 (qhc n (qao .sub .f64 (4598175219545276416:Nat) v35)).bind fun x37 =>
 (qhc n v35).bind fun x38 =>
 if v36 = (1:Int) then
  (qcm n (qao .sub .f64 (0:Nat) x38)).bind fun x46 =>
  (qcm n x37).bind fun x47 =>
  some (Cx.mk x46 x47)
 else
  if v36 = (2:Int) then
   (qcm n (qao .sub .f64 (0:Nat) x37)).bind fun x49 =>
   (qcm n (qao .sub .f64 (0:Nat) x38)).bind fun x50 =>
   some (Cx.mk x49 x50)
  else
   if v36 = (3:Int) then
    (qcm n x38).bind fun x52 =>
    (qcm n (qao .sub .f64 (0:Nat) x37)).bind fun x53 =>
    some (Cx.mk x52 x53)
   else
    (qcm n x37).bind fun x54 =>
    (qcm n x38).bind fun x55 =>
    some (Cx.mk x54 x55)
def qfb (n:Nat):Nat→Nat→Int→Option Cx
 | 0,_,_=>none
 | m61 + 1,v57,v58 =>
  if (fcmp .geq .f64 v57 (4598175219545276416:Nat)) = true then
   (qfb n m61) (qao .sub .f64 v57 (4598175219545276416:Nat)) (w64 (v58 + (1:Int)))
  else
   qi3 n v57 v58
def qgn (n:Nat) (v30:Nat):Option Cx :=
 qfb n n v30 (0:Int)
def qi2 (n:Nat) (turns_:Nat):Option Cx :=
 (f2i .f64 .i64 turns_).bind fun x28 =>
 if (fcmp .lss .f64 (qao .sub .f64 turns_ (FloatKind.nearest .f64 x28)) (0:Nat)) = true then
  qgn n (qao .add .f64 (qao .sub .f64 turns_ (FloatKind.nearest .f64 x28)) (4607182418800017408:Nat))
 else
  qgn n (qao .sub .f64 turns_ (FloatKind.nearest .f64 x28))
def qgo (n:Nat) (turns_:Nat) (v69:Bool):Option Cx :=
 if v69 = true then
  some (Cx.mk (1065353216:Nat) (0:Nat))
 else
  qi2 n turns_
def qib (n:Nat) (turns_:Nat):Option Cx :=
 if (fcmp .neq .f64 (qao .sub .f64 turns_ turns_) (0:Nat)) = true then
  (qe0 n (2143289344:Int)).bind fun x24 =>
  (qe0 n (2143289344:Int)).bind fun x25 =>
  some (Cx.mk x24 x25)
 else
  if (fcmp .geq .f64 turns_ (4841369599423283200:Nat)) = true then
   qgo n turns_ true
  else
   qgo n turns_ (fcmp .leq .f64 turns_ (14064741636278059008:Nat))
theorem spec_l01Phasor_ok_fr0 (fr:Bool) (n:Nat) (turns_:Nat) {r:Cx} (h:qib n turns_ = some r):qb1 prog fr 81 [.d (.fl .f64 turns_)] [] (fun v o new=>v = .d (.cx .f32 r.re r.im)∧o = []∧new = []):=by
 refine qak hτ func81 rfl (by simp) (by simp) ?_
 unfold qib at h
 refine qa8<|qa2<|qa1 hτ rfl rfl rfl<|qa5<|qa8 ?_
 refine qa8<|qa2<|qa1 hτ rfl rfl rfl<|qa1 hτ rfl rfl rfl<|qa1 hτ rfl rfl rfl ?_
 refine qa1 hτ rfl rfl rfl<|qa5 ?_
 refine qaq rfl (fun hc23=>?_) (fun hc23=>?_)
 ·have h:=qeh h hc23
  refine qa8<|qa2 ?_
  refine qaf h fun x24 hx24 h=>?_
  refine qae hτ false [] rfl rfl rfl (qaj func98 rfl rfl) rfl rfl (by simp) ⟨trivial,trivial⟩ (by trivial) (qhx n (2143289344:Int) hx24) ?_
  rintro r0 o0 n0 ⟨rfl,rfl,rfl⟩ -
  refine qaf h fun x25 hx25 h=>?_
  refine qae hτ false [] rfl rfl rfl (qaj func98 rfl rfl) rfl rfl (by simp) ⟨trivial,trivial⟩ (by trivial) (qhx n (2143289344:Int) hx25) ?_
  rintro r0 o0 n0 ⟨rfl,rfl,rfl⟩ -
  refine qa1 hτ rfl rfl rfl<|qa1 hτ rfl rfl rfl<|qa5 ?_
  refine qaa (qa3 [] (l:=[(2,.d (.cx .f32 x24 x25))]) (objs:=[]) rfl (by simp) rfl (by trivial) ⟨rfl,trivial,trivial⟩) ?_
  refine qap ?_
  have hr:=Option.some.inj h
  subst hr
  exact qah (.inr rfl) [] (objs':=[]) (new:=[]) rfl (by simp) (by simp) rfl (by trivial) rfl rfl (by trivial) (fun _=>⟨by simp [V.flat,V.qbg,V.qbb,D.flat],qan⟩) ⟨rfl,rfl,rfl⟩
 ·have h:=qeg h hc23
  refine qat ?_
  refine qby (ι:=Unit) (fun _=>St.of [(0,.d (.fl .f64 turns_))] [] f81.ntmps 0) (fun _=>qi2 n turns_ = some r) ?_ (fun hk66=>?_)
  ·rintro ⟨⟩ h
   replace h:qi2 n turns_ = some r:=h
   unfold qi2 at h
   refine qa8<|qa2<|qa1 hτ rfl rfl rfl<|qa1 hτ rfl rfl rfl ?_
   refine qaf h fun x28 hx28 h=>?_
   refine qxf rfl rfl (qxk hτ rfl rfl rfl rfl rfl rfl hx28) ?_
   refine qa1 hτ rfl rfl rfl<|qa1 hτ rfl rfl rfl<|qa1 hτ rfl rfl rfl<|qa5 ?_
   refine qby (ι:=Nat) (fun v30=>St.of [(3,.d (.fl .f64 v30))] [] f81.ntmps 0) (fun v30=>qgn n v30 = some r) ?_ (fun hk64=>?_)
   ·rintro v30 h
    replace h:qgn n v30 = some r:=h
    unfold qgn at h
    refine qa8<|qa2<|qa1 hτ rfl rfl rfl<|qa5 ?_
    refine qby (ι:=Nat × Int) (fun (v35,v36)=>St.of [(3,.d (.fl .f64 v35)),(4,.d (.int .i64 v36))] [] f81.ntmps 0) (fun (v35,v36)=>qi3 n v35 v36 = some r) ?_ (fun hk56=>?_)
    ·rintro ⟨v35,v36⟩ h
     replace h:qi3 n v35 v36 = some r:=h
     unfold qi3 at h
     refine qa8<|qa2<|qa1 hτ rfl rfl rfl<|qa1 hτ rfl rfl rfl ?_
     refine qaf h fun x37 hx37 h=>?_
     refine qae hτ false [] rfl rfl rfl (qaj func99 rfl rfl) rfl rfl (by simp) ⟨trivial,trivial⟩ (by trivial) (qlr n (qao .sub .f64 (4598175219545276416:Nat) v35) hx37) ?_
     rintro r0 o0 n0 ⟨rfl,rfl,rfl⟩ -
     refine qa1 hτ rfl rfl rfl<|qa5<|qa8<|qa2<|qa1 hτ rfl rfl rfl ?_
     refine qaf h fun x38 hx38 h=>?_
     refine qae hτ false [] rfl rfl rfl (qaj func99 rfl rfl) rfl rfl (by simp) ⟨trivial,trivial⟩ (by trivial) (qlr n v35 hx38) ?_
     rintro r0 o0 n0 ⟨rfl,rfl,rfl⟩ -
     refine qa1 hτ rfl rfl rfl<|qa5<|qa8<|qa8 ?_
     refine qaa (qa3 [] (l:=[(4,.d (.int .i64 v36)),(5,.d (.fl .f64 x37)),(6,.d (.fl .f64 x38))]) (objs:=[]) rfl (by simp) rfl (by trivial) ⟨rfl,trivial,rfl,trivial,rfl,trivial,trivial⟩) ?_
     refine qa2<|qa1 hτ rfl rfl rfl<|qa5<|qay<|qa8 ?_
     refine qa2 ?_
     refine qa1 hτ (v:=.d (.bool (decide (v36 = (1:Int))))) rfl rfl (qeq _ _) ?_
     refine qa1 hτ rfl rfl rfl<|qa5 ?_
     refine qaq rfl (fun hc45=>?_) (fun hc45=>?_)
     ·have h:=if_t h hc45
      refine qa8<|qa2<|qa1 hτ rfl rfl rfl<|qa1 hτ rfl rfl rfl ?_
      refine qaf h fun x46 hx46 h=>?_
      refine qae hτ false [] rfl rfl rfl (qaj func100 rfl rfl) rfl rfl (by simp) ⟨trivial,trivial⟩ (by trivial) (qdb n (qao .sub .f64 (0:Nat) x38) hx46) ?_
      rintro r0 o0 n0 ⟨rfl,rfl,rfl⟩ -
      refine qa1 hτ rfl rfl rfl ?_
      refine qaf h fun x47 hx47 h=>?_
      refine qae hτ false [] rfl rfl rfl (qaj func100 rfl rfl) rfl rfl (by simp) ⟨trivial,trivial⟩ (by trivial) (qdb n x37 hx47) ?_
      rintro r0 o0 n0 ⟨rfl,rfl,rfl⟩ -
      refine qa1 hτ rfl rfl rfl<|qa1 hτ rfl rfl rfl<|qa5 ?_
      refine qaa (qa3 [] (l:=[(2,.d (.cx .f32 x46 x47))]) (objs:=[]) rfl (by simp) rfl (by trivial) ⟨rfl,trivial,trivial⟩) ?_
      refine qap ?_
      have hr:=Option.some.inj h
      subst hr
      exact qah (.inr rfl) [] (objs':=[]) (new:=[]) rfl (by simp) (by simp) rfl (by trivial) rfl rfl (by trivial) (fun _=>⟨by simp [V.flat,V.qbg,V.qbb,D.flat],qan⟩) ⟨rfl,rfl,rfl⟩
     ·have h:=if_f h hc45
      refine qa8<|qa2 ?_
      refine qa1 hτ (v:=.d (.bool (decide (v36 = (2:Int))))) rfl rfl (qeq _ _) ?_
      refine qa1 hτ rfl rfl rfl<|qa5 ?_
      refine qaq rfl (fun hc48=>?_) (fun hc48=>?_)
      ·have h:=if_t h hc48
       refine qa8<|qa2<|qa1 hτ rfl rfl rfl<|qa1 hτ rfl rfl rfl ?_
       refine qaf h fun x49 hx49 h=>?_
       refine qae hτ false [] rfl rfl rfl (qaj func100 rfl rfl) rfl rfl (by simp) ⟨trivial,trivial⟩ (by trivial) (qdb n (qao .sub .f64 (0:Nat) x37) hx49) ?_
       rintro r0 o0 n0 ⟨rfl,rfl,rfl⟩ -
       refine qa1 hτ rfl rfl rfl<|qa1 hτ rfl rfl rfl ?_
       refine qaf h fun x50 hx50 h=>?_
       refine qae hτ false [] rfl rfl rfl (qaj func100 rfl rfl) rfl rfl (by simp) ⟨trivial,trivial⟩ (by trivial) (qdb n (qao .sub .f64 (0:Nat) x38) hx50) ?_
       rintro r0 o0 n0 ⟨rfl,rfl,rfl⟩ -
       refine qa1 hτ rfl rfl rfl ?_
       refine qb3 (qa3 [] (l:=[(57,.d (.cx .f32 x49 x50))]) (objs:=[]) rfl (by simp) rfl (by trivial) ⟨rfl,trivial,trivial⟩) ?_
       refine qa1 hτ rfl rfl rfl<|qa5 ?_
       refine qaa (qa3 [] (l:=[(2,.d (.cx .f32 x49 x50))]) (objs:=[]) rfl (by simp) rfl (by trivial) ⟨rfl,trivial,trivial⟩) ?_
       refine qap ?_
       have hr:=Option.some.inj h
       subst hr
       exact qah (.inr rfl) [] (objs':=[]) (new:=[]) rfl (by simp) (by simp) rfl (by trivial) rfl rfl (by trivial) (fun _=>⟨by simp [V.flat,V.qbg,V.qbb,D.flat],qan⟩) ⟨rfl,rfl,rfl⟩
      ·have h:=if_f h hc48
       refine qa8<|qa2 ?_
       refine qa1 hτ (v:=.d (.bool (decide (v36 = (3:Int))))) rfl rfl (qeq _ _) ?_
       refine qa1 hτ rfl rfl rfl<|qa5 ?_
       refine qaa (qa3 [] (l:=[(5,.d (.fl .f64 x37)),(6,.d (.fl .f64 x38)),(58,.d (.bool (decide (v36 = (3:Int)))))]) (objs:=[]) rfl (by simp) rfl (by trivial) ⟨rfl,trivial,rfl,trivial,rfl,trivial,trivial⟩) ?_
       refine qaq rfl (fun hc51=>?_) (fun hc51=>?_)
       ·have h:=if_t h hc51
        refine qa8<|qa2<|qa1 hτ rfl rfl rfl ?_
        refine qaf h fun x52 hx52 h=>?_
        refine qae hτ false [] rfl rfl rfl (qaj func100 rfl rfl) rfl rfl (by simp) ⟨trivial,trivial⟩ (by trivial) (qdb n x38 hx52) ?_
        rintro r0 o0 n0 ⟨rfl,rfl,rfl⟩ -
        refine qa1 hτ rfl rfl rfl<|qa1 hτ rfl rfl rfl ?_
        refine qaf h fun x53 hx53 h=>?_
        refine qae hτ false [] rfl rfl rfl (qaj func100 rfl rfl) rfl rfl (by simp) ⟨trivial,trivial⟩ (by trivial) (qdb n (qao .sub .f64 (0:Nat) x37) hx53) ?_
        rintro r0 o0 n0 ⟨rfl,rfl,rfl⟩ -
        refine qa1 hτ rfl rfl rfl<|qa1 hτ rfl rfl rfl<|qa5 ?_
        refine qaa (qa3 [] (l:=[(2,.d (.cx .f32 x52 x53))]) (objs:=[]) rfl (by simp) rfl (by trivial) ⟨rfl,trivial,trivial⟩) ?_
        refine qap ?_
        have hr:=Option.some.inj h
        subst hr
        exact qah (.inr rfl) [] (objs':=[]) (new:=[]) rfl (by simp) (by simp) rfl (by trivial) rfl rfl (by trivial) (fun _=>⟨by simp [V.flat,V.qbg,V.qbb,D.flat],qan⟩) ⟨rfl,rfl,rfl⟩
       ·have h:=if_f h hc51
        refine qat<|qa8<|qa2<|qa1 hτ rfl rfl rfl ?_
        refine qaf h fun x54 hx54 h=>?_
        refine qae hτ false [] rfl rfl rfl (qaj func100 rfl rfl) rfl rfl (by simp) ⟨trivial,trivial⟩ (by trivial) (qdb n x37 hx54) ?_
        rintro r0 o0 n0 ⟨rfl,rfl,rfl⟩ -
        refine qa1 hτ rfl rfl rfl ?_
        refine qaf h fun x55 hx55 h=>?_
        refine qae hτ false [] rfl rfl rfl (qaj func100 rfl rfl) rfl rfl (by simp) ⟨trivial,trivial⟩ (by trivial) (qdb n x38 hx55) ?_
        rintro r0 o0 n0 ⟨rfl,rfl,rfl⟩ -
        refine qa1 hτ rfl rfl rfl<|qa1 hτ rfl rfl rfl<|qa5 ?_
        refine qaa (qa3 [] (l:=[(2,.d (.cx .f32 x54 x55))]) (objs:=[]) rfl (by simp) rfl (by trivial) ⟨rfl,trivial,trivial⟩) ?_
        refine qap ?_
        have hr:=Option.some.inj h
        subst hr
        exact qah (.inr rfl) [] (objs':=[]) (new:=[]) rfl (by simp) (by simp) rfl (by trivial) rfl rfl (by trivial) (fun _=>⟨by simp [V.flat,V.qbg,V.qbb,D.flat],qan⟩) ⟨rfl,rfl,rfl⟩
    ·refine qa8<|qay ?_
     refine qde (ι:=Nat × Nat × Int) (fun (m61,v57,v58)=>St.of [(3,.d (.fl .f64 v57)),(4,.d (.int .i64 v58))] [] f81.ntmps 0) (fun (m61,v57,v58)=>qfb n m61 v57 v58 = some r) (fun x=>x.1) (n,v30,(0:Int)) h (qa3 [] (l:=[(3,.d (.fl .f64 v30)),(4,.d (.int .i64 (0:Int)))]) (objs:=[]) rfl (by simp) rfl (by trivial) ⟨rfl,trivial,rfl,trivial,trivial⟩) ?_
     rintro ⟨m61,v57,v58⟩ h
     replace h:qfb n m61 v57 v58 = some r:=h
     rcases m61 with _ | m61
     ·rw [qfb] at h;cases h
     rw [qfb] at h
     refine qa8<|qa8<|qa2<|qa1 hτ rfl rfl rfl<|qa1 hτ rfl rfl rfl ?_
     refine qa5 ?_
     refine qaq rfl (fun hc63=>?_) (fun hc63=>?_)
     ·have h:=qeh h hc63
      refine qat<|qay<|qa8<|qa2<|qa1 hτ rfl rfl rfl ?_
      refine qa1 hτ rfl rfl rfl<|qa1 hτ rfl rfl rfl<|qa5<|qa2<|qa1 hτ rfl rfl rfl ?_
      refine qa1 hτ rfl rfl rfl<|qa1 hτ rfl rfl rfl<|qa5 ?_
      exact ⟨(m61,(qao .sub .f64 v57 (4598175219545276416:Nat)),(w64 (v58 + (1:Int)))),h,Nat.lt_succ_self m61,(qa3 [] (l:=[(3,.d (.fl .f64 (qao .sub .f64 v57 (4598175219545276416:Nat)))),(4,.d (.int .i64 (w64 (v58 + (1:Int)))))]) (objs:=[]) rfl (by simp) rfl (by trivial) ⟨rfl,trivial,rfl,trivial,trivial⟩)⟩
     ·have h:=qeg h hc63
      refine qd3 ?_
      refine qaa (qa3 [] (l:=[(3,.d (.fl .f64 v57)),(4,.d (.int .i64 v58))]) (objs:=[]) rfl (by simp) rfl (by trivial) ⟨rfl,trivial,rfl,trivial,trivial⟩) ?_
      exact hk56 (v57,v58) h
   ·refine qa8<|qa8 ?_
    refine qaa (qa3 [] (l:=[(3,.d (.fl .f64 (qao .sub .f64 turns_ (FloatKind.nearest .f64 x28))))]) (objs:=[]) rfl (by simp) rfl (by trivial) ⟨rfl,trivial,trivial⟩) ?_
    refine qa2<|qa1 hτ rfl rfl rfl<|qa1 hτ rfl rfl rfl<|qa5 ?_
    refine qaq rfl (fun hc65=>?_) (fun hc65=>?_)
    ·have h:=qeh h hc65
     refine qa2<|qa1 hτ rfl rfl rfl<|qa1 hτ rfl rfl rfl<|qa1 hτ rfl rfl rfl<|qa5 ?_
     refine qaa (qa3 [] (l:=[(3,.d (.fl .f64 (qao .add .f64 (qao .sub .f64 turns_ (FloatKind.nearest .f64 x28)) (4607182418800017408:Nat))))]) (objs:=[]) rfl (by simp) rfl (by trivial) ⟨rfl,trivial,trivial⟩) ?_
     exact hk64 (qao .add .f64 (qao .sub .f64 turns_ (FloatKind.nearest .f64 x28)) (4607182418800017408:Nat)) h
    ·have h:=qeg h hc65
     refine qat ?_
     refine qaa (qa3 [] (l:=[(3,.d (.fl .f64 (qao .sub .f64 turns_ (FloatKind.nearest .f64 x28))))]) (objs:=[]) rfl (by simp) rfl (by trivial) ⟨rfl,trivial,trivial⟩) ?_
     exact hk64 (qao .sub .f64 turns_ (FloatKind.nearest .f64 x28)) h
  ·refine qa8 ?_
   refine qby (ι:=Bool) (fun v69=>St.of [(0,.d (.fl .f64 turns_)),(19,.d (.bool v69))] [] f81.ntmps 0) (fun v69=>qgo n turns_ v69 = some r) ?_ (fun hk71=>?_)
   ·rintro v69 h
    replace h:qgo n turns_ v69 = some r:=h
    unfold qgo at h
    refine qaq rfl (fun hc70=>?_) (fun hc70=>?_)
    ·have h:=qeh h hc70
     refine qa8<|qa2<|qa1 hτ rfl rfl rfl<|qa5 ?_
     refine qaa (qa3 [] (l:=[(2,.d (.cx .f32 (1065353216:Nat) (0:Nat)))]) (objs:=[]) rfl (by simp) rfl (by trivial) ⟨rfl,trivial,trivial⟩) ?_
     refine qap ?_
     have hr:=Option.some.inj h
     subst hr
     exact qah (.inr rfl) [] (objs':=[]) (new:=[]) rfl (by simp) (by simp) rfl (by trivial) rfl rfl (by trivial) (fun _=>⟨by simp [V.flat,V.qbg,V.qbb,D.flat],qan⟩) ⟨rfl,rfl,rfl⟩
    ·have h:=qeg h hc70
     refine qat ?_
     refine qaa (qa3 [] (l:=[(0,.d (.fl .f64 turns_))]) (objs:=[]) rfl (by simp) rfl (by trivial) ⟨rfl,trivial,trivial⟩) ?_
     exact hk66 () h
   ·refine qa8<|qa2<|qa1 hτ rfl rfl rfl<|qa1 hτ rfl rfl rfl<|qa1 hτ rfl rfl rfl ?_
    refine qbq 16 rfl (fun hb72=>?_) (fun hb72=>?_)
    ·have h:=qeh h hb72
     refine qab rfl rfl<|qab rfl rfl<|qa1 hτ rfl rfl rfl<|qa5 ?_
     refine qaa (qa3 [] (l:=[(0,.d (.fl .f64 turns_)),(19,.d (.bool true))]) (objs:=[]) rfl (by simp) rfl (by trivial) ⟨rfl,trivial,rfl,trivial,trivial⟩) ?_
     exact hk71 true h
    ·have h:=qeg h hb72
     refine qa1 hτ rfl rfl rfl<|qa1 hτ rfl rfl rfl<|qa1 hτ rfl rfl rfl<|qa5 ?_
     refine qaa (qa3 [] (l:=[(0,.d (.fl .f64 turns_)),(19,.d (.bool (fcmp .leq .f64 turns_ (14064741636278059008:Nat))))]) (objs:=[]) rfl (by simp) rfl (by trivial) ⟨rfl,trivial,rfl,trivial,trivial⟩) ?_
     exact hk71 (fcmp .leq .f64 turns_ (14064741636278059008:Nat)) h
theorem qmb (n:Nat) (turns_:Nat) {r:Cx} (h:qib n turns_ = some r):qb1 prog false 81 [.d (.fl .f64 turns_)] [] (fun v o new=>v = .d (.cx .f32 r.re r.im)∧o = []∧new = []):=spec_l01Phasor_ok_fr0 false n turns_ h
def qjk (n:Nat) (x_:Cx):Option Cx :=
 (ql6 .f32 .f64 x_.re).bind fun x3 =>
 (ql6 .f32 .f64 x_.im).bind fun x4 =>
 some (Cx.mk x3 x4)
theorem spec_l01Wide_ok_fr0 (fr:Bool) (n:Nat) (x_:Cx) {r:Cx} (h:qjk n x_ = some r):qb1 prog fr 97 [.d (.cx .f32 x_.re x_.im)] [] (fun v o new=>v = .d (.cx .f64 r.re r.im)∧o = []∧new = []):=by
 refine qak hτ func97 rfl (by simp) (by simp) ?_
 unfold qjk at h
 refine qa8<|qa2<|qa1 hτ rfl rfl rfl<|qa5<|qa8 ?_
 refine qa2<|qa1 hτ rfl rfl rfl<|qa1 hτ rfl rfl rfl ?_
 refine qaf h fun x3 hx3 h=>?_
 refine qa1 hτ (v:=.d (.fl .f64 x3)) rfl rfl (qnz hx3) ?_
 refine qa1 hτ rfl rfl rfl<|qa1 hτ rfl rfl rfl ?_
 refine qaf h fun x4 hx4 h=>?_
 refine qa1 hτ (v:=.d (.fl .f64 x4)) rfl rfl (qnz hx4) ?_
 refine qa1 hτ rfl rfl rfl<|qa1 hτ rfl rfl rfl<|qa5 ?_
 refine qaa (qa3 [] (l:=[(2,.d (.cx .f64 x3 x4))]) (objs:=[]) rfl (by simp) rfl (by trivial) ⟨rfl,trivial,trivial⟩) ?_
 refine qap ?_
 have hr:=Option.some.inj h
 subst hr
 exact qah (.inr rfl) [] (objs':=[]) (new:=[]) rfl (by simp) (by simp) rfl (by trivial) rfl rfl (by trivial) (fun _=>⟨by simp [V.flat,V.qbg,V.qbb,D.flat],qan⟩) ⟨rfl,rfl,rfl⟩
theorem qn1 (n:Nat) (x_:Cx) {r:Cx} (h:qjk n x_ = some r):qb1 prog false 97 [.d (.cx .f32 x_.re x_.im)] [] (fun v o new=>v = .d (.cx .f64 r.re r.im)∧o = []∧new = []):=spec_l01Wide_ok_fr0 false n x_ h
def qj8 (n:Nat) (x_:Cx) (y_:Cx):Option Cx :=
 some (Cx.mk (qao .sub .f64 (qao .mul .f64 x_.re y_.re) (qao .mul .f64 x_.im y_.im)) (qao .add .f64 (qao .mul .f64 x_.re y_.im) (qao .mul .f64 x_.im y_.re)))
theorem spec_l01WideMul_ok_fr0 (fr:Bool) (n:Nat) (x_:Cx) (y_:Cx) {r:Cx} (h:qj8 n x_ y_ = some r):qb1 prog fr 96 [.d (.cx .f64 x_.re x_.im),.d (.cx .f64 y_.re y_.im)] [] (fun v o new=>v = .d (.cx .f64 r.re r.im)∧o = []∧new = []):=by
 refine qak hτ func96 rfl (by simp) (by simp) ?_
 unfold qj8 at h
 refine qa8<|qa2<|qa1 hτ rfl rfl rfl<|qa5<|qa8 ?_
 refine qa2<|qa1 hτ rfl rfl rfl<|qa1 hτ rfl rfl rfl<|qa1 hτ rfl rfl rfl<|qa1 hτ rfl rfl rfl ?_
 refine qa1 hτ rfl rfl rfl<|qa1 hτ rfl rfl rfl<|qa1 hτ rfl rfl rfl<|qa1 hτ rfl rfl rfl<|qa1 hτ rfl rfl rfl ?_
 refine qa1 hτ rfl rfl rfl<|qa1 hτ rfl rfl rfl ?_
 refine qb3 (qa3 [] (l:=[(0,.d (.cx .f64 x_.re x_.im)),(1,.d (.cx .f64 y_.re y_.im)),(17,.d (.fl .f64 (qao .sub .f64 (qao .mul .f64 x_.re y_.re) (qao .mul .f64 x_.im y_.im))))]) (objs:=[]) rfl (by simp) rfl (by trivial) ⟨rfl,trivial,rfl,trivial,rfl,trivial,trivial⟩) ?_
 refine qa1 hτ rfl rfl rfl<|qa5<|qa8<|qa2<|qa1 hτ rfl rfl rfl ?_
 refine qa1 hτ rfl rfl rfl<|qa1 hτ rfl rfl rfl<|qa1 hτ rfl rfl rfl<|qa1 hτ rfl rfl rfl<|qa1 hτ rfl rfl rfl ?_
 refine qa1 hτ rfl rfl rfl<|qa1 hτ rfl rfl rfl<|qa1 hτ rfl rfl rfl<|qa1 hτ rfl rfl rfl<|qa1 hτ rfl rfl rfl ?_
 refine qb3 (qa3 [] (l:=[(5,.d (.fl .f64 (qao .sub .f64 (qao .mul .f64 x_.re y_.re) (qao .mul .f64 x_.im y_.im)))),(28,.d (.fl .f64 (qao .add .f64 (qao .mul .f64 x_.re y_.im) (qao .mul .f64 x_.im y_.re))))]) (objs:=[]) rfl (by simp) rfl (by trivial) ⟨rfl,trivial,rfl,trivial,trivial⟩) ?_
 refine qa1 hτ rfl rfl rfl<|qa5<|qa8<|qa2<|qa1 hτ rfl rfl rfl ?_
 refine qa1 hτ rfl rfl rfl<|qa1 hτ rfl rfl rfl<|qa1 hτ rfl rfl rfl<|qa5 ?_
 refine qaa (qa3 [] (l:=[(4,.d (.cx .f64 (qao .sub .f64 (qao .mul .f64 x_.re y_.re) (qao .mul .f64 x_.im y_.im)) (qao .add .f64 (qao .mul .f64 x_.re y_.im) (qao .mul .f64 x_.im y_.re))))]) (objs:=[]) rfl (by simp) rfl (by trivial) ⟨rfl,trivial,trivial⟩) ?_
 refine qap ?_
 have hr:=Option.some.inj h
 subst hr
 exact qah (.inr rfl) [] (objs':=[]) (new:=[]) rfl (by simp) (by simp) rfl (by trivial) rfl rfl (by trivial) (fun _=>⟨by simp [V.flat,V.qbg,V.qbb,D.flat],qan⟩) ⟨rfl,rfl,rfl⟩
theorem spec_l01WideMul_ok (n:Nat) (x_:Cx) (y_:Cx) {r:Cx} (h:qj8 n x_ y_ = some r):qb1 prog false 96 [.d (.cx .f64 x_.re x_.im),.d (.cx .f64 y_.re y_.im)] [] (fun v o new=>v = .d (.cx .f64 r.re r.im)∧o = []∧new = []):=spec_l01WideMul_ok_fr0 false n x_ y_ h
def qj7 (n:Nat) (x_:Cx):Option Cx :=
 (qcm n x_.re).bind fun x3 =>
 (qcm n x_.im).bind fun x4 =>
 some (Cx.mk x3 x4)
theorem spec_l01CNarrow_ok_fr0 (fr:Bool) (n:Nat) (x_:Cx) {r:Cx} (h:qj7 n x_ = some r):qb1 prog fr 95 [.d (.cx .f64 x_.re x_.im)] [] (fun v o new=>v = .d (.cx .f32 r.re r.im)∧o = []∧new = []):=by
 refine qak hτ func95 rfl (by simp) (by simp) ?_
 unfold qj7 at h
 refine qa8<|qa2<|qa1 hτ rfl rfl rfl<|qa5<|qa8 ?_
 refine qa2<|qa1 hτ rfl rfl rfl<|qa1 hτ rfl rfl rfl ?_
 refine qaf h fun x3 hx3 h=>?_
 refine qae hτ false [] rfl rfl rfl (qaj func100 rfl rfl) rfl rfl (by simp) ⟨trivial,trivial⟩ (by trivial) (qdb n x_.re hx3) ?_
 rintro r0 o0 n0 ⟨rfl,rfl,rfl⟩ -
 refine qa1 hτ rfl rfl rfl<|qa1 hτ rfl rfl rfl ?_
 refine qaf h fun x4 hx4 h=>?_
 refine qae hτ false [] rfl rfl rfl (qaj func100 rfl rfl) rfl rfl (by simp) ⟨trivial,trivial⟩ (by trivial) (qdb n x_.im hx4) ?_
 rintro r0 o0 n0 ⟨rfl,rfl,rfl⟩ -
 refine qa1 hτ rfl rfl rfl<|qa1 hτ rfl rfl rfl<|qa5 ?_
 refine qaa (qa3 [] (l:=[(2,.d (.cx .f32 x3 x4))]) (objs:=[]) rfl (by simp) rfl (by trivial) ⟨rfl,trivial,trivial⟩) ?_
 refine qap ?_
 have hr:=Option.some.inj h
 subst hr
 exact qah (.inr rfl) [] (objs':=[]) (new:=[]) rfl (by simp) (by simp) rfl (by trivial) rfl rfl (by trivial) (fun _=>⟨by simp [V.flat,V.qbg,V.qbb,D.flat],qan⟩) ⟨rfl,rfl,rfl⟩
theorem spec_l01CNarrow_ok (n:Nat) (x_:Cx) {r:Cx} (h:qj7 n x_ = some r):qb1 prog false 95 [.d (.cx .f64 x_.re x_.im)] [] (fun v o new=>v = .d (.cx .f32 r.re r.im)∧o = []∧new = []):=spec_l01CNarrow_ok_fr0 false n x_ h
def qjx (n:Nat) (x_:Cx) (y_:Cx):Option Cx :=
 (qjk n x_).bind fun x5 =>
 (qjk n y_).bind fun x6 =>
 (qj8 n x5 x6).bind fun x7 =>
 (qj7 n x7).bind fun x8 =>
 some x8
theorem spec_l01Mul_ok_fr0 (fr:Bool) (n:Nat) (x_:Cx) (y_:Cx) {r:Cx} (h:qjx n x_ y_ = some r):qb1 prog fr 80 [.d (.cx .f32 x_.re x_.im),.d (.cx .f32 y_.re y_.im)] [] (fun v o new=>v = .d (.cx .f32 r.re r.im)∧o = []∧new = []):=by
 refine qak hτ func80 rfl (by simp) (by simp) ?_
 unfold qjx at h
 refine qa8<|qa2<|qa1 hτ rfl rfl rfl<|qa5<|qa8 ?_
 refine qa2<|qa1 hτ rfl rfl rfl ?_
 refine qaf h fun x5 hx5 h=>?_
 refine qae hτ false [] rfl rfl rfl (qaj func97 rfl rfl) rfl rfl (by simp) ⟨trivial,trivial⟩ (by trivial) (qn1 n x_ hx5) ?_
 rintro r0 o0 n0 ⟨rfl,rfl,rfl⟩ -
 refine qa1 hτ rfl rfl rfl ?_
 refine qaf h fun x6 hx6 h=>?_
 refine qae hτ false [] rfl rfl rfl (qaj func97 rfl rfl) rfl rfl (by simp) ⟨trivial,trivial⟩ (by trivial) (qn1 n y_ hx6) ?_
 rintro r0 o0 n0 ⟨rfl,rfl,rfl⟩ -
 refine qaf h fun x7 hx7 h=>?_
 refine qae hτ false [] rfl rfl rfl (qaj func96 rfl rfl) rfl rfl (by simp) ⟨trivial,trivial,trivial⟩ (by trivial) (spec_l01WideMul_ok n x5 x6 hx7) ?_
 rintro r0 o0 n0 ⟨rfl,rfl,rfl⟩ -
 refine qaf h fun x8 hx8 h=>?_
 refine qae hτ false [] rfl rfl rfl (qaj func95 rfl rfl) rfl rfl (by simp) ⟨trivial,trivial⟩ (by trivial) (spec_l01CNarrow_ok n x7 hx8) ?_
 rintro r0 o0 n0 ⟨rfl,rfl,rfl⟩ -
 refine qa1 hτ rfl rfl rfl<|qa5 ?_
 refine qaa (qa3 [] (l:=[(4,.d (.cx .f32 x8.re x8.im))]) (objs:=[]) rfl (by simp) rfl (by trivial) ⟨rfl,trivial,trivial⟩) ?_
 refine qap ?_
 have hr:=Option.some.inj h
 subst hr
 exact qah (.inr rfl) [] (objs':=[]) (new:=[]) rfl (by simp) (by simp) rfl (by trivial) rfl rfl (by trivial) (fun _=>⟨by simp [V.flat,V.qbg,V.qbb,D.flat],qan⟩) ⟨rfl,rfl,rfl⟩
theorem qnl (n:Nat) (x_:Cx) (y_:Cx) {r:Cx} (h:qjx n x_ y_ = some r):qb1 prog false 80 [.d (.cx .f32 x_.re x_.im),.d (.cx .f32 y_.re y_.im)] [] (fun v o new=>v = .d (.cx .f32 r.re r.im)∧o = []∧new = []):=spec_l01Mul_ok_fr0 false n x_ y_ h
def qcw (n:Nat) (x_:Cx):Option qad :=
 (qib n (fneg .f64 (4599676419421066581:Nat))).bind fun x5 =>
 (qjx n x_ x5).bind fun x6 =>
 (qib n (4599676419421066581:Nat)).bind fun x7 =>
 (qjx n x_ x7).bind fun x8 =>
 some (qad.mk x_ x6 x8)
theorem spec_l02Even_ok_fr0 (fr:Bool) (n:Nat) (x_:Cx) {r:qad} (h:qcw n x_ = some r):qb1 prog fr 63 [.d (.cx .f32 x_.re x_.im)] [] (fun v o new=>v = .agg [.d (.cx .f32 r.A.re r.A.im),.d (.cx .f32 r.B.re r.B.im),.d (.cx .f32 r.C.re r.C.im)]∧o = []∧new = []):=by
 refine qak hτ func63 rfl (by simp) (by simp) ?_
 unfold qcw at h
 refine qa8<|qa2<|qal hτ rfl rfl rfl<|qa5<|qa8 ?_
 refine qa2<|qa1 hτ rfl rfl rfl<|qa5<|qa8<|qa2 ?_
 refine qa1 hτ rfl rfl rfl<|qa1 hτ rfl rfl rfl<|qa1 hτ rfl rfl rfl<|qa1 hτ rfl rfl rfl ?_
 refine qaf h fun x5 hx5 h=>?_
 refine qae hτ false [] rfl rfl rfl (qaj func81 rfl rfl) rfl rfl (by simp) ⟨trivial,trivial⟩ (by trivial) (qmb n (fneg .f64 (4599676419421066581:Nat)) hx5) ?_
 rintro r0 o0 n0 ⟨rfl,rfl,rfl⟩ -
 refine qaf h fun x6 hx6 h=>?_
 refine qae hτ false [] rfl rfl rfl (qaj func80 rfl rfl) rfl rfl (by simp) ⟨trivial,trivial,trivial⟩ (by trivial) (qnl n x_ x5 hx6) ?_
 rintro r0 o0 n0 ⟨rfl,rfl,rfl⟩ -
 refine qa1 hτ rfl rfl rfl<|qa1 hτ rfl rfl rfl ?_
 refine qaf h fun x7 hx7 h=>?_
 refine qae hτ false [] rfl rfl rfl (qaj func81 rfl rfl) rfl rfl (by simp) ⟨trivial,trivial⟩ (by trivial) (qmb n (4599676419421066581:Nat) hx7) ?_
 rintro r0 o0 n0 ⟨rfl,rfl,rfl⟩ -
 refine qaf h fun x8 hx8 h=>?_
 refine qae hτ false [] rfl rfl rfl (qaj func80 rfl rfl) rfl rfl (by simp) ⟨trivial,trivial,trivial⟩ (by trivial) (qnl n x_ x7 hx8) ?_
 rintro r0 o0 n0 ⟨rfl,rfl,rfl⟩ -
 refine qb3 (qa3 [0] (l:=[(2,.ptr 0 0),(4,.d (.cx .f32 x_.re x_.im)),(9,.d (.cx .f32 x6.re x6.im)),(13,.d (.cx .f32 x8.re x8.im))]) (objs:=[.box [.d (.cx .f32 (0:Nat) (0:Nat)),.d (.cx .f32 (0:Nat) (0:Nat)),.d (.cx .f32 (0:Nat) (0:Nat))]]) rfl (by simp) rfl (by trivial) ⟨rfl,trivial,rfl,trivial,rfl,trivial,rfl,trivial,trivial⟩) ?_
 refine qa1 hτ rfl rfl rfl<|qal hτ rfl rfl rfl<|qa5 ?_
 refine qaa (qa3 [0] (l:=[(2,.ptr 0 0)]) (objs:=[.box [.d (.cx .f32 x_.re x_.im),.d (.cx .f32 x6.re x6.im),.d (.cx .f32 x8.re x8.im)]]) rfl (by simp) rfl (by trivial) ⟨rfl,trivial,trivial⟩) ?_
 refine qap ?_
 have hr:=Option.some.inj h
 subst hr
 exact qah (.inr rfl) [] (objs':=[]) (new:=[]) rfl (by simp) (by simp) rfl (by trivial) rfl rfl (by trivial) (fun _=>⟨by simp [V.flat,V.qbg,V.qbb,D.flat],qan⟩) ⟨rfl,rfl,rfl⟩
theorem spec_l02Even_ok (n:Nat) (x_:Cx) {r:qad} (h:qcw n x_ = some r):qb1 prog false 63 [.d (.cx .f32 x_.re x_.im)] [] (fun v o new=>v = .agg [.d (.cx .f32 r.A.re r.A.im),.d (.cx .f32 r.B.re r.B.im),.d (.cx .f32 r.C.re r.C.im)]∧o = []∧new = []):=spec_l02Even_ok_fr0 false n x_ h
def qd4 (n:Nat) (s_:qas) (n_:Int):Option (Bool × qas) :=
 (qar n s_ n_).bind fun x2 =>
 some ((decide (x2.1 = (0:Int))),x2.2)
theorem qg0 (n:Nat) (s_:qas) (n_:Int) {r:Bool × qas} (h:qd4 n s_ n_ = some r):qb1 prog false 64 [.ptr 0 0,.d (.int .i64 n_)] [.box [.d (.sl false (s_.code.map qav)),.d (.int .i64 s_.at_),.d (.int .u64 s_.seed)]] (fun v o new=>v = .d (.bool r.1)∧o = [.box [.d (.sl false (r.2.code.map qav)),.d (.int .i64 r.2.at_),.d (.int .u64 r.2.seed)]]∧new = []):=by
 refine qak hτ func64 rfl (by simp) (by simp) ?_
 unfold qd4 at h
 refine qa8<|qa2<|qa1 hτ rfl rfl rfl<|qa5<|qa8 ?_
 refine qa2<|qa1 hτ rfl rfl rfl<|qa1 hτ rfl rfl rfl ?_
 refine qaf h fun x2 hx2 h=>?_
 refine qae hτ false [0] rfl rfl rfl (qaj func46 rfl rfl) rfl rfl (by simp) ⟨trivial,trivial,trivial⟩ (by trivial) (qb7 n s_ n_ hx2) ?_
 rintro r0 o0 n0 ⟨rfl,rfl,rfl⟩ -
 refine qa1 hτ (v:=.d (.bool (decide (x2.1 = (0:Int))))) rfl rfl (qeq _ _) ?_
 refine qa1 hτ rfl rfl rfl<|qa5 ?_
 refine qaa (qa3 [0] (l:=[(4,.d (.bool (decide (x2.1 = (0:Int)))))]) (objs:=[.box [.d (.sl false (x2.2.code.map qav)),.d (.int .i64 x2.2.at_),.d (.int .u64 x2.2.seed)]]) rfl (by simp) rfl (by trivial) ⟨rfl,trivial,trivial⟩) ?_
 refine qap ?_
 have hr:=Option.some.inj h
 subst hr
 exact qah (.inr rfl) [] (objs':=[.box [.d (.sl false (x2.2.code.map qav)),.d (.int .i64 x2.2.at_),.d (.int .u64 x2.2.seed)]]) (new:=[]) rfl (by simp) (by simp) rfl (by trivial) rfl rfl (by trivial) (fun h=>nomatch h) ⟨rfl,rfl,rfl⟩
def qfa (n:Nat) (s_:qas):Option (Nat × qas) :=
 (qar n s_ (129:Int)).bind fun x3 =>
 (qd4 n x3.2 (4:Int)).bind fun x5 =>
 if x5.1 = true then
  some ((qao .quo .f32 (FloatKind.nearest .f32 (w64 (x3.1 - (64:Int)))) (1088421888:Nat)),x5.2)
 else
  some ((qao .quo .f32 (FloatKind.nearest .f32 (w64 (x3.1 - (64:Int)))) (1098907648:Nat)),x5.2)
theorem ql3 (n:Nat) (s_:qas) {r:Nat × qas} (h:qfa n s_ = some r):qb1 prog false 104 [.ptr 0 0] [.box [.d (.sl false (s_.code.map qav)),.d (.int .i64 s_.at_),.d (.int .u64 s_.seed)]] (fun v o new=>v = .d (.fl .f32 r.1)∧o = [.box [.d (.sl false (r.2.code.map qav)),.d (.int .i64 r.2.at_),.d (.int .u64 r.2.seed)]]∧new = []):=by
 refine qak hτ func104 rfl (by simp) (by simp) ?_
 unfold qfa at h
 refine qa8<|qa2<|qa1 hτ rfl rfl rfl<|qa5<|qa8 ?_
 refine qa2<|qa1 hτ rfl rfl rfl ?_
 refine qaf h fun x3 hx3 h=>?_
 refine qae hτ false [0] rfl rfl rfl (qaj func46 rfl rfl) rfl rfl (by simp) ⟨trivial,trivial,trivial⟩ (by trivial) (qb7 n s_ (129:Int) hx3) ?_
 rintro r0 o0 n0 ⟨rfl,rfl,rfl⟩ -
 refine qa1 hτ rfl rfl rfl<|qa1 hτ rfl rfl rfl<|qa5<|qa8<|qa8 ?_
 refine qa2<|qa1 hτ rfl rfl rfl ?_
 refine qaf h fun x5 hx5 h=>?_
 refine qae hτ false [0] rfl rfl rfl (qaj func64 rfl rfl) rfl rfl (by simp) ⟨trivial,trivial,trivial⟩ (by trivial) (qg0 n x3.2 (4:Int) hx5) ?_
 rintro r0 o0 n0 ⟨rfl,rfl,rfl⟩ -
 refine qa5 ?_
 refine qaa (qa3 [0] (l:=[(3,.d (.int .i64 (w64 (x3.1 - (64:Int))))),(8,.d (.bool x5.1))]) (objs:=[.box [.d (.sl false (x5.2.code.map qav)),.d (.int .i64 x5.2.at_),.d (.int .u64 x5.2.seed)]]) rfl (by simp) rfl (by trivial) ⟨rfl,trivial,rfl,trivial,trivial⟩) ?_
 refine qaq rfl (fun hc6=>?_) (fun hc6=>?_)
 ·have h:=qeh h hc6
  refine qa8<|qa2<|qa1 hτ rfl rfl rfl<|qa1 hτ rfl rfl rfl<|qa1 hτ rfl rfl rfl ?_
  refine qa1 hτ rfl rfl rfl<|qa5 ?_
  refine qaa (qa3 [0] (l:=[(2,.d (.fl .f32 (qao .quo .f32 (FloatKind.nearest .f32 (w64 (x3.1 - (64:Int)))) (1088421888:Nat))))]) (objs:=[.box [.d (.sl false (x5.2.code.map qav)),.d (.int .i64 x5.2.at_),.d (.int .u64 x5.2.seed)]]) rfl (by simp) rfl (by trivial) ⟨rfl,trivial,trivial⟩) ?_
  refine qap ?_
  have hr:=Option.some.inj h
  subst hr
  exact qah (.inr rfl) [] (objs':=[.box [.d (.sl false (x5.2.code.map qav)),.d (.int .i64 x5.2.at_),.d (.int .u64 x5.2.seed)]]) (new:=[]) rfl (by simp) (by simp) rfl (by trivial) rfl rfl (by trivial) (fun h=>nomatch h) ⟨rfl,rfl,rfl⟩
 ·have h:=qeg h hc6
  refine qat<|qa8<|qa2<|qa1 hτ rfl rfl rfl<|qa1 hτ rfl rfl rfl ?_
  refine qa1 hτ rfl rfl rfl<|qa1 hτ rfl rfl rfl<|qa5 ?_
  refine qaa (qa3 [0] (l:=[(2,.d (.fl .f32 (qao .quo .f32 (FloatKind.nearest .f32 (w64 (x3.1 - (64:Int)))) (1098907648:Nat))))]) (objs:=[.box [.d (.sl false (x5.2.code.map qav)),.d (.int .i64 x5.2.at_),.d (.int .u64 x5.2.seed)]]) rfl (by simp) rfl (by trivial) ⟨rfl,trivial,trivial⟩) ?_
  refine qap ?_
  have hr:=Option.some.inj h
  subst hr
  exact qah (.inr rfl) [] (objs':=[.box [.d (.sl false (x5.2.code.map qav)),.d (.int .i64 x5.2.at_),.d (.int .u64 x5.2.seed)]]) (new:=[]) rfl (by simp) (by simp) rfl (by trivial) rfl rfl (by trivial) (fun h=>nomatch h) ⟨rfl,rfl,rfl⟩
def qf8 (n:Nat) (s_:qas) (list_:List Int):Option (Int × qas) :=
 (qar n s_ (list_.length:Int)).bind fun x3 =>
 (getI list_ x3.1).bind fun x4 =>
 some (x4,x3.2)
theorem ql1 (n:Nat) (s_:qas) (list_:List Int) {r:Int × qas} (h:qf8 n s_ list_ = some r):qb1 prog false 105 [.ptr 0 0,.d (.sl false (list_.map qa6))] [.box [.d (.sl false (s_.code.map qav)),.d (.int .i64 s_.at_),.d (.int .u64 s_.seed)]] (fun v o new=>v = .d (.int .i64 r.1)∧o = [.box [.d (.sl false (r.2.code.map qav)),.d (.int .i64 r.2.at_),.d (.int .u64 r.2.seed)]]∧new = []):=by
 refine qak hτ func105 rfl (by simp) (by simp) ?_
 unfold qf8 at h
 refine qa8<|qa2<|qa1 hτ rfl rfl rfl<|qa5<|qa8 ?_
 refine qa2<|qa1 hτ rfl rfl rfl<|qa1 hτ rfl rfl rfl<|qa1 hτ rfl rfl rfl ?_
 refine qa1 hτ (v:=.d (.int .i64 (list_.length:Int))) rfl rfl (Eq.trans rfl (qei (f:=qa6) list_)) ?_
 refine qaf h fun x3 hx3 h=>?_
 refine qae hτ false [0] rfl rfl rfl (qaj func46 rfl rfl) rfl rfl (by simp) ⟨trivial,trivial,trivial⟩ (by trivial) (qb7 n s_ (list_.length:Int) hx3) ?_
 rintro r0 o0 n0 ⟨rfl,rfl,rfl⟩ -
 refine qaf h fun x4 hx4 h=>?_
 refine qce hτ rfl rfl rfl (qb8 hx4).1 (qbm hx4) rfl ?_
 refine qa1 hτ rfl rfl rfl<|qa1 hτ rfl rfl rfl<|qa5 ?_
 refine qaa (qa3 [0] (l:=[(4,.d (.int .i64 x4))]) (objs:=[.box [.d (.sl false (x3.2.code.map qav)),.d (.int .i64 x3.2.at_),.d (.int .u64 x3.2.seed)]]) rfl (by simp) rfl (by trivial) ⟨rfl,trivial,trivial⟩) ?_
 refine qap ?_
 have hr:=Option.some.inj h
 subst hr
 exact qah (.inr rfl) [] (objs':=[.box [.d (.sl false (x3.2.code.map qav)),.d (.int .i64 x3.2.at_),.d (.int .u64 x3.2.seed)]]) (new:=[]) rfl (by simp) (by simp) rfl (by trivial) rfl rfl (by trivial) (fun h=>nomatch h) ⟨rfl,rfl,rfl⟩
def qf9 (n:Nat) (s_:qas):Option (Nat × qas) :=
 (qd4 n s_ (12:Int)).bind fun x16 =>
 if x16.1 = true then
  (qar n x16.2 (4:Int)).bind fun x27 =>
  if x27.1 = (0:Int) then
   (qf8 n x27.2 [(0:Int),(2147483648:Int),(2139095040:Int),(4286578688:Int),(2143289344:Int),(1:Int),(2139095039:Int),(8388608:Int),(8388607:Int),(2147483649:Int)]).bind fun x29 =>
   (qe0 n x29.1).bind fun x30 =>
   some (x30,x29.2)
  else
   if x27.1 = (1:Int) then
    (qar n x27.2 (65536:Int)).bind fun x32 =>
    (qar n x32.2 (65536:Int)).bind fun x33 =>
    (qe0 n (w64 ((w64 (x32.1 * (65536:Int))) + x33.1))).bind fun x34 =>
    some (x34,x33.2)
   else
    if x27.1 = (2:Int) then
     (qar n x27.2 (65536:Int)).bind fun x36 =>
     (qe0 n (w64 (x36.1 * (65536:Int)))).bind fun x37 =>
     some (x37,x36.2)
    else
     (qfa n x27.2).bind fun x38 =>
     (qf8 n x38.2 [(8388608:Int),(2130706432:Int),(1610612736:Int),(536870912:Int)]).bind fun x39 =>
     (qe0 n x39.1).bind fun x40 =>
     some ((qao .mul .f32 x38.1 x40),x39.2)
 else
  (qfa n x16.2).bind fun x18 =>
  some (x18.1,x18.2)
theorem ql2 (n:Nat) (s_:qas) {r:Nat × qas} (h:qf9 n s_ = some r):qb1 prog false 101 [.ptr 0 0] [.box [.d (.sl false (s_.code.map qav)),.d (.int .i64 s_.at_),.d (.int .u64 s_.seed)]] (fun v o new=>v = .d (.fl .f32 r.1)∧o = [.box [.d (.sl false (r.2.code.map qav)),.d (.int .i64 r.2.at_),.d (.int .u64 r.2.seed)]]∧new = []):=by
 refine qak hτ func101 rfl (by simp) (by simp) ?_
 unfold qf9 at h
 refine qa8<|qa2<|qa1 hτ rfl rfl rfl<|qa5<|qa8 ?_
 refine qa8<|qa2<|qa1 hτ rfl rfl rfl ?_
 refine qaf h fun x16 hx16 h=>?_
 refine qae hτ false [0] rfl rfl rfl (qaj func64 rfl rfl) rfl rfl (by simp) ⟨trivial,trivial,trivial⟩ (by trivial) (qg0 n s_ (12:Int) hx16) ?_
 rintro r0 o0 n0 ⟨rfl,rfl,rfl⟩ -
 refine qa1 hτ rfl rfl rfl<|qa5 ?_
 refine qaq rfl (fun hc17=>?_) (fun hc17=>?_)
 ·have hc17:=qjf hc17
  have h:=qeg h hc17
  refine qa8<|qa2<|qa1 hτ rfl rfl rfl ?_
  refine qaf h fun x18 hx18 h=>?_
  refine qae hτ false [0] rfl rfl rfl (qaj func104 rfl rfl) rfl rfl (by simp) ⟨trivial,trivial⟩ (by trivial) (ql3 n x16.2 hx18) ?_
  rintro r0 o0 n0 ⟨rfl,rfl,rfl⟩ -
  refine qa1 hτ rfl rfl rfl<|qa5 ?_
  refine qaa (qa3 [0] (l:=[(2,.d (.fl .f32 x18.1))]) (objs:=[.box [.d (.sl false (x18.2.code.map qav)),.d (.int .i64 x18.2.at_),.d (.int .u64 x18.2.seed)]]) rfl (by simp) rfl (by trivial) ⟨rfl,trivial,trivial⟩) ?_
  refine qap ?_
  have hr:=Option.some.inj h
  subst hr
  exact qah (.inr rfl) [] (objs':=[.box [.d (.sl false (x18.2.code.map qav)),.d (.int .i64 x18.2.at_),.d (.int .u64 x18.2.seed)]]) (new:=[]) rfl (by simp) (by simp) rfl (by trivial) rfl rfl (by trivial) (fun h=>nomatch h) ⟨rfl,rfl,rfl⟩
 ·have hc17:=qje hc17
  have h:=qeh h hc17
  refine qat<|qa8<|qa8<|qa2<|qa1 hτ rfl rfl rfl ?_
  refine qaf h fun x27 hx27 h=>?_
  refine qae hτ false [0] rfl rfl rfl (qaj func46 rfl rfl) rfl rfl (by simp) ⟨trivial,trivial,trivial⟩ (by trivial) (qb7 n x16.2 (4:Int) hx27) ?_
  rintro r0 o0 n0 ⟨rfl,rfl,rfl⟩ -
  refine qa5<|qay<|qa8 ?_
  refine qaa (qa3 [0] (l:=[(0,.ptr 0 0),(10,.d (.int .i64 x27.1))]) (objs:=[.box [.d (.sl false (x27.2.code.map qav)),.d (.int .i64 x27.2.at_),.d (.int .u64 x27.2.seed)]]) rfl (by simp) rfl (by trivial) ⟨rfl,trivial,rfl,trivial,trivial⟩) ?_
  refine qa2 ?_
  refine qa1 hτ (v:=.d (.bool (decide (x27.1 = (0:Int))))) rfl rfl (qeq _ _) ?_
  refine qa1 hτ rfl rfl rfl<|qa5 ?_
  refine qaq rfl (fun hc28=>?_) (fun hc28=>?_)
  ·have h:=if_t h hc28
   refine qa8<|qa2<|qa1 hτ rfl rfl rfl<|qal hτ rfl rfl rfl ?_
   refine qb3 (qa3 [0] (l:=[(13,.ptr 0 0),(14,.d (.sl false ([(0:Int),(2147483648:Int),(2139095040:Int),(4286578688:Int),(2143289344:Int),(1:Int),(2139095039:Int),(8388608:Int),(8388607:Int),(2147483649:Int)].map qa6)))]) (objs:=[.box [.d (.sl false (x27.2.code.map qav)),.d (.int .i64 x27.2.at_),.d (.int .u64 x27.2.seed)]]) rfl (by simp) rfl (by trivial) ⟨rfl,trivial,(qgy (f:=qa6) (j:=1) (sz:=1) [(0:Int),(2147483648:Int),(2139095040:Int),(4286578688:Int),(2143289344:Int),(1:Int),(2139095039:Int),(8388608:Int),(8388607:Int),(2147483649:Int)] rfl rfl rfl),(qfg (f:=qa6) (j:=1) (sz:=1) [(0:Int),(2147483648:Int),(2139095040:Int),(4286578688:Int),(2143289344:Int),(1:Int),(2139095039:Int),(8388608:Int),(8388607:Int),(2147483649:Int)] rfl rfl rfl),trivial⟩) ?_
   refine qaf h fun x29 hx29 h=>?_
   refine qae hτ false [0] rfl rfl rfl (qaj func105 rfl rfl) rfl rfl (by simp) ⟨trivial,trivial,trivial⟩ (by trivial) (ql1 n x27.2 [(0:Int),(2147483648:Int),(2139095040:Int),(4286578688:Int),(2143289344:Int),(1:Int),(2139095039:Int),(8388608:Int),(8388607:Int),(2147483649:Int)] hx29) ?_
   rintro r0 o0 n0 ⟨rfl,rfl,rfl⟩ -
   refine qaf h fun x30 hx30 h=>?_
   refine qae hτ false [] rfl rfl rfl (qaj func98 rfl rfl) rfl rfl (by simp) ⟨trivial,trivial⟩ (by trivial) (qhx n x29.1 hx30) ?_
   rintro r0 o0 n0 ⟨rfl,rfl,rfl⟩ -
   refine qa1 hτ rfl rfl rfl<|qa5 ?_
   refine qaa (qa3 [0] (l:=[(2,.d (.fl .f32 x30))]) (objs:=[.box [.d (.sl false (x29.2.code.map qav)),.d (.int .i64 x29.2.at_),.d (.int .u64 x29.2.seed)]]) rfl (by simp) rfl (by trivial) ⟨rfl,trivial,trivial⟩) ?_
   refine qap ?_
   have hr:=Option.some.inj h
   subst hr
   exact qah (.inr rfl) [] (objs':=[.box [.d (.sl false (x29.2.code.map qav)),.d (.int .i64 x29.2.at_),.d (.int .u64 x29.2.seed)]]) (new:=[]) rfl (by simp) (by simp) rfl (by trivial) rfl rfl (by trivial) (fun h=>nomatch h) ⟨rfl,rfl,rfl⟩
  ·have h:=if_f h hc28
   refine qa8<|qa2 ?_
   refine qa1 hτ (v:=.d (.bool (decide (x27.1 = (1:Int))))) rfl rfl (qeq _ _) ?_
   refine qa1 hτ rfl rfl rfl<|qa5 ?_
   refine qaq rfl (fun hc31=>?_) (fun hc31=>?_)
   ·have h:=if_t h hc31
    refine qa8<|qa2<|qa1 hτ rfl rfl rfl ?_
    refine qaf h fun x32 hx32 h=>?_
    refine qae hτ false [0] rfl rfl rfl (qaj func46 rfl rfl) rfl rfl (by simp) ⟨trivial,trivial,trivial⟩ (by trivial) (qb7 n x27.2 (65536:Int) hx32) ?_
    rintro r0 o0 n0 ⟨rfl,rfl,rfl⟩ -
    refine qa1 hτ rfl rfl rfl<|qa1 hτ rfl rfl rfl<|qa5<|qa8 ?_
    refine qaa (qa3 [0] (l:=[(0,.ptr 0 0),(3,.d (.int .i64 (w64 (x32.1 * (65536:Int)))))]) (objs:=[.box [.d (.sl false (x32.2.code.map qav)),.d (.int .i64 x32.2.at_),.d (.int .u64 x32.2.seed)]]) rfl (by simp) rfl (by trivial) ⟨rfl,trivial,rfl,trivial,trivial⟩) ?_
    refine qa2<|qa1 hτ rfl rfl rfl<|qa1 hτ rfl rfl rfl ?_
    refine qaf h fun x33 hx33 h=>?_
    refine qae hτ false [0] rfl rfl rfl (qaj func46 rfl rfl) rfl rfl (by simp) ⟨trivial,trivial,trivial⟩ (by trivial) (qb7 n x32.2 (65536:Int) hx33) ?_
    rintro r0 o0 n0 ⟨rfl,rfl,rfl⟩ -
    refine qa1 hτ rfl rfl rfl ?_
    refine qaf h fun x34 hx34 h=>?_
    refine qae hτ false [] rfl rfl rfl (qaj func98 rfl rfl) rfl rfl (by simp) ⟨trivial,trivial⟩ (by trivial) (qhx n (w64 ((w64 (x32.1 * (65536:Int))) + x33.1)) hx34) ?_
    rintro r0 o0 n0 ⟨rfl,rfl,rfl⟩ -
    refine qa1 hτ rfl rfl rfl<|qa5 ?_
    refine qaa (qa3 [0] (l:=[(2,.d (.fl .f32 x34))]) (objs:=[.box [.d (.sl false (x33.2.code.map qav)),.d (.int .i64 x33.2.at_),.d (.int .u64 x33.2.seed)]]) rfl (by simp) rfl (by trivial) ⟨rfl,trivial,trivial⟩) ?_
    refine qap ?_
    have hr:=Option.some.inj h
    subst hr
    exact qah (.inr rfl) [] (objs':=[.box [.d (.sl false (x33.2.code.map qav)),.d (.int .i64 x33.2.at_),.d (.int .u64 x33.2.seed)]]) (new:=[]) rfl (by simp) (by simp) rfl (by trivial) rfl rfl (by trivial) (fun h=>nomatch h) ⟨rfl,rfl,rfl⟩
   ·have h:=if_f h hc31
    refine qa8<|qa2 ?_
    refine qa1 hτ (v:=.d (.bool (decide (x27.1 = (2:Int))))) rfl rfl (qeq _ _) ?_
    refine qa1 hτ rfl rfl rfl<|qa5 ?_
    refine qaa (qa3 [0] (l:=[(0,.ptr 0 0),(27,.d (.bool (decide (x27.1 = (2:Int)))))]) (objs:=[.box [.d (.sl false (x27.2.code.map qav)),.d (.int .i64 x27.2.at_),.d (.int .u64 x27.2.seed)]]) rfl (by simp) rfl (by trivial) ⟨rfl,trivial,rfl,trivial,trivial⟩) ?_
    refine qaq rfl (fun hc35=>?_) (fun hc35=>?_)
    ·have h:=if_t h hc35
     refine qa8<|qa2<|qa1 hτ rfl rfl rfl ?_
     refine qaf h fun x36 hx36 h=>?_
     refine qae hτ false [0] rfl rfl rfl (qaj func46 rfl rfl) rfl rfl (by simp) ⟨trivial,trivial,trivial⟩ (by trivial) (qb7 n x27.2 (65536:Int) hx36) ?_
     rintro r0 o0 n0 ⟨rfl,rfl,rfl⟩ -
     refine qa1 hτ rfl rfl rfl ?_
     refine qaf h fun x37 hx37 h=>?_
     refine qae hτ false [] rfl rfl rfl (qaj func98 rfl rfl) rfl rfl (by simp) ⟨trivial,trivial⟩ (by trivial) (qhx n (w64 (x36.1 * (65536:Int))) hx37) ?_
     rintro r0 o0 n0 ⟨rfl,rfl,rfl⟩ -
     refine qa1 hτ rfl rfl rfl<|qa5 ?_
     refine qaa (qa3 [0] (l:=[(2,.d (.fl .f32 x37))]) (objs:=[.box [.d (.sl false (x36.2.code.map qav)),.d (.int .i64 x36.2.at_),.d (.int .u64 x36.2.seed)]]) rfl (by simp) rfl (by trivial) ⟨rfl,trivial,trivial⟩) ?_
     refine qap ?_
     have hr:=Option.some.inj h
     subst hr
     exact qah (.inr rfl) [] (objs':=[.box [.d (.sl false (x36.2.code.map qav)),.d (.int .i64 x36.2.at_),.d (.int .u64 x36.2.seed)]]) (new:=[]) rfl (by simp) (by simp) rfl (by trivial) rfl rfl (by trivial) (fun h=>nomatch h) ⟨rfl,rfl,rfl⟩
    ·have h:=if_f h hc35
     refine qat<|qa8<|qa2<|qa1 hτ rfl rfl rfl ?_
     refine qaf h fun x38 hx38 h=>?_
     refine qae hτ false [0] rfl rfl rfl (qaj func104 rfl rfl) rfl rfl (by simp) ⟨trivial,trivial⟩ (by trivial) (ql3 n x27.2 hx38) ?_
     rintro r0 o0 n0 ⟨rfl,rfl,rfl⟩ -
     refine qa1 hτ rfl rfl rfl<|qal hτ rfl rfl rfl ?_
     refine qb3 (qa3 [0] (l:=[(34,.d (.fl .f32 x38.1)),(35,.ptr 0 0),(36,.d (.sl false ([(8388608:Int),(2130706432:Int),(1610612736:Int),(536870912:Int)].map qa6)))]) (objs:=[.box [.d (.sl false (x38.2.code.map qav)),.d (.int .i64 x38.2.at_),.d (.int .u64 x38.2.seed)]]) rfl (by simp) rfl (by trivial) ⟨rfl,trivial,rfl,trivial,(qgy (f:=qa6) (j:=1) (sz:=1) [(8388608:Int),(2130706432:Int),(1610612736:Int),(536870912:Int)] rfl rfl rfl),(qfg (f:=qa6) (j:=1) (sz:=1) [(8388608:Int),(2130706432:Int),(1610612736:Int),(536870912:Int)] rfl rfl rfl),trivial⟩) ?_
     refine qaf h fun x39 hx39 h=>?_
     refine qae hτ false [0] rfl rfl rfl (qaj func105 rfl rfl) rfl rfl (by simp) ⟨trivial,trivial,trivial⟩ (by trivial) (ql1 n x38.2 [(8388608:Int),(2130706432:Int),(1610612736:Int),(536870912:Int)] hx39) ?_
     rintro r0 o0 n0 ⟨rfl,rfl,rfl⟩ -
     refine qaf h fun x40 hx40 h=>?_
     refine qae hτ false [] rfl rfl rfl (qaj func98 rfl rfl) rfl rfl (by simp) ⟨trivial,trivial⟩ (by trivial) (qhx n x39.1 hx40) ?_
     rintro r0 o0 n0 ⟨rfl,rfl,rfl⟩ -
     refine qa1 hτ rfl rfl rfl<|qa1 hτ rfl rfl rfl<|qa5 ?_
     refine qaa (qa3 [0] (l:=[(2,.d (.fl .f32 (qao .mul .f32 x38.1 x40)))]) (objs:=[.box [.d (.sl false (x39.2.code.map qav)),.d (.int .i64 x39.2.at_),.d (.int .u64 x39.2.seed)]]) rfl (by simp) rfl (by trivial) ⟨rfl,trivial,trivial⟩) ?_
     refine qap ?_
     have hr:=Option.some.inj h
     subst hr
     exact qah (.inr rfl) [] (objs':=[.box [.d (.sl false (x39.2.code.map qav)),.d (.int .i64 x39.2.at_),.d (.int .u64 x39.2.seed)]]) (new:=[]) rfl (by simp) (by simp) rfl (by trivial) rfl rfl (by trivial) (fun h=>nomatch h) ⟨rfl,rfl,rfl⟩
def qdv (n:Nat) (s_:qas) (most_:Int):Option (Cx × qas) :=
 (qd4 n s_ (24:Int)).bind fun x9 =>
 if x9.1 = true then
  (qf9 n x9.2).bind fun x11 =>
  (qf9 n x11.2).bind fun x12 =>
  some ((Cx.mk x11.1 x12.1),x12.2)
 else
  (qar n x9.2 (w64 ((w64 ((2:Int) * most_)) + (1:Int)))).bind fun x13 =>
  (qar n x13.2 (w64 ((w64 ((2:Int) * most_)) + (1:Int)))).bind fun x14 =>
  some ((Cx.mk (qao .quo .f32 (FloatKind.nearest .f32 (w64 (x13.1 - most_))) (1098907648:Nat)) (qao .quo .f32 (FloatKind.nearest .f32 (w64 (x14.1 - most_))) (1098907648:Nat))),x14.2)
theorem qix (n:Nat) (s_:qas) (most_:Int) {r:Cx × qas} (h:qdv n s_ most_ = some r):qb1 prog false 82 [.ptr 0 0,.d (.int .i64 most_)] [.box [.d (.sl false (s_.code.map qav)),.d (.int .i64 s_.at_),.d (.int .u64 s_.seed)]] (fun v o new=>v = .d (.cx .f32 r.1.re r.1.im)∧o = [.box [.d (.sl false (r.2.code.map qav)),.d (.int .i64 r.2.at_),.d (.int .u64 r.2.seed)]]∧new = []):=by
 refine qak hτ func82 rfl (by simp) (by simp) ?_
 unfold qdv at h
 refine qa8<|qa2<|qa1 hτ rfl rfl rfl<|qa5<|qa8 ?_
 refine qa8<|qa2<|qa1 hτ rfl rfl rfl ?_
 refine qaf h fun x9 hx9 h=>?_
 refine qae hτ false [0] rfl rfl rfl (qaj func64 rfl rfl) rfl rfl (by simp) ⟨trivial,trivial,trivial⟩ (by trivial) (qg0 n s_ (24:Int) hx9) ?_
 rintro r0 o0 n0 ⟨rfl,rfl,rfl⟩ -
 refine qa5 ?_
 refine qaq rfl (fun hc10=>?_) (fun hc10=>?_)
 ·have h:=qeh h hc10
  refine qa8<|qa2<|qa1 hτ rfl rfl rfl ?_
  refine qaf h fun x11 hx11 h=>?_
  refine qae hτ false [0] rfl rfl rfl (qaj func101 rfl rfl) rfl rfl (by simp) ⟨trivial,trivial⟩ (by trivial) (ql2 n x9.2 hx11) ?_
  rintro r0 o0 n0 ⟨rfl,rfl,rfl⟩ -
  refine qa1 hτ rfl rfl rfl<|qa5<|qa8 ?_
  refine qaa (qa3 [0] (l:=[(0,.ptr 0 0),(5,.d (.fl .f32 x11.1))]) (objs:=[.box [.d (.sl false (x11.2.code.map qav)),.d (.int .i64 x11.2.at_),.d (.int .u64 x11.2.seed)]]) rfl (by simp) rfl (by trivial) ⟨rfl,trivial,rfl,trivial,trivial⟩) ?_
  refine qa2<|qa1 hτ rfl rfl rfl<|qa1 hτ rfl rfl rfl ?_
  refine qaf h fun x12 hx12 h=>?_
  refine qae hτ false [0] rfl rfl rfl (qaj func101 rfl rfl) rfl rfl (by simp) ⟨trivial,trivial⟩ (by trivial) (ql2 n x11.2 hx12) ?_
  rintro r0 o0 n0 ⟨rfl,rfl,rfl⟩ -
  refine qa1 hτ rfl rfl rfl<|qa1 hτ rfl rfl rfl<|qa5 ?_
  refine qaa (qa3 [0] (l:=[(4,.d (.cx .f32 x11.1 x12.1))]) (objs:=[.box [.d (.sl false (x12.2.code.map qav)),.d (.int .i64 x12.2.at_),.d (.int .u64 x12.2.seed)]]) rfl (by simp) rfl (by trivial) ⟨rfl,trivial,trivial⟩) ?_
  refine qap ?_
  have hr:=Option.some.inj h
  subst hr
  exact qah (.inr rfl) [] (objs':=[.box [.d (.sl false (x12.2.code.map qav)),.d (.int .i64 x12.2.at_),.d (.int .u64 x12.2.seed)]]) (new:=[]) rfl (by simp) (by simp) rfl (by trivial) rfl rfl (by trivial) (fun h=>nomatch h) ⟨rfl,rfl,rfl⟩
 ·have h:=qeg h hc10
  refine qat<|qa8<|qa2<|qa1 hτ rfl rfl rfl<|qa1 hτ rfl rfl rfl ?_
  refine qa1 hτ rfl rfl rfl<|qa1 hτ rfl rfl rfl ?_
  refine qaf h fun x13 hx13 h=>?_
  refine qae hτ false [0] rfl rfl rfl (qaj func46 rfl rfl) rfl rfl (by simp) ⟨trivial,trivial,trivial⟩ (by trivial) (qb7 n x9.2 (w64 ((w64 ((2:Int) * most_)) + (1:Int))) hx13) ?_
  rintro r0 o0 n0 ⟨rfl,rfl,rfl⟩ -
  refine qa1 hτ rfl rfl rfl<|qa1 hτ rfl rfl rfl<|qa1 hτ rfl rfl rfl<|qa1 hτ rfl rfl rfl ?_
  refine qb3 (qa3 [0] (l:=[(0,.ptr 0 0),(1,.d (.int .i64 most_)),(23,.d (.fl .f32 (qao .quo .f32 (FloatKind.nearest .f32 (w64 (x13.1 - most_))) (1098907648:Nat))))]) (objs:=[.box [.d (.sl false (x13.2.code.map qav)),.d (.int .i64 x13.2.at_),.d (.int .u64 x13.2.seed)]]) rfl (by simp) rfl (by trivial) ⟨rfl,trivial,rfl,trivial,rfl,trivial,trivial⟩) ?_
  refine qa1 hτ rfl rfl rfl<|qa5<|qa8<|qa2<|qa1 hτ rfl rfl rfl ?_
  refine qa1 hτ rfl rfl rfl<|qa1 hτ rfl rfl rfl<|qa1 hτ rfl rfl rfl<|qa1 hτ rfl rfl rfl ?_
  refine qaf h fun x14 hx14 h=>?_
  refine qae hτ false [0] rfl rfl rfl (qaj func46 rfl rfl) rfl rfl (by simp) ⟨trivial,trivial,trivial⟩ (by trivial) (qb7 n x13.2 (w64 ((w64 ((2:Int) * most_)) + (1:Int))) hx14) ?_
  rintro r0 o0 n0 ⟨rfl,rfl,rfl⟩ -
  refine qa1 hτ rfl rfl rfl<|qa1 hτ rfl rfl rfl<|qa1 hτ rfl rfl rfl<|qa1 hτ rfl rfl rfl<|qa1 hτ rfl rfl rfl ?_
  refine qb3 (qa3 [0] (l:=[(34,.d (.cx .f32 (qao .quo .f32 (FloatKind.nearest .f32 (w64 (x13.1 - most_))) (1098907648:Nat)) (qao .quo .f32 (FloatKind.nearest .f32 (w64 (x14.1 - most_))) (1098907648:Nat))))]) (objs:=[.box [.d (.sl false (x14.2.code.map qav)),.d (.int .i64 x14.2.at_),.d (.int .u64 x14.2.seed)]]) rfl (by simp) rfl (by trivial) ⟨rfl,trivial,trivial⟩) ?_
  refine qa1 hτ rfl rfl rfl<|qa5 ?_
  refine qaa (qa3 [0] (l:=[(4,.d (.cx .f32 (qao .quo .f32 (FloatKind.nearest .f32 (w64 (x13.1 - most_))) (1098907648:Nat)) (qao .quo .f32 (FloatKind.nearest .f32 (w64 (x14.1 - most_))) (1098907648:Nat))))]) (objs:=[.box [.d (.sl false (x14.2.code.map qav)),.d (.int .i64 x14.2.at_),.d (.int .u64 x14.2.seed)]]) rfl (by simp) rfl (by trivial) ⟨rfl,trivial,trivial⟩) ?_
  refine qap ?_
  have hr:=Option.some.inj h
  subst hr
  exact qah (.inr rfl) [] (objs':=[.box [.d (.sl false (x14.2.code.map qav)),.d (.int .i64 x14.2.at_),.d (.int .u64 x14.2.seed)]]) (new:=[]) rfl (by simp) (by simp) rfl (by trivial) rfl rfl (by trivial) (fun h=>nomatch h) ⟨rfl,rfl,rfl⟩
def qet (n:Nat) (s_:qas) (most_:Int):Option (qad × qas) :=
 (qdv n s_ most_).bind fun x4 =>
 (qdv n x4.2 most_).bind fun x5 =>
 (qdv n x5.2 most_).bind fun x6 =>
 some ((qad.mk x4.1 x5.1 x6.1),x6.2)
theorem qkv (n:Nat) (s_:qas) (most_:Int) {r:qad × qas} (h:qet n s_ most_ = some r):qb1 prog false 65 [.ptr 0 0,.d (.int .i64 most_)] [.box [.d (.sl false (s_.code.map qav)),.d (.int .i64 s_.at_),.d (.int .u64 s_.seed)]] (fun v o new=>v = .agg [.d (.cx .f32 r.1.A.re r.1.A.im),.d (.cx .f32 r.1.B.re r.1.B.im),.d (.cx .f32 r.1.C.re r.1.C.im)]∧o = [.box [.d (.sl false (r.2.code.map qav)),.d (.int .i64 r.2.at_),.d (.int .u64 r.2.seed)]]∧new = []):=by
 refine qak hτ func65 rfl (by simp) (by simp) ?_
 unfold qet at h
 refine qa8<|qa2<|qal hτ rfl rfl rfl<|qa5<|qa8 ?_
 refine qa2<|qa1 hτ rfl rfl rfl<|qa1 hτ rfl rfl rfl ?_
 refine qaf h fun x4 hx4 h=>?_
 refine qae hτ false [0] rfl rfl rfl (qaj func82 rfl rfl) rfl rfl (by simp) ⟨trivial,trivial,trivial⟩ (by trivial) (qix n s_ most_ hx4) ?_
 rintro r0 o0 n0 ⟨rfl,rfl,rfl⟩ -
 refine qa1 hτ rfl rfl rfl<|qal hτ rfl rfl rfl<|qal hτ rfl rfl rfl<|qa5<|qa8 ?_
 refine qaa (qa3 [0,1,2] (l:=[(0,.ptr 0 0),(1,.d (.int .i64 most_)),(4,.ptr 1 0),(5,.ptr 2 0)]) (objs:=[.box [.d (.sl false (x4.2.code.map qav)),.d (.int .i64 x4.2.at_),.d (.int .u64 x4.2.seed)],.box [.d (.cx .f32 (0:Nat) (0:Nat)),.d (.cx .f32 (0:Nat) (0:Nat)),.d (.cx .f32 (0:Nat) (0:Nat))],.box [.d (.cx .f32 x4.1.re x4.1.im),.d (.cx .f32 (0:Nat) (0:Nat)),.d (.cx .f32 (0:Nat) (0:Nat))]]) rfl (by simp) rfl (by trivial) ⟨rfl,trivial,rfl,trivial,rfl,trivial,rfl,trivial,trivial⟩) ?_
 refine qa2<|qa1 hτ rfl rfl rfl<|qa1 hτ rfl rfl rfl ?_
 refine qaf h fun x5 hx5 h=>?_
 refine qae hτ false [0] rfl rfl rfl (qaj func82 rfl rfl) rfl rfl (by simp) ⟨trivial,trivial,trivial⟩ (by trivial) (qix n x4.2 most_ hx5) ?_
 rintro r0 o0 n0 ⟨rfl,rfl,rfl⟩ -
 refine qa1 hτ rfl rfl rfl<|qal hτ rfl rfl rfl<|qa5<|qa8<|qa2 ?_
 refine qa1 hτ rfl rfl rfl<|qa1 hτ rfl rfl rfl ?_
 refine qaf h fun x6 hx6 h=>?_
 refine qae hτ false [0] rfl rfl rfl (qaj func82 rfl rfl) rfl rfl (by simp) ⟨trivial,trivial,trivial⟩ (by trivial) (qix n x5.2 most_ hx6) ?_
 rintro r0 o0 n0 ⟨rfl,rfl,rfl⟩ -
 refine qa1 hτ rfl rfl rfl<|qal hτ rfl rfl rfl<|qa5<|qa8 ?_
 refine qaa (qa3 [0,1,2] (l:=[(4,.ptr 1 0),(5,.ptr 2 0)]) (objs:=[.box [.d (.sl false (x6.2.code.map qav)),.d (.int .i64 x6.2.at_),.d (.int .u64 x6.2.seed)],.box [.d (.cx .f32 (0:Nat) (0:Nat)),.d (.cx .f32 (0:Nat) (0:Nat)),.d (.cx .f32 (0:Nat) (0:Nat))],.box [.d (.cx .f32 x4.1.re x4.1.im),.d (.cx .f32 x5.1.re x5.1.im),.d (.cx .f32 x6.1.re x6.1.im)]]) rfl (by simp) rfl (by trivial) ⟨rfl,trivial,rfl,trivial,trivial⟩) ?_
 refine qa2<|qa1 hτ rfl rfl rfl<|qal hτ rfl rfl rfl<|qa5 ?_
 refine qaa (qa3 [0,1] (l:=[(4,.ptr 1 0)]) (objs:=[.box [.d (.sl false (x6.2.code.map qav)),.d (.int .i64 x6.2.at_),.d (.int .u64 x6.2.seed)],.box [.d (.cx .f32 x4.1.re x4.1.im),.d (.cx .f32 x5.1.re x5.1.im),.d (.cx .f32 x6.1.re x6.1.im)]]) rfl (by simp) rfl (by trivial) ⟨rfl,trivial,trivial⟩) ?_
 refine qap ?_
 have hr:=Option.some.inj h
 subst hr
 exact qah (.inr rfl) [] (objs':=[.box [.d (.sl false (x6.2.code.map qav)),.d (.int .i64 x6.2.at_),.d (.int .u64 x6.2.seed)]]) (new:=[]) rfl (by simp) (by simp) rfl (by trivial) rfl rfl (by trivial) (fun h=>nomatch h) ⟨rfl,rfl,rfl⟩
def qi4 (n:Nat) (v87:Cx) (v88:Cx) (v89:Cx) (v153:List Int) (v154:Int) (v155:Int) (v156:List SBus):Option (qau × qas) :=
 some ((qau.mk (qad.mk v87 v88 v89) v156),(qas.mk v153 v154 v155))
def qgp (n:Nat) (k221:List Int→Int→Int→List SBus→Int→Option (qau × qas)) (v188:Int) (v249:List Int) (v250:Int) (v251:Int) (v252:List SBus):Option (qau × qas) :=
 k221 v249 v250 v251 v252 (w64 (v188 + (1:Int)))
def qe5 (n:Nat) (k221:List Int→Int→Int→List SBus→Int→Option (qau × qas)) (v187:List SBus) (v188:Int) (v272:Int) (v273:Cx) (v274:Cx) (x275:Int × qas) (v284:List Int) (v285:Int) (v286:Int) (v287:Cx) (v288:Cx) (v289:Cx):Option (qau × qas) :=
 (qar n (qas.mk v284 v285 v286) (30:Int)).bind fun x290 =>
 grd (room (v187.length + 1) 64) <|
 qgp n k221 v188 x290.2.code x290.2.at_ x290.2.seed (v187 ++ [(SBus.mk v272 v273 v274 x275.1 (qad.mk v287 v288 v289) x290.1)])
def qe4 (n:Nat) (k221:List Int→Int→Int→List SBus→Int→Option (qau × qas)) (v187:List SBus) (v188:Int) (v269:List Int) (v270:Int) (v271:Int) (v272:Int) (v273:Cx) (v274:Cx):Option (qau × qas) :=
 (qar n (qas.mk v269 v270 v271) (3:Int)).bind fun x275 =>
 (qd4 n x275.2 (3:Int)).bind fun x293 =>
 if x293.1 = true then
  qe5 n k221 v187 v188 v272 v273 v274 x275 x293.2.code x293.2.at_ x293.2.seed (Cx.mk (0:Nat) (0:Nat)) (Cx.mk (0:Nat) (0:Nat)) (Cx.mk (0:Nat) (0:Nat))
 else
  (qet n x293.2 (24:Int)).bind fun x295 =>
  qe5 n k221 v187 v188 v272 v273 v274 x275 x295.2.code x295.2.at_ x295.2.seed x295.1.A x295.1.B x295.1.C
def qe6 (n:Nat) (k221:List Int→Int→Int→List SBus→Int→Option (qau × qas)) (v187:List SBus) (v188:Int) (v304:List Int) (v305:Int) (v306:Int) (v307:Int):Option (qau × qas) :=
 (qar n (qas.mk v304 v305 v306) (5:Int)).bind fun x308 =>
 (qar n x308.2 (5:Int)).bind fun x309 =>
 (qar n x309.2 (3:Int)).bind fun x310 =>
 qe4 n k221 v187 v188 x310.2.code x310.2.at_ x310.2.seed v307 (Cx.mk (qao .quo .f32 (FloatKind.nearest .f32 x308.1) (1098907648:Nat)) (qao .quo .f32 (FloatKind.nearest .f32 x309.1) (1098907648:Nat))) (Cx.mk (0:Nat) (qao .quo .f32 (FloatKind.nearest .f32 x310.1) (1098907648:Nat)))
def qb6 (n:Nat) (v87:Cx) (v88:Cx) (v89:Cx) (x90:Int × qas):Nat→List Int→Int→Int→List SBus→Int→Option (qau × qas)
 | 0,_,_,_,_,_=>none
 | m220 + 1,v184,v185,v186,v187,v188 =>
  if v188 < (w64 ((1:Int) + x90.1)) then
   if v188 > (0:Int) then
    (qd4 n (qas.mk v184 v185 v186) (2:Int)).bind fun x312 =>
    if x312.1 = true then
     (qar n x312.2 v188).bind fun x314 =>
     qe6 n (qb6 n v87 v88 v89 x90 m220) v187 v188 x314.2.code x314.2.at_ x314.2.seed x314.1
    else
     qe6 n (qb6 n v87 v88 v89 x90 m220) v187 v188 x312.2.code x312.2.at_ x312.2.seed (w64 (v188 - (1:Int)))
   else
    qe4 n (qb6 n v87 v88 v89 x90 m220) v187 v188 v184 v185 v186 (w64 (v188 - (1:Int))) (Cx.mk (0:Nat) (0:Nat)) (Cx.mk (0:Nat) (0:Nat))
  else
   qi4 n v87 v88 v89 v184 v185 v186 v187
def qe3 (n:Nat) (v84:List Int) (v85:Int) (v86:Int) (v87:Cx) (v88:Cx) (v89:Cx):Option (qau × qas) :=
 (qar n (qas.mk v84 v85 v86) (6:Int)).bind fun x90 =>
 qb6 n v87 v88 v89 x90 n x90.2.code x90.2.at_ x90.2.seed ([]:List SBus) (0:Int)
def qic (n:Nat) (s_:qas):Option (qau × qas) :=
 (qar n s_ (8:Int)).bind fun x74 =>
 (qcw n (Cx.mk (FloatKind.nearest .f32 (w64 ((8:Int) + x74.1))) (0:Nat))).bind fun x75 =>
 (qd4 n x74.2 (5:Int)).bind fun x316 =>
 if x316.1 = true then
  (qet n x316.2 (40:Int)).bind fun x318 =>
  qe3 n x318.2.code x318.2.at_ x318.2.seed x318.1.A x318.1.B x318.1.C
 else
  qe3 n x316.2.code x316.2.at_ x316.2.seed x75.A x75.B x75.C
theorem spec_l02DrawOk_ok (n:Nat) (s_:qas) {r:qau × qas} (h:qic n s_ = some r):qb1 prog false 45 [.ptr 0 0] [.box [.d (.sl false (s_.code.map qav)),.d (.int .i64 s_.at_),.d (.int .u64 s_.seed)]] (fun v o new=>v = .agg [.d (.cx .f32 r.1.Source.A.re r.1.Source.A.im),.d (.cx .f32 r.1.Source.B.re r.1.Source.B.im),.d (.cx .f32 r.1.Source.C.re r.1.Source.C.im),.row 1 r.1.qa7.length 0 r.1.qa7.length]∧o = [.box [.d (.sl false (r.2.code.map qav)),.d (.int .i64 r.2.at_),.d (.int .u64 r.2.seed)]]∧new = [.row 8 (r.1.qa7.map qac)]):=by
 refine qak hτ func45 rfl (by simp) (by simp) ?_
 unfold qic at h
 refine qa8<|qa2<|qal hτ rfl rfl rfl<|qa5<|qa8 ?_
 refine qa2<|qa1 hτ rfl rfl rfl ?_
 refine qaf h fun x74 hx74 h=>?_
 refine qae hτ false [0] rfl rfl rfl (qaj func46 rfl rfl) rfl rfl (by simp) ⟨trivial,trivial,trivial⟩ (by trivial) (qb7 n s_ (8:Int) hx74) ?_
 rintro r0 o0 n0 ⟨rfl,rfl,rfl⟩ -
 refine qa1 hτ rfl rfl rfl<|qa1 hτ rfl rfl rfl<|qa1 hτ rfl rfl rfl ?_
 refine qaf h fun x75 hx75 h=>?_
 refine qae hτ false [] rfl rfl rfl (qaj func63 rfl rfl) rfl rfl (by simp) ⟨trivial,trivial⟩ (by trivial) (spec_l02Even_ok n (Cx.mk (FloatKind.nearest .f32 (w64 ((8:Int) + x74.1))) (0:Nat)) hx75) ?_
 rintro r0 o0 n0 ⟨rfl,rfl,rfl⟩ -
 refine qal hτ rfl rfl rfl<|qa1 hτ rfl rfl rfl<|qal hτ rfl rfl rfl<|qal hτ rfl rfl rfl<|qa5 ?_
 refine qby (ι:=List Int × Int × Int × Cx × Cx × Cx) (fun (v84,v85,v86,v87,v88,v89)=>St.of [(0,.ptr 0 0),(2,.ptr 1 0),(3,.ptr 2 0)] [.box [.d (.sl false (v84.map qav)),.d (.int .i64 v85),.d (.int .u64 v86)],.box [.d (.cx .f32 (0:Nat) (0:Nat)),.d (.cx .f32 (0:Nat) (0:Nat)),.d (.cx .f32 (0:Nat) (0:Nat)),.d (.nils)],.box [.d (.cx .f32 v87.re v87.im),.d (.cx .f32 v88.re v88.im),.d (.cx .f32 v89.re v89.im),.row 3 (([]:List SBus).length) 0 (([]:List SBus).length)],.row 8 (([]:List SBus).map qac)] f45.ntmps 1) (fun (v84,v85,v86,v87,v88,v89)=>qe3 n v84 v85 v86 v87 v88 v89 = some r) ?_ (fun hk315=>?_)
 ·rintro ⟨v84,v85,v86,v87,v88,v89⟩ h
  replace h:qe3 n v84 v85 v86 v87 v88 v89 = some r:=h
  unfold qe3 at h
  refine qa8<|qa2<|qa1 hτ rfl rfl rfl ?_
  refine qaf h fun x90 hx90 h=>?_
  refine qae hτ false [0] rfl rfl rfl (qaj func46 rfl rfl) rfl rfl (by simp) ⟨trivial,trivial,trivial⟩ (by trivial) (qb7 n (qas.mk v84 v85 v86) (6:Int) hx90) ?_
  rintro r0 o0 n0 ⟨rfl,rfl,rfl⟩ -
  refine qa1 hτ rfl rfl rfl<|qa1 hτ rfl rfl rfl<|qa5 ?_
  refine qby (ι:=List Int × Int × Int × List SBus) (fun (v153,v154,v155,v156)=>St.of [(2,.ptr 1 0),(3,.ptr 2 0)] [.box [.d (.sl false (v153.map qav)),.d (.int .i64 v154),.d (.int .u64 v155)],.box [.d (.cx .f32 (0:Nat) (0:Nat)),.d (.cx .f32 (0:Nat) (0:Nat)),.d (.cx .f32 (0:Nat) (0:Nat)),.d (.nils)],.box [.d (.cx .f32 v87.re v87.im),.d (.cx .f32 v88.re v88.im),.d (.cx .f32 v89.re v89.im),.row 3 v156.length 0 v156.length],.row 8 (v156.map qac)] f45.ntmps 1) (fun (v153,v154,v155,v156)=>qi4 n v87 v88 v89 v153 v154 v155 v156 = some r) ?_ (fun hk157=>?_)
  ·rintro ⟨v153,v154,v155,v156⟩ h
   replace h:qi4 n v87 v88 v89 v153 v154 v155 v156 = some r:=h
   unfold qi4 at h
   refine qa8<|qa2<|qa1 hτ rfl rfl rfl<|qal hτ rfl rfl rfl<|qa5 ?_
   refine qaa (qa3 [0,1,3] (l:=[(2,.ptr 1 0)]) (objs:=[.box [.d (.sl false (v153.map qav)),.d (.int .i64 v154),.d (.int .u64 v155)],.box [.d (.cx .f32 v87.re v87.im),.d (.cx .f32 v88.re v88.im),.d (.cx .f32 v89.re v89.im),.row 2 v156.length 0 v156.length],.row 8 (v156.map qac)]) rfl (by simp) rfl (by trivial) ⟨rfl,trivial,trivial⟩) ?_
   refine qap ?_
   have hr:=Option.some.inj h
   subst hr
   exact qah (.inr rfl) [2] (objs':=[.box [.d (.sl false (v153.map qav)),.d (.int .i64 v154),.d (.int .u64 v155)]]) (new:=[.row 8 (v156.map qac)]) rfl (by simp) (by simp) rfl (by trivial) rfl rfl (by trivial) (fun h=>nomatch h) ⟨rfl,rfl,rfl⟩
  ·refine qa8<|qa8<|qa2<|qa1 hτ rfl rfl rfl<|qa5 ?_
   refine qay ?_
   refine qde (ι:=Nat × List Int × Int × Int × List SBus × Int) (fun (m220,v184,v185,v186,v187,v188)=>St.of [(0,.ptr 0 0),(2,.ptr 1 0),(3,.ptr 2 0),(4,.d (.int .i64 (w64 ((1:Int) + x90.1)))),(5,.d (.int .i64 v188))] [.box [.d (.sl false (v184.map qav)),.d (.int .i64 v185),.d (.int .u64 v186)],.box [.d (.cx .f32 (0:Nat) (0:Nat)),.d (.cx .f32 (0:Nat) (0:Nat)),.d (.cx .f32 (0:Nat) (0:Nat)),.d (.nils)],.box [.d (.cx .f32 v87.re v87.im),.d (.cx .f32 v88.re v88.im),.d (.cx .f32 v89.re v89.im),.row 3 v187.length 0 v187.length],.row 8 (v187.map qac)] f45.ntmps 1) (fun (m220,v184,v185,v186,v187,v188)=>qb6 n v87 v88 v89 x90 m220 v184 v185 v186 v187 v188 = some r) (fun x=>x.1) (n,x90.2.code,x90.2.at_,x90.2.seed,([]:List SBus),(0:Int)) h (qa3 [0,1,2,3] (l:=[(0,.ptr 0 0),(2,.ptr 1 0),(3,.ptr 2 0),(4,.d (.int .i64 (w64 ((1:Int) + x90.1)))),(5,.d (.int .i64 (0:Int)))]) (objs:=[.box [.d (.sl false (x90.2.code.map qav)),.d (.int .i64 x90.2.at_),.d (.int .u64 x90.2.seed)],.box [.d (.cx .f32 (0:Nat) (0:Nat)),.d (.cx .f32 (0:Nat) (0:Nat)),.d (.cx .f32 (0:Nat) (0:Nat)),.d (.nils)],.box [.d (.cx .f32 v87.re v87.im),.d (.cx .f32 v88.re v88.im),.d (.cx .f32 v89.re v89.im),.row 3 (([]:List SBus).length) 0 (([]:List SBus).length)],.row 8 (([]:List SBus).map qac)]) rfl (by simp) rfl (by trivial) ⟨rfl,trivial,rfl,trivial,rfl,trivial,rfl,trivial,rfl,trivial,trivial⟩) ?_
   rintro ⟨m220,v184,v185,v186,v187,v188⟩ h
   replace h:qb6 n v87 v88 v89 x90 m220 v184 v185 v186 v187 v188 = some r:=h
   rcases m220 with _ | m220
   ·rw [qb6] at h;cases h
   rw [qb6] at h
   refine qa8<|qa8<|qa2<|qa1 hτ rfl rfl rfl<|qa1 hτ rfl rfl rfl ?_
   refine qa1 hτ rfl rfl rfl<|qa5 ?_
   refine qaq rfl (fun hc222=>?_) (fun hc222=>?_)
   ·have h:=if_t h hc222
    refine qat ?_
    refine qby (ι:=List Int × Int × Int × List SBus) (fun (v249,v250,v251,v252)=>St.of [(0,.ptr 0 0),(2,.ptr 1 0),(3,.ptr 2 0),(4,.d (.int .i64 (w64 ((1:Int) + x90.1)))),(5,.d (.int .i64 v188))] [.box [.d (.sl false (v249.map qav)),.d (.int .i64 v250),.d (.int .u64 v251)],.box [.d (.cx .f32 (0:Nat) (0:Nat)),.d (.cx .f32 (0:Nat) (0:Nat)),.d (.cx .f32 (0:Nat) (0:Nat)),.d (.nils)],.box [.d (.cx .f32 v87.re v87.im),.d (.cx .f32 v88.re v88.im),.d (.cx .f32 v89.re v89.im),.row 3 v252.length 0 v252.length],.row 8 (v252.map qac)] f45.ntmps 1) (fun (v249,v250,v251,v252)=>qgp n (qb6 n v87 v88 v89 x90 m220) v188 v249 v250 v251 v252 = some r) ?_ (fun hk253=>?_)
    ·rintro ⟨v249,v250,v251,v252⟩ h
     replace h:qgp n (qb6 n v87 v88 v89 x90 m220) v188 v249 v250 v251 v252 = some r:=h
     unfold qgp at h
     refine qa2<|qa1 hτ rfl rfl rfl<|qa1 hτ rfl rfl rfl<|qa1 hτ rfl rfl rfl<|qa5 ?_
     exact ⟨(m220,v249,v250,v251,v252,(w64 (v188 + (1:Int)))),h,Nat.lt_succ_self m220,(qa3 [0,1,2,3] (l:=[(0,.ptr 0 0),(2,.ptr 1 0),(3,.ptr 2 0),(4,.d (.int .i64 (w64 ((1:Int) + x90.1)))),(5,.d (.int .i64 (w64 (v188 + (1:Int)))))]) (objs:=[.box [.d (.sl false (v249.map qav)),.d (.int .i64 v250),.d (.int .u64 v251)],.box [.d (.cx .f32 (0:Nat) (0:Nat)),.d (.cx .f32 (0:Nat) (0:Nat)),.d (.cx .f32 (0:Nat) (0:Nat)),.d (.nils)],.box [.d (.cx .f32 v87.re v87.im),.d (.cx .f32 v88.re v88.im),.d (.cx .f32 v89.re v89.im),.row 3 v252.length 0 v252.length],.row 8 (v252.map qac)]) rfl (by simp) rfl (by trivial) ⟨rfl,trivial,rfl,trivial,rfl,trivial,rfl,trivial,rfl,trivial,trivial⟩)⟩
    ·refine qa8<|qay<|qa8<|qa2<|qa1 hτ rfl rfl rfl ?_
     refine qa1 hτ rfl rfl rfl<|qa1 hτ rfl rfl rfl<|qal hτ rfl rfl rfl<|qal hτ rfl rfl rfl<|qa5 ?_
     refine qby (ι:=List Int × Int × Int × Int × Cx × Cx) (fun (v269,v270,v271,v272,v273,v274)=>St.of [(0,.ptr 0 0),(2,.ptr 1 0),(3,.ptr 2 0),(4,.d (.int .i64 (w64 ((1:Int) + x90.1)))),(5,.d (.int .i64 v188)),(6,.ptr 4 0)] [.box [.d (.sl false (v269.map qav)),.d (.int .i64 v270),.d (.int .u64 v271)],.box [.d (.cx .f32 (0:Nat) (0:Nat)),.d (.cx .f32 (0:Nat) (0:Nat)),.d (.cx .f32 (0:Nat) (0:Nat)),.d (.nils)],.box [.d (.cx .f32 v87.re v87.im),.d (.cx .f32 v88.re v88.im),.d (.cx .f32 v89.re v89.im),.row 3 v187.length 0 v187.length],.row 8 (v187.map qac),.box [.d (.int .i64 v272),.d (.cx .f32 v273.re v273.im),.d (.cx .f32 v274.re v274.im),.d (.int .i64 (0:Int)),.d (.cx .f32 (0:Nat) (0:Nat)),.d (.cx .f32 (0:Nat) (0:Nat)),.d (.cx .f32 (0:Nat) (0:Nat)),.d (.int .i64 (0:Int))]] f45.ntmps 1) (fun (v269,v270,v271,v272,v273,v274)=>qe4 n (qb6 n v87 v88 v89 x90 m220) v187 v188 v269 v270 v271 v272 v273 v274 = some r) ?_ (fun hk296=>?_)
     ·rintro ⟨v269,v270,v271,v272,v273,v274⟩ h
      replace h:qe4 n (qb6 n v87 v88 v89 x90 m220) v187 v188 v269 v270 v271 v272 v273 v274 = some r:=h
      unfold qe4 at h
      refine qa8<|qa2<|qa1 hτ rfl rfl rfl ?_
      refine qaf h fun x275 hx275 h=>?_
      refine qae hτ false [0] rfl rfl rfl (qaj func46 rfl rfl) rfl rfl (by simp) ⟨trivial,trivial,trivial⟩ (by trivial) (qb7 n (qas.mk v269 v270 v271) (3:Int) hx275) ?_
      rintro r0 o0 n0 ⟨rfl,rfl,rfl⟩ -
      refine qa1 hτ rfl rfl rfl<|qal hτ rfl rfl rfl<|qa5 ?_
      refine qby (ι:=List Int × Int × Int × Cx × Cx × Cx) (fun (v284,v285,v286,v287,v288,v289)=>St.of [(0,.ptr 0 0),(2,.ptr 1 0),(3,.ptr 2 0),(4,.d (.int .i64 (w64 ((1:Int) + x90.1)))),(5,.d (.int .i64 v188)),(6,.ptr 4 0)] [.box [.d (.sl false (v284.map qav)),.d (.int .i64 v285),.d (.int .u64 v286)],.box [.d (.cx .f32 (0:Nat) (0:Nat)),.d (.cx .f32 (0:Nat) (0:Nat)),.d (.cx .f32 (0:Nat) (0:Nat)),.d (.nils)],.box [.d (.cx .f32 v87.re v87.im),.d (.cx .f32 v88.re v88.im),.d (.cx .f32 v89.re v89.im),.row 3 v187.length 0 v187.length],.row 8 (v187.map qac),.box [.d (.int .i64 v272),.d (.cx .f32 v273.re v273.im),.d (.cx .f32 v274.re v274.im),.d (.int .i64 x275.1),.d (.cx .f32 v287.re v287.im),.d (.cx .f32 v288.re v288.im),.d (.cx .f32 v289.re v289.im),.d (.int .i64 (0:Int))]] f45.ntmps 1) (fun (v284,v285,v286,v287,v288,v289)=>qe5 n (qb6 n v87 v88 v89 x90 m220) v187 v188 v272 v273 v274 x275 v284 v285 v286 v287 v288 v289 = some r) ?_ (fun hk292=>?_)
      ·rintro ⟨v284,v285,v286,v287,v288,v289⟩ h
       replace h:qe5 n (qb6 n v87 v88 v89 x90 m220) v187 v188 v272 v273 v274 x275 v284 v285 v286 v287 v288 v289 = some r:=h
       unfold qe5 at h
       refine qa8<|qa2<|qa1 hτ rfl rfl rfl ?_
       refine qaf h fun x290 hx290 h=>?_
       refine qae hτ false [0] rfl rfl rfl (qaj func46 rfl rfl) rfl rfl (by simp) ⟨trivial,trivial,trivial⟩ (by trivial) (qb7 n (qas.mk v284 v285 v286) (30:Int) hx290) ?_
       rintro r0 o0 n0 ⟨rfl,rfl,rfl⟩ -
       refine qa1 hτ rfl rfl rfl<|qal hτ rfl rfl rfl<|qa5<|qa2<|qa1 hτ rfl rfl rfl ?_
       refine qa1 hτ rfl rfl rfl<|qa1 hτ rfl rfl rfl<|qal hτ rfl rfl rfl ?_
       refine qci h fun hg291 h=>?_
       refine qi7 hτ rfl rfl (Eq.trans rfl (or_append (f:=qac) v187 [(SBus.mk v272 v273 v274 x275.1 (qad.mk v287 v288 v289) x290.1)] rfl)) ⟨⟨rfl,Nat.le_of_ble_eq_true rfl⟩,qb4 _,rfl,rfl,hg291,by decide,(all1 rfl)⟩ ?_
       refine qa1 hτ rfl rfl rfl<|qal hτ rfl rfl rfl<|qa5 ?_
       refine qaa (qa3 [0,1,2,3] (l:=[(0,.ptr 0 0),(2,.ptr 1 0),(3,.ptr 2 0),(4,.d (.int .i64 (w64 ((1:Int) + x90.1)))),(5,.d (.int .i64 v188))]) (objs:=[.box [.d (.sl false (x290.2.code.map qav)),.d (.int .i64 x290.2.at_),.d (.int .u64 x290.2.seed)],.box [.d (.cx .f32 (0:Nat) (0:Nat)),.d (.cx .f32 (0:Nat) (0:Nat)),.d (.cx .f32 (0:Nat) (0:Nat)),.d (.nils)],.box [.d (.cx .f32 v87.re v87.im),.d (.cx .f32 v88.re v88.im),.d (.cx .f32 v89.re v89.im),.row 3 ((v187 ++ [(SBus.mk v272 v273 v274 x275.1 (qad.mk v287 v288 v289) x290.1)]).length) 0 ((v187 ++ [(SBus.mk v272 v273 v274 x275.1 (qad.mk v287 v288 v289) x290.1)]).length)],.row 8 ((v187 ++ [(SBus.mk v272 v273 v274 x275.1 (qad.mk v287 v288 v289) x290.1)]).map qac)]) rfl (by simp) rfl (by trivial) ⟨rfl,trivial,rfl,trivial,rfl,trivial,rfl,trivial,rfl,trivial,trivial⟩) ?_
       exact hk253 (x290.2.code,x290.2.at_,x290.2.seed,(v187 ++ [(SBus.mk v272 v273 v274 x275.1 (qad.mk v287 v288 v289) x290.1)])) h
      ·refine qa8<|qa8<|qa2<|qa1 hτ rfl rfl rfl ?_
       refine qaf h fun x293 hx293 h=>?_
       refine qae hτ false [0] rfl rfl rfl (qaj func64 rfl rfl) rfl rfl (by simp) ⟨trivial,trivial,trivial⟩ (by trivial) (qg0 n x275.2 (3:Int) hx293) ?_
       rintro r0 o0 n0 ⟨rfl,rfl,rfl⟩ -
       refine qa1 hτ rfl rfl rfl<|qa5 ?_
       refine qaa (qa3 [0,1,2,3,4] (l:=[(0,.ptr 0 0),(2,.ptr 1 0),(3,.ptr 2 0),(4,.d (.int .i64 (w64 ((1:Int) + x90.1)))),(5,.d (.int .i64 v188)),(6,.ptr 4 0),(62,.d (.bool (!x293.1)))]) (objs:=[.box [.d (.sl false (x293.2.code.map qav)),.d (.int .i64 x293.2.at_),.d (.int .u64 x293.2.seed)],.box [.d (.cx .f32 (0:Nat) (0:Nat)),.d (.cx .f32 (0:Nat) (0:Nat)),.d (.cx .f32 (0:Nat) (0:Nat)),.d (.nils)],.box [.d (.cx .f32 v87.re v87.im),.d (.cx .f32 v88.re v88.im),.d (.cx .f32 v89.re v89.im),.row 3 v187.length 0 v187.length],.row 8 (v187.map qac),.box [.d (.int .i64 v272),.d (.cx .f32 v273.re v273.im),.d (.cx .f32 v274.re v274.im),.d (.int .i64 x275.1),.d (.cx .f32 (0:Nat) (0:Nat)),.d (.cx .f32 (0:Nat) (0:Nat)),.d (.cx .f32 (0:Nat) (0:Nat)),.d (.int .i64 (0:Int))]]) rfl (by simp) rfl (by trivial) ⟨rfl,trivial,rfl,trivial,rfl,trivial,rfl,trivial,rfl,trivial,rfl,trivial,rfl,trivial,trivial⟩) ?_
       refine qaq rfl (fun hc294=>?_) (fun hc294=>?_)
       ·have hc294:=qjf hc294
        have h:=qeg h hc294
        refine qa2<|qa1 hτ rfl rfl rfl ?_
        refine qaf h fun x295 hx295 h=>?_
        refine qae hτ false [0] rfl rfl rfl (qaj func65 rfl rfl) rfl rfl (by simp) ⟨trivial,trivial,trivial⟩ (by trivial) (qkv n x293.2 (24:Int) hx295) ?_
        rintro r0 o0 n0 ⟨rfl,rfl,rfl⟩ -
        refine qa1 hτ rfl rfl rfl<|qal hτ rfl rfl rfl<|qa5 ?_
        refine qaa (qa3 [0,1,2,3,4] (l:=[(0,.ptr 0 0),(2,.ptr 1 0),(3,.ptr 2 0),(4,.d (.int .i64 (w64 ((1:Int) + x90.1)))),(5,.d (.int .i64 v188)),(6,.ptr 4 0)]) (objs:=[.box [.d (.sl false (x295.2.code.map qav)),.d (.int .i64 x295.2.at_),.d (.int .u64 x295.2.seed)],.box [.d (.cx .f32 (0:Nat) (0:Nat)),.d (.cx .f32 (0:Nat) (0:Nat)),.d (.cx .f32 (0:Nat) (0:Nat)),.d (.nils)],.box [.d (.cx .f32 v87.re v87.im),.d (.cx .f32 v88.re v88.im),.d (.cx .f32 v89.re v89.im),.row 3 v187.length 0 v187.length],.row 8 (v187.map qac),.box [.d (.int .i64 v272),.d (.cx .f32 v273.re v273.im),.d (.cx .f32 v274.re v274.im),.d (.int .i64 x275.1),.d (.cx .f32 x295.1.A.re x295.1.A.im),.d (.cx .f32 x295.1.B.re x295.1.B.im),.d (.cx .f32 x295.1.C.re x295.1.C.im),.d (.int .i64 (0:Int))]]) rfl (by simp) rfl (by trivial) ⟨rfl,trivial,rfl,trivial,rfl,trivial,rfl,trivial,rfl,trivial,rfl,trivial,trivial⟩) ?_
        exact hk292 (x295.2.code,x295.2.at_,x295.2.seed,x295.1.A,x295.1.B,x295.1.C) h
       ·have hc294:=qje hc294
        have h:=qeh h hc294
        refine qat ?_
        refine qaa (qa3 [0,1,2,3,4] (l:=[(0,.ptr 0 0),(2,.ptr 1 0),(3,.ptr 2 0),(4,.d (.int .i64 (w64 ((1:Int) + x90.1)))),(5,.d (.int .i64 v188)),(6,.ptr 4 0)]) (objs:=[.box [.d (.sl false (x293.2.code.map qav)),.d (.int .i64 x293.2.at_),.d (.int .u64 x293.2.seed)],.box [.d (.cx .f32 (0:Nat) (0:Nat)),.d (.cx .f32 (0:Nat) (0:Nat)),.d (.cx .f32 (0:Nat) (0:Nat)),.d (.nils)],.box [.d (.cx .f32 v87.re v87.im),.d (.cx .f32 v88.re v88.im),.d (.cx .f32 v89.re v89.im),.row 3 v187.length 0 v187.length],.row 8 (v187.map qac),.box [.d (.int .i64 v272),.d (.cx .f32 v273.re v273.im),.d (.cx .f32 v274.re v274.im),.d (.int .i64 x275.1),.d (.cx .f32 (0:Nat) (0:Nat)),.d (.cx .f32 (0:Nat) (0:Nat)),.d (.cx .f32 (0:Nat) (0:Nat)),.d (.int .i64 (0:Int))]]) rfl (by simp) rfl (by trivial) ⟨rfl,trivial,rfl,trivial,rfl,trivial,rfl,trivial,rfl,trivial,rfl,trivial,trivial⟩) ?_
        exact hk292 (x293.2.code,x293.2.at_,x293.2.seed,(Cx.mk (0:Nat) (0:Nat)),(Cx.mk (0:Nat) (0:Nat)),(Cx.mk (0:Nat) (0:Nat))) h
     ·refine qa8<|qa8 ?_
      refine qaa (qa3 [0,1,2,3,4] (l:=[(0,.ptr 0 0),(2,.ptr 1 0),(3,.ptr 2 0),(4,.d (.int .i64 (w64 ((1:Int) + x90.1)))),(5,.d (.int .i64 v188)),(6,.ptr 4 0)]) (objs:=[.box [.d (.sl false (v184.map qav)),.d (.int .i64 v185),.d (.int .u64 v186)],.box [.d (.cx .f32 (0:Nat) (0:Nat)),.d (.cx .f32 (0:Nat) (0:Nat)),.d (.cx .f32 (0:Nat) (0:Nat)),.d (.nils)],.box [.d (.cx .f32 v87.re v87.im),.d (.cx .f32 v88.re v88.im),.d (.cx .f32 v89.re v89.im),.row 3 v187.length 0 v187.length],.row 8 (v187.map qac),.box [.d (.int .i64 (w64 (v188 - (1:Int)))),.d (.cx .f32 (0:Nat) (0:Nat)),.d (.cx .f32 (0:Nat) (0:Nat)),.d (.int .i64 (0:Int)),.d (.cx .f32 (0:Nat) (0:Nat)),.d (.cx .f32 (0:Nat) (0:Nat)),.d (.cx .f32 (0:Nat) (0:Nat)),.d (.int .i64 (0:Int))]]) rfl (by simp) rfl (by trivial) ⟨rfl,trivial,rfl,trivial,rfl,trivial,rfl,trivial,rfl,trivial,rfl,trivial,trivial⟩) ?_
      refine qa2<|qa1 hτ rfl rfl rfl<|qa1 hτ rfl rfl rfl<|qa5 ?_
      refine qaq rfl (fun hc297=>?_) (fun hc297=>?_)
      ·have h:=if_t h hc297
       refine qby (ι:=List Int × Int × Int × Int) (fun (v304,v305,v306,v307)=>St.of [(0,.ptr 0 0),(2,.ptr 1 0),(3,.ptr 2 0),(4,.d (.int .i64 (w64 ((1:Int) + x90.1)))),(5,.d (.int .i64 v188)),(6,.ptr 4 0)] [.box [.d (.sl false (v304.map qav)),.d (.int .i64 v305),.d (.int .u64 v306)],.box [.d (.cx .f32 (0:Nat) (0:Nat)),.d (.cx .f32 (0:Nat) (0:Nat)),.d (.cx .f32 (0:Nat) (0:Nat)),.d (.nils)],.box [.d (.cx .f32 v87.re v87.im),.d (.cx .f32 v88.re v88.im),.d (.cx .f32 v89.re v89.im),.row 3 v187.length 0 v187.length],.row 8 (v187.map qac),.box [.d (.int .i64 v307),.d (.cx .f32 (0:Nat) (0:Nat)),.d (.cx .f32 (0:Nat) (0:Nat)),.d (.int .i64 (0:Int)),.d (.cx .f32 (0:Nat) (0:Nat)),.d (.cx .f32 (0:Nat) (0:Nat)),.d (.cx .f32 (0:Nat) (0:Nat)),.d (.int .i64 (0:Int))]] f45.ntmps 1) (fun (v304,v305,v306,v307)=>qe6 n (qb6 n v87 v88 v89 x90 m220) v187 v188 v304 v305 v306 v307 = some r) ?_ (fun hk311=>?_)
       ·rintro ⟨v304,v305,v306,v307⟩ h
        replace h:qe6 n (qb6 n v87 v88 v89 x90 m220) v187 v188 v304 v305 v306 v307 = some r:=h
        unfold qe6 at h
        refine qa8<|qa2<|qa1 hτ rfl rfl rfl ?_
        refine qaf h fun x308 hx308 h=>?_
        refine qae hτ false [0] rfl rfl rfl (qaj func46 rfl rfl) rfl rfl (by simp) ⟨trivial,trivial,trivial⟩ (by trivial) (qb7 n (qas.mk v304 v305 v306) (5:Int) hx308) ?_
        rintro r0 o0 n0 ⟨rfl,rfl,rfl⟩ -
        refine qa1 hτ rfl rfl rfl<|qa1 hτ rfl rfl rfl<|qa1 hτ rfl rfl rfl<|qa5<|qa8 ?_
        refine qa2<|qa1 hτ rfl rfl rfl<|qa1 hτ rfl rfl rfl ?_
        refine qaf h fun x309 hx309 h=>?_
        refine qae hτ false [0] rfl rfl rfl (qaj func46 rfl rfl) rfl rfl (by simp) ⟨trivial,trivial,trivial⟩ (by trivial) (qb7 n x308.2 (5:Int) hx309) ?_
        rintro r0 o0 n0 ⟨rfl,rfl,rfl⟩ -
        refine qa1 hτ rfl rfl rfl<|qa1 hτ rfl rfl rfl<|qa1 hτ rfl rfl rfl<|qa1 hτ rfl rfl rfl ?_
        refine qb3 (qa3 [0,1,2,3,4] (l:=[(0,.ptr 0 0),(2,.ptr 1 0),(3,.ptr 2 0),(4,.d (.int .i64 (w64 ((1:Int) + x90.1)))),(5,.d (.int .i64 v188)),(6,.ptr 4 0),(49,.d (.cx .f32 (qao .quo .f32 (FloatKind.nearest .f32 x308.1) (1098907648:Nat)) (qao .quo .f32 (FloatKind.nearest .f32 x309.1) (1098907648:Nat)))),(50,.ptr 4 1)]) (objs:=[.box [.d (.sl false (x309.2.code.map qav)),.d (.int .i64 x309.2.at_),.d (.int .u64 x309.2.seed)],.box [.d (.cx .f32 (0:Nat) (0:Nat)),.d (.cx .f32 (0:Nat) (0:Nat)),.d (.cx .f32 (0:Nat) (0:Nat)),.d (.nils)],.box [.d (.cx .f32 v87.re v87.im),.d (.cx .f32 v88.re v88.im),.d (.cx .f32 v89.re v89.im),.row 3 v187.length 0 v187.length],.row 8 (v187.map qac),.box [.d (.int .i64 v307),.d (.cx .f32 (0:Nat) (0:Nat)),.d (.cx .f32 (0:Nat) (0:Nat)),.d (.int .i64 (0:Int)),.d (.cx .f32 (0:Nat) (0:Nat)),.d (.cx .f32 (0:Nat) (0:Nat)),.d (.cx .f32 (0:Nat) (0:Nat)),.d (.int .i64 (0:Int))]]) rfl (by simp) rfl (by trivial) ⟨rfl,trivial,rfl,trivial,rfl,trivial,rfl,trivial,rfl,trivial,rfl,trivial,rfl,trivial,rfl,trivial,trivial⟩) ?_
        refine qal hτ rfl rfl rfl<|qa5<|qa2<|qa1 hτ rfl rfl rfl ?_
        refine qaf h fun x310 hx310 h=>?_
        refine qae hτ false [0] rfl rfl rfl (qaj func46 rfl rfl) rfl rfl (by simp) ⟨trivial,trivial,trivial⟩ (by trivial) (qb7 n x309.2 (3:Int) hx310) ?_
        rintro r0 o0 n0 ⟨rfl,rfl,rfl⟩ -
        refine qa1 hτ rfl rfl rfl<|qa1 hτ rfl rfl rfl<|qa1 hτ rfl rfl rfl<|qa1 hτ rfl rfl rfl<|qal hτ rfl rfl rfl ?_
        refine qa5 ?_
        refine qaa (qa3 [0,1,2,3,4] (l:=[(0,.ptr 0 0),(2,.ptr 1 0),(3,.ptr 2 0),(4,.d (.int .i64 (w64 ((1:Int) + x90.1)))),(5,.d (.int .i64 v188)),(6,.ptr 4 0)]) (objs:=[.box [.d (.sl false (x310.2.code.map qav)),.d (.int .i64 x310.2.at_),.d (.int .u64 x310.2.seed)],.box [.d (.cx .f32 (0:Nat) (0:Nat)),.d (.cx .f32 (0:Nat) (0:Nat)),.d (.cx .f32 (0:Nat) (0:Nat)),.d (.nils)],.box [.d (.cx .f32 v87.re v87.im),.d (.cx .f32 v88.re v88.im),.d (.cx .f32 v89.re v89.im),.row 3 v187.length 0 v187.length],.row 8 (v187.map qac),.box [.d (.int .i64 v307),.d (.cx .f32 (qao .quo .f32 (FloatKind.nearest .f32 x308.1) (1098907648:Nat)) (qao .quo .f32 (FloatKind.nearest .f32 x309.1) (1098907648:Nat))),.d (.cx .f32 (0:Nat) (qao .quo .f32 (FloatKind.nearest .f32 x310.1) (1098907648:Nat))),.d (.int .i64 (0:Int)),.d (.cx .f32 (0:Nat) (0:Nat)),.d (.cx .f32 (0:Nat) (0:Nat)),.d (.cx .f32 (0:Nat) (0:Nat)),.d (.int .i64 (0:Int))]]) rfl (by simp) rfl (by trivial) ⟨rfl,trivial,rfl,trivial,rfl,trivial,rfl,trivial,rfl,trivial,rfl,trivial,trivial⟩) ?_
        exact hk296 (x310.2.code,x310.2.at_,x310.2.seed,v307,(Cx.mk (qao .quo .f32 (FloatKind.nearest .f32 x308.1) (1098907648:Nat)) (qao .quo .f32 (FloatKind.nearest .f32 x309.1) (1098907648:Nat))),(Cx.mk (0:Nat) (qao .quo .f32 (FloatKind.nearest .f32 x310.1) (1098907648:Nat)))) h
       ·refine qa8<|qa8<|qa2<|qa1 hτ rfl rfl rfl ?_
        refine qaf h fun x312 hx312 h=>?_
        refine qae hτ false [0] rfl rfl rfl (qaj func64 rfl rfl) rfl rfl (by simp) ⟨trivial,trivial,trivial⟩ (by trivial) (qg0 n (qas.mk v184 v185 v186) (2:Int) hx312) ?_
        rintro r0 o0 n0 ⟨rfl,rfl,rfl⟩ -
        refine qa5 ?_
        refine qaq rfl (fun hc313=>?_) (fun hc313=>?_)
        ·have h:=qeh h hc313
         refine qa2<|qa1 hτ rfl rfl rfl<|qa1 hτ rfl rfl rfl ?_
         refine qaf h fun x314 hx314 h=>?_
         refine qae hτ false [0] rfl rfl rfl (qaj func46 rfl rfl) rfl rfl (by simp) ⟨trivial,trivial,trivial⟩ (by trivial) (qb7 n x312.2 v188 hx314) ?_
         rintro r0 o0 n0 ⟨rfl,rfl,rfl⟩ -
         refine qa1 hτ rfl rfl rfl<|qal hτ rfl rfl rfl<|qa5 ?_
         refine qaa (qa3 [0,1,2,3,4] (l:=[(0,.ptr 0 0),(2,.ptr 1 0),(3,.ptr 2 0),(4,.d (.int .i64 (w64 ((1:Int) + x90.1)))),(5,.d (.int .i64 v188)),(6,.ptr 4 0)]) (objs:=[.box [.d (.sl false (x314.2.code.map qav)),.d (.int .i64 x314.2.at_),.d (.int .u64 x314.2.seed)],.box [.d (.cx .f32 (0:Nat) (0:Nat)),.d (.cx .f32 (0:Nat) (0:Nat)),.d (.cx .f32 (0:Nat) (0:Nat)),.d (.nils)],.box [.d (.cx .f32 v87.re v87.im),.d (.cx .f32 v88.re v88.im),.d (.cx .f32 v89.re v89.im),.row 3 v187.length 0 v187.length],.row 8 (v187.map qac),.box [.d (.int .i64 x314.1),.d (.cx .f32 (0:Nat) (0:Nat)),.d (.cx .f32 (0:Nat) (0:Nat)),.d (.int .i64 (0:Int)),.d (.cx .f32 (0:Nat) (0:Nat)),.d (.cx .f32 (0:Nat) (0:Nat)),.d (.cx .f32 (0:Nat) (0:Nat)),.d (.int .i64 (0:Int))]]) rfl (by simp) rfl (by trivial) ⟨rfl,trivial,rfl,trivial,rfl,trivial,rfl,trivial,rfl,trivial,rfl,trivial,trivial⟩) ?_
         exact hk311 (x314.2.code,x314.2.at_,x314.2.seed,x314.1) h
        ·have h:=qeg h hc313
         refine qat ?_
         refine qaa (qa3 [0,1,2,3,4] (l:=[(0,.ptr 0 0),(2,.ptr 1 0),(3,.ptr 2 0),(4,.d (.int .i64 (w64 ((1:Int) + x90.1)))),(5,.d (.int .i64 v188)),(6,.ptr 4 0)]) (objs:=[.box [.d (.sl false (x312.2.code.map qav)),.d (.int .i64 x312.2.at_),.d (.int .u64 x312.2.seed)],.box [.d (.cx .f32 (0:Nat) (0:Nat)),.d (.cx .f32 (0:Nat) (0:Nat)),.d (.cx .f32 (0:Nat) (0:Nat)),.d (.nils)],.box [.d (.cx .f32 v87.re v87.im),.d (.cx .f32 v88.re v88.im),.d (.cx .f32 v89.re v89.im),.row 3 v187.length 0 v187.length],.row 8 (v187.map qac),.box [.d (.int .i64 (w64 (v188 - (1:Int)))),.d (.cx .f32 (0:Nat) (0:Nat)),.d (.cx .f32 (0:Nat) (0:Nat)),.d (.int .i64 (0:Int)),.d (.cx .f32 (0:Nat) (0:Nat)),.d (.cx .f32 (0:Nat) (0:Nat)),.d (.cx .f32 (0:Nat) (0:Nat)),.d (.int .i64 (0:Int))]]) rfl (by simp) rfl (by trivial) ⟨rfl,trivial,rfl,trivial,rfl,trivial,rfl,trivial,rfl,trivial,rfl,trivial,trivial⟩) ?_
         exact hk311 (x312.2.code,x312.2.at_,x312.2.seed,(w64 (v188 - (1:Int)))) h
      ·have h:=if_f h hc297
       refine qat ?_
       refine qaa (qa3 [0,1,2,3,4] (l:=[(0,.ptr 0 0),(2,.ptr 1 0),(3,.ptr 2 0),(4,.d (.int .i64 (w64 ((1:Int) + x90.1)))),(5,.d (.int .i64 v188)),(6,.ptr 4 0)]) (objs:=[.box [.d (.sl false (v184.map qav)),.d (.int .i64 v185),.d (.int .u64 v186)],.box [.d (.cx .f32 (0:Nat) (0:Nat)),.d (.cx .f32 (0:Nat) (0:Nat)),.d (.cx .f32 (0:Nat) (0:Nat)),.d (.nils)],.box [.d (.cx .f32 v87.re v87.im),.d (.cx .f32 v88.re v88.im),.d (.cx .f32 v89.re v89.im),.row 3 v187.length 0 v187.length],.row 8 (v187.map qac),.box [.d (.int .i64 (w64 (v188 - (1:Int)))),.d (.cx .f32 (0:Nat) (0:Nat)),.d (.cx .f32 (0:Nat) (0:Nat)),.d (.int .i64 (0:Int)),.d (.cx .f32 (0:Nat) (0:Nat)),.d (.cx .f32 (0:Nat) (0:Nat)),.d (.cx .f32 (0:Nat) (0:Nat)),.d (.int .i64 (0:Int))]]) rfl (by simp) rfl (by trivial) ⟨rfl,trivial,rfl,trivial,rfl,trivial,rfl,trivial,rfl,trivial,rfl,trivial,trivial⟩) ?_
       exact hk296 (v184,v185,v186,(w64 (v188 - (1:Int))),(Cx.mk (0:Nat) (0:Nat)),(Cx.mk (0:Nat) (0:Nat))) h
   ·have h:=if_f h hc222
    refine qd3 ?_
    refine qaa (qa3 [0,1,2,3] (l:=[(2,.ptr 1 0),(3,.ptr 2 0)]) (objs:=[.box [.d (.sl false (v184.map qav)),.d (.int .i64 v185),.d (.int .u64 v186)],.box [.d (.cx .f32 (0:Nat) (0:Nat)),.d (.cx .f32 (0:Nat) (0:Nat)),.d (.cx .f32 (0:Nat) (0:Nat)),.d (.nils)],.box [.d (.cx .f32 v87.re v87.im),.d (.cx .f32 v88.re v88.im),.d (.cx .f32 v89.re v89.im),.row 3 v187.length 0 v187.length],.row 8 (v187.map qac)]) rfl (by simp) rfl (by trivial) ⟨rfl,trivial,rfl,trivial,trivial⟩) ?_
    exact hk157 (v184,v185,v186,v187) h
 ·refine qa8<|qa8 ?_
  refine qaa (qa3 [0,1,3,2] (l:=[(0,.ptr 0 0),(2,.ptr 1 0),(3,.ptr 2 0)]) (objs:=[.box [.d (.sl false (x74.2.code.map qav)),.d (.int .i64 x74.2.at_),.d (.int .u64 x74.2.seed)],.box [.d (.cx .f32 (0:Nat) (0:Nat)),.d (.cx .f32 (0:Nat) (0:Nat)),.d (.cx .f32 (0:Nat) (0:Nat)),.d (.nils)],.box [.d (.cx .f32 x75.A.re x75.A.im),.d (.cx .f32 x75.B.re x75.B.im),.d (.cx .f32 x75.C.re x75.C.im),.row 3 (([]:List SBus).length) 0 (([]:List SBus).length)],.row 8 (([]:List SBus).map qac)]) rfl (by simp) rfl (by trivial) ⟨rfl,trivial,rfl,trivial,rfl,trivial,trivial⟩) ?_
  refine qa2<|qa1 hτ rfl rfl rfl ?_
  refine qaf h fun x316 hx316 h=>?_
  refine qae hτ false [0] rfl rfl rfl (qaj func64 rfl rfl) rfl rfl (by simp) ⟨trivial,trivial,trivial⟩ (by trivial) (qg0 n x74.2 (5:Int) hx316) ?_
  rintro r0 o0 n0 ⟨rfl,rfl,rfl⟩ -
  refine qa5 ?_
  refine qaq rfl (fun hc317=>?_) (fun hc317=>?_)
  ·have h:=qeh h hc317
   refine qa2<|qa1 hτ rfl rfl rfl ?_
   refine qaf h fun x318 hx318 h=>?_
   refine qae hτ false [0] rfl rfl rfl (qaj func65 rfl rfl) rfl rfl (by simp) ⟨trivial,trivial,trivial⟩ (by trivial) (qkv n x316.2 (40:Int) hx318) ?_
   rintro r0 o0 n0 ⟨rfl,rfl,rfl⟩ -
   refine qa1 hτ rfl rfl rfl<|qal hτ rfl rfl rfl<|qa5 ?_
   refine qaa (qa3 [0,1,2,3] (l:=[(0,.ptr 0 0),(2,.ptr 1 0),(3,.ptr 2 0)]) (objs:=[.box [.d (.sl false (x318.2.code.map qav)),.d (.int .i64 x318.2.at_),.d (.int .u64 x318.2.seed)],.box [.d (.cx .f32 (0:Nat) (0:Nat)),.d (.cx .f32 (0:Nat) (0:Nat)),.d (.cx .f32 (0:Nat) (0:Nat)),.d (.nils)],.box [.d (.cx .f32 x318.1.A.re x318.1.A.im),.d (.cx .f32 x318.1.B.re x318.1.B.im),.d (.cx .f32 x318.1.C.re x318.1.C.im),.row 3 (([]:List SBus).length) 0 (([]:List SBus).length)],.row 8 (([]:List SBus).map qac)]) rfl (by simp) rfl (by trivial) ⟨rfl,trivial,rfl,trivial,rfl,trivial,trivial⟩) ?_
   exact hk315 (x318.2.code,x318.2.at_,x318.2.seed,x318.1.A,x318.1.B,x318.1.C) h
  ·have h:=qeg h hc317
   refine qat ?_
   refine qaa (qa3 [0,1,2,3] (l:=[(0,.ptr 0 0),(2,.ptr 1 0),(3,.ptr 2 0)]) (objs:=[.box [.d (.sl false (x316.2.code.map qav)),.d (.int .i64 x316.2.at_),.d (.int .u64 x316.2.seed)],.box [.d (.cx .f32 (0:Nat) (0:Nat)),.d (.cx .f32 (0:Nat) (0:Nat)),.d (.cx .f32 (0:Nat) (0:Nat)),.d (.nils)],.box [.d (.cx .f32 x75.A.re x75.A.im),.d (.cx .f32 x75.B.re x75.B.im),.d (.cx .f32 x75.C.re x75.C.im),.row 3 (([]:List SBus).length) 0 (([]:List SBus).length)],.row 8 (([]:List SBus).map qac)]) rfl (by simp) rfl (by trivial) ⟨rfl,trivial,rfl,trivial,rfl,trivial,trivial⟩) ?_
   exact hk315 (x316.2.code,x316.2.at_,x316.2.seed,x75.A,x75.B,x75.C) h
def qgq (n:Nat) (x27:qau × qas) (v53:List Int) (v54:Int) (v55:Int) (v56:List STie):Option (qbk × qas) :=
 some ((qbk.mk (qau.mk x27.1.Source x27.1.qa7) v56),(qas.mk v53 v54 v55))
def qgr (n:Nat) (x27:qau × qas) (k84:List Int→Int→Int→List STie→Int→Option (qbk × qas)) (v66:List Int) (v67:Int) (v68:Int) (v69:List STie) (v70:Int):Option (qbk × qas) :=
 (qar n (qas.mk v66 v67 v68) (x27.1.qa7.length:Int)).bind fun x87 =>
 (qar n x87.2 (w64 ((x27.1.qa7.length:Int) - (1:Int)))).bind fun x88 =>
 grd ((x27.1.qa7.length:Int) ≠ 0) <|
 (qar n x88.2 (60:Int)).bind fun x90 =>
 grd (room (v69.length + 1) 40) <|
 k84 x90.2.code x90.2.at_ x90.2.seed (v69 ++ [(STie.mk x87.1 ((w64 ((w64 (x87.1 + (1:Int))) + x88.1)).tmod (x27.1.qa7.length:Int)) (Cx.mk (1048576000:Nat) (0:Nat)) (Cx.mk (0:Nat) (1031798784:Nat)) x90.1)]) (w64 (v70 - (1:Int)))
def qe7 (n:Nat) (x27:qau × qas) (k84:List Int→Int→Int→List STie→Int→Option (qbk × qas)) (v66:List Int) (v67:Int) (v68:Int) (v69:List STie) (v70:Int) (v95:Bool):Option (qbk × qas) :=
 if v95 = true then
  qgr n x27 k84 v66 v67 v68 v69 v70
 else
  qgq n x27 v66 v67 v68 v69
def qc7 (n:Nat) (x27:qau × qas):Nat→List Int→Int→Int→List STie→Int→Option (qbk × qas)
 | 0,_,_,_,_,_=>none
 | m83 + 1,v66,v67,v68,v69,v70 =>
  if v70 > (0:Int) then
   qe7 n x27 (qc7 n x27 m83) v66 v67 v68 v69 v70 (decide ((x27.1.qa7.length:Int) > (1:Int)))
  else
   qe7 n x27 (qc7 n x27 m83) v66 v67 v68 v69 v70 false
def qjl (n:Nat) (s_:qas):Option (qbk × qas) :=
 (qic n s_).bind fun x27 =>
 (qar n x27.2 (5:Int)).bind fun x58 =>
 qc7 n x27 n x58.2.code x58.2.at_ x58.2.seed ([]:List STie) x58.1
theorem spec_l08DrawOk_ok (n:Nat) (s_:qas) {r:qbk × qas} (h:qjl n s_ = some r):qb1 prog false 19 [.ptr 0 0] [.box [.d (.sl false (s_.code.map qav)),.d (.int .i64 s_.at_),.d (.int .u64 s_.seed)]] (fun v o new=>v = .agg [.d (.cx .f32 r.1.qa0.Source.A.re r.1.qa0.Source.A.im),.d (.cx .f32 r.1.qa0.Source.B.re r.1.qa0.Source.B.im),.d (.cx .f32 r.1.qa0.Source.C.re r.1.qa0.Source.C.im),.row 1 r.1.qa0.qa7.length 0 r.1.qa0.qa7.length,.row 2 r.1.Ties.length 0 r.1.Ties.length]∧o = [.box [.d (.sl false (r.2.code.map qav)),.d (.int .i64 r.2.at_),.d (.int .u64 r.2.seed)]]∧new = [.row 8 (r.1.qa0.qa7.map qac),.row 5 (r.1.Ties.map qam)]):=by
 refine qak hτ func19 rfl (by simp) (by simp) ?_
 unfold qjl at h
 refine qa8<|qa2<|qal hτ rfl rfl rfl<|qa5<|qa8 ?_
 refine qa2<|qa1 hτ rfl rfl rfl ?_
 refine qaf h fun x27 hx27 h=>?_
 refine qae hτ false [0] rfl rfl rfl (qaj func45 rfl rfl) rfl rfl (by simp) ⟨trivial,trivial⟩ (by trivial) (spec_l02DrawOk_ok n s_ hx27) ?_
 rintro r0 o0 n0 ⟨rfl,rfl,rfl⟩ -
 refine qal hτ rfl rfl rfl<|qa1 hτ rfl rfl rfl<|qal hτ rfl rfl rfl<|qal hτ rfl rfl rfl<|qa5 ?_
 refine qa8 ?_
 refine qaa (qa3 [0,1,4,2,3] (l:=[(0,.ptr 0 0),(2,.ptr 1 0),(3,.ptr 2 0)]) (objs:=[.box [.d (.sl false (x27.2.code.map qav)),.d (.int .i64 x27.2.at_),.d (.int .u64 x27.2.seed)],.box [.d (.cx .f32 (0:Nat) (0:Nat)),.d (.cx .f32 (0:Nat) (0:Nat)),.d (.cx .f32 (0:Nat) (0:Nat)),.d (.nils),.d (.nils)],.box [.d (.cx .f32 x27.1.Source.A.re x27.1.Source.A.im),.d (.cx .f32 x27.1.Source.B.re x27.1.Source.B.im),.d (.cx .f32 x27.1.Source.C.re x27.1.Source.C.im),.row 3 x27.1.qa7.length 0 x27.1.qa7.length,.row 4 (([]:List STie).length) 0 (([]:List STie).length)],.row 8 (x27.1.qa7.map qac),.row 5 (([]:List STie).map qam)]) rfl (by simp) rfl (by trivial) ⟨rfl,trivial,rfl,trivial,rfl,trivial,trivial⟩) ?_
 refine qa2<|qa1 hτ rfl rfl rfl<|qa1 hτ rfl rfl rfl<|qa1 hτ rfl rfl rfl ?_
 refine qcg hτ rfl rfl rfl (qb4 _) ?_
 refine qa1 hτ rfl rfl rfl<|qa5 ?_
 refine qby (ι:=List Int × Int × Int × List STie) (fun (v53,v54,v55,v56)=>St.of [(2,.ptr 1 0),(3,.ptr 2 0)] [.box [.d (.sl false (v53.map qav)),.d (.int .i64 v54),.d (.int .u64 v55)],.box [.d (.cx .f32 (0:Nat) (0:Nat)),.d (.cx .f32 (0:Nat) (0:Nat)),.d (.cx .f32 (0:Nat) (0:Nat)),.d (.nils),.d (.nils)],.box [.d (.cx .f32 x27.1.Source.A.re x27.1.Source.A.im),.d (.cx .f32 x27.1.Source.B.re x27.1.Source.B.im),.d (.cx .f32 x27.1.Source.C.re x27.1.Source.C.im),.row 3 x27.1.qa7.length 0 x27.1.qa7.length,.row 4 v56.length 0 v56.length],.row 8 (x27.1.qa7.map qac),.row 5 (v56.map qam)] f19.ntmps 1) (fun (v53,v54,v55,v56)=>qgq n x27 v53 v54 v55 v56 = some r) ?_ (fun hk57=>?_)
 ·rintro ⟨v53,v54,v55,v56⟩ h
  replace h:qgq n x27 v53 v54 v55 v56 = some r:=h
  unfold qgq at h
  refine qa8<|qa2<|qa1 hτ rfl rfl rfl<|qal hτ rfl rfl rfl<|qa5 ?_
  refine qaa (qa3 [0,1,3,4] (l:=[(2,.ptr 1 0)]) (objs:=[.box [.d (.sl false (v53.map qav)),.d (.int .i64 v54),.d (.int .u64 v55)],.box [.d (.cx .f32 x27.1.Source.A.re x27.1.Source.A.im),.d (.cx .f32 x27.1.Source.B.re x27.1.Source.B.im),.d (.cx .f32 x27.1.Source.C.re x27.1.Source.C.im),.row 2 x27.1.qa7.length 0 x27.1.qa7.length,.row 3 v56.length 0 v56.length],.row 8 (x27.1.qa7.map qac),.row 5 (v56.map qam)]) rfl (by simp) rfl (by trivial) ⟨rfl,trivial,trivial⟩) ?_
  refine qap ?_
  have hr:=Option.some.inj h
  subst hr
  exact qah (.inr rfl) [2,3] (objs':=[.box [.d (.sl false (v53.map qav)),.d (.int .i64 v54),.d (.int .u64 v55)]]) (new:=[.row 8 (x27.1.qa7.map qac),.row 5 (v56.map qam)]) rfl (by simp) (by simp) rfl (by trivial) rfl rfl (by trivial) (fun h=>nomatch h) ⟨rfl,rfl,rfl⟩
 ·refine qa8<|qa8<|qa2<|qa1 hτ rfl rfl rfl ?_
  refine qaf h fun x58 hx58 h=>?_
  refine qae hτ false [0] rfl rfl rfl (qaj func46 rfl rfl) rfl rfl (by simp) ⟨trivial,trivial,trivial⟩ (by trivial) (qb7 n x27.2 (5:Int) hx58) ?_
  rintro r0 o0 n0 ⟨rfl,rfl,rfl⟩ -
  refine qa1 hτ rfl rfl rfl<|qa5<|qay ?_
  refine qde (ι:=Nat × List Int × Int × Int × List STie × Int) (fun (m83,v66,v67,v68,v69,v70)=>St.of [(0,.ptr 0 0),(2,.ptr 1 0),(3,.ptr 2 0),(4,.d (.int .i64 (x27.1.qa7.length:Int))),(5,.d (.int .i64 v70))] [.box [.d (.sl false (v66.map qav)),.d (.int .i64 v67),.d (.int .u64 v68)],.box [.d (.cx .f32 (0:Nat) (0:Nat)),.d (.cx .f32 (0:Nat) (0:Nat)),.d (.cx .f32 (0:Nat) (0:Nat)),.d (.nils),.d (.nils)],.box [.d (.cx .f32 x27.1.Source.A.re x27.1.Source.A.im),.d (.cx .f32 x27.1.Source.B.re x27.1.Source.B.im),.d (.cx .f32 x27.1.Source.C.re x27.1.Source.C.im),.row 3 x27.1.qa7.length 0 x27.1.qa7.length,.row 4 v69.length 0 v69.length],.row 8 (x27.1.qa7.map qac),.row 5 (v69.map qam)] f19.ntmps 1) (fun (m83,v66,v67,v68,v69,v70)=>qc7 n x27 m83 v66 v67 v68 v69 v70 = some r) (fun x=>x.1) (n,x58.2.code,x58.2.at_,x58.2.seed,([]:List STie),x58.1) h (qa3 [0,1,2,3,4] (l:=[(0,.ptr 0 0),(2,.ptr 1 0),(3,.ptr 2 0),(4,.d (.int .i64 (x27.1.qa7.length:Int))),(5,.d (.int .i64 x58.1))]) (objs:=[.box [.d (.sl false (x58.2.code.map qav)),.d (.int .i64 x58.2.at_),.d (.int .u64 x58.2.seed)],.box [.d (.cx .f32 (0:Nat) (0:Nat)),.d (.cx .f32 (0:Nat) (0:Nat)),.d (.cx .f32 (0:Nat) (0:Nat)),.d (.nils),.d (.nils)],.box [.d (.cx .f32 x27.1.Source.A.re x27.1.Source.A.im),.d (.cx .f32 x27.1.Source.B.re x27.1.Source.B.im),.d (.cx .f32 x27.1.Source.C.re x27.1.Source.C.im),.row 3 x27.1.qa7.length 0 x27.1.qa7.length,.row 4 (([]:List STie).length) 0 (([]:List STie).length)],.row 8 (x27.1.qa7.map qac),.row 5 (([]:List STie).map qam)]) rfl (by simp) rfl (by trivial) ⟨rfl,trivial,rfl,trivial,rfl,trivial,rfl,trivial,rfl,trivial,trivial⟩) ?_
  rintro ⟨m83,v66,v67,v68,v69,v70⟩ h
  replace h:qc7 n x27 m83 v66 v67 v68 v69 v70 = some r:=h
  rcases m83 with _ | m83
  ·rw [qc7] at h;cases h
  rw [qc7] at h
  refine qby (ι:=Unit) (fun _=>St.of [(0,.ptr 0 0),(2,.ptr 1 0),(3,.ptr 2 0),(4,.d (.int .i64 (x27.1.qa7.length:Int))),(5,.d (.int .i64 v70))] [.box [.d (.sl false (v66.map qav)),.d (.int .i64 v67),.d (.int .u64 v68)],.box [.d (.cx .f32 (0:Nat) (0:Nat)),.d (.cx .f32 (0:Nat) (0:Nat)),.d (.cx .f32 (0:Nat) (0:Nat)),.d (.nils),.d (.nils)],.box [.d (.cx .f32 x27.1.Source.A.re x27.1.Source.A.im),.d (.cx .f32 x27.1.Source.B.re x27.1.Source.B.im),.d (.cx .f32 x27.1.Source.C.re x27.1.Source.C.im),.row 3 x27.1.qa7.length 0 x27.1.qa7.length,.row 4 v69.length 0 v69.length],.row 8 (x27.1.qa7.map qac),.row 5 (v69.map qam)] f19.ntmps 1) (fun _=>qgr n x27 (qc7 n x27 m83) v66 v67 v68 v69 v70 = some r) ?_ (fun hk92=>?_)
  ·rintro ⟨⟩ h
   replace h:qgr n x27 (qc7 n x27 m83) v66 v67 v68 v69 v70 = some r:=h
   unfold qgr at h
   refine qa8<|qay<|qa8<|qa2<|qa1 hτ rfl rfl rfl ?_
   refine qa1 hτ rfl rfl rfl ?_
   refine qaf h fun x87 hx87 h=>?_
   refine qae hτ false [0] rfl rfl rfl (qaj func46 rfl rfl) rfl rfl (by simp) ⟨trivial,trivial,trivial⟩ (by trivial) (qb7 n (qas.mk v66 v67 v68) (x27.1.qa7.length:Int) hx87) ?_
   rintro r0 o0 n0 ⟨rfl,rfl,rfl⟩ -
   refine qa1 hτ rfl rfl rfl<|qal hτ rfl rfl rfl<|qal hτ rfl rfl rfl<|qa5<|qa8 ?_
   refine qaa (qa3 [0,1,2,3,4,5] (l:=[(0,.ptr 0 0),(2,.ptr 1 0),(3,.ptr 2 0),(4,.d (.int .i64 (x27.1.qa7.length:Int))),(5,.d (.int .i64 v70)),(6,.ptr 5 0)]) (objs:=[.box [.d (.sl false (x87.2.code.map qav)),.d (.int .i64 x87.2.at_),.d (.int .u64 x87.2.seed)],.box [.d (.cx .f32 (0:Nat) (0:Nat)),.d (.cx .f32 (0:Nat) (0:Nat)),.d (.cx .f32 (0:Nat) (0:Nat)),.d (.nils),.d (.nils)],.box [.d (.cx .f32 x27.1.Source.A.re x27.1.Source.A.im),.d (.cx .f32 x27.1.Source.B.re x27.1.Source.B.im),.d (.cx .f32 x27.1.Source.C.re x27.1.Source.C.im),.row 3 x27.1.qa7.length 0 x27.1.qa7.length,.row 4 v69.length 0 v69.length],.row 8 (x27.1.qa7.map qac),.row 5 (v69.map qam),.box [.d (.int .i64 x87.1),.d (.int .i64 (0:Int)),.d (.cx .f32 (0:Nat) (0:Nat)),.d (.cx .f32 (0:Nat) (0:Nat)),.d (.int .i64 (0:Int))]]) rfl (by simp) rfl (by trivial) ⟨rfl,trivial,rfl,trivial,rfl,trivial,rfl,trivial,rfl,trivial,rfl,trivial,trivial⟩) ?_
   refine qd5 ?_
   refine qa4 hτ [5] 0 rfl rfl rfl rfl rfl ?_
   refine qa4 hτ [5] 1 rfl rfl rfl rfl rfl ?_
   refine qa4 hτ [] 2 rfl rfl rfl rfl rfl ?_
   refine qa4 hτ [] 3 rfl rfl rfl rfl rfl ?_
   refine qa4 hτ [] 4 rfl rfl rfl rfl rfl ?_
   refine qa4 hτ [] 5 rfl rfl rfl rfl rfl ?_
   refine qa4 hτ [] 8 rfl rfl rfl rfl rfl ?_
   refine qaf h fun x88 hx88 h=>?_
   refine qcf hτ false [0] [1,2,3,4,5] 6 rfl rfl rfl rfl (qaj func46 rfl rfl) rfl rfl (by simp) ⟨trivial,trivial,trivial⟩ (by trivial) (qb7 n x87.2 (w64 ((x27.1.qa7.length:Int) - (1:Int))) hx88) ⟨rfl,rfl,rfl,rfl,rfl,trivial⟩ ?_
   refine qa4 hτ [] 7 rfl rfl rfl rfl rfl ?_
   refine qci h fun hg89 h=>?_
   refine qca hτ [] 9 rfl rfl rfl rfl rfl hg89 ?_
   refine qa4 hτ [5] 10 rfl rfl rfl rfl rfl ?_
   refine qbf hτ [0,1,2,3,4] 11 rfl rfl rfl rfl ⟨rfl,rfl,rfl,rfl,rfl,trivial⟩ ?_
   refine qbo mixed (by kernel_rfl) ?_
   refine qa8 ?_
   refine qaa (qa3 [0,1,2,3,4,5] (l:=[(0,.ptr 0 0),(2,.ptr 1 0),(3,.ptr 2 0),(4,.d (.int .i64 (x27.1.qa7.length:Int))),(5,.d (.int .i64 v70)),(6,.ptr 5 0)]) (objs:=[.box [.d (.sl false (x88.2.code.map qav)),.d (.int .i64 x88.2.at_),.d (.int .u64 x88.2.seed)],.box [.d (.cx .f32 (0:Nat) (0:Nat)),.d (.cx .f32 (0:Nat) (0:Nat)),.d (.cx .f32 (0:Nat) (0:Nat)),.d (.nils),.d (.nils)],.box [.d (.cx .f32 x27.1.Source.A.re x27.1.Source.A.im),.d (.cx .f32 x27.1.Source.B.re x27.1.Source.B.im),.d (.cx .f32 x27.1.Source.C.re x27.1.Source.C.im),.row 3 x27.1.qa7.length 0 x27.1.qa7.length,.row 4 v69.length 0 v69.length],.row 8 (x27.1.qa7.map qac),.row 5 (v69.map qam),.box [.d (.int .i64 x87.1),.d (.int .i64 ((w64 ((w64 (x87.1 + (1:Int))) + x88.1)).tmod (x27.1.qa7.length:Int))),.d (.cx .f32 (0:Nat) (0:Nat)),.d (.cx .f32 (0:Nat) (0:Nat)),.d (.int .i64 (0:Int))]]) rfl (by simp) rfl (by trivial) ⟨rfl,trivial,rfl,trivial,rfl,trivial,rfl,trivial,rfl,trivial,rfl,trivial,trivial⟩) ?_
   refine qa2<|qa1 hτ rfl rfl rfl<|qal hτ rfl rfl rfl<|qa5<|qa8 ?_
   refine qa2<|qa1 hτ rfl rfl rfl<|qal hτ rfl rfl rfl<|qa5<|qa8 ?_
   refine qa2<|qa1 hτ rfl rfl rfl ?_
   refine qaf h fun x90 hx90 h=>?_
   refine qae hτ false [0] rfl rfl rfl (qaj func46 rfl rfl) rfl rfl (by simp) ⟨trivial,trivial,trivial⟩ (by trivial) (qb7 n x88.2 (60:Int) hx90) ?_
   rintro r0 o0 n0 ⟨rfl,rfl,rfl⟩ -
   refine qa1 hτ rfl rfl rfl<|qal hτ rfl rfl rfl<|qa5 ?_
   refine qaa (qa3 [0,1,2,3,4,5] (l:=[(0,.ptr 0 0),(2,.ptr 1 0),(3,.ptr 2 0),(4,.d (.int .i64 (x27.1.qa7.length:Int))),(5,.d (.int .i64 v70)),(6,.ptr 5 0)]) (objs:=[.box [.d (.sl false (x90.2.code.map qav)),.d (.int .i64 x90.2.at_),.d (.int .u64 x90.2.seed)],.box [.d (.cx .f32 (0:Nat) (0:Nat)),.d (.cx .f32 (0:Nat) (0:Nat)),.d (.cx .f32 (0:Nat) (0:Nat)),.d (.nils),.d (.nils)],.box [.d (.cx .f32 x27.1.Source.A.re x27.1.Source.A.im),.d (.cx .f32 x27.1.Source.B.re x27.1.Source.B.im),.d (.cx .f32 x27.1.Source.C.re x27.1.Source.C.im),.row 3 x27.1.qa7.length 0 x27.1.qa7.length,.row 4 v69.length 0 v69.length],.row 8 (x27.1.qa7.map qac),.row 5 (v69.map qam),.box [.d (.int .i64 x87.1),.d (.int .i64 ((w64 ((w64 (x87.1 + (1:Int))) + x88.1)).tmod (x27.1.qa7.length:Int))),.d (.cx .f32 (1048576000:Nat) (0:Nat)),.d (.cx .f32 (0:Nat) (1031798784:Nat)),.d (.int .i64 x90.1)]]) rfl (by simp) rfl (by trivial) ⟨rfl,trivial,rfl,trivial,rfl,trivial,rfl,trivial,rfl,trivial,rfl,trivial,trivial⟩) ?_
   refine qa2<|qa1 hτ rfl rfl rfl<|qa1 hτ rfl rfl rfl<|qa1 hτ rfl rfl rfl<|qal hτ rfl rfl rfl ?_
   refine qci h fun hg91 h=>?_
   refine qi7 hτ rfl rfl (Eq.trans rfl (or_append (f:=qam) v69 [(STie.mk x87.1 ((w64 ((w64 (x87.1 + (1:Int))) + x88.1)).tmod (x27.1.qa7.length:Int)) (Cx.mk (1048576000:Nat) (0:Nat)) (Cx.mk (0:Nat) (1031798784:Nat)) x90.1)] rfl)) ⟨⟨rfl,Nat.le_of_ble_eq_true rfl⟩,qb4 _,rfl,rfl,hg91,by decide,(all1 rfl)⟩ ?_
   refine qa1 hτ rfl rfl rfl<|qal hτ rfl rfl rfl<|qa5 ?_
   refine qaa (qa3 [0,1,2,3,4] (l:=[(0,.ptr 0 0),(2,.ptr 1 0),(3,.ptr 2 0),(4,.d (.int .i64 (x27.1.qa7.length:Int))),(5,.d (.int .i64 v70))]) (objs:=[.box [.d (.sl false (x90.2.code.map qav)),.d (.int .i64 x90.2.at_),.d (.int .u64 x90.2.seed)],.box [.d (.cx .f32 (0:Nat) (0:Nat)),.d (.cx .f32 (0:Nat) (0:Nat)),.d (.cx .f32 (0:Nat) (0:Nat)),.d (.nils),.d (.nils)],.box [.d (.cx .f32 x27.1.Source.A.re x27.1.Source.A.im),.d (.cx .f32 x27.1.Source.B.re x27.1.Source.B.im),.d (.cx .f32 x27.1.Source.C.re x27.1.Source.C.im),.row 3 x27.1.qa7.length 0 x27.1.qa7.length,.row 4 ((v69 ++ [(STie.mk x87.1 ((w64 ((w64 (x87.1 + (1:Int))) + x88.1)).tmod (x27.1.qa7.length:Int)) (Cx.mk (1048576000:Nat) (0:Nat)) (Cx.mk (0:Nat) (1031798784:Nat)) x90.1)]).length) 0 ((v69 ++ [(STie.mk x87.1 ((w64 ((w64 (x87.1 + (1:Int))) + x88.1)).tmod (x27.1.qa7.length:Int)) (Cx.mk (1048576000:Nat) (0:Nat)) (Cx.mk (0:Nat) (1031798784:Nat)) x90.1)]).length)],.row 8 (x27.1.qa7.map qac),.row 5 ((v69 ++ [(STie.mk x87.1 ((w64 ((w64 (x87.1 + (1:Int))) + x88.1)).tmod (x27.1.qa7.length:Int)) (Cx.mk (1048576000:Nat) (0:Nat)) (Cx.mk (0:Nat) (1031798784:Nat)) x90.1)]).map qam)]) rfl (by simp) rfl (by trivial) ⟨rfl,trivial,rfl,trivial,rfl,trivial,rfl,trivial,rfl,trivial,trivial⟩) ?_
   refine qa2<|qa1 hτ rfl rfl rfl<|qa1 hτ rfl rfl rfl<|qa1 hτ rfl rfl rfl<|qa5 ?_
   exact ⟨(m83,x90.2.code,x90.2.at_,x90.2.seed,(v69 ++ [(STie.mk x87.1 ((w64 ((w64 (x87.1 + (1:Int))) + x88.1)).tmod (x27.1.qa7.length:Int)) (Cx.mk (1048576000:Nat) (0:Nat)) (Cx.mk (0:Nat) (1031798784:Nat)) x90.1)]),(w64 (v70 - (1:Int)))),h,Nat.lt_succ_self m83,(qa3 [0,1,2,3,4] (l:=[(0,.ptr 0 0),(2,.ptr 1 0),(3,.ptr 2 0),(4,.d (.int .i64 (x27.1.qa7.length:Int))),(5,.d (.int .i64 (w64 (v70 - (1:Int)))))]) (objs:=[.box [.d (.sl false (x90.2.code.map qav)),.d (.int .i64 x90.2.at_),.d (.int .u64 x90.2.seed)],.box [.d (.cx .f32 (0:Nat) (0:Nat)),.d (.cx .f32 (0:Nat) (0:Nat)),.d (.cx .f32 (0:Nat) (0:Nat)),.d (.nils),.d (.nils)],.box [.d (.cx .f32 x27.1.Source.A.re x27.1.Source.A.im),.d (.cx .f32 x27.1.Source.B.re x27.1.Source.B.im),.d (.cx .f32 x27.1.Source.C.re x27.1.Source.C.im),.row 3 x27.1.qa7.length 0 x27.1.qa7.length,.row 4 ((v69 ++ [(STie.mk x87.1 ((w64 ((w64 (x87.1 + (1:Int))) + x88.1)).tmod (x27.1.qa7.length:Int)) (Cx.mk (1048576000:Nat) (0:Nat)) (Cx.mk (0:Nat) (1031798784:Nat)) x90.1)]).length) 0 ((v69 ++ [(STie.mk x87.1 ((w64 ((w64 (x87.1 + (1:Int))) + x88.1)).tmod (x27.1.qa7.length:Int)) (Cx.mk (1048576000:Nat) (0:Nat)) (Cx.mk (0:Nat) (1031798784:Nat)) x90.1)]).length)],.row 8 (x27.1.qa7.map qac),.row 5 ((v69 ++ [(STie.mk x87.1 ((w64 ((w64 (x87.1 + (1:Int))) + x88.1)).tmod (x27.1.qa7.length:Int)) (Cx.mk (1048576000:Nat) (0:Nat)) (Cx.mk (0:Nat) (1031798784:Nat)) x90.1)]).map qam)]) rfl (by simp) rfl (by trivial) ⟨rfl,trivial,rfl,trivial,rfl,trivial,rfl,trivial,rfl,trivial,trivial⟩)⟩
  ·refine qa8 ?_
   refine qby (ι:=Bool) (fun v95=>St.of [(0,.ptr 0 0),(2,.ptr 1 0),(3,.ptr 2 0),(4,.d (.int .i64 (x27.1.qa7.length:Int))),(5,.d (.int .i64 v70)),(22,.d (.bool v95))] [.box [.d (.sl false (v66.map qav)),.d (.int .i64 v67),.d (.int .u64 v68)],.box [.d (.cx .f32 (0:Nat) (0:Nat)),.d (.cx .f32 (0:Nat) (0:Nat)),.d (.cx .f32 (0:Nat) (0:Nat)),.d (.nils),.d (.nils)],.box [.d (.cx .f32 x27.1.Source.A.re x27.1.Source.A.im),.d (.cx .f32 x27.1.Source.B.re x27.1.Source.B.im),.d (.cx .f32 x27.1.Source.C.re x27.1.Source.C.im),.row 3 x27.1.qa7.length 0 x27.1.qa7.length,.row 4 v69.length 0 v69.length],.row 8 (x27.1.qa7.map qac),.row 5 (v69.map qam)] f19.ntmps 1) (fun v95=>qe7 n x27 (qc7 n x27 m83) v66 v67 v68 v69 v70 v95 = some r) ?_ (fun hk97=>?_)
   ·rintro v95 h
    replace h:qe7 n x27 (qc7 n x27 m83) v66 v67 v68 v69 v70 v95 = some r:=h
    unfold qe7 at h
    refine qaq rfl (fun hc96=>?_) (fun hc96=>?_)
    ·have h:=qeh h hc96
     refine qat ?_
     refine qaa (qa3 [0,1,2,3,4] (l:=[(0,.ptr 0 0),(2,.ptr 1 0),(3,.ptr 2 0),(4,.d (.int .i64 (x27.1.qa7.length:Int))),(5,.d (.int .i64 v70))]) (objs:=[.box [.d (.sl false (v66.map qav)),.d (.int .i64 v67),.d (.int .u64 v68)],.box [.d (.cx .f32 (0:Nat) (0:Nat)),.d (.cx .f32 (0:Nat) (0:Nat)),.d (.cx .f32 (0:Nat) (0:Nat)),.d (.nils),.d (.nils)],.box [.d (.cx .f32 x27.1.Source.A.re x27.1.Source.A.im),.d (.cx .f32 x27.1.Source.B.re x27.1.Source.B.im),.d (.cx .f32 x27.1.Source.C.re x27.1.Source.C.im),.row 3 x27.1.qa7.length 0 x27.1.qa7.length,.row 4 v69.length 0 v69.length],.row 8 (x27.1.qa7.map qac),.row 5 (v69.map qam)]) rfl (by simp) rfl (by trivial) ⟨rfl,trivial,rfl,trivial,rfl,trivial,rfl,trivial,rfl,trivial,trivial⟩) ?_
     exact hk92 () h
    ·have h:=qeg h hc96
     refine qd3 ?_
     refine qaa (qa3 [0,1,2,3,4] (l:=[(2,.ptr 1 0),(3,.ptr 2 0)]) (objs:=[.box [.d (.sl false (v66.map qav)),.d (.int .i64 v67),.d (.int .u64 v68)],.box [.d (.cx .f32 (0:Nat) (0:Nat)),.d (.cx .f32 (0:Nat) (0:Nat)),.d (.cx .f32 (0:Nat) (0:Nat)),.d (.nils),.d (.nils)],.box [.d (.cx .f32 x27.1.Source.A.re x27.1.Source.A.im),.d (.cx .f32 x27.1.Source.B.re x27.1.Source.B.im),.d (.cx .f32 x27.1.Source.C.re x27.1.Source.C.im),.row 3 x27.1.qa7.length 0 x27.1.qa7.length,.row 4 v69.length 0 v69.length],.row 8 (x27.1.qa7.map qac),.row 5 (v69.map qam)]) rfl (by simp) rfl (by trivial) ⟨rfl,trivial,rfl,trivial,trivial⟩) ?_
     exact hk57 (v66,v67,v68,v69) h
   ·refine qa8<|qa2<|qa1 hτ rfl rfl rfl<|qa1 hτ rfl rfl rfl<|qa1 hτ rfl rfl rfl ?_
    refine qbq 19 rfl (fun hb98=>?_) (fun hb98=>?_)
    ·have h:=if_t h hb98
     refine qa1 hτ rfl rfl rfl<|qa1 hτ rfl rfl rfl<|qa1 hτ rfl rfl rfl<|qa5 ?_
     refine qaa (qa3 [0,1,2,3,4] (l:=[(0,.ptr 0 0),(2,.ptr 1 0),(3,.ptr 2 0),(4,.d (.int .i64 (x27.1.qa7.length:Int))),(5,.d (.int .i64 v70)),(22,.d (.bool (decide ((x27.1.qa7.length:Int) > (1:Int)))))]) (objs:=[.box [.d (.sl false (v66.map qav)),.d (.int .i64 v67),.d (.int .u64 v68)],.box [.d (.cx .f32 (0:Nat) (0:Nat)),.d (.cx .f32 (0:Nat) (0:Nat)),.d (.cx .f32 (0:Nat) (0:Nat)),.d (.nils),.d (.nils)],.box [.d (.cx .f32 x27.1.Source.A.re x27.1.Source.A.im),.d (.cx .f32 x27.1.Source.B.re x27.1.Source.B.im),.d (.cx .f32 x27.1.Source.C.re x27.1.Source.C.im),.row 3 x27.1.qa7.length 0 x27.1.qa7.length,.row 4 v69.length 0 v69.length],.row 8 (x27.1.qa7.map qac),.row 5 (v69.map qam)]) rfl (by simp) rfl (by trivial) ⟨rfl,trivial,rfl,trivial,rfl,trivial,rfl,trivial,rfl,trivial,rfl,trivial,trivial⟩) ?_
     exact hk97 (decide ((x27.1.qa7.length:Int) > (1:Int))) h
    ·have h:=if_f h hb98
     refine qab rfl rfl<|qab rfl rfl<|qa1 hτ rfl rfl rfl<|qa5 ?_
     refine qaa (qa3 [0,1,2,3,4] (l:=[(0,.ptr 0 0),(2,.ptr 1 0),(3,.ptr 2 0),(4,.d (.int .i64 (x27.1.qa7.length:Int))),(5,.d (.int .i64 v70)),(22,.d (.bool false))]) (objs:=[.box [.d (.sl false (v66.map qav)),.d (.int .i64 v67),.d (.int .u64 v68)],.box [.d (.cx .f32 (0:Nat) (0:Nat)),.d (.cx .f32 (0:Nat) (0:Nat)),.d (.cx .f32 (0:Nat) (0:Nat)),.d (.nils),.d (.nils)],.box [.d (.cx .f32 x27.1.Source.A.re x27.1.Source.A.im),.d (.cx .f32 x27.1.Source.B.re x27.1.Source.B.im),.d (.cx .f32 x27.1.Source.C.re x27.1.Source.C.im),.row 3 x27.1.qa7.length 0 x27.1.qa7.length,.row 4 v69.length 0 v69.length],.row 8 (x27.1.qa7.map qac),.row 5 (v69.map qam)]) rfl (by simp) rfl (by trivial) ⟨rfl,trivial,rfl,trivial,rfl,trivial,rfl,trivial,rfl,trivial,rfl,trivial,trivial⟩) ?_
     exact hk97 false h
def qj6 (n:Nat) (code_:List Int):Option qbk :=
 (qkj n code_).bind fun x3 =>
 (qjl n x3).bind fun x4 =>
 some (qbk.mk (qau.mk x4.1.qa0.Source x4.1.qa0.qa7) x4.1.Ties)
theorem spec_R8Grid_ok_fr0 (fr:Bool) (n:Nat) (code_:List Int) {r:qbk} (h:qj6 n code_ = some r):qb1 prog fr 5 [.d (.sl false (code_.map qav))] [] (fun v o new=>v = .agg [.d (.cx .f32 r.qa0.Source.A.re r.qa0.Source.A.im),.d (.cx .f32 r.qa0.Source.B.re r.qa0.Source.B.im),.d (.cx .f32 r.qa0.Source.C.re r.qa0.Source.C.im),.row 0 r.qa0.qa7.length 0 r.qa0.qa7.length,.row 1 r.Ties.length 0 r.Ties.length]∧o = []∧new = [.row 8 (r.qa0.qa7.map qac),.row 5 (r.Ties.map qam)]):=by
 refine qak hτ func5 rfl (by simp) (by simp) ?_
 unfold qj6 at h
 refine qa8<|qa2<|qal hτ rfl rfl rfl<|qa5<|qa8 ?_
 refine qa2<|qa1 hτ rfl rfl rfl ?_
 refine qaf h fun x3 hx3 h=>?_
 refine qae hτ false [] rfl rfl rfl (qaj func18 rfl rfl) rfl rfl (by simp) ⟨trivial,trivial⟩ (by trivial) (spec_l00From_ok n code_ hx3) ?_
 rintro r0 o0 n0 ⟨rfl,rfl,rfl⟩ -
 refine qa1 hτ rfl rfl rfl<|qa5<|qa8<|qa2<|qa1 hτ rfl rfl rfl ?_
 refine qaf h fun x4 hx4 h=>?_
 refine qae hτ false [1] rfl rfl rfl (qaj func19 rfl rfl) rfl rfl (by simp) ⟨trivial,trivial⟩ (by trivial) (spec_l08DrawOk_ok n x3 hx4) ?_
 rintro r0 o0 n0 ⟨rfl,rfl,rfl⟩ -
 refine qal hτ rfl rfl rfl<|qa5 ?_
 refine qaa (qa3 [0,2,3] (l:=[(2,.ptr 0 0)]) (objs:=[.box [.d (.cx .f32 x4.1.qa0.Source.A.re x4.1.qa0.Source.A.im),.d (.cx .f32 x4.1.qa0.Source.B.re x4.1.qa0.Source.B.im),.d (.cx .f32 x4.1.qa0.Source.C.re x4.1.qa0.Source.C.im),.row 1 x4.1.qa0.qa7.length 0 x4.1.qa0.qa7.length,.row 2 x4.1.Ties.length 0 x4.1.Ties.length],.row 8 (x4.1.qa0.qa7.map qac),.row 5 (x4.1.Ties.map qam)]) rfl (by simp) rfl (by trivial) ⟨rfl,trivial,trivial⟩) ?_
 refine qap ?_
 have hr:=Option.some.inj h
 subst hr
 exact qah (.inr rfl) [1,2] (objs':=[]) (new:=[.row 8 (x4.1.qa0.qa7.map qac),.row 5 (x4.1.Ties.map qam)]) rfl (by simp) (by simp) rfl (by trivial) rfl rfl (by trivial) (fun _=>⟨by simp [V.flat,V.qbg,V.qbb,D.flat],(qc8 (qgt qol _) (qc8 (qgt eSTie_flat _) qan))⟩) ⟨rfl,rfl,rfl⟩
theorem spec_R8Grid_ok (n:Nat) (code_:List Int) {r:qbk} (h:qj6 n code_ = some r):qb1 prog false 5 [.d (.sl false (code_.map qav))] [] (fun v o new=>v = .agg [.d (.cx .f32 r.qa0.Source.A.re r.qa0.Source.A.im),.d (.cx .f32 r.qa0.Source.B.re r.qa0.Source.B.im),.d (.cx .f32 r.qa0.Source.C.re r.qa0.Source.C.im),.row 0 r.qa0.qa7.length 0 r.qa0.qa7.length,.row 1 r.Ties.length 0 r.Ties.length]∧o = []∧new = [.row 8 (r.qa0.qa7.map qac),.row 5 (r.Ties.map qam)]):=spec_R8Grid_ok_fr0 false n code_ h
def qfl (n:Nat) (n_:Int) (low_:Int) (high_:Int):Option Bool :=
 if n_ ≥ low_ then
  some (decide (n_ ≤ high_))
 else
  some false
theorem impl_in_ok_fr0 (fr:Bool) (n:Nat) (n_:Int) (low_:Int) (high_:Int) {r:Bool} (h:qfl n n_ low_ high_ = some r):qb1 prog fr 36 [.d (.int .i64 n_),.d (.int .i64 low_),.d (.int .i64 high_)] [] (fun v o new=>v = .d (.bool r)∧o = []∧new = []):=by
 refine qak hτ func36 rfl (by simp) (by simp) ?_
 unfold qfl at h
 refine qa8<|qa2<|qa1 hτ rfl rfl rfl<|qa5<|qa8 ?_
 refine qa2<|qa1 hτ rfl rfl rfl<|qa1 hτ rfl rfl rfl<|qa1 hτ rfl rfl rfl<|qa1 hτ rfl rfl rfl ?_
 refine qbq 10 rfl (fun hb3=>?_) (fun hb3=>?_)
 ·have h:=if_t h hb3
  refine qa1 hτ rfl rfl rfl<|qa1 hτ rfl rfl rfl<|qa1 hτ rfl rfl rfl<|qa1 hτ rfl rfl rfl<|qa1 hτ rfl rfl rfl ?_
  refine qa5 ?_
  refine qaa (qa3 [] (l:=[(6,.d (.bool (decide (n_ ≤ high_))))]) (objs:=[]) rfl (by simp) rfl (by trivial) ⟨rfl,trivial,trivial⟩) ?_
  refine qap ?_
  have hr:=Option.some.inj h
  subst hr
  exact qah (.inr rfl) [] (objs':=[]) (new:=[]) rfl (by simp) (by simp) rfl (by trivial) rfl rfl (by trivial) (fun _=>⟨by simp [V.flat,V.qbg,V.qbb,D.flat],qan⟩) ⟨rfl,rfl,rfl⟩
 ·have h:=if_f h hb3
  refine qab rfl rfl<|qab rfl rfl<|qab rfl rfl<|qa1 hτ rfl rfl rfl<|qa1 hτ rfl rfl rfl ?_
  refine qa5 ?_
  refine qaa (qa3 [] (l:=[(6,.d (.bool false))]) (objs:=[]) rfl (by simp) rfl (by trivial) ⟨rfl,trivial,trivial⟩) ?_
  refine qap ?_
  have hr:=Option.some.inj h
  subst hr
  exact qah (.inr rfl) [] (objs':=[]) (new:=[]) rfl (by simp) (by simp) rfl (by trivial) rfl rfl (by trivial) (fun _=>⟨by simp [V.flat,V.qbg,V.qbb,D.flat],qan⟩) ⟨rfl,rfl,rfl⟩
theorem qig (n:Nat) (n_:Int) (low_:Int) (high_:Int) {r:Bool} (h:qfl n n_ low_ high_ = some r):qb1 prog false 36 [.d (.int .i64 n_),.d (.int .i64 low_),.d (.int .i64 high_)] [] (fun v o new=>v = .d (.bool r)∧o = []∧new = []):=impl_in_ok_fr0 false n n_ low_ high_ h
def qjw (n:Nat) (kind_:Int):Option Bool :=
 (qfl n kind_ (0:Int) (2:Int)).bind fun x2 =>
 some x2
theorem impl_kindOk_ok_fr0 (fr:Bool) (n:Nat) (kind_:Int) {r:Bool} (h:qjw n kind_ = some r):qb1 prog fr 35 [.d (.int .i64 kind_)] [] (fun v o new=>v = .d (.bool r)∧o = []∧new = []):=by
 refine qak hτ func35 rfl (by simp) (by simp) ?_
 unfold qjw at h
 refine qa8<|qa2<|qa1 hτ rfl rfl rfl<|qa5<|qa8 ?_
 refine qa2<|qa1 hτ rfl rfl rfl ?_
 refine qaf h fun x2 hx2 h=>?_
 refine qae hτ false [] rfl rfl rfl (qaj func36 rfl rfl) rfl rfl (by simp) ⟨trivial,trivial,trivial,trivial⟩ (by trivial) (qig n kind_ (0:Int) (2:Int) hx2) ?_
 rintro r0 o0 n0 ⟨rfl,rfl,rfl⟩ -
 refine qa1 hτ rfl rfl rfl<|qa5 ?_
 refine qaa (qa3 [] (l:=[(2,.d (.bool x2))]) (objs:=[]) rfl (by simp) rfl (by trivial) ⟨rfl,trivial,trivial⟩) ?_
 refine qap ?_
 have hr:=Option.some.inj h
 subst hr
 exact qah (.inr rfl) [] (objs':=[]) (new:=[]) rfl (by simp) (by simp) rfl (by trivial) rfl rfl (by trivial) (fun _=>⟨by simp [V.flat,V.qbg,V.qbb,D.flat],qan⟩) ⟨rfl,rfl,rfl⟩
theorem impl_kindOk_ok (n:Nat) (kind_:Int) {r:Bool} (h:qjw n kind_ = some r):qb1 prog false 35 [.d (.int .i64 kind_)] [] (fun v o new=>v = .d (.bool r)∧o = []∧new = []):=impl_kindOk_ok_fr0 false n kind_ h
def qfk (n:Nat) (f_:qau):Option Bool :=
 (qfl n (f_.qa7.length:Int) (1:Int) (16:Int)).bind fun x58 =>
 some x58
def qeb (n:Nat) (k89:Int→Option Bool) (v73:Int):Option Bool :=
 k89 (w64 (v73 + (1:Int)))
def qdj (n:Nat) (k89:Int→Option Bool) (v73:Int) (v122:Bool):Option Bool :=
 if v122 = true then
  some false
 else
  qeb n k89 v73
def qcr (n:Nat) (k89:Int→Option Bool) (v73:Int) (x105:SBus) (v117:Bool):Option Bool :=
 if v117 = true then
  some false
 else
  if v73 > (0:Int) then
   (qfl n x105.qaw (0:Int) (w64 (v73 - (1:Int)))).bind fun x126 =>
   qdj n k89 v73 (!x126)
  else
   qdj n k89 v73 false
def qec (n:Nat) (k89:Int→Option Bool) (v73:Int) (x105:SBus) (v110:Bool):Option Bool :=
 if v110 = true then
  some false
 else
  if v73 = (0:Int) then
   if x105.qaw = (-1:Int) then
    if (fcmp .eql .f32 x105.Own.re (0:Nat) && fcmp .eql .f32 x105.Own.im (0:Nat)) = true then
     qcr n k89 v73 x105 (!(fcmp .eql .f32 x105.Shared.re (0:Nat) && fcmp .eql .f32 x105.Shared.im (0:Nat)))
    else
     qcr n k89 v73 x105 true
   else
    qcr n k89 v73 x105 true
  else
   qcr n k89 v73 x105 false
def qba (n:Nat) (f_:qau):Nat→Int→Option Bool
 | 0,_=>none
 | m88 + 1,v73 =>
  if v73 < (f_.qa7.length:Int) then
   (getI f_.qa7 v73).bind fun x105 =>
   (qjw n x105.Kind).bind fun x132 =>
   if x132 = true then
    (qfl n x105.qag (0:Int) (1000000:Int)).bind fun x134 =>
    qec n (qba n f_ m88) v73 x105 (!x134)
   else
    qec n (qba n f_ m88) v73 x105 true
  else
   qfk n f_
def qcq (n:Nat) (f_:qau):Option Bool :=
 qba n f_ n (0:Int)
theorem qjv (fr:Bool) (n:Nat) (f_:qau) {r:Bool} (h:qcq n f_ = some r):qb1 prog fr 11 [.agg [.d (.cx .f32 f_.Source.A.re f_.Source.A.im),.d (.cx .f32 f_.Source.B.re f_.Source.B.im),.d (.cx .f32 f_.Source.C.re f_.Source.C.im),.d (.sl false (f_.qa7.map qac))]] [] (fun v o new=>v = .d (.bool r)∧o = []∧new = []):=by
 refine qak hτ func11 rfl (by simp) (by simp) ?_
 unfold qcq at h
 refine qa8<|qa2<|qal hτ rfl rfl rfl<|qa1 hτ rfl rfl rfl<|qa5 ?_
 refine qby (ι:=Unit) (fun _=>St.of [(1,.ptr 0 0)] [.box [.d (.cx .f32 f_.Source.A.re f_.Source.A.im),.d (.cx .f32 f_.Source.B.re f_.Source.B.im),.d (.cx .f32 f_.Source.C.re f_.Source.C.im),.d (.sl false (f_.qa7.map qac))]] f11.ntmps 0) (fun _=>qfk n f_ = some r) ?_ (fun hk59=>?_)
 ·rintro ⟨⟩ h
  replace h:qfk n f_ = some r:=h
  unfold qfk at h
  refine qa8<|qa2<|qa1 hτ rfl rfl rfl<|qa1 hτ rfl rfl rfl ?_
  refine qa1 hτ (v:=.d (.int .i64 (f_.qa7.length:Int))) rfl rfl (Eq.trans rfl (qei (f:=qac) f_.qa7)) ?_
  refine qaf h fun x58 hx58 h=>?_
  refine qae hτ false [] rfl rfl rfl (qaj func36 rfl rfl) rfl rfl (by simp) ⟨trivial,trivial,trivial,trivial⟩ (by trivial) (qig n (f_.qa7.length:Int) (1:Int) (16:Int) hx58) ?_
  rintro r0 o0 n0 ⟨rfl,rfl,rfl⟩ -
  refine qa1 hτ rfl rfl rfl<|qa5 ?_
  refine qaa (qa3 [] (l:=[(2,.d (.bool x58))]) (objs:=[]) rfl (by simp) rfl (by trivial) ⟨rfl,trivial,trivial⟩) ?_
  refine qap ?_
  have hr:=Option.some.inj h
  subst hr
  exact qah (.inr rfl) [] (objs':=[]) (new:=[]) rfl (by simp) (by simp) rfl (by trivial) rfl rfl (by trivial) (fun _=>⟨by simp [V.flat,V.qbg,V.qbb,D.flat],qan⟩) ⟨rfl,rfl,rfl⟩
 ·refine qa8<|qa8<|qa2<|qa1 hτ rfl rfl rfl<|qa1 hτ rfl rfl rfl ?_
  refine qa1 hτ (v:=.d (.int .i64 (f_.qa7.length:Int))) rfl rfl (Eq.trans rfl (qei (f:=qac) f_.qa7)) ?_
  refine qa1 hτ rfl rfl rfl<|qa5<|qay ?_
  refine qde (ι:=Nat × Int) (fun (m88,v73)=>St.of [(1,.ptr 0 0),(6,.d (.sl false (f_.qa7.map qac))),(7,.d (.int .i64 (f_.qa7.length:Int))),(8,.d (.int .i64 v73))] [.box [.d (.cx .f32 f_.Source.A.re f_.Source.A.im),.d (.cx .f32 f_.Source.B.re f_.Source.B.im),.d (.cx .f32 f_.Source.C.re f_.Source.C.im),.d (.sl false (f_.qa7.map qac))]] f11.ntmps 0) (fun (m88,v73)=>qba n f_ m88 v73 = some r) (fun x=>x.1) (n,(0:Int)) h (qa3 [0] (l:=[(1,.ptr 0 0),(6,.d (.sl false (f_.qa7.map qac))),(7,.d (.int .i64 (f_.qa7.length:Int))),(8,.d (.int .i64 (0:Int)))]) (objs:=[.box [.d (.cx .f32 f_.Source.A.re f_.Source.A.im),.d (.cx .f32 f_.Source.B.re f_.Source.B.im),.d (.cx .f32 f_.Source.C.re f_.Source.C.im),.d (.sl false (f_.qa7.map qac))]]) rfl (by simp) rfl (by trivial) ⟨rfl,trivial,rfl,trivial,rfl,trivial,rfl,trivial,trivial⟩) ?_
  rintro ⟨m88,v73⟩ h
  replace h:qba n f_ m88 v73 = some r:=h
  rcases m88 with _ | m88
  ·rw [qba] at h;cases h
  rw [qba] at h
  refine qa8<|qa2<|qa1 hτ rfl rfl rfl<|qa5<|qa8 ?_
  refine qaq rfl (fun hc90=>?_) (fun hc90=>?_)
  ·have h:=if_t h hc90
   refine qat ?_
   refine qby (ι:=Unit) (fun _=>St.of [(1,.ptr 0 0),(6,.d (.sl false (f_.qa7.map qac))),(7,.d (.int .i64 (f_.qa7.length:Int))),(8,.d (.int .i64 v73))] [.box [.d (.cx .f32 f_.Source.A.re f_.Source.A.im),.d (.cx .f32 f_.Source.B.re f_.Source.B.im),.d (.cx .f32 f_.Source.C.re f_.Source.C.im),.d (.sl false (f_.qa7.map qac))]] f11.ntmps 0) (fun _=>qeb n (qba n f_ m88) v73 = some r) ?_ (fun hk104=>?_)
   ·rintro ⟨⟩ h
    replace h:qeb n (qba n f_ m88) v73 = some r:=h
    unfold qeb at h
    refine qa2<|qa1 hτ rfl rfl rfl<|qa1 hτ rfl rfl rfl<|qa5 ?_
    exact ⟨(m88,(w64 (v73 + (1:Int)))),h,Nat.lt_succ_self m88,(qa3 [0] (l:=[(1,.ptr 0 0),(6,.d (.sl false (f_.qa7.map qac))),(7,.d (.int .i64 (f_.qa7.length:Int))),(8,.d (.int .i64 (w64 (v73 + (1:Int)))))]) (objs:=[.box [.d (.cx .f32 f_.Source.A.re f_.Source.A.im),.d (.cx .f32 f_.Source.B.re f_.Source.B.im),.d (.cx .f32 f_.Source.C.re f_.Source.C.im),.d (.sl false (f_.qa7.map qac))]]) rfl (by simp) rfl (by trivial) ⟨rfl,trivial,rfl,trivial,rfl,trivial,rfl,trivial,trivial⟩)⟩
   ·refine qa8<|qay<|qa8<|qa2<|qa1 hτ rfl rfl rfl ?_
    refine qaf h fun x105 hx105 h=>?_
    refine qce hτ rfl rfl rfl (qb8 hx105).1 (qbm hx105) rfl ?_
    refine qa1 hτ rfl rfl rfl<|qal hτ rfl rfl rfl<|qa1 hτ rfl rfl rfl<|qal hτ rfl rfl rfl<|qa5 ?_
    refine qay ?_
    refine qby (ι:=Bool) (fun v110=>St.of [(1,.ptr 0 0),(3,.d (.int .i64 v73)),(4,.ptr 1 0),(6,.d (.sl false (f_.qa7.map qac))),(7,.d (.int .i64 (f_.qa7.length:Int))),(8,.d (.int .i64 v73)),(13,.d (.bool v110))] [.box [.d (.cx .f32 f_.Source.A.re f_.Source.A.im),.d (.cx .f32 f_.Source.B.re f_.Source.B.im),.d (.cx .f32 f_.Source.C.re f_.Source.C.im),.d (.sl false (f_.qa7.map qac))],.box [.d (.int .i64 x105.qaw),.d (.cx .f32 x105.Own.re x105.Own.im),.d (.cx .f32 x105.Shared.re x105.Shared.im),.d (.int .i64 x105.Kind),.d (.cx .f32 x105.Load.A.re x105.Load.A.im),.d (.cx .f32 x105.Load.B.re x105.Load.B.im),.d (.cx .f32 x105.Load.C.re x105.Load.C.im),.d (.int .i64 x105.qag)]] f11.ntmps 0) (fun v110=>qec n (qba n f_ m88) v73 x105 v110 = some r) ?_ (fun hk131=>?_)
    ·rintro v110 h
     replace h:qec n (qba n f_ m88) v73 x105 v110 = some r:=h
     unfold qec at h
     refine qaq rfl (fun hc111=>?_) (fun hc111=>?_)
     ·have h:=qeh h hc111
      refine qa8<|qa2<|qa1 hτ rfl rfl rfl<|qa5 ?_
      refine qaa (qa3 [] (l:=[(2,.d (.bool false))]) (objs:=[]) rfl (by simp) rfl (by trivial) ⟨rfl,trivial,trivial⟩) ?_
      refine qap ?_
      have hr:=Option.some.inj h
      subst hr
      exact qah (.inr rfl) [] (objs':=[]) (new:=[]) rfl (by simp) (by simp) rfl (by trivial) rfl rfl (by trivial) (fun _=>⟨by simp [V.flat,V.qbg,V.qbb,D.flat],qan⟩) ⟨rfl,rfl,rfl⟩
     ·have h:=qeg h hc111
      refine qby (ι:=Bool) (fun v117=>St.of [(1,.ptr 0 0),(3,.d (.int .i64 v73)),(4,.ptr 1 0),(6,.d (.sl false (f_.qa7.map qac))),(7,.d (.int .i64 (f_.qa7.length:Int))),(8,.d (.int .i64 v73)),(24,.d (.bool v117))] [.box [.d (.cx .f32 f_.Source.A.re f_.Source.A.im),.d (.cx .f32 f_.Source.B.re f_.Source.B.im),.d (.cx .f32 f_.Source.C.re f_.Source.C.im),.d (.sl false (f_.qa7.map qac))],.box [.d (.int .i64 x105.qaw),.d (.cx .f32 x105.Own.re x105.Own.im),.d (.cx .f32 x105.Shared.re x105.Shared.im),.d (.int .i64 x105.Kind),.d (.cx .f32 x105.Load.A.re x105.Load.A.im),.d (.cx .f32 x105.Load.B.re x105.Load.B.im),.d (.cx .f32 x105.Load.C.re x105.Load.C.im),.d (.int .i64 x105.qag)]] f11.ntmps 0) (fun v117=>qcr n (qba n f_ m88) v73 x105 v117 = some r) ?_ (fun hk127=>?_)
      ·rintro v117 h
       replace h:qcr n (qba n f_ m88) v73 x105 v117 = some r:=h
       unfold qcr at h
       refine qaq rfl (fun hc118=>?_) (fun hc118=>?_)
       ·have h:=qeh h hc118
        refine qa8<|qa2<|qa1 hτ rfl rfl rfl<|qa5 ?_
        refine qaa (qa3 [] (l:=[(2,.d (.bool false))]) (objs:=[]) rfl (by simp) rfl (by trivial) ⟨rfl,trivial,trivial⟩) ?_
        refine qap ?_
        have hr:=Option.some.inj h
        subst hr
        exact qah (.inr rfl) [] (objs':=[]) (new:=[]) rfl (by simp) (by simp) rfl (by trivial) rfl rfl (by trivial) (fun _=>⟨by simp [V.flat,V.qbg,V.qbb,D.flat],qan⟩) ⟨rfl,rfl,rfl⟩
       ·have h:=qeg h hc118
        refine qby (ι:=Bool) (fun v122=>St.of [(1,.ptr 0 0),(6,.d (.sl false (f_.qa7.map qac))),(7,.d (.int .i64 (f_.qa7.length:Int))),(8,.d (.int .i64 v73)),(42,.d (.bool v122))] [.box [.d (.cx .f32 f_.Source.A.re f_.Source.A.im),.d (.cx .f32 f_.Source.B.re f_.Source.B.im),.d (.cx .f32 f_.Source.C.re f_.Source.C.im),.d (.sl false (f_.qa7.map qac))]] f11.ntmps 0) (fun v122=>qdj n (qba n f_ m88) v73 v122 = some r) ?_ (fun hk124=>?_)
        ·rintro v122 h
         replace h:qdj n (qba n f_ m88) v73 v122 = some r:=h
         unfold qdj at h
         refine qaq rfl (fun hc123=>?_) (fun hc123=>?_)
         ·have h:=qeh h hc123
          refine qa8<|qa2<|qa1 hτ rfl rfl rfl<|qa5 ?_
          refine qaa (qa3 [] (l:=[(2,.d (.bool false))]) (objs:=[]) rfl (by simp) rfl (by trivial) ⟨rfl,trivial,trivial⟩) ?_
          refine qap ?_
          have hr:=Option.some.inj h
          subst hr
          exact qah (.inr rfl) [] (objs':=[]) (new:=[]) rfl (by simp) (by simp) rfl (by trivial) rfl rfl (by trivial) (fun _=>⟨by simp [V.flat,V.qbg,V.qbb,D.flat],qan⟩) ⟨rfl,rfl,rfl⟩
         ·have h:=qeg h hc123
          refine qat ?_
          refine qaa (qa3 [0] (l:=[(1,.ptr 0 0),(6,.d (.sl false (f_.qa7.map qac))),(7,.d (.int .i64 (f_.qa7.length:Int))),(8,.d (.int .i64 v73))]) (objs:=[.box [.d (.cx .f32 f_.Source.A.re f_.Source.A.im),.d (.cx .f32 f_.Source.B.re f_.Source.B.im),.d (.cx .f32 f_.Source.C.re f_.Source.C.im),.d (.sl false (f_.qa7.map qac))]]) rfl (by simp) rfl (by trivial) ⟨rfl,trivial,rfl,trivial,rfl,trivial,rfl,trivial,trivial⟩) ?_
          exact hk104 () h
        ·refine qa8<|qa2<|qa1 hτ rfl rfl rfl<|qa1 hτ rfl rfl rfl<|qa1 hτ rfl rfl rfl ?_
         refine qbq 45 rfl (fun hb125=>?_) (fun hb125=>?_)
         ·have h:=if_t h hb125
          refine qa1 hτ rfl rfl rfl<|qa1 hτ rfl rfl rfl<|qa1 hτ rfl rfl rfl<|qa1 hτ rfl rfl rfl ?_
          refine qaf h fun x126 hx126 h=>?_
          refine qae hτ false [] rfl rfl rfl (qaj func36 rfl rfl) rfl rfl (by simp) ⟨trivial,trivial,trivial,trivial⟩ (by trivial) (qig n x105.qaw (0:Int) (w64 (v73 - (1:Int))) hx126) ?_
          rintro r0 o0 n0 ⟨rfl,rfl,rfl⟩ -
          refine qa1 hτ rfl rfl rfl<|qa1 hτ rfl rfl rfl<|qa1 hτ rfl rfl rfl<|qa5 ?_
          refine qaa (qa3 [0] (l:=[(1,.ptr 0 0),(6,.d (.sl false (f_.qa7.map qac))),(7,.d (.int .i64 (f_.qa7.length:Int))),(8,.d (.int .i64 v73)),(42,.d (.bool (!x126)))]) (objs:=[.box [.d (.cx .f32 f_.Source.A.re f_.Source.A.im),.d (.cx .f32 f_.Source.B.re f_.Source.B.im),.d (.cx .f32 f_.Source.C.re f_.Source.C.im),.d (.sl false (f_.qa7.map qac))]]) rfl (by simp) rfl (by trivial) ⟨rfl,trivial,rfl,trivial,rfl,trivial,rfl,trivial,rfl,trivial,trivial⟩) ?_
          exact hk124 (!x126) h
         ·have h:=if_f h hb125
          refine qab rfl rfl<|qab rfl rfl<|qab rfl rfl<|qab rfl rfl<|qab rfl rfl ?_
          refine qab rfl rfl<|qa1 hτ rfl rfl rfl<|qa1 hτ rfl rfl rfl<|qa5 ?_
          refine qaa (qa3 [0] (l:=[(1,.ptr 0 0),(6,.d (.sl false (f_.qa7.map qac))),(7,.d (.int .i64 (f_.qa7.length:Int))),(8,.d (.int .i64 v73)),(42,.d (.bool false))]) (objs:=[.box [.d (.cx .f32 f_.Source.A.re f_.Source.A.im),.d (.cx .f32 f_.Source.B.re f_.Source.B.im),.d (.cx .f32 f_.Source.C.re f_.Source.C.im),.d (.sl false (f_.qa7.map qac))]]) rfl (by simp) rfl (by trivial) ⟨rfl,trivial,rfl,trivial,rfl,trivial,rfl,trivial,rfl,trivial,trivial⟩) ?_
          exact hk124 false h
      ·refine qa8<|qa2<|qa1 hτ rfl rfl rfl ?_
       refine qa1 hτ (v:=.d (.bool (decide (v73 = (0:Int))))) rfl rfl (qeq _ _) ?_
       refine qa1 hτ rfl rfl rfl ?_
       refine qbq 27 rfl (fun hb128=>?_) (fun hb128=>?_)
       ·have h:=if_t h hb128
        refine qa1 hτ rfl rfl rfl<|qa1 hτ rfl rfl rfl ?_
        refine qa1 hτ (v:=.d (.bool (!(decide (x105.qaw = (-1:Int)))))) rfl rfl (qlw _ _) ?_
        refine qa1 hτ rfl rfl rfl ?_
        refine qbq 31 rfl (fun hb129=>?_) (fun hb129=>?_)
        ·have hb129:=qjf hb129
         have h:=if_f h hb129
         refine qab rfl rfl<|qab rfl rfl<|qab rfl rfl<|qa1 hτ rfl rfl rfl<|qa1 hτ rfl rfl rfl ?_
         refine qb3 (qa3 [0,1] (l:=[(1,.ptr 0 0),(3,.d (.int .i64 v73)),(4,.ptr 1 0),(6,.d (.sl false (f_.qa7.map qac))),(7,.d (.int .i64 (f_.qa7.length:Int))),(8,.d (.int .i64 v73)),(27,.d (.bool true)),(36,.d (.bool true))]) (objs:=[.box [.d (.cx .f32 f_.Source.A.re f_.Source.A.im),.d (.cx .f32 f_.Source.B.re f_.Source.B.im),.d (.cx .f32 f_.Source.C.re f_.Source.C.im),.d (.sl false (f_.qa7.map qac))],.box [.d (.int .i64 x105.qaw),.d (.cx .f32 x105.Own.re x105.Own.im),.d (.cx .f32 x105.Shared.re x105.Shared.im),.d (.int .i64 x105.Kind),.d (.cx .f32 x105.Load.A.re x105.Load.A.im),.d (.cx .f32 x105.Load.B.re x105.Load.B.im),.d (.cx .f32 x105.Load.C.re x105.Load.C.im),.d (.int .i64 x105.qag)]]) rfl (by simp) rfl (by trivial) ⟨rfl,trivial,rfl,trivial,rfl,trivial,rfl,trivial,rfl,trivial,rfl,trivial,rfl,trivial,rfl,trivial,trivial⟩) ?_
         refine qab rfl rfl<|qab rfl rfl<|qab rfl rfl<|qa1 hτ rfl rfl rfl<|qa1 hτ rfl rfl rfl ?_
         refine qa1 hτ rfl rfl rfl<|qa5 ?_
         refine qaa (qa3 [0,1] (l:=[(1,.ptr 0 0),(3,.d (.int .i64 v73)),(4,.ptr 1 0),(6,.d (.sl false (f_.qa7.map qac))),(7,.d (.int .i64 (f_.qa7.length:Int))),(8,.d (.int .i64 v73)),(24,.d (.bool true))]) (objs:=[.box [.d (.cx .f32 f_.Source.A.re f_.Source.A.im),.d (.cx .f32 f_.Source.B.re f_.Source.B.im),.d (.cx .f32 f_.Source.C.re f_.Source.C.im),.d (.sl false (f_.qa7.map qac))],.box [.d (.int .i64 x105.qaw),.d (.cx .f32 x105.Own.re x105.Own.im),.d (.cx .f32 x105.Shared.re x105.Shared.im),.d (.int .i64 x105.Kind),.d (.cx .f32 x105.Load.A.re x105.Load.A.im),.d (.cx .f32 x105.Load.B.re x105.Load.B.im),.d (.cx .f32 x105.Load.C.re x105.Load.C.im),.d (.int .i64 x105.qag)]]) rfl (by simp) rfl (by trivial) ⟨rfl,trivial,rfl,trivial,rfl,trivial,rfl,trivial,rfl,trivial,rfl,trivial,rfl,trivial,trivial⟩) ?_
         exact hk127 true h
        ·have hb129:=qje hb129
         have h:=if_t h hb129
         refine qa1 hτ rfl rfl rfl<|qa1 hτ rfl rfl rfl<|qa1 hτ rfl rfl rfl<|qa1 hτ rfl rfl rfl<|qa1 hτ rfl rfl rfl ?_
         refine qb3 (qa3 [0,1] (l:=[(1,.ptr 0 0),(3,.d (.int .i64 v73)),(4,.ptr 1 0),(6,.d (.sl false (f_.qa7.map qac))),(7,.d (.int .i64 (f_.qa7.length:Int))),(8,.d (.int .i64 v73)),(27,.d (.bool true)),(36,.d (.bool (!(fcmp .eql .f32 x105.Own.re (0:Nat) && fcmp .eql .f32 x105.Own.im (0:Nat)))))]) (objs:=[.box [.d (.cx .f32 f_.Source.A.re f_.Source.A.im),.d (.cx .f32 f_.Source.B.re f_.Source.B.im),.d (.cx .f32 f_.Source.C.re f_.Source.C.im),.d (.sl false (f_.qa7.map qac))],.box [.d (.int .i64 x105.qaw),.d (.cx .f32 x105.Own.re x105.Own.im),.d (.cx .f32 x105.Shared.re x105.Shared.im),.d (.int .i64 x105.Kind),.d (.cx .f32 x105.Load.A.re x105.Load.A.im),.d (.cx .f32 x105.Load.B.re x105.Load.B.im),.d (.cx .f32 x105.Load.C.re x105.Load.C.im),.d (.int .i64 x105.qag)]]) rfl (by simp) rfl (by trivial) ⟨rfl,trivial,rfl,trivial,rfl,trivial,rfl,trivial,rfl,trivial,rfl,trivial,rfl,trivial,rfl,trivial,trivial⟩) ?_
         refine qbq 36 rfl (fun hb130=>?_) (fun hb130=>?_)
         ·have hb130:=qjf hb130
          have h:=qeg h hb130
          refine qab rfl rfl<|qab rfl rfl<|qab rfl rfl<|qa1 hτ rfl rfl rfl<|qa1 hτ rfl rfl rfl ?_
          refine qa1 hτ rfl rfl rfl<|qa5 ?_
          refine qaa (qa3 [0,1] (l:=[(1,.ptr 0 0),(3,.d (.int .i64 v73)),(4,.ptr 1 0),(6,.d (.sl false (f_.qa7.map qac))),(7,.d (.int .i64 (f_.qa7.length:Int))),(8,.d (.int .i64 v73)),(24,.d (.bool true))]) (objs:=[.box [.d (.cx .f32 f_.Source.A.re f_.Source.A.im),.d (.cx .f32 f_.Source.B.re f_.Source.B.im),.d (.cx .f32 f_.Source.C.re f_.Source.C.im),.d (.sl false (f_.qa7.map qac))],.box [.d (.int .i64 x105.qaw),.d (.cx .f32 x105.Own.re x105.Own.im),.d (.cx .f32 x105.Shared.re x105.Shared.im),.d (.int .i64 x105.Kind),.d (.cx .f32 x105.Load.A.re x105.Load.A.im),.d (.cx .f32 x105.Load.B.re x105.Load.B.im),.d (.cx .f32 x105.Load.C.re x105.Load.C.im),.d (.int .i64 x105.qag)]]) rfl (by simp) rfl (by trivial) ⟨rfl,trivial,rfl,trivial,rfl,trivial,rfl,trivial,rfl,trivial,rfl,trivial,rfl,trivial,trivial⟩) ?_
          exact hk127 true h
         ·have hb130:=qje hb130
          have h:=qeh h hb130
          refine qa1 hτ rfl rfl rfl<|qa1 hτ rfl rfl rfl<|qa1 hτ rfl rfl rfl<|qa1 hτ rfl rfl rfl<|qa1 hτ rfl rfl rfl ?_
          refine qa1 hτ rfl rfl rfl<|qa5 ?_
          refine qaa (qa3 [0,1] (l:=[(1,.ptr 0 0),(3,.d (.int .i64 v73)),(4,.ptr 1 0),(6,.d (.sl false (f_.qa7.map qac))),(7,.d (.int .i64 (f_.qa7.length:Int))),(8,.d (.int .i64 v73)),(24,.d (.bool (!(fcmp .eql .f32 x105.Shared.re (0:Nat) && fcmp .eql .f32 x105.Shared.im (0:Nat)))))]) (objs:=[.box [.d (.cx .f32 f_.Source.A.re f_.Source.A.im),.d (.cx .f32 f_.Source.B.re f_.Source.B.im),.d (.cx .f32 f_.Source.C.re f_.Source.C.im),.d (.sl false (f_.qa7.map qac))],.box [.d (.int .i64 x105.qaw),.d (.cx .f32 x105.Own.re x105.Own.im),.d (.cx .f32 x105.Shared.re x105.Shared.im),.d (.int .i64 x105.Kind),.d (.cx .f32 x105.Load.A.re x105.Load.A.im),.d (.cx .f32 x105.Load.B.re x105.Load.B.im),.d (.cx .f32 x105.Load.C.re x105.Load.C.im),.d (.int .i64 x105.qag)]]) rfl (by simp) rfl (by trivial) ⟨rfl,trivial,rfl,trivial,rfl,trivial,rfl,trivial,rfl,trivial,rfl,trivial,rfl,trivial,trivial⟩) ?_
          exact hk127 (!(fcmp .eql .f32 x105.Shared.re (0:Nat) && fcmp .eql .f32 x105.Shared.im (0:Nat))) h
       ·have h:=if_f h hb128
        refine qab rfl rfl<|qab rfl rfl<|qab rfl rfl<|qab rfl rfl<|qab rfl rfl ?_
        refine qab rfl rfl<|qab rfl rfl<|qab rfl rfl<|qab rfl rfl ?_
        refine qb3 (qa3 [0,1] (l:=[(1,.ptr 0 0),(3,.d (.int .i64 v73)),(4,.ptr 1 0),(6,.d (.sl false (f_.qa7.map qac))),(7,.d (.int .i64 (f_.qa7.length:Int))),(8,.d (.int .i64 v73)),(27,.d (.bool false)),(36,.und)]) (objs:=[.box [.d (.cx .f32 f_.Source.A.re f_.Source.A.im),.d (.cx .f32 f_.Source.B.re f_.Source.B.im),.d (.cx .f32 f_.Source.C.re f_.Source.C.im),.d (.sl false (f_.qa7.map qac))],.box [.d (.int .i64 x105.qaw),.d (.cx .f32 x105.Own.re x105.Own.im),.d (.cx .f32 x105.Shared.re x105.Shared.im),.d (.int .i64 x105.Kind),.d (.cx .f32 x105.Load.A.re x105.Load.A.im),.d (.cx .f32 x105.Load.B.re x105.Load.B.im),.d (.cx .f32 x105.Load.C.re x105.Load.C.im),.d (.int .i64 x105.qag)]]) rfl (by simp) rfl (by trivial) ⟨rfl,trivial,rfl,trivial,rfl,trivial,rfl,trivial,rfl,trivial,rfl,trivial,rfl,trivial,rfl,trivial,trivial⟩) ?_
        refine qab rfl rfl<|qab rfl rfl<|qab rfl rfl<|qab rfl rfl<|qa1 hτ rfl rfl rfl ?_
        refine qa1 hτ rfl rfl rfl<|qa5 ?_
        refine qaa (qa3 [0,1] (l:=[(1,.ptr 0 0),(3,.d (.int .i64 v73)),(4,.ptr 1 0),(6,.d (.sl false (f_.qa7.map qac))),(7,.d (.int .i64 (f_.qa7.length:Int))),(8,.d (.int .i64 v73)),(24,.d (.bool false))]) (objs:=[.box [.d (.cx .f32 f_.Source.A.re f_.Source.A.im),.d (.cx .f32 f_.Source.B.re f_.Source.B.im),.d (.cx .f32 f_.Source.C.re f_.Source.C.im),.d (.sl false (f_.qa7.map qac))],.box [.d (.int .i64 x105.qaw),.d (.cx .f32 x105.Own.re x105.Own.im),.d (.cx .f32 x105.Shared.re x105.Shared.im),.d (.int .i64 x105.Kind),.d (.cx .f32 x105.Load.A.re x105.Load.A.im),.d (.cx .f32 x105.Load.B.re x105.Load.B.im),.d (.cx .f32 x105.Load.C.re x105.Load.C.im),.d (.int .i64 x105.qag)]]) rfl (by simp) rfl (by trivial) ⟨rfl,trivial,rfl,trivial,rfl,trivial,rfl,trivial,rfl,trivial,rfl,trivial,rfl,trivial,trivial⟩) ?_
        exact hk127 false h
    ·refine qa8 ?_
     refine qaa (qa3 [0,1] (l:=[(1,.ptr 0 0),(3,.d (.int .i64 v73)),(4,.ptr 1 0),(6,.d (.sl false (f_.qa7.map qac))),(7,.d (.int .i64 (f_.qa7.length:Int))),(8,.d (.int .i64 v73))]) (objs:=[.box [.d (.cx .f32 f_.Source.A.re f_.Source.A.im),.d (.cx .f32 f_.Source.B.re f_.Source.B.im),.d (.cx .f32 f_.Source.C.re f_.Source.C.im),.d (.sl false (f_.qa7.map qac))],.box [.d (.int .i64 x105.qaw),.d (.cx .f32 x105.Own.re x105.Own.im),.d (.cx .f32 x105.Shared.re x105.Shared.im),.d (.int .i64 x105.Kind),.d (.cx .f32 x105.Load.A.re x105.Load.A.im),.d (.cx .f32 x105.Load.B.re x105.Load.B.im),.d (.cx .f32 x105.Load.C.re x105.Load.C.im),.d (.int .i64 x105.qag)]]) rfl (by simp) rfl (by trivial) ⟨rfl,trivial,rfl,trivial,rfl,trivial,rfl,trivial,rfl,trivial,rfl,trivial,trivial⟩) ?_
     refine qa2<|qa1 hτ rfl rfl rfl<|qa1 hτ rfl rfl rfl ?_
     refine qaf h fun x132 hx132 h=>?_
     refine qae hτ false [] rfl rfl rfl (qaj func35 rfl rfl) rfl rfl (by simp) ⟨trivial,trivial⟩ (by trivial) (impl_kindOk_ok n x105.Kind hx132) ?_
     rintro r0 o0 n0 ⟨rfl,rfl,rfl⟩ -
     refine qa1 hτ rfl rfl rfl<|qa1 hτ rfl rfl rfl ?_
     refine qbq 18 rfl (fun hb133=>?_) (fun hb133=>?_)
     ·have hb133:=qjf hb133
      have h:=qeg h hb133
      refine qab rfl rfl<|qab rfl rfl<|qab rfl rfl<|qab rfl rfl<|qa1 hτ rfl rfl rfl ?_
      refine qa1 hτ rfl rfl rfl<|qa5 ?_
      refine qaa (qa3 [0,1] (l:=[(1,.ptr 0 0),(3,.d (.int .i64 v73)),(4,.ptr 1 0),(6,.d (.sl false (f_.qa7.map qac))),(7,.d (.int .i64 (f_.qa7.length:Int))),(8,.d (.int .i64 v73)),(13,.d (.bool true))]) (objs:=[.box [.d (.cx .f32 f_.Source.A.re f_.Source.A.im),.d (.cx .f32 f_.Source.B.re f_.Source.B.im),.d (.cx .f32 f_.Source.C.re f_.Source.C.im),.d (.sl false (f_.qa7.map qac))],.box [.d (.int .i64 x105.qaw),.d (.cx .f32 x105.Own.re x105.Own.im),.d (.cx .f32 x105.Shared.re x105.Shared.im),.d (.int .i64 x105.Kind),.d (.cx .f32 x105.Load.A.re x105.Load.A.im),.d (.cx .f32 x105.Load.B.re x105.Load.B.im),.d (.cx .f32 x105.Load.C.re x105.Load.C.im),.d (.int .i64 x105.qag)]]) rfl (by simp) rfl (by trivial) ⟨rfl,trivial,rfl,trivial,rfl,trivial,rfl,trivial,rfl,trivial,rfl,trivial,rfl,trivial,trivial⟩) ?_
      exact hk131 true h
     ·have hb133:=qje hb133
      have h:=qeh h hb133
      refine qa1 hτ rfl rfl rfl<|qa1 hτ rfl rfl rfl ?_
      refine qaf h fun x134 hx134 h=>?_
      refine qae hτ false [] rfl rfl rfl (qaj func36 rfl rfl) rfl rfl (by simp) ⟨trivial,trivial,trivial,trivial⟩ (by trivial) (qig n x105.qag (0:Int) (1000000:Int) hx134) ?_
      rintro r0 o0 n0 ⟨rfl,rfl,rfl⟩ -
      refine qa1 hτ rfl rfl rfl<|qa1 hτ rfl rfl rfl<|qa1 hτ rfl rfl rfl<|qa5 ?_
      refine qaa (qa3 [0,1] (l:=[(1,.ptr 0 0),(3,.d (.int .i64 v73)),(4,.ptr 1 0),(6,.d (.sl false (f_.qa7.map qac))),(7,.d (.int .i64 (f_.qa7.length:Int))),(8,.d (.int .i64 v73)),(13,.d (.bool (!x134)))]) (objs:=[.box [.d (.cx .f32 f_.Source.A.re f_.Source.A.im),.d (.cx .f32 f_.Source.B.re f_.Source.B.im),.d (.cx .f32 f_.Source.C.re f_.Source.C.im),.d (.sl false (f_.qa7.map qac))],.box [.d (.int .i64 x105.qaw),.d (.cx .f32 x105.Own.re x105.Own.im),.d (.cx .f32 x105.Shared.re x105.Shared.im),.d (.int .i64 x105.Kind),.d (.cx .f32 x105.Load.A.re x105.Load.A.im),.d (.cx .f32 x105.Load.B.re x105.Load.B.im),.d (.cx .f32 x105.Load.C.re x105.Load.C.im),.d (.int .i64 x105.qag)]]) rfl (by simp) rfl (by trivial) ⟨rfl,trivial,rfl,trivial,rfl,trivial,rfl,trivial,rfl,trivial,rfl,trivial,rfl,trivial,trivial⟩) ?_
      exact hk131 (!x134) h
  ·have h:=if_f h hc90
   refine qd3 ?_
   refine qaa (qa3 [0] (l:=[(1,.ptr 0 0)]) (objs:=[.box [.d (.cx .f32 f_.Source.A.re f_.Source.A.im),.d (.cx .f32 f_.Source.B.re f_.Source.B.im),.d (.cx .f32 f_.Source.C.re f_.Source.C.im),.d (.sl false (f_.qa7.map qac))]]) rfl (by simp) rfl (by trivial) ⟨rfl,trivial,trivial⟩) ?_
   exact hk59 () h
theorem qlk (n:Nat) (f_:qau) {r:Bool} (h:qcq n f_ = some r):qb1 prog false 11 [.agg [.d (.cx .f32 f_.Source.A.re f_.Source.A.im),.d (.cx .f32 f_.Source.B.re f_.Source.B.im),.d (.cx .f32 f_.Source.C.re f_.Source.C.im),.d (.sl false (f_.qa7.map qac))]] [] (fun v o new=>v = .d (.bool r)∧o = []∧new = []):=qjv false n f_ h
theorem impl_ValidFeeder_ok_fr (n:Nat) (f_:qau) {r:Bool} (h:qcq n f_ = some r):qb1 prog true 11 [.agg [.d (.cx .f32 f_.Source.A.re f_.Source.A.im),.d (.cx .f32 f_.Source.B.re f_.Source.B.im),.d (.cx .f32 f_.Source.C.re f_.Source.C.im),.d (.sl false (f_.qa7.map qac))]] [] (fun v o new=>v = .d (.bool r)∧o = []∧new = []):=qjv true n f_ h
def qj2 (n:Nat) (t_:STie) (buses_:Int):Option Bool :=
 if t_.A = t_.B then
  some false
 else
  (qfl n t_.A (0:Int) (w64 (buses_ - (1:Int)))).bind fun x11 =>
  if x11 = true then
   (qfl n t_.B (0:Int) (w64 (buses_ - (1:Int)))).bind fun x13 =>
   if x13 = true then
    (qfl n t_.Most (0:Int) (16000000:Int)).bind fun x15 =>
    some x15
   else
    some false
  else
   some false
theorem impl_Tie_ok_ok_fr0 (fr:Bool) (n:Nat) (t_:STie) (buses_:Int) {r:Bool} (h:qj2 n t_ buses_ = some r):qb1 prog fr 22 [.ptr 0 0,.d (.int .i64 buses_)] [.box [.d (.int .i64 t_.A),.d (.int .i64 t_.B),.d (.cx .f32 t_.Own.re t_.Own.im),.d (.cx .f32 t_.Shared.re t_.Shared.im),.d (.int .i64 t_.Most)]] (fun v o new=>v = .d (.bool r)∧o = [.box [.d (.int .i64 t_.A),.d (.int .i64 t_.B),.d (.cx .f32 t_.Own.re t_.Own.im),.d (.cx .f32 t_.Shared.re t_.Shared.im),.d (.int .i64 t_.Most)]]∧new = []):=by
 refine qak hτ func22 rfl (by simp) (by simp) ?_
 unfold qj2 at h
 refine qa8<|qa2<|qa1 hτ rfl rfl rfl<|qa5<|qa8 ?_
 refine qd5 ?_
 refine qa4 hτ [] 0 rfl rfl rfl rfl rfl ?_
 refine qa4 hτ [] 1 rfl rfl rfl rfl rfl ?_
 refine qa4 hτ [0] 2 rfl rfl rfl rfl rfl ?_
 refine qa4 hτ [0] 3 rfl rfl rfl rfl rfl ?_
 refine qa4 hτ [] 4 rfl rfl rfl rfl rfl ?_
 refine qa4 hτ [] 5 rfl rfl rfl rfl rfl ?_
 refine qa4 hτ [0] 6 rfl rfl rfl rfl rfl ?_
 refine qa4 hτ [0] 7 rfl rfl rfl rfl rfl ?_
 refine qa4 hτ (v:=.d (.bool (!(decide (t_.A = t_.B))))) [] 8 rfl rfl rfl rfl (qlw _ _) ?_
 refine qa4 hτ [] 9 rfl rfl rfl rfl rfl ?_
 refine qda 14 rfl (fun hb10=>?_) (fun hb10=>?_)
 ·have hb10:=qjf hb10
  have h:=if_f h hb10
  refine qa4 hτ [] 10 rfl rfl rfl rfl rfl ?_
  refine qa4 hτ [] 11 rfl rfl rfl rfl rfl ?_
  refine qa4 hτ [0] 12 rfl rfl rfl rfl rfl ?_
  refine qa4 hτ [0] 13 rfl rfl rfl rfl rfl ?_
  refine qa4 hτ [] 14 rfl rfl rfl rfl rfl ?_
  refine qa4 hτ [] 15 rfl rfl rfl rfl rfl ?_
  refine qaf h fun x11 hx11 h=>?_
  refine qcf hτ false [] [0] 16 rfl rfl rfl rfl (qaj func36 rfl rfl) rfl rfl (by simp) ⟨trivial,trivial,trivial,trivial⟩ (by trivial) (qig n t_.A (0:Int) (w64 (buses_ - (1:Int))) hx11) ⟨rfl,trivial⟩ ?_
  refine qa4 hτ [] 17 rfl rfl rfl rfl rfl ?_
  refine qa4 hτ [] 18 rfl rfl rfl rfl rfl ?_
  refine qda 23 rfl (fun hb12=>?_) (fun hb12=>?_)
  ·have h:=qeh h hb12
   refine qa4 hτ [] 19 rfl rfl rfl rfl rfl ?_
   refine qa4 hτ [] 20 rfl rfl rfl rfl rfl ?_
   refine qa4 hτ [0] 21 rfl rfl rfl rfl rfl ?_
   refine qa4 hτ [0] 22 rfl rfl rfl rfl rfl ?_
   refine qa4 hτ [] 23 rfl rfl rfl rfl rfl ?_
   refine qa4 hτ [] 24 rfl rfl rfl rfl rfl ?_
   refine qaf h fun x13 hx13 h=>?_
   refine qcf hτ false [] [0] 25 rfl rfl rfl rfl (qaj func36 rfl rfl) rfl rfl (by simp) ⟨trivial,trivial,trivial,trivial⟩ (by trivial) (qig n t_.B (0:Int) (w64 (buses_ - (1:Int))) hx13) ⟨rfl,trivial⟩ ?_
   refine qa4 hτ [] 26 rfl rfl rfl rfl rfl ?_
   refine qa4 hτ [] 27 rfl rfl rfl rfl rfl ?_
   refine qda 32 rfl (fun hb14=>?_) (fun hb14=>?_)
   ·have h:=qeh h hb14
    refine qa4 hτ [] 28 rfl rfl rfl rfl rfl ?_
    refine qa4 hτ [] 29 rfl rfl rfl rfl rfl ?_
    refine qa4 hτ [0] 30 rfl rfl rfl rfl rfl ?_
    refine qa4 hτ [0] 31 rfl rfl rfl rfl rfl ?_
    refine qaf h fun x15 hx15 h=>?_
    refine qcf hτ false [] [0] 32 rfl rfl rfl rfl (qaj func36 rfl rfl) rfl rfl (by simp) ⟨trivial,trivial,trivial,trivial⟩ (by trivial) (qig n t_.Most (0:Int) (16000000:Int) hx15) ⟨rfl,trivial⟩ ?_
    refine qa4 hτ [] 33 rfl rfl rfl rfl rfl ?_
    refine qa4 hτ [] 34 rfl rfl rfl rfl rfl ?_
    refine qbo mixed (by kernel_rfl) ?_
    refine qaa (qa3 [0] (l:=[(4,.d (.bool x15))]) (objs:=[.box [.d (.int .i64 t_.A),.d (.int .i64 t_.B),.d (.cx .f32 t_.Own.re t_.Own.im),.d (.cx .f32 t_.Shared.re t_.Shared.im),.d (.int .i64 t_.Most)]]) rfl (by simp) rfl (by trivial) ⟨rfl,trivial,trivial⟩) ?_
    refine qap ?_
    have hr:=Option.some.inj h
    subst hr
    exact qah (.inr rfl) [] (objs':=[.box [.d (.int .i64 t_.A),.d (.int .i64 t_.B),.d (.cx .f32 t_.Own.re t_.Own.im),.d (.cx .f32 t_.Shared.re t_.Shared.im),.d (.int .i64 t_.Most)]]) (new:=[]) rfl (by simp) (by simp) rfl (by trivial) rfl rfl (by trivial) (fun _=>⟨by simp [V.flat,V.qbg,V.qbb,D.flat],(qc8 (by simp [AObj.flat,V.qbb,D.flat]) qan)⟩) ⟨rfl,rfl,rfl⟩
   ·have h:=qeg h hb14
    refine qa9 28 rfl rfl rfl ?_
    refine qa9 29 rfl rfl rfl ?_
    refine qa9 30 rfl rfl rfl ?_
    refine qa9 31 rfl rfl rfl ?_
    refine qa9 32 rfl rfl rfl ?_
    refine qa4 hτ [] 33 rfl rfl rfl rfl rfl ?_
    refine qa4 hτ [] 34 rfl rfl rfl rfl rfl ?_
    refine qbo mixed (by kernel_rfl) ?_
    refine qaa (qa3 [0] (l:=[(4,.d (.bool false))]) (objs:=[.box [.d (.int .i64 t_.A),.d (.int .i64 t_.B),.d (.cx .f32 t_.Own.re t_.Own.im),.d (.cx .f32 t_.Shared.re t_.Shared.im),.d (.int .i64 t_.Most)]]) rfl (by simp) rfl (by trivial) ⟨rfl,trivial,trivial⟩) ?_
    refine qap ?_
    have hr:=Option.some.inj h
    subst hr
    exact qah (.inr rfl) [] (objs':=[.box [.d (.int .i64 t_.A),.d (.int .i64 t_.B),.d (.cx .f32 t_.Own.re t_.Own.im),.d (.cx .f32 t_.Shared.re t_.Shared.im),.d (.int .i64 t_.Most)]]) (new:=[]) rfl (by simp) (by simp) rfl (by trivial) rfl rfl (by trivial) (fun _=>⟨by simp [V.flat,V.qbg,V.qbb,D.flat],(qc8 (by simp [AObj.flat,V.qbb,D.flat]) qan)⟩) ⟨rfl,rfl,rfl⟩
  ·have h:=qeg h hb12
   refine qa9 19 rfl rfl rfl ?_
   refine qa9 20 rfl rfl rfl ?_
   refine qa9 21 rfl rfl rfl ?_
   refine qa9 22 rfl rfl rfl ?_
   refine qa9 23 rfl rfl rfl ?_
   refine qa9 24 rfl rfl rfl ?_
   refine qa9 25 rfl rfl rfl ?_
   refine qa4 hτ [] 26 rfl rfl rfl rfl rfl ?_
   refine qa4 hτ [] 27 rfl rfl rfl rfl rfl ?_
   refine qa9 28 rfl rfl rfl ?_
   refine qa9 29 rfl rfl rfl ?_
   refine qa9 30 rfl rfl rfl ?_
   refine qa9 31 rfl rfl rfl ?_
   refine qa9 32 rfl rfl rfl ?_
   refine qa4 hτ [] 33 rfl rfl rfl rfl rfl ?_
   refine qa4 hτ [] 34 rfl rfl rfl rfl rfl ?_
   refine qbo mixed (by kernel_rfl) ?_
   refine qaa (qa3 [0] (l:=[(4,.d (.bool false))]) (objs:=[.box [.d (.int .i64 t_.A),.d (.int .i64 t_.B),.d (.cx .f32 t_.Own.re t_.Own.im),.d (.cx .f32 t_.Shared.re t_.Shared.im),.d (.int .i64 t_.Most)]]) rfl (by simp) rfl (by trivial) ⟨rfl,trivial,trivial⟩) ?_
   refine qap ?_
   have hr:=Option.some.inj h
   subst hr
   exact qah (.inr rfl) [] (objs':=[.box [.d (.int .i64 t_.A),.d (.int .i64 t_.B),.d (.cx .f32 t_.Own.re t_.Own.im),.d (.cx .f32 t_.Shared.re t_.Shared.im),.d (.int .i64 t_.Most)]]) (new:=[]) rfl (by simp) (by simp) rfl (by trivial) rfl rfl (by trivial) (fun _=>⟨by simp [V.flat,V.qbg,V.qbb,D.flat],(qc8 (by simp [AObj.flat,V.qbb,D.flat]) qan)⟩) ⟨rfl,rfl,rfl⟩
 ·have hb10:=qje hb10
  have h:=if_t h hb10
  refine qa9 10 rfl rfl rfl ?_
  refine qa9 11 rfl rfl rfl ?_
  refine qa9 12 rfl rfl rfl ?_
  refine qa9 13 rfl rfl rfl ?_
  refine qa9 14 rfl rfl rfl ?_
  refine qa9 15 rfl rfl rfl ?_
  refine qa9 16 rfl rfl rfl ?_
  refine qa4 hτ [] 17 rfl rfl rfl rfl rfl ?_
  refine qa4 hτ [] 18 rfl rfl rfl rfl rfl ?_
  refine qa9 19 rfl rfl rfl ?_
  refine qa9 20 rfl rfl rfl ?_
  refine qa9 21 rfl rfl rfl ?_
  refine qa9 22 rfl rfl rfl ?_
  refine qa9 23 rfl rfl rfl ?_
  refine qa9 24 rfl rfl rfl ?_
  refine qa9 25 rfl rfl rfl ?_
  refine qa4 hτ [] 26 rfl rfl rfl rfl rfl ?_
  refine qa4 hτ [] 27 rfl rfl rfl rfl rfl ?_
  refine qa9 28 rfl rfl rfl ?_
  refine qa9 29 rfl rfl rfl ?_
  refine qa9 30 rfl rfl rfl ?_
  refine qa9 31 rfl rfl rfl ?_
  refine qa9 32 rfl rfl rfl ?_
  refine qa4 hτ [] 33 rfl rfl rfl rfl rfl ?_
  refine qa4 hτ [] 34 rfl rfl rfl rfl rfl ?_
  refine qbo mixed (by kernel_rfl) ?_
  refine qaa (qa3 [0] (l:=[(4,.d (.bool false))]) (objs:=[.box [.d (.int .i64 t_.A),.d (.int .i64 t_.B),.d (.cx .f32 t_.Own.re t_.Own.im),.d (.cx .f32 t_.Shared.re t_.Shared.im),.d (.int .i64 t_.Most)]]) rfl (by simp) rfl (by trivial) ⟨rfl,trivial,trivial⟩) ?_
  refine qap ?_
  have hr:=Option.some.inj h
  subst hr
  exact qah (.inr rfl) [] (objs':=[.box [.d (.int .i64 t_.A),.d (.int .i64 t_.B),.d (.cx .f32 t_.Own.re t_.Own.im),.d (.cx .f32 t_.Shared.re t_.Shared.im),.d (.int .i64 t_.Most)]]) (new:=[]) rfl (by simp) (by simp) rfl (by trivial) rfl rfl (by trivial) (fun _=>⟨by simp [V.flat,V.qbg,V.qbb,D.flat],(qc8 (by simp [AObj.flat,V.qbb,D.flat]) qan)⟩) ⟨rfl,rfl,rfl⟩
theorem impl_Tie_ok_ok (n:Nat) (t_:STie) (buses_:Int) {r:Bool} (h:qj2 n t_ buses_ = some r):qb1 prog false 22 [.ptr 0 0,.d (.int .i64 buses_)] [.box [.d (.int .i64 t_.A),.d (.int .i64 t_.B),.d (.cx .f32 t_.Own.re t_.Own.im),.d (.cx .f32 t_.Shared.re t_.Shared.im),.d (.int .i64 t_.Most)]] (fun v o new=>v = .d (.bool r)∧o = [.box [.d (.int .i64 t_.A),.d (.int .i64 t_.B),.d (.cx .f32 t_.Own.re t_.Own.im),.d (.cx .f32 t_.Shared.re t_.Shared.im),.d (.int .i64 t_.Most)]]∧new = []):=impl_Tie_ok_ok_fr0 false n t_ buses_ h
def qh4 (n:Nat) (t_:STie) (a1_:Int):Option Bool :=
 (qj2 n t_ a1_).bind fun x2 =>
 some (!x2)
theorem impl_ValidGrid_1_ok_fr0 (fr:Bool) (n:Nat) (t_:STie) (a1_:Int) {r:Bool} (h:qh4 n t_ a1_ = some r):qb1 prog fr 21 [.agg [.d (.int .i64 t_.A),.d (.int .i64 t_.B),.d (.cx .f32 t_.Own.re t_.Own.im),.d (.cx .f32 t_.Shared.re t_.Shared.im),.d (.int .i64 t_.Most)],.ptr 0 0] [.box [.d (.int .i64 a1_)]] (fun v o new=>v = .d (.bool r)∧o = [.box [.d (.int .i64 a1_)]]∧new = []):=by
 refine qak hτ func21 rfl (by simp) (by simp) ?_
 unfold qh4 at h
 refine qa8<|qa2<|qal hτ rfl rfl rfl<|qa1 hτ rfl rfl rfl<|qa5 ?_
 refine qa8<|qa2<|qa1 hτ rfl rfl rfl ?_
 refine qaf h fun x2 hx2 h=>?_
 refine qae hτ false [1] rfl rfl rfl (qaj func22 rfl rfl) rfl rfl (by simp) ⟨trivial,trivial,trivial⟩ (by trivial) (impl_Tie_ok_ok n t_ a1_ hx2) ?_
 rintro r0 o0 n0 ⟨rfl,rfl,rfl⟩ -
 refine qa1 hτ rfl rfl rfl<|qa1 hτ rfl rfl rfl<|qa5 ?_
 refine qaa (qa3 [0] (l:=[(3,.d (.bool (!x2)))]) (objs:=[.box [.d (.int .i64 a1_)]]) rfl (by simp) rfl (by trivial) ⟨rfl,trivial,trivial⟩) ?_
 refine qap ?_
 have hr:=Option.some.inj h
 subst hr
 exact qah (.inr rfl) [] (objs':=[.box [.d (.int .i64 a1_)]]) (new:=[]) rfl (by simp) (by simp) rfl (by trivial) rfl rfl (by trivial) (fun _=>⟨by simp [V.flat,V.qbg,V.qbb,D.flat],(qc8 (by simp [AObj.flat,V.qbb,D.flat]) qan)⟩) ⟨rfl,rfl,rfl⟩
theorem impl_ValidGrid_1_ok (n:Nat) (t_:STie) (a1_:Int) {r:Bool} (h:qh4 n t_ a1_ = some r):qb1 prog false 21 [.agg [.d (.int .i64 t_.A),.d (.int .i64 t_.B),.d (.cx .f32 t_.Own.re t_.Own.im),.d (.cx .f32 t_.Shared.re t_.Shared.im),.d (.int .i64 t_.Most)],.ptr 0 0] [.box [.d (.int .i64 a1_)]] (fun v o new=>v = .d (.bool r)∧o = [.box [.d (.int .i64 a1_)]]∧new = []):=impl_ValidGrid_1_ok_fr0 false n t_ a1_ h
end Go.Proofs.YtiegopnofbgoaaaGreatDoor.AWN
