/- Models and contracts, printed by program. -/
import Derived.Test.YtiegopnofbgoaaaGreatDoorFnAfterE
set_option linter.unusedVariables false
set_option linter.unusedSimpArgs false
set_option linter.unusedSectionVars false
set_option maxHeartbeats 2000000
namespace Go.Proofs.YtiegopnofbgoaaaGreatDoor.AWN
open Go Go.Proofs.Tryz
def qij (n:Nat) (load_:Cx) (v_:Cx) (a2_:SBus):Option Cx :=
 if (fcmp .eql .f32 load_.re (0:Nat) && fcmp .eql .f32 load_.im (0:Nat)) = true then
  some (Cx.mk (0:Nat) (0:Nat))
 else
  if a2_.Kind = (0:Int) then
   (qm5 n load_ v_).bind fun x6 =>
   (qej n x6).bind fun x7 =>
   some x7
  else
   if a2_.Kind = (1:Int) then
    some load_
   else
    if a2_.Kind = (2:Int) then
     (qm5 n v_ load_).bind fun x10 =>
     some x10
    else
     some (Cx.mk (0:Nat) (0:Nat))
def qcp (n:Nat) (load_:Cx) (v_:Cx) (a2_:SBus) (Q_:Cx→Prop):Prop :=
 if (fcmp .eql .f32 load_.re (0:Nat) && fcmp .eql .f32 load_.im (0:Nat)) = true then
  Q_ ((Cx.mk (0:Nat) (0:Nat)))
 else
  if a2_.Kind = (0:Int) then
   qem n load_ v_ fun x6 =>
   bndP (qej n x6) fun x7 =>
   Q_ (x7)
  else
   if a2_.Kind = (1:Int) then
    Q_ (load_)
   else
    if a2_.Kind = (2:Int) then
     qem n v_ load_ fun x10 =>
     Q_ (x10)
    else
     Q_ ((Cx.mk (0:Nat) (0:Nat)))
theorem impl_LoadCurrentOf_1_okP_fr0 (fr:Bool) (n:Nat) (load_:Cx) (v_:Cx) (a2_:SBus) {Q_:Cx→Prop} (h:qcp n load_ v_ a2_ Q_):qb1 prog fr 88 [.d (.cx .f32 load_.re load_.im),.d (.cx .f32 v_.re v_.im),.ptr 0 0] [.box [.d (.int .i64 a2_.qaw),.d (.cx .f32 a2_.Own.re a2_.Own.im),.d (.cx .f32 a2_.Shared.re a2_.Shared.im),.d (.int .i64 a2_.Kind),.d (.cx .f32 a2_.Load.A.re a2_.Load.A.im),.d (.cx .f32 a2_.Load.B.re a2_.Load.B.im),.d (.cx .f32 a2_.Load.C.re a2_.Load.C.im),.d (.int .i64 a2_.qag)]] (fun v o new=>∃ r,Q_ r∧v = .d (.cx .f32 r.re r.im)∧o = [.box [.d (.int .i64 a2_.qaw),.d (.cx .f32 a2_.Own.re a2_.Own.im),.d (.cx .f32 a2_.Shared.re a2_.Shared.im),.d (.int .i64 a2_.Kind),.d (.cx .f32 a2_.Load.A.re a2_.Load.A.im),.d (.cx .f32 a2_.Load.B.re a2_.Load.B.im),.d (.cx .f32 a2_.Load.C.re a2_.Load.C.im),.d (.int .i64 a2_.qag)]]∧new = []):=by
 refine qak hτ func88 rfl (by simp) (by simp) ?_
 unfold qcp at h
 refine qa8<|qa2<|qa1 hτ rfl rfl rfl<|qa5<|qa8 ?_
 refine qay<|qa8<|qa2<|qa1 hτ rfl rfl rfl<|qa1 hτ rfl rfl rfl ?_
 refine qa1 hτ rfl rfl rfl<|qa5 ?_
 refine qaq rfl (fun hc4=>?_) (fun hc4=>?_)
 ·have h:=qin h hc4
  refine qa8<|qa2<|qa1 hτ rfl rfl rfl<|qa5 ?_
  refine qaa (qa3 [0] (l:=[(5,.d (.cx .f32 (0:Nat) (0:Nat)))]) (objs:=[.box [.d (.int .i64 a2_.qaw),.d (.cx .f32 a2_.Own.re a2_.Own.im),.d (.cx .f32 a2_.Shared.re a2_.Shared.im),.d (.int .i64 a2_.Kind),.d (.cx .f32 a2_.Load.A.re a2_.Load.A.im),.d (.cx .f32 a2_.Load.B.re a2_.Load.B.im),.d (.cx .f32 a2_.Load.C.re a2_.Load.C.im),.d (.int .i64 a2_.qag)]]) rfl (by simp) rfl (by trivial) ⟨rfl,trivial,trivial⟩) ?_
  refine qap ?_
  exact qah (.inr rfl) [] (objs':=[.box [.d (.int .i64 a2_.qaw),.d (.cx .f32 a2_.Own.re a2_.Own.im),.d (.cx .f32 a2_.Shared.re a2_.Shared.im),.d (.int .i64 a2_.Kind),.d (.cx .f32 a2_.Load.A.re a2_.Load.A.im),.d (.cx .f32 a2_.Load.B.re a2_.Load.B.im),.d (.cx .f32 a2_.Load.C.re a2_.Load.C.im),.d (.int .i64 a2_.qag)]]) (new:=[]) rfl (by simp) (by simp) rfl (by trivial) rfl rfl (by trivial) (fun _=>⟨by simp [V.flat,V.qbg,V.qbb,D.flat],(qc8 (by simp [AObj.flat,V.qbb,D.flat]) qan)⟩) ⟨_,h,rfl,rfl,rfl⟩
 ·have h:=qim h hc4
  refine qa8<|qa2<|qa1 hτ rfl rfl rfl<|qa1 hτ rfl rfl rfl ?_
  refine qa1 hτ (v:=.d (.bool (decide (a2_.Kind = (0:Int))))) rfl rfl (qeq _ _) ?_
  refine qa1 hτ rfl rfl rfl<|qa5 ?_
  refine qaa (qa3 [0] (l:=[(0,.d (.cx .f32 load_.re load_.im)),(1,.d (.cx .f32 v_.re v_.im)),(2,.ptr 0 0),(9,.d (.bool (decide (a2_.Kind = (0:Int)))))]) (objs:=[.box [.d (.int .i64 a2_.qaw),.d (.cx .f32 a2_.Own.re a2_.Own.im),.d (.cx .f32 a2_.Shared.re a2_.Shared.im),.d (.int .i64 a2_.Kind),.d (.cx .f32 a2_.Load.A.re a2_.Load.A.im),.d (.cx .f32 a2_.Load.B.re a2_.Load.B.im),.d (.cx .f32 a2_.Load.C.re a2_.Load.C.im),.d (.int .i64 a2_.qag)]]) rfl (by simp) rfl (by trivial) ⟨rfl,trivial,rfl,trivial,rfl,trivial,rfl,trivial,trivial⟩) ?_
  refine qaq rfl (fun hc5=>?_) (fun hc5=>?_)
  ·have h:=qk2 h hc5
   refine qa8<|qa2<|qa1 hτ rfl rfl rfl<|qa1 hτ rfl rfl rfl ?_
   refine qae hτ false [] rfl rfl rfl (qaj func90 rfl rfl) rfl rfl (by simp) ⟨trivial,trivial,trivial⟩ (by trivial) (qlj n load_ v_ h) ?_
   rintro r0 o0 n0 ⟨x6,h,rfl,rfl,rfl⟩ -
   refine qaz h fun x7 hx7 h=>?_
   refine qae hτ false [] rfl rfl rfl (qaj func89 rfl rfl) rfl rfl (by simp) ⟨trivial,trivial⟩ (by trivial) (qlg n x6 hx7) ?_
   rintro r0 o0 n0 ⟨rfl,rfl,rfl⟩ -
   refine qa1 hτ rfl rfl rfl<|qa5 ?_
   refine qaa (qa3 [0] (l:=[(5,.d (.cx .f32 x7.re x7.im))]) (objs:=[.box [.d (.int .i64 a2_.qaw),.d (.cx .f32 a2_.Own.re a2_.Own.im),.d (.cx .f32 a2_.Shared.re a2_.Shared.im),.d (.int .i64 a2_.Kind),.d (.cx .f32 a2_.Load.A.re a2_.Load.A.im),.d (.cx .f32 a2_.Load.B.re a2_.Load.B.im),.d (.cx .f32 a2_.Load.C.re a2_.Load.C.im),.d (.int .i64 a2_.qag)]]) rfl (by simp) rfl (by trivial) ⟨rfl,trivial,trivial⟩) ?_
   refine qap ?_
   exact qah (.inr rfl) [] (objs':=[.box [.d (.int .i64 a2_.qaw),.d (.cx .f32 a2_.Own.re a2_.Own.im),.d (.cx .f32 a2_.Shared.re a2_.Shared.im),.d (.int .i64 a2_.Kind),.d (.cx .f32 a2_.Load.A.re a2_.Load.A.im),.d (.cx .f32 a2_.Load.B.re a2_.Load.B.im),.d (.cx .f32 a2_.Load.C.re a2_.Load.C.im),.d (.int .i64 a2_.qag)]]) (new:=[]) rfl (by simp) (by simp) rfl (by trivial) rfl rfl (by trivial) (fun _=>⟨by simp [V.flat,V.qbg,V.qbb,D.flat],(qc8 (by simp [AObj.flat,V.qbb,D.flat]) qan)⟩) ⟨_,h,rfl,rfl,rfl⟩
  ·have h:=qk1 h hc5
   refine qa8<|qa2<|qa1 hτ rfl rfl rfl<|qa1 hτ rfl rfl rfl ?_
   refine qa1 hτ (v:=.d (.bool (decide (a2_.Kind = (1:Int))))) rfl rfl (qeq _ _) ?_
   refine qa1 hτ rfl rfl rfl<|qa5 ?_
   refine qaq rfl (fun hc8=>?_) (fun hc8=>?_)
   ·have h:=qk2 h hc8
    refine qa8<|qa2<|qa1 hτ rfl rfl rfl<|qa1 hτ rfl rfl rfl<|qa5 ?_
    refine qaa (qa3 [0] (l:=[(5,.d (.cx .f32 load_.re load_.im))]) (objs:=[.box [.d (.int .i64 a2_.qaw),.d (.cx .f32 a2_.Own.re a2_.Own.im),.d (.cx .f32 a2_.Shared.re a2_.Shared.im),.d (.int .i64 a2_.Kind),.d (.cx .f32 a2_.Load.A.re a2_.Load.A.im),.d (.cx .f32 a2_.Load.B.re a2_.Load.B.im),.d (.cx .f32 a2_.Load.C.re a2_.Load.C.im),.d (.int .i64 a2_.qag)]]) rfl (by simp) rfl (by trivial) ⟨rfl,trivial,trivial⟩) ?_
    refine qap ?_
    exact qah (.inr rfl) [] (objs':=[.box [.d (.int .i64 a2_.qaw),.d (.cx .f32 a2_.Own.re a2_.Own.im),.d (.cx .f32 a2_.Shared.re a2_.Shared.im),.d (.int .i64 a2_.Kind),.d (.cx .f32 a2_.Load.A.re a2_.Load.A.im),.d (.cx .f32 a2_.Load.B.re a2_.Load.B.im),.d (.cx .f32 a2_.Load.C.re a2_.Load.C.im),.d (.int .i64 a2_.qag)]]) (new:=[]) rfl (by simp) (by simp) rfl (by trivial) rfl rfl (by trivial) (fun _=>⟨by simp [V.flat,V.qbg,V.qbb,D.flat],(qc8 (by simp [AObj.flat,V.qbb,D.flat]) qan)⟩) ⟨_,h,rfl,rfl,rfl⟩
   ·have h:=qk1 h hc8
    refine qa8<|qa2<|qa1 hτ rfl rfl rfl<|qa1 hτ rfl rfl rfl ?_
    refine qa1 hτ (v:=.d (.bool (decide (a2_.Kind = (2:Int))))) rfl rfl (qeq _ _) ?_
    refine qa1 hτ rfl rfl rfl<|qa5 ?_
    refine qaa (qa3 [0] (l:=[(0,.d (.cx .f32 load_.re load_.im)),(1,.d (.cx .f32 v_.re v_.im)),(22,.d (.bool (decide (a2_.Kind = (2:Int)))))]) (objs:=[.box [.d (.int .i64 a2_.qaw),.d (.cx .f32 a2_.Own.re a2_.Own.im),.d (.cx .f32 a2_.Shared.re a2_.Shared.im),.d (.int .i64 a2_.Kind),.d (.cx .f32 a2_.Load.A.re a2_.Load.A.im),.d (.cx .f32 a2_.Load.B.re a2_.Load.B.im),.d (.cx .f32 a2_.Load.C.re a2_.Load.C.im),.d (.int .i64 a2_.qag)]]) rfl (by simp) rfl (by trivial) ⟨rfl,trivial,rfl,trivial,rfl,trivial,trivial⟩) ?_
    refine qaq rfl (fun hc9=>?_) (fun hc9=>?_)
    ·have h:=qk2 h hc9
     refine qa8<|qa2<|qa1 hτ rfl rfl rfl<|qa1 hτ rfl rfl rfl ?_
     refine qae hτ false [] rfl rfl rfl (qaj func90 rfl rfl) rfl rfl (by simp) ⟨trivial,trivial,trivial⟩ (by trivial) (qlj n v_ load_ h) ?_
     rintro r0 o0 n0 ⟨x10,h,rfl,rfl,rfl⟩ -
     refine qa1 hτ rfl rfl rfl<|qa5 ?_
     refine qaa (qa3 [0] (l:=[(5,.d (.cx .f32 x10.re x10.im))]) (objs:=[.box [.d (.int .i64 a2_.qaw),.d (.cx .f32 a2_.Own.re a2_.Own.im),.d (.cx .f32 a2_.Shared.re a2_.Shared.im),.d (.int .i64 a2_.Kind),.d (.cx .f32 a2_.Load.A.re a2_.Load.A.im),.d (.cx .f32 a2_.Load.B.re a2_.Load.B.im),.d (.cx .f32 a2_.Load.C.re a2_.Load.C.im),.d (.int .i64 a2_.qag)]]) rfl (by simp) rfl (by trivial) ⟨rfl,trivial,trivial⟩) ?_
     refine qap ?_
     exact qah (.inr rfl) [] (objs':=[.box [.d (.int .i64 a2_.qaw),.d (.cx .f32 a2_.Own.re a2_.Own.im),.d (.cx .f32 a2_.Shared.re a2_.Shared.im),.d (.int .i64 a2_.Kind),.d (.cx .f32 a2_.Load.A.re a2_.Load.A.im),.d (.cx .f32 a2_.Load.B.re a2_.Load.B.im),.d (.cx .f32 a2_.Load.C.re a2_.Load.C.im),.d (.int .i64 a2_.qag)]]) (new:=[]) rfl (by simp) (by simp) rfl (by trivial) rfl rfl (by trivial) (fun _=>⟨by simp [V.flat,V.qbg,V.qbb,D.flat],(qc8 (by simp [AObj.flat,V.qbb,D.flat]) qan)⟩) ⟨_,h,rfl,rfl,rfl⟩
    ·have h:=qk1 h hc9
     refine qat<|qa8<|qa2<|qa1 hτ rfl rfl rfl<|qa5 ?_
     refine qaa (qa3 [0] (l:=[(5,.d (.cx .f32 (0:Nat) (0:Nat)))]) (objs:=[.box [.d (.int .i64 a2_.qaw),.d (.cx .f32 a2_.Own.re a2_.Own.im),.d (.cx .f32 a2_.Shared.re a2_.Shared.im),.d (.int .i64 a2_.Kind),.d (.cx .f32 a2_.Load.A.re a2_.Load.A.im),.d (.cx .f32 a2_.Load.B.re a2_.Load.B.im),.d (.cx .f32 a2_.Load.C.re a2_.Load.C.im),.d (.int .i64 a2_.qag)]]) rfl (by simp) rfl (by trivial) ⟨rfl,trivial,trivial⟩) ?_
     refine qap ?_
     exact qah (.inr rfl) [] (objs':=[.box [.d (.int .i64 a2_.qaw),.d (.cx .f32 a2_.Own.re a2_.Own.im),.d (.cx .f32 a2_.Shared.re a2_.Shared.im),.d (.int .i64 a2_.Kind),.d (.cx .f32 a2_.Load.A.re a2_.Load.A.im),.d (.cx .f32 a2_.Load.B.re a2_.Load.B.im),.d (.cx .f32 a2_.Load.C.re a2_.Load.C.im),.d (.int .i64 a2_.qag)]]) (new:=[]) rfl (by simp) (by simp) rfl (by trivial) rfl rfl (by trivial) (fun _=>⟨by simp [V.flat,V.qbg,V.qbb,D.flat],(qc8 (by simp [AObj.flat,V.qbb,D.flat]) qan)⟩) ⟨_,h,rfl,rfl,rfl⟩
theorem qho (n:Nat) (load_:Cx) (v_:Cx) (a2_:SBus) {Q_:Cx→Prop} (h:qcp n load_ v_ a2_ Q_):qb1 prog false 88 [.d (.cx .f32 load_.re load_.im),.d (.cx .f32 v_.re v_.im),.ptr 0 0] [.box [.d (.int .i64 a2_.qaw),.d (.cx .f32 a2_.Own.re a2_.Own.im),.d (.cx .f32 a2_.Shared.re a2_.Shared.im),.d (.int .i64 a2_.Kind),.d (.cx .f32 a2_.Load.A.re a2_.Load.A.im),.d (.cx .f32 a2_.Load.B.re a2_.Load.B.im),.d (.cx .f32 a2_.Load.C.re a2_.Load.C.im),.d (.int .i64 a2_.qag)]] (fun v o new=>∃ r,Q_ r∧v = .d (.cx .f32 r.re r.im)∧o = [.box [.d (.int .i64 a2_.qaw),.d (.cx .f32 a2_.Own.re a2_.Own.im),.d (.cx .f32 a2_.Shared.re a2_.Shared.im),.d (.int .i64 a2_.Kind),.d (.cx .f32 a2_.Load.A.re a2_.Load.A.im),.d (.cx .f32 a2_.Load.B.re a2_.Load.B.im),.d (.cx .f32 a2_.Load.C.re a2_.Load.C.im),.d (.int .i64 a2_.qag)]]∧new = []):=impl_LoadCurrentOf_1_okP_fr0 false n load_ v_ a2_ h
def m_impl_each (n:Nat) (a_:qad) (b_:qad) (c_:SBus):Option qad :=
 (qij n a_.A b_.A c_).bind fun x4 =>
 (qij n a_.B b_.B c_).bind fun x5 =>
 (qij n a_.C b_.C c_).bind fun x6 =>
 some (qad.mk x4 x5 x6)
def qkq (n:Nat) (a_:qad) (b_:qad) (c_:SBus) (Q_:qad→Prop):Prop :=
 qcp n a_.A b_.A c_ fun x4 =>
 qcp n a_.B b_.B c_ fun x5 =>
 qcp n a_.C b_.C c_ fun x6 =>
 Q_ ((qad.mk x4 x5 x6))
theorem impl_each_okP_fr0 (fr:Bool) (n:Nat) (a_:qad) (b_:qad) (c_:SBus) {Q_:qad→Prop} (h:qkq n a_ b_ c_ Q_):qb1 prog fr 76 [.agg [.d (.cx .f32 a_.A.re a_.A.im),.d (.cx .f32 a_.B.re a_.B.im),.d (.cx .f32 a_.C.re a_.C.im)],.agg [.d (.cx .f32 b_.A.re b_.A.im),.d (.cx .f32 b_.B.re b_.B.im),.d (.cx .f32 b_.C.re b_.C.im)],.func 88 [] [.ptr 0 0]] [.box [.d (.int .i64 c_.qaw),.d (.cx .f32 c_.Own.re c_.Own.im),.d (.cx .f32 c_.Shared.re c_.Shared.im),.d (.int .i64 c_.Kind),.d (.cx .f32 c_.Load.A.re c_.Load.A.im),.d (.cx .f32 c_.Load.B.re c_.Load.B.im),.d (.cx .f32 c_.Load.C.re c_.Load.C.im),.d (.int .i64 c_.qag)]] (fun v o new=>∃ r,Q_ r∧v = .agg [.d (.cx .f32 r.A.re r.A.im),.d (.cx .f32 r.B.re r.B.im),.d (.cx .f32 r.C.re r.C.im)]∧o = [.box [.d (.int .i64 c_.qaw),.d (.cx .f32 c_.Own.re c_.Own.im),.d (.cx .f32 c_.Shared.re c_.Shared.im),.d (.int .i64 c_.Kind),.d (.cx .f32 c_.Load.A.re c_.Load.A.im),.d (.cx .f32 c_.Load.B.re c_.Load.B.im),.d (.cx .f32 c_.Load.C.re c_.Load.C.im),.d (.int .i64 c_.qag)]]∧new = []):=by
 refine qak hτ func76 rfl (by simp) (by simp) ?_
 unfold qkq at h
 refine qa8<|qa2<|qal hτ rfl rfl rfl<|qal hτ rfl rfl rfl<|qal hτ rfl rfl rfl ?_
 refine qa5<|qa8 ?_
 refine qk7 mixed ?_
 refine qa4 hτ [] 0 rfl rfl rfl rfl rfl ?_
 refine qa4 hτ [1] 1 rfl rfl rfl rfl rfl ?_
 refine qa4 hτ [1] 2 rfl rfl rfl rfl rfl ?_
 refine qa4 hτ [2] 3 rfl rfl rfl rfl rfl ?_
 refine qa4 hτ [2] 4 rfl rfl rfl rfl rfl ?_
 refine qa4 hτ [] 6 rfl rfl rfl rfl rfl ?_
 refine qa4 hτ [1] 7 rfl rfl rfl rfl rfl ?_
 refine qa4 hτ [1] 8 rfl rfl rfl rfl rfl ?_
 refine qa4 hτ [2] 9 rfl rfl rfl rfl rfl ?_
 refine qa4 hτ [2] 10 rfl rfl rfl rfl rfl ?_
 refine qa4 hτ [] 12 rfl rfl rfl rfl rfl ?_
 refine qa4 hτ [1] 13 rfl rfl rfl rfl rfl ?_
 refine qa4 hτ [1] 14 rfl rfl rfl rfl rfl ?_
 refine qa4 hτ [2] 15 rfl rfl rfl rfl rfl ?_
 refine qa4 hτ [2] 16 rfl rfl rfl rfl rfl ?_
 refine qgs [5] (by kernel_rfl) fun _ hfs=>⟨?_,trivial⟩
 refine qie hτ false [0] [0,1,2,3] hfs (by kernel_rfl) rfl rfl rfl rfl (qaj func88 rfl rfl) rfl rfl (by simp) ⟨trivial,trivial,trivial,trivial⟩ (by trivial) (qho n a_.A b_.A c_ h) (by rintro _ _ _ ⟨_,_,rfl,rfl,rfl⟩ _;exact ⟨rfl,rfl,rfl,rfl,trivial⟩) ?_
 rintro r0 o0 n0 ⟨x4,h,rfl,rfl,rfl⟩ - _
 refine qgs [11] (by kernel_rfl) fun _ hfs=>⟨?_,trivial⟩
 refine qie hτ false [0] [0,1,2,3] hfs (by kernel_rfl) rfl rfl rfl rfl (qaj func88 rfl rfl) rfl rfl (by simp) ⟨trivial,trivial,trivial,trivial⟩ (by trivial) (qho n a_.B b_.B c_ h) (by rintro _ _ _ ⟨_,_,rfl,rfl,rfl⟩ _;exact ⟨rfl,rfl,rfl,rfl,trivial⟩) ?_
 rintro r0 o0 n0 ⟨x5,h,rfl,rfl,rfl⟩ - _
 refine qgs [17] (by kernel_rfl) fun _ hfs=>⟨?_,trivial⟩
 refine qie hτ false [0] [0,1,2,3] hfs (by kernel_rfl) rfl rfl rfl rfl (qaj func88 rfl rfl) rfl rfl (by simp) ⟨trivial,trivial,trivial,trivial⟩ (by trivial) (qho n a_.C b_.C c_ h) (by rintro _ _ _ ⟨_,_,rfl,rfl,rfl⟩ _;exact ⟨rfl,rfl,rfl,rfl,trivial⟩) ?_
 rintro r0 o0 n0 ⟨x6,h,rfl,rfl,rfl⟩ - _
 refine qa4 hτ [] 18 rfl rfl rfl rfl rfl ?_
 refine qbf hτ [0,1,2] 19 rfl rfl rfl rfl ⟨rfl,rfl,rfl,trivial⟩ ?_
 refine qg2 (by kernel_rfl) ?_
 refine qaa (qa3 [0,3] (l:=[(6,.ptr 1 0)]) (objs:=[.box [.d (.int .i64 c_.qaw),.d (.cx .f32 c_.Own.re c_.Own.im),.d (.cx .f32 c_.Shared.re c_.Shared.im),.d (.int .i64 c_.Kind),.d (.cx .f32 c_.Load.A.re c_.Load.A.im),.d (.cx .f32 c_.Load.B.re c_.Load.B.im),.d (.cx .f32 c_.Load.C.re c_.Load.C.im),.d (.int .i64 c_.qag)],.box [.d (.cx .f32 x4.re x4.im),.d (.cx .f32 x5.re x5.im),.d (.cx .f32 x6.re x6.im)]]) rfl (by simp) rfl (by trivial) ⟨rfl,trivial,trivial⟩) ?_
 refine qap ?_
 exact qah (.inr rfl) [] (objs':=[.box [.d (.int .i64 c_.qaw),.d (.cx .f32 c_.Own.re c_.Own.im),.d (.cx .f32 c_.Shared.re c_.Shared.im),.d (.int .i64 c_.Kind),.d (.cx .f32 c_.Load.A.re c_.Load.A.im),.d (.cx .f32 c_.Load.B.re c_.Load.B.im),.d (.cx .f32 c_.Load.C.re c_.Load.C.im),.d (.int .i64 c_.qag)]]) (new:=[]) rfl (by simp) (by simp) rfl (by trivial) rfl rfl (by trivial) (fun _=>⟨by simp [V.flat,V.qbg,V.qbb,D.flat],(qc8 (by simp [AObj.flat,V.qbb,D.flat]) qan)⟩) ⟨_,h,rfl,rfl,rfl⟩
theorem impl_each_okP (n:Nat) (a_:qad) (b_:qad) (c_:SBus) {Q_:qad→Prop} (h:qkq n a_ b_ c_ Q_):qb1 prog false 76 [.agg [.d (.cx .f32 a_.A.re a_.A.im),.d (.cx .f32 a_.B.re a_.B.im),.d (.cx .f32 a_.C.re a_.C.im)],.agg [.d (.cx .f32 b_.A.re b_.A.im),.d (.cx .f32 b_.B.re b_.B.im),.d (.cx .f32 b_.C.re b_.C.im)],.func 88 [] [.ptr 0 0]] [.box [.d (.int .i64 c_.qaw),.d (.cx .f32 c_.Own.re c_.Own.im),.d (.cx .f32 c_.Shared.re c_.Shared.im),.d (.int .i64 c_.Kind),.d (.cx .f32 c_.Load.A.re c_.Load.A.im),.d (.cx .f32 c_.Load.B.re c_.Load.B.im),.d (.cx .f32 c_.Load.C.re c_.Load.C.im),.d (.int .i64 c_.qag)]] (fun v o new=>∃ r,Q_ r∧v = .agg [.d (.cx .f32 r.A.re r.A.im),.d (.cx .f32 r.B.re r.B.im),.d (.cx .f32 r.C.re r.C.im)]∧o = [.box [.d (.int .i64 c_.qaw),.d (.cx .f32 c_.Own.re c_.Own.im),.d (.cx .f32 c_.Shared.re c_.Shared.im),.d (.int .i64 c_.Kind),.d (.cx .f32 c_.Load.A.re c_.Load.A.im),.d (.cx .f32 c_.Load.B.re c_.Load.B.im),.d (.cx .f32 c_.Load.C.re c_.Load.C.im),.d (.int .i64 c_.qag)]]∧new = []):=impl_each_okP_fr0 false n a_ b_ c_ h
def m_impl_LoadCurrentOf (n:Nat) (b_:SBus) (voltage_:qad):Option qad :=
 (m_impl_each n b_.Load voltage_ b_).bind fun x2 =>
 some x2
def qea (n:Nat) (b_:SBus) (voltage_:qad) (Q_:qad→Prop):Prop :=
 qkq n b_.Load voltage_ b_ fun x2 =>
 Q_ (x2)
theorem impl_LoadCurrentOf_okP_fr0 (fr:Bool) (n:Nat) (b_:SBus) (voltage_:qad) {Q_:qad→Prop} (h:qea n b_ voltage_ Q_):qb1 prog fr 74 [.agg [.d (.int .i64 b_.qaw),.d (.cx .f32 b_.Own.re b_.Own.im),.d (.cx .f32 b_.Shared.re b_.Shared.im),.d (.int .i64 b_.Kind),.d (.cx .f32 b_.Load.A.re b_.Load.A.im),.d (.cx .f32 b_.Load.B.re b_.Load.B.im),.d (.cx .f32 b_.Load.C.re b_.Load.C.im),.d (.int .i64 b_.qag)],.agg [.d (.cx .f32 voltage_.A.re voltage_.A.im),.d (.cx .f32 voltage_.B.re voltage_.B.im),.d (.cx .f32 voltage_.C.re voltage_.C.im)]] [] (fun v o new=>∃ r,Q_ r∧v = .agg [.d (.cx .f32 r.A.re r.A.im),.d (.cx .f32 r.B.re r.B.im),.d (.cx .f32 r.C.re r.C.im)]∧o = []∧new = []):=by
 refine qak hτ func74 rfl (by simp) (by simp) ?_
 unfold qea at h
 refine qa8<|qa2<|qal hτ rfl rfl rfl<|qal hτ rfl rfl rfl<|qal hτ rfl rfl rfl ?_
 refine qa5<|qa8<|qa2<|qa1 hτ rfl rfl rfl<|qa1 hτ rfl rfl rfl ?_
 refine qa1 hτ rfl rfl rfl<|qa1 hτ rfl rfl rfl ?_
 refine qae hτ false [0] rfl rfl rfl (qaj func76 rfl rfl) rfl rfl (by simp) ⟨(by trivial),(by trivial),(by trivial),trivial⟩ (by trivial) (impl_each_okP n b_.Load voltage_ b_ h) ?_
 rintro r0 o0 n0 ⟨x2,h,rfl,rfl,rfl⟩ -
 refine qal hτ rfl rfl rfl<|qa5 ?_
 refine qaa (qa3 [2] (l:=[(4,.ptr 0 0)]) (objs:=[.box [.d (.cx .f32 x2.A.re x2.A.im),.d (.cx .f32 x2.B.re x2.B.im),.d (.cx .f32 x2.C.re x2.C.im)]]) rfl (by simp) rfl (by trivial) ⟨rfl,trivial,trivial⟩) ?_
 refine qap ?_
 exact qah (.inr rfl) [] (objs':=[]) (new:=[]) rfl (by simp) (by simp) rfl (by trivial) rfl rfl (by trivial) (fun _=>⟨by simp [V.flat,V.qbg,V.qbb,D.flat],qan⟩) ⟨_,h,rfl,rfl,rfl⟩
theorem impl_LoadCurrentOf_okP (n:Nat) (b_:SBus) (voltage_:qad) {Q_:qad→Prop} (h:qea n b_ voltage_ Q_):qb1 prog false 74 [.agg [.d (.int .i64 b_.qaw),.d (.cx .f32 b_.Own.re b_.Own.im),.d (.cx .f32 b_.Shared.re b_.Shared.im),.d (.int .i64 b_.Kind),.d (.cx .f32 b_.Load.A.re b_.Load.A.im),.d (.cx .f32 b_.Load.B.re b_.Load.B.im),.d (.cx .f32 b_.Load.C.re b_.Load.C.im),.d (.int .i64 b_.qag)],.agg [.d (.cx .f32 voltage_.A.re voltage_.A.im),.d (.cx .f32 voltage_.B.re voltage_.B.im),.d (.cx .f32 voltage_.C.re voltage_.C.im)]] [] (fun v o new=>∃ r,Q_ r∧v = .agg [.d (.cx .f32 r.A.re r.A.im),.d (.cx .f32 r.B.re r.B.im),.d (.cx .f32 r.C.re r.C.im)]∧o = []∧new = []):=impl_LoadCurrentOf_okP_fr0 false n b_ voltage_ h
def qk5 (n:Nat) (f_:qau) (voltages_:List qad):Nat→List qad→Int→Option (List qad)
 | 0,_,_=>none
 | m25 + 1,v17,v18 =>
  if v18 < (f_.qa7.length:Int) then
   (getI f_.qa7 v18).bind fun x28 =>
   (getI voltages_ v18).bind fun x29 =>
   (m_impl_LoadCurrentOf n x28 x29).bind fun x30 =>
   grd (room (v17.length + 1) 24) <|
   (qk5 n f_ voltages_ m25) (v17 ++ [x30]) (w64 (v18 + (1:Int)))
  else
   some v17
def m_impl_Feeder_loads (n:Nat) (f_:qau) (voltages_:List qad):Option (List qad) :=
 qk5 n f_ voltages_ n ([]:List qad) (0:Int)
def qco (n:Nat) (Q_:List qad→Prop) (f_:qau) (voltages_:List qad):Nat→List qad→Int→Prop
 | 0,_,_=>False
 | m25 + 1,v17,v18 =>
  if v18 < (f_.qa7.length:Int) then
   bndP (getI f_.qa7 v18) fun x28 =>
   bndP (getI voltages_ v18) fun x29 =>
   qea n x28 x29 fun x30 =>
   grdP (room (v17.length + 1) 24) <|
   (qco n Q_ f_ voltages_ m25) (v17 ++ [x30]) (w64 (v18 + (1:Int)))
  else
   Q_ (v17)
def qhm (n:Nat) (f_:qau) (voltages_:List qad) (Q_:List qad→Prop):Prop :=
 qco n Q_ f_ voltages_ n ([]:List qad) (0:Int)
theorem impl_Feeder_loads_okP (n:Nat) (f_:qau) (voltages_:List qad) {Q_:List qad→Prop} (h:qhm n f_ voltages_ Q_):qb1 prog false 58 [.ptr 0 0,.d (.sl false (voltages_.map qai))] [.box [.d (.cx .f32 f_.Source.A.re f_.Source.A.im),.d (.cx .f32 f_.Source.B.re f_.Source.B.im),.d (.cx .f32 f_.Source.C.re f_.Source.C.im),.d (.sl false (f_.qa7.map qac))]] (fun v o new=>∃ r,Q_ r∧v = .row 1 r.length 0 r.length∧o = [.box [.d (.cx .f32 f_.Source.A.re f_.Source.A.im),.d (.cx .f32 f_.Source.B.re f_.Source.B.im),.d (.cx .f32 f_.Source.C.re f_.Source.C.im),.d (.sl false (f_.qa7.map qac))]]∧new = [.row 3 (r.map qai)]):=by
 refine qak hτ func58 rfl (by simp) (by simp) ?_
 unfold qhm at h
 refine qa8<|qa2<|qa1 hτ rfl rfl rfl<|qa5<|qa8 ?_
 refine qa2<|qal hτ rfl rfl rfl<|qa1 hτ rfl rfl rfl<|qa5<|qa8 ?_
 refine qa8<|qa2<|qa1 hτ rfl rfl rfl<|qa1 hτ rfl rfl rfl<|qa1 hτ rfl rfl rfl ?_
 refine qa1 hτ rfl rfl rfl ?_
 refine qa1 hτ (v:=.d (.int .i64 (f_.qa7.length:Int))) rfl rfl (Eq.trans rfl (qei (f:=qac) f_.qa7)) ?_
 refine qa1 hτ rfl rfl rfl<|qa5<|qay ?_
 refine qde (ι:=Nat × List qad × Int) (fun (m25,v17,v18)=>St.of [(1,.d (.sl false (voltages_.map qai))),(5,.row 1 v17.length 0 v17.length),(12,.d (.sl false (f_.qa7.map qac))),(13,.d (.int .i64 (f_.qa7.length:Int))),(14,.d (.int .i64 v18))] [.box [.d (.cx .f32 f_.Source.A.re f_.Source.A.im),.d (.cx .f32 f_.Source.B.re f_.Source.B.im),.d (.cx .f32 f_.Source.C.re f_.Source.C.im),.d (.sl false (f_.qa7.map qac))],.row 3 (v17.map qai)] f58.ntmps 1) (fun (m25,v17,v18)=>qco n Q_ f_ voltages_ m25 v17 v18) (fun x=>x.1) (n,([]:List qad),(0:Int)) h (qa3 [0,1] (l:=[(1,.d (.sl false (voltages_.map qai))),(5,.row 1 (([]:List qad).length) 0 (([]:List qad).length)),(12,.d (.sl false (f_.qa7.map qac))),(13,.d (.int .i64 (f_.qa7.length:Int))),(14,.d (.int .i64 (0:Int)))]) (objs:=[.box [.d (.cx .f32 f_.Source.A.re f_.Source.A.im),.d (.cx .f32 f_.Source.B.re f_.Source.B.im),.d (.cx .f32 f_.Source.C.re f_.Source.C.im),.d (.sl false (f_.qa7.map qac))],.row 3 (([]:List qad).map qai)]) rfl (by simp) rfl (by trivial) ⟨rfl,trivial,rfl,trivial,rfl,trivial,rfl,trivial,rfl,trivial,trivial⟩) ?_
 rintro ⟨m25,v17,v18⟩ h
 replace h:qco n Q_ f_ voltages_ m25 v17 v18:=h
 rcases m25 with _ | m25
 ·rw [qco] at h;cases h
 rw [qco] at h
 refine qa8<|qa2<|qa1 hτ rfl rfl rfl<|qa5<|qa8 ?_
 refine qaq rfl (fun hc27=>?_) (fun hc27=>?_)
 ·have h:=qk2 h hc27
  refine qat<|qa8<|qay<|qa8<|qa2 ?_
  refine qa1 hτ rfl rfl rfl ?_
  refine qaz h fun x28 hx28 h=>?_
  refine qce hτ rfl rfl rfl (qb8 hx28).1 (qbm hx28) rfl ?_
  refine qa1 hτ rfl rfl rfl<|qal hτ rfl rfl rfl<|qa1 hτ rfl rfl rfl<|qal hτ rfl rfl rfl<|qa5 ?_
  refine qaa (qa3 [0,1,2] (l:=[(1,.d (.sl false (voltages_.map qai))),(5,.row 1 v17.length 0 v17.length),(6,.d (.int .i64 v18)),(7,.ptr 2 0),(12,.d (.sl false (f_.qa7.map qac))),(13,.d (.int .i64 (f_.qa7.length:Int))),(14,.d (.int .i64 v18))]) (objs:=[.box [.d (.cx .f32 f_.Source.A.re f_.Source.A.im),.d (.cx .f32 f_.Source.B.re f_.Source.B.im),.d (.cx .f32 f_.Source.C.re f_.Source.C.im),.d (.sl false (f_.qa7.map qac))],.row 3 (v17.map qai),.box [.d (.int .i64 x28.qaw),.d (.cx .f32 x28.Own.re x28.Own.im),.d (.cx .f32 x28.Shared.re x28.Shared.im),.d (.int .i64 x28.Kind),.d (.cx .f32 x28.Load.A.re x28.Load.A.im),.d (.cx .f32 x28.Load.B.re x28.Load.B.im),.d (.cx .f32 x28.Load.C.re x28.Load.C.im),.d (.int .i64 x28.qag)]]) rfl (by simp) rfl (by trivial) ⟨rfl,trivial,rfl,trivial,rfl,trivial,rfl,trivial,rfl,trivial,rfl,trivial,rfl,trivial,trivial⟩) ?_
  refine qk7 mixed ?_
  refine qa4 hτ [] 0 rfl rfl rfl rfl rfl ?_
  refine qa4 hτ [2] 1 rfl rfl rfl rfl rfl ?_
  refine qa4 hτ [] 2 rfl rfl rfl rfl rfl ?_
  refine qa4 hτ [] 3 rfl rfl rfl rfl rfl ?_
  refine qaz h fun x29 hx29 h=>?_
  refine qbx hτ [] 4 rfl rfl rfl rfl rfl (qb8 hx29).1 (qbm hx29) rfl ?_
  refine qa4 hτ [] 5 rfl rfl rfl rfl rfl ?_
  refine qgs [6] (by kernel_rfl) fun _ hfs=>⟨?_,trivial⟩
  refine qie hτ false [] [0,1,2] hfs (by kernel_rfl) rfl rfl rfl rfl (qaj func74 rfl rfl) rfl rfl (by simp) ⟨(by trivial),(by trivial),trivial⟩ (by trivial) (impl_LoadCurrentOf_okP n x28 x29 h) (by rintro _ _ _ ⟨_,_,rfl,rfl,rfl⟩ _;exact ⟨rfl,rfl,rfl,trivial⟩) ?_
  rintro r0 o0 n0 ⟨x30,h,rfl,rfl,rfl⟩ - _
  refine qbf hτ [0,1,2] 7 rfl rfl rfl rfl ⟨rfl,rfl,rfl,trivial⟩ ?_
  refine qq0 h fun hg31 h=>?_
  refine qif hτ [0,2,3] 8 rfl rfl rfl (Eq.trans rfl (or_append (f:=qai) v17 [x30] rfl)) ⟨⟨rfl,Nat.le_of_ble_eq_true rfl⟩,qb4 _,rfl,rfl,hg31,by decide,(all1 rfl)⟩ ⟨rfl,rfl,rfl,trivial⟩ ?_
  refine qa4 hτ [] 9 rfl rfl rfl rfl rfl ?_
  refine qg2 (by kernel_rfl) ?_
  refine qaa (qa3 [0,1] (l:=[(1,.d (.sl false (voltages_.map qai))),(5,.row 1 ((v17 ++ [x30]).length) 0 ((v17 ++ [x30]).length)),(12,.d (.sl false (f_.qa7.map qac))),(13,.d (.int .i64 (f_.qa7.length:Int))),(14,.d (.int .i64 v18))]) (objs:=[.box [.d (.cx .f32 f_.Source.A.re f_.Source.A.im),.d (.cx .f32 f_.Source.B.re f_.Source.B.im),.d (.cx .f32 f_.Source.C.re f_.Source.C.im),.d (.sl false (f_.qa7.map qac))],.row 3 ((v17 ++ [x30]).map qai)]) rfl (by simp) rfl (by trivial) ⟨rfl,trivial,rfl,trivial,rfl,trivial,rfl,trivial,rfl,trivial,trivial⟩) ?_
  refine qa2<|qa1 hτ rfl rfl rfl<|qa1 hτ rfl rfl rfl<|qa5 ?_
  exact ⟨(m25,(v17 ++ [x30]),(w64 (v18 + (1:Int)))),h,Nat.lt_succ_self m25,(qa3 [0,1] (l:=[(1,.d (.sl false (voltages_.map qai))),(5,.row 1 ((v17 ++ [x30]).length) 0 ((v17 ++ [x30]).length)),(12,.d (.sl false (f_.qa7.map qac))),(13,.d (.int .i64 (f_.qa7.length:Int))),(14,.d (.int .i64 (w64 (v18 + (1:Int)))))]) (objs:=[.box [.d (.cx .f32 f_.Source.A.re f_.Source.A.im),.d (.cx .f32 f_.Source.B.re f_.Source.B.im),.d (.cx .f32 f_.Source.C.re f_.Source.C.im),.d (.sl false (f_.qa7.map qac))],.row 3 ((v17 ++ [x30]).map qai)]) rfl (by simp) rfl (by trivial) ⟨rfl,trivial,rfl,trivial,rfl,trivial,rfl,trivial,rfl,trivial,trivial⟩)⟩
 ·have h:=qk1 h hc27
  refine qd3<|qa8<|qa2<|qa1 hτ rfl rfl rfl<|qa1 hτ rfl rfl rfl ?_
  refine qa5 ?_
  refine qaa (qa3 [0,1] (l:=[(4,.row 1 v17.length 0 v17.length)]) (objs:=[.box [.d (.cx .f32 f_.Source.A.re f_.Source.A.im),.d (.cx .f32 f_.Source.B.re f_.Source.B.im),.d (.cx .f32 f_.Source.C.re f_.Source.C.im),.d (.sl false (f_.qa7.map qac))],.row 3 (v17.map qai)]) rfl (by simp) rfl (by trivial) ⟨rfl,trivial,trivial⟩) ?_
  refine qap ?_
  exact qah (.inr rfl) [1] (objs':=[.box [.d (.cx .f32 f_.Source.A.re f_.Source.A.im),.d (.cx .f32 f_.Source.B.re f_.Source.B.im),.d (.cx .f32 f_.Source.C.re f_.Source.C.im),.d (.sl false (f_.qa7.map qac))]]) (new:=[.row 3 (v17.map qai)]) rfl (by simp) (by simp) rfl (by trivial) rfl rfl (by trivial) (fun h=>nomatch h) ⟨_,h,rfl,rfl,rfl⟩
def qgw (n:Nat) (s_:List qad):Option (List qad) :=
 grd (room (([]:List qad).length + s_.length) 24) <|
 some (([]:List qad) ++ s_)
theorem slices_Clone_2_ok_fr0 (fr:Bool) (n:Nat) (s_:List qad) {r:List qad} (h:qgw n s_ = some r):qb1 prog fr 72 [.d (.sl false (s_.map qai))] [] (fun v o new=>v = .row 0 r.length 0 r.length∧o = []∧new = [.row 3 (r.map qai)]):=by
 refine qak hτ func72 rfl (by simp) (by simp) ?_
 unfold qgw at h
 refine qa8<|qa2<|qa1 hτ rfl rfl rfl<|qa5<|qa8 ?_
 refine qa8<|qa2<|qa1 hτ rfl rfl rfl ?_
 refine qsv rfl rfl (qwf hτ rfl rfl rfl rfl rfl) fun q4 hq4=>?_
 refine qa5 ?_
 refine qaq rfl (fun hc5=>?_) (fun hc5=>?_)
 ·have hl:=List.map_eq_nil_iff.1 (hq4 (by simpa using hc5))
  subst hl
  replace h:(some ([]:List qad)) = some r:=by simpa [grd,room] using h
  refine qa8<|qa2<|qa1 hτ rfl rfl rfl<|qa5 ?_
  refine qaa (qa3 [] (l:=[(2,.d (.nils))]) (objs:=[]) rfl (by simp) rfl (by trivial) ⟨rfl,trivial,trivial⟩) ?_
  refine qaa (qjc [3] (l':=[(2,.row 0 (([]:List qad).length) 0 (([]:List qad).length))]) (objs':=[]) (.cons (.c (.ghost ⟨Nat.le_of_ble_eq_true rfl,Nat.le_of_ble_eq_true rfl⟩)) .nil) .nil) ?_
  refine qap ?_
  have hr:=Option.some.inj h
  subst hr
  exact qah (.inr rfl) [0] (objs':=[]) (new:=[.row 3 (([]:List qad).map qai)]) rfl (by simp) (by simp) rfl (by trivial) rfl rfl (by trivial) (fun _=>⟨by simp [V.flat,V.qbg,V.qbb,D.flat],(qc8 (qgt qmd _) qan)⟩) ⟨rfl,rfl,rfl⟩
 ·refine qat<|qa8<|qa2<|qal hτ rfl rfl rfl<|qa1 hτ rfl rfl rfl ?_
  refine qci h fun hg6 h=>?_
  refine qi7 hτ rfl rfl (Eq.trans rfl (or_append (f:=qai) ([]:List qad) s_ rfl)) ⟨trivial,qb4 _,rfl,rfl,(qv1 (f:=qai) hg6),by decide,(qo9 (f:=qai) (fun _=>rfl) _)⟩ ?_
  refine qa1 hτ rfl rfl rfl<|qa5 ?_
  refine qaa (qa3 [0] (l:=[(2,.row 0 ((([]:List qad) ++ s_).length) 0 ((([]:List qad) ++ s_).length))]) (objs:=[.row 3 ((([]:List qad) ++ s_).map qai)]) rfl (by simp) rfl (by trivial) ⟨rfl,trivial,trivial⟩) ?_
  refine qap ?_
  have hr:=Option.some.inj h
  subst hr
  exact qah (.inr rfl) [0] (objs':=[]) (new:=[.row 3 ((([]:List qad) ++ s_).map qai)]) rfl (by simp) (by simp) rfl (by trivial) rfl rfl (by trivial) (fun _=>⟨by simp [V.flat,V.qbg,V.qbb,D.flat],(qc8 (qgt qmd _) qan)⟩) ⟨rfl,rfl,rfl⟩
theorem slices_Clone_2_ok (n:Nat) (s_:List qad) {r:List qad} (h:qgw n s_ = some r):qb1 prog false 72 [.d (.sl false (s_.map qai))] [] (fun v o new=>v = .row 0 r.length 0 r.length∧o = []∧new = [.row 3 (r.map qai)]):=slices_Clone_2_ok_fr0 false n s_ h
def qjm (n:Nat) (__:Int) (p_:qad):Option qad :=
 some p_
theorem impl_same_ok_fr0 (fr:Bool) (n:Nat) (__:Int) (p_:qad) {r:qad} (h:qjm n __ p_ = some r):qb1 prog fr 41 [.d (.int .i64 __),.agg [.d (.cx .f32 p_.A.re p_.A.im),.d (.cx .f32 p_.B.re p_.B.im),.d (.cx .f32 p_.C.re p_.C.im)]] [] (fun v o new=>v = .agg [.d (.cx .f32 r.A.re r.A.im),.d (.cx .f32 r.B.re r.B.im),.d (.cx .f32 r.C.re r.C.im)]∧o = []∧new = []):=by
 refine qak hτ func41 rfl (by simp) (by simp) ?_
 unfold qjm at h
 refine qa8<|qa2<|qal hτ rfl rfl rfl<|qal hτ rfl rfl rfl<|qa5 ?_
 refine qa8<|qa2<|qa1 hτ rfl rfl rfl<|qal hτ rfl rfl rfl<|qa5 ?_
 refine qaa (qa3 [1] (l:=[(4,.ptr 0 0)]) (objs:=[.box [.d (.cx .f32 p_.A.re p_.A.im),.d (.cx .f32 p_.B.re p_.B.im),.d (.cx .f32 p_.C.re p_.C.im)]]) rfl (by simp) rfl (by trivial) ⟨rfl,trivial,trivial⟩) ?_
 refine qap ?_
 have hr:=Option.some.inj h
 subst hr
 exact qah (.inr rfl) [] (objs':=[]) (new:=[]) rfl (by simp) (by simp) rfl (by trivial) rfl rfl (by trivial) (fun _=>⟨by simp [V.flat,V.qbg,V.qbb,D.flat],qan⟩) ⟨rfl,rfl,rfl⟩
theorem qp2 (n:Nat) (__:Int) (p_:qad) {r:qad} (h:qjm n __ p_ = some r):qb1 prog false 41 [.d (.int .i64 __),.agg [.d (.cx .f32 p_.A.re p_.A.im),.d (.cx .f32 p_.B.re p_.B.im),.d (.cx .f32 p_.C.re p_.C.im)]] [] (fun v o new=>v = .agg [.d (.cx .f32 r.A.re r.A.im),.d (.cx .f32 r.B.re r.B.im),.d (.cx .f32 r.C.re r.C.im)]∧o = []∧new = []):=impl_same_ok_fr0 false n __ p_ h
def qkd (n:Nat) (x_:Cx) (y_:Cx):Option Cx :=
 some (Cx.mk (qao .add .f32 x_.re y_.re) (qao .add .f32 x_.im y_.im))
theorem impl_plus_ok_fr0 (fr:Bool) (n:Nat) (x_:Cx) (y_:Cx) {r:Cx} (h:qkd n x_ y_ = some r):qb1 prog fr 87 [.d (.cx .f32 x_.re x_.im),.d (.cx .f32 y_.re y_.im)] [] (fun v o new=>v = .d (.cx .f32 r.re r.im)∧o = []∧new = []):=by
 refine qak hτ func87 rfl (by simp) (by simp) ?_
 unfold qkd at h
 refine qa8<|qa2<|qa1 hτ rfl rfl rfl<|qa5<|qa8 ?_
 refine qa2<|qa1 hτ rfl rfl rfl<|qa1 hτ rfl rfl rfl<|qa1 hτ rfl rfl rfl<|qa1 hτ rfl rfl rfl ?_
 refine qa5 ?_
 refine qaa (qa3 [] (l:=[(4,.d (.cx .f32 (qao .add .f32 x_.re y_.re) (qao .add .f32 x_.im y_.im)))]) (objs:=[]) rfl (by simp) rfl (by trivial) ⟨rfl,trivial,trivial⟩) ?_
 refine qap ?_
 have hr:=Option.some.inj h
 subst hr
 exact qah (.inr rfl) [] (objs':=[]) (new:=[]) rfl (by simp) (by simp) rfl (by trivial) rfl rfl (by trivial) (fun _=>⟨by simp [V.flat,V.qbg,V.qbb,D.flat],qan⟩) ⟨rfl,rfl,rfl⟩
theorem qmx (n:Nat) (x_:Cx) (y_:Cx) {r:Cx} (h:qkd n x_ y_ = some r):qb1 prog false 87 [.d (.cx .f32 x_.re x_.im),.d (.cx .f32 y_.re y_.im)] [] (fun v o new=>v = .d (.cx .f32 r.re r.im)∧o = []∧new = []):=impl_plus_ok_fr0 false n x_ y_ h
def ql8 (n:Nat) (a_:qad) (b_:qad):Option qad :=
 (qkd n a_.A b_.A).bind fun x4 =>
 (qkd n a_.B b_.B).bind fun x5 =>
 (qkd n a_.C b_.C).bind fun x6 =>
 some (qad.mk x4 x5 x6)
theorem impl_each_2_ok_fr0 (fr:Bool) (n:Nat) (a_:qad) (b_:qad) {r:qad} (h:ql8 n a_ b_ = some r):qb1 prog fr 76 [.agg [.d (.cx .f32 a_.A.re a_.A.im),.d (.cx .f32 a_.B.re a_.B.im),.d (.cx .f32 a_.C.re a_.C.im)],.agg [.d (.cx .f32 b_.A.re b_.A.im),.d (.cx .f32 b_.B.re b_.B.im),.d (.cx .f32 b_.C.re b_.C.im)],.func 87 [] []] [] (fun v o new=>v = .agg [.d (.cx .f32 r.A.re r.A.im),.d (.cx .f32 r.B.re r.B.im),.d (.cx .f32 r.C.re r.C.im)]∧o = []∧new = []):=by
 refine qak hτ func76 rfl (by simp) (by simp) ?_
 unfold ql8 at h
 refine qa8<|qa2<|qal hτ rfl rfl rfl<|qal hτ rfl rfl rfl<|qal hτ rfl rfl rfl ?_
 refine qa5<|qa8<|qd5 ?_
 refine qa4 hτ [] 0 rfl rfl rfl rfl rfl ?_
 refine qa4 hτ [0] 1 rfl rfl rfl rfl rfl ?_
 refine qa4 hτ [0] 2 rfl rfl rfl rfl rfl ?_
 refine qa4 hτ [1] 3 rfl rfl rfl rfl rfl ?_
 refine qa4 hτ [1] 4 rfl rfl rfl rfl rfl ?_
 refine qa4 hτ [] 6 rfl rfl rfl rfl rfl ?_
 refine qa4 hτ [0] 7 rfl rfl rfl rfl rfl ?_
 refine qa4 hτ [0] 8 rfl rfl rfl rfl rfl ?_
 refine qa4 hτ [1] 9 rfl rfl rfl rfl rfl ?_
 refine qa4 hτ [1] 10 rfl rfl rfl rfl rfl ?_
 refine qa4 hτ [] 12 rfl rfl rfl rfl rfl ?_
 refine qa4 hτ [0] 13 rfl rfl rfl rfl rfl ?_
 refine qa4 hτ [0] 14 rfl rfl rfl rfl rfl ?_
 refine qa4 hτ [1] 15 rfl rfl rfl rfl rfl ?_
 refine qa4 hτ [1] 16 rfl rfl rfl rfl rfl ?_
 refine qaf h fun x4 hx4 h=>?_
 refine qcf hτ false [] [0,1,2] 5 rfl rfl rfl rfl (qaj func87 rfl rfl) rfl rfl (by simp) ⟨trivial,trivial,trivial⟩ (by trivial) (qmx n a_.A b_.A hx4) ⟨rfl,rfl,rfl,trivial⟩ ?_
 refine qaf h fun x5 hx5 h=>?_
 refine qcf hτ false [] [0,1,2] 11 rfl rfl rfl rfl (qaj func87 rfl rfl) rfl rfl (by simp) ⟨trivial,trivial,trivial⟩ (by trivial) (qmx n a_.B b_.B hx5) ⟨rfl,rfl,rfl,trivial⟩ ?_
 refine qaf h fun x6 hx6 h=>?_
 refine qcf hτ false [] [0,1,2] 17 rfl rfl rfl rfl (qaj func87 rfl rfl) rfl rfl (by simp) ⟨trivial,trivial,trivial⟩ (by trivial) (qmx n a_.C b_.C hx6) ⟨rfl,rfl,rfl,trivial⟩ ?_
 refine qa4 hτ [] 18 rfl rfl rfl rfl rfl ?_
 refine qbf hτ [0,1] 19 rfl rfl rfl rfl ⟨rfl,rfl,trivial⟩ ?_
 refine qbo mixed (by kernel_rfl) ?_
 refine qaa (qa3 [2] (l:=[(6,.ptr 0 0)]) (objs:=[.box [.d (.cx .f32 x4.re x4.im),.d (.cx .f32 x5.re x5.im),.d (.cx .f32 x6.re x6.im)]]) rfl (by simp) rfl (by trivial) ⟨rfl,trivial,trivial⟩) ?_
 refine qap ?_
 have hr:=Option.some.inj h
 subst hr
 exact qah (.inr rfl) [] (objs':=[]) (new:=[]) rfl (by simp) (by simp) rfl (by trivial) rfl rfl (by trivial) (fun _=>⟨by simp [V.flat,V.qbg,V.qbb,D.flat],qan⟩) ⟨rfl,rfl,rfl⟩
theorem impl_each_2_ok (n:Nat) (a_:qad) (b_:qad) {r:qad} (h:ql8 n a_ b_ = some r):qb1 prog false 76 [.agg [.d (.cx .f32 a_.A.re a_.A.im),.d (.cx .f32 a_.B.re a_.B.im),.d (.cx .f32 a_.C.re a_.C.im)],.agg [.d (.cx .f32 b_.A.re b_.A.im),.d (.cx .f32 b_.B.re b_.B.im),.d (.cx .f32 b_.C.re b_.C.im)],.func 87 [] []] [] (fun v o new=>v = .agg [.d (.cx .f32 r.A.re r.A.im),.d (.cx .f32 r.B.re r.B.im),.d (.cx .f32 r.C.re r.C.im)]∧o = []∧new = []):=impl_each_2_ok_fr0 false n a_ b_ h
def qi9 (n:Nat) (a_:qad) (b_:qad):Option qad :=
 (ql8 n a_ b_).bind fun x2 =>
 some x2
theorem impl_AddPhases_ok_fr0 (fr:Bool) (n:Nat) (a_:qad) (b_:qad) {r:qad} (h:qi9 n a_ b_ = some r):qb1 prog fr 73 [.agg [.d (.cx .f32 a_.A.re a_.A.im),.d (.cx .f32 a_.B.re a_.B.im),.d (.cx .f32 a_.C.re a_.C.im)],.agg [.d (.cx .f32 b_.A.re b_.A.im),.d (.cx .f32 b_.B.re b_.B.im),.d (.cx .f32 b_.C.re b_.C.im)]] [] (fun v o new=>v = .agg [.d (.cx .f32 r.A.re r.A.im),.d (.cx .f32 r.B.re r.B.im),.d (.cx .f32 r.C.re r.C.im)]∧o = []∧new = []):=by
 refine qak hτ func73 rfl (by simp) (by simp) ?_
 unfold qi9 at h
 refine qa8<|qa2<|qal hτ rfl rfl rfl<|qal hτ rfl rfl rfl<|qal hτ rfl rfl rfl ?_
 refine qa5<|qa8<|qa2<|qa1 hτ rfl rfl rfl<|qa1 hτ rfl rfl rfl ?_
 refine qaf h fun x2 hx2 h=>?_
 refine qae hτ false [] rfl rfl rfl (qaj func76 rfl rfl) rfl rfl (by simp) ⟨(by trivial),(by trivial),(by trivial),trivial⟩ (by trivial) (impl_each_2_ok n a_ b_ hx2) ?_
 rintro r0 o0 n0 ⟨rfl,rfl,rfl⟩ -
 refine qal hτ rfl rfl rfl<|qa5 ?_
 refine qaa (qa3 [2] (l:=[(4,.ptr 0 0)]) (objs:=[.box [.d (.cx .f32 x2.A.re x2.A.im),.d (.cx .f32 x2.B.re x2.B.im),.d (.cx .f32 x2.C.re x2.C.im)]]) rfl (by simp) rfl (by trivial) ⟨rfl,trivial,trivial⟩) ?_
 refine qap ?_
 have hr:=Option.some.inj h
 subst hr
 exact qah (.inr rfl) [] (objs':=[]) (new:=[]) rfl (by simp) (by simp) rfl (by trivial) rfl rfl (by trivial) (fun _=>⟨by simp [V.flat,V.qbg,V.qbb,D.flat],qan⟩) ⟨rfl,rfl,rfl⟩
theorem impl_AddPhases_ok (n:Nat) (a_:qad) (b_:qad) {r:qad} (h:qi9 n a_ b_ = some r):qb1 prog false 73 [.agg [.d (.cx .f32 a_.A.re a_.A.im),.d (.cx .f32 a_.B.re a_.B.im),.d (.cx .f32 a_.C.re a_.C.im)],.agg [.d (.cx .f32 b_.A.re b_.A.im),.d (.cx .f32 b_.B.re b_.B.im),.d (.cx .f32 b_.C.re b_.C.im)]] [] (fun v o new=>v = .agg [.d (.cx .f32 r.A.re r.A.im),.d (.cx .f32 r.B.re r.B.im),.d (.cx .f32 r.C.re r.C.im)]∧o = []∧new = []):=impl_AddPhases_ok_fr0 false n a_ b_ h
def qd6 (n:Nat) (f_:qau):Nat→List qad→Int→Option (List qad)
 | 0,_,_=>none
 | m35 + 1,v25,v26 =>
  if v26 > (0:Int) then
   (getI v25 v26).bind fun x38 =>
   (qjm n v26 x38).bind fun x39 =>
   (getI f_.qa7 v26).bind fun x40 =>
   (getI (v25.set v26.toNat x39) x40.qaw).bind fun x41 =>
   (getI (v25.set v26.toNat x39) v26).bind fun x42 =>
   (qi9 n x41 x42).bind fun x43 =>
   (qd6 n f_ m35) ((v25.set v26.toNat x39).set x40.qaw.toNat x43) (w64 (v26 - (1:Int)))
  else
   some v25
def qfu (n:Nat) (f_:qau) (loads_:List qad):Option (List qad) :=
 (qgw n loads_).bind fun x18 =>
 qd6 n f_ n x18 (w64 ((x18.length:Int) - (1:Int)))
theorem impl_Feeder_back_ok (n:Nat) (f_:qau) (loads_:List qad) {r:List qad} (h:qfu n f_ loads_ = some r):qb1 prog false 57 [.ptr 0 0,.d (.sl false (loads_.map qai)),.func 41 [] []] [.box [.d (.cx .f32 f_.Source.A.re f_.Source.A.im),.d (.cx .f32 f_.Source.B.re f_.Source.B.im),.d (.cx .f32 f_.Source.C.re f_.Source.C.im),.d (.sl false (f_.qa7.map qac))]] (fun v o new=>v = .row 1 r.length 0 r.length∧o = [.box [.d (.cx .f32 f_.Source.A.re f_.Source.A.im),.d (.cx .f32 f_.Source.B.re f_.Source.B.im),.d (.cx .f32 f_.Source.C.re f_.Source.C.im),.d (.sl false (f_.qa7.map qac))]]∧new = [.row 3 (r.map qai)]):=by
 refine qak hτ func57 rfl (by simp) (by simp) ?_
 unfold qfu at h
 refine qa8<|qa2<|qa1 hτ rfl rfl rfl<|qa5<|qa8 ?_
 refine qa2<|qa1 hτ rfl rfl rfl ?_
 refine qaf h fun x18 hx18 h=>?_
 refine qae hτ false [] rfl rfl rfl (qaj func72 rfl rfl) rfl rfl (by simp) ⟨trivial,trivial⟩ (by trivial) (slices_Clone_2_ok n loads_ hx18) ?_
 rintro r0 o0 n0 ⟨rfl,rfl,rfl⟩ -
 refine qa1 hτ rfl rfl rfl<|qa5<|qa8<|qa8<|qa2 ?_
 refine qa1 hτ rfl rfl rfl ?_
 refine qcg hτ rfl rfl rfl (qb4 _) ?_
 refine qa1 hτ rfl rfl rfl<|qa1 hτ rfl rfl rfl<|qa5<|qay ?_
 refine qde (ι:=Nat × List qad × Int) (fun (m35,v25,v26)=>St.of [(0,.ptr 0 0),(2,.func 41 [] []),(7,.row 1 v25.length 0 v25.length),(8,.d (.int .i64 v26))] [.box [.d (.cx .f32 f_.Source.A.re f_.Source.A.im),.d (.cx .f32 f_.Source.B.re f_.Source.B.im),.d (.cx .f32 f_.Source.C.re f_.Source.C.im),.d (.sl false (f_.qa7.map qac))],.row 3 (v25.map qai)] f57.ntmps 1) (fun (m35,v25,v26)=>qd6 n f_ m35 v25 v26 = some r) (fun x=>x.1) (n,x18,(w64 ((x18.length:Int) - (1:Int)))) h (qa3 [0,1] (l:=[(0,.ptr 0 0),(2,.func 41 [] []),(7,.row 1 x18.length 0 x18.length),(8,.d (.int .i64 (w64 ((x18.length:Int) - (1:Int)))))]) (objs:=[.box [.d (.cx .f32 f_.Source.A.re f_.Source.A.im),.d (.cx .f32 f_.Source.B.re f_.Source.B.im),.d (.cx .f32 f_.Source.C.re f_.Source.C.im),.d (.sl false (f_.qa7.map qac))],.row 3 (x18.map qai)]) rfl (by simp) rfl (by trivial) ⟨rfl,trivial,rfl,(by trivial),rfl,trivial,rfl,trivial,trivial⟩) ?_
 rintro ⟨m35,v25,v26⟩ h
 replace h:qd6 n f_ m35 v25 v26 = some r:=h
 rcases m35 with _ | m35
 ·rw [qd6] at h;cases h
 rw [qd6] at h
 refine qa8<|qa8<|qa2<|qa1 hτ rfl rfl rfl<|qa1 hτ rfl rfl rfl ?_
 refine qa5 ?_
 refine qaq rfl (fun hc37=>?_) (fun hc37=>?_)
 ·have h:=if_t h hc37
  refine qat<|qa8<|qay<|qa8<|qa2 ?_
  refine qa1 hτ rfl rfl rfl<|qa1 hτ rfl rfl rfl<|qa1 hτ rfl rfl rfl<|qa1 hτ rfl rfl rfl<|qa1 hτ rfl rfl rfl ?_
  refine qa1 hτ rfl rfl rfl ?_
  refine qaf h fun x38 hx38 h=>?_
  refine qcg hτ rfl rfl rfl (qcy hx38) ?_
  refine qce hτ rfl rfl rfl (qb4 _) (qds hx38) rfl ?_
  refine qaf h fun x39 hx39 h=>?_
  refine qae hτ false [] rfl rfl rfl (qaj func41 rfl rfl) rfl rfl (by simp) ⟨trivial,(by trivial),trivial⟩ (by trivial) (qp2 n v26 x38 hx39) ?_
  rintro r0 o0 n0 ⟨rfl,rfl,rfl⟩ -
  refine qcg hτ rfl rfl rfl (qcy hx38) ?_
  refine qb3 (qa3 [0,1] (l:=[(0,.ptr 0 0),(2,.func 41 [] []),(7,.row 1 v25.length 0 v25.length),(8,.d (.int .i64 v26)),(27,.agg [.d (.cx .f32 x39.A.re x39.A.im),.d (.cx .f32 x39.B.re x39.B.im),.d (.cx .f32 x39.C.re x39.C.im)]),(28,.eptr 1 v25.length (0 + v26.toNat) 0)]) (objs:=[.box [.d (.cx .f32 f_.Source.A.re f_.Source.A.im),.d (.cx .f32 f_.Source.B.re f_.Source.B.im),.d (.cx .f32 f_.Source.C.re f_.Source.C.im),.d (.sl false (f_.qa7.map qac))],.row 3 (v25.map qai)]) rfl (by simp) rfl (by trivial) ⟨rfl,trivial,rfl,(by trivial),rfl,trivial,rfl,trivial,rfl,(by trivial),rfl,trivial,trivial⟩) ?_
  refine awl_elemH hτ rfl rfl rfl (qb4 _) (qds hx38) (qwd (f:=qai) (l:=v25) (i:=v26) (y:=x39) rfl) ?_
  refine qa5<|qa8<|qa2<|qa1 hτ rfl rfl rfl<|qa1 hτ rfl rfl rfl ?_
  refine qa1 hτ rfl rfl rfl<|qa1 hτ rfl rfl rfl<|qa1 hτ rfl rfl rfl ?_
  refine qaf h fun x40 hx40 h=>?_
  refine qce hτ rfl rfl rfl (qb8 hx40).1 (qbm hx40) rfl ?_
  refine qa1 hτ rfl rfl rfl<|qa1 hτ rfl rfl rfl<|qa1 hτ rfl rfl rfl<|qa5 ?_
  refine qaa (qa3 [0,1] (l:=[(0,.ptr 0 0),(2,.func 41 [] []),(7,.row 1 ((v25.set v26.toNat x39).length) 0 ((v25.set v26.toNat x39).length)),(8,.d (.int .i64 v26)),(9,.d (.int .i64 x40.qaw))]) (objs:=[.box [.d (.cx .f32 f_.Source.A.re f_.Source.A.im),.d (.cx .f32 f_.Source.B.re f_.Source.B.im),.d (.cx .f32 f_.Source.C.re f_.Source.C.im),.d (.sl false (f_.qa7.map qac))],.row 3 ((v25.set v26.toNat x39).map qai)]) rfl (by simp) rfl (by trivial) ⟨rfl,trivial,rfl,(by trivial),(qpg rfl (by simp)),trivial,rfl,trivial,rfl,trivial,trivial⟩) ?_
  refine qd5 ?_
  refine qa4 hτ [] 0 rfl rfl rfl rfl rfl ?_
  refine qa4 hτ [] 1 rfl rfl rfl rfl rfl ?_
  refine qa4 hτ [] 2 rfl rfl rfl rfl rfl ?_
  refine qa4 hτ [] 3 rfl rfl rfl rfl rfl ?_
  refine qaf h fun x41 hx41 h=>?_
  refine qca hτ [1] 4 rfl rfl rfl rfl rfl (qcy hx41) ?_
  refine qbx hτ [1] 5 rfl rfl rfl rfl rfl (qb4 _) (qds hx41) rfl ?_
  refine qa4 hτ [] 6 rfl rfl rfl rfl rfl ?_
  refine qa4 hτ [] 7 rfl rfl rfl rfl rfl ?_
  refine qaf h fun x42 hx42 h=>?_
  refine qca hτ [1] 8 rfl rfl rfl rfl rfl (qcy hx42) ?_
  refine qbx hτ [1] 9 rfl rfl rfl rfl rfl (qb4 _) (qds hx42) rfl ?_
  refine qaf h fun x43 hx43 h=>?_
  refine qcf hτ false [] [0,1] 10 rfl rfl rfl rfl (qaj func73 rfl rfl) rfl rfl (by simp) ⟨(by trivial),(by trivial),trivial⟩ (by trivial) (impl_AddPhases_ok n x41 x42 hx43) ⟨rfl,rfl,trivial⟩ ?_
  refine qca hτ [1] 11 rfl rfl rfl rfl rfl (qcy hx41) ?_
  refine any_elemHP hτ [0] 12 rfl rfl rfl rfl (qb4 _) (qds hx41) (qwd (f:=qai) (l:=(v25.set v26.toNat x39)) (i:=x40.qaw) (y:=x43) rfl) ⟨rfl,trivial⟩ ?_
  refine qbo mixed (by kernel_rfl) ?_
  refine qaa (qa3 [0,1] (l:=[(0,.ptr 0 0),(2,.func 41 [] []),(7,.row 1 (((v25.set v26.toNat x39).set x40.qaw.toNat x43).length) 0 (((v25.set v26.toNat x39).set x40.qaw.toNat x43).length)),(8,.d (.int .i64 v26))]) (objs:=[.box [.d (.cx .f32 f_.Source.A.re f_.Source.A.im),.d (.cx .f32 f_.Source.B.re f_.Source.B.im),.d (.cx .f32 f_.Source.C.re f_.Source.C.im),.d (.sl false (f_.qa7.map qac))],.row 3 (((v25.set v26.toNat x39).set x40.qaw.toNat x43).map qai)]) rfl (by simp) rfl (by trivial) ⟨rfl,trivial,rfl,(by trivial),(qpg rfl (by simp)),trivial,rfl,trivial,trivial⟩) ?_
  refine qa2<|qa1 hτ rfl rfl rfl<|qa1 hτ rfl rfl rfl<|qa1 hτ rfl rfl rfl<|qa5 ?_
  exact ⟨(m35,((v25.set v26.toNat x39).set x40.qaw.toNat x43),(w64 (v26 - (1:Int)))),h,Nat.lt_succ_self m35,(qa3 [0,1] (l:=[(0,.ptr 0 0),(2,.func 41 [] []),(7,.row 1 (((v25.set v26.toNat x39).set x40.qaw.toNat x43).length) 0 (((v25.set v26.toNat x39).set x40.qaw.toNat x43).length)),(8,.d (.int .i64 (w64 (v26 - (1:Int)))))]) (objs:=[.box [.d (.cx .f32 f_.Source.A.re f_.Source.A.im),.d (.cx .f32 f_.Source.B.re f_.Source.B.im),.d (.cx .f32 f_.Source.C.re f_.Source.C.im),.d (.sl false (f_.qa7.map qac))],.row 3 (((v25.set v26.toNat x39).set x40.qaw.toNat x43).map qai)]) rfl (by simp) rfl (by trivial) ⟨rfl,trivial,rfl,(by trivial),rfl,trivial,rfl,trivial,trivial⟩)⟩
 ·have h:=if_f h hc37
  refine qd3<|qa8<|qa2<|qa1 hτ rfl rfl rfl<|qa1 hτ rfl rfl rfl ?_
  refine qa5 ?_
  refine qaa (qa3 [0,1] (l:=[(6,.row 1 v25.length 0 v25.length)]) (objs:=[.box [.d (.cx .f32 f_.Source.A.re f_.Source.A.im),.d (.cx .f32 f_.Source.B.re f_.Source.B.im),.d (.cx .f32 f_.Source.C.re f_.Source.C.im),.d (.sl false (f_.qa7.map qac))],.row 3 (v25.map qai)]) rfl (by simp) rfl (by trivial) ⟨rfl,trivial,trivial⟩) ?_
  refine qap ?_
  have hr:=Option.some.inj h
  subst hr
  exact qah (.inr rfl) [1] (objs':=[.box [.d (.cx .f32 f_.Source.A.re f_.Source.A.im),.d (.cx .f32 f_.Source.B.re f_.Source.B.im),.d (.cx .f32 f_.Source.C.re f_.Source.C.im),.d (.sl false (f_.qa7.map qac))]]) (new:=[.row 3 (v25.map qai)]) rfl (by simp) (by simp) rfl (by trivial) rfl rfl (by trivial) (fun h=>nomatch h) ⟨rfl,rfl,rfl⟩
def qm4 (n:Nat) (x_:Cx) (y_:Cx):Option Cx :=
 (qen n x_).bind fun x5 =>
 (qen n y_).bind fun x6 =>
 (ql6 .f64 .f32 (qao .sub .f64 (qao .mul .f64 x5.1 x6.1) (qao .mul .f64 x5.2 x6.2))).bind fun x7 =>
 (ql6 .f64 .f32 (qao .add .f64 (qao .mul .f64 x5.1 x6.2) (qao .mul .f64 x5.2 x6.1))).bind fun x8 =>
 some (Cx.mk x7 x8)
def qel (n:Nat) (x_:Cx) (y_:Cx) (Q_:Cx→Prop):Prop :=
 bndP (qen n x_) fun x5 =>
 bndP (qen n y_) fun x6 =>
 nrwP .f64 .f32 (qao .sub .f64 (qao .mul .f64 x5.1 x6.1) (qao .mul .f64 x5.2 x6.2)) fun x7 =>
 nrwP .f64 .f32 (qao .add .f64 (qao .mul .f64 x5.1 x6.2) (qao .mul .f64 x5.2 x6.1)) fun x8 =>
 Q_ ((Cx.mk x7 x8))
theorem impl_MulComplex_okP_fr0 (fr:Bool) (n:Nat) (x_:Cx) (y_:Cx) {Q_:Cx→Prop} (h:qel n x_ y_ Q_):qb1 prog fr 92 [.d (.cx .f32 x_.re x_.im),.d (.cx .f32 y_.re y_.im)] [] (fun v o new=>∃ r,Q_ r∧v = .d (.cx .f32 r.re r.im)∧o = []∧new = []):=by
 refine qak hτ func92 rfl (by simp) (by simp) ?_
 unfold qel at h
 refine qa8<|qa2<|qa1 hτ rfl rfl rfl<|qa5<|qa8 ?_
 refine qa2<|qa1 hτ rfl rfl rfl ?_
 refine qaz h fun x5 hx5 h=>?_
 refine qae hτ false [] rfl rfl rfl (qaj func94 rfl rfl) rfl rfl (by simp) ⟨trivial,trivial⟩ (by trivial) (qkn n x_ hx5) ?_
 rintro r0 o0 n0 ⟨rfl,rfl,rfl⟩ -
 refine qa1 hτ rfl rfl rfl<|qa1 hτ rfl rfl rfl<|qa1 hτ rfl rfl rfl<|qa1 hτ rfl rfl rfl<|qa1 hτ rfl rfl rfl ?_
 refine qa5<|qa8 ?_
 refine qaa (qa3 [] (l:=[(1,.d (.cx .f32 y_.re y_.im)),(5,.d (.fl .f64 x5.1)),(6,.d (.fl .f64 x5.2))]) (objs:=[]) rfl (by simp) rfl (by trivial) ⟨rfl,trivial,rfl,trivial,rfl,trivial,trivial⟩) ?_
 refine qa2<|qa1 hτ rfl rfl rfl ?_
 refine qaz h fun x6 hx6 h=>?_
 refine qae hτ false [] rfl rfl rfl (qaj func94 rfl rfl) rfl rfl (by simp) ⟨trivial,trivial⟩ (by trivial) (qkn n y_ hx6) ?_
 rintro r0 o0 n0 ⟨rfl,rfl,rfl⟩ -
 refine qa1 hτ rfl rfl rfl<|qa1 hτ rfl rfl rfl<|qa1 hτ rfl rfl rfl<|qa1 hτ rfl rfl rfl<|qa1 hτ rfl rfl rfl ?_
 refine qa5<|qa8 ?_
 refine qaa (qa3 [] (l:=[(5,.d (.fl .f64 x5.1)),(6,.d (.fl .f64 x5.2)),(7,.d (.fl .f64 x6.1)),(8,.d (.fl .f64 x6.2))]) (objs:=[]) rfl (by simp) rfl (by trivial) ⟨rfl,trivial,rfl,trivial,rfl,trivial,rfl,trivial,trivial⟩) ?_
 refine qa2<|qa1 hτ rfl rfl rfl<|qa1 hτ rfl rfl rfl<|qa1 hτ rfl rfl rfl<|qa1 hτ rfl rfl rfl ?_
 refine qa1 hτ rfl rfl rfl<|qa1 hτ rfl rfl rfl<|qa1 hτ rfl rfl rfl ?_
 refine qnx hτ h rfl rfl rfl fun x7 h=>?_
 refine qa1 hτ rfl rfl rfl<|qa1 hτ rfl rfl rfl<|qa1 hτ rfl rfl rfl<|qa1 hτ rfl rfl rfl ?_
 refine qb3 (qa3 [] (l:=[(7,.d (.fl .f64 x6.1)),(26,.d (.fl .f32 x7)),(29,.d (.fl .f64 (qao .mul .f64 x5.1 x6.2))),(30,.d (.fl .f64 x5.2))]) (objs:=[]) rfl (by simp) rfl (by trivial) ⟨rfl,trivial,rfl,trivial,rfl,trivial,rfl,trivial,trivial⟩) ?_
 refine qa1 hτ rfl rfl rfl<|qa1 hτ rfl rfl rfl<|qa1 hτ rfl rfl rfl ?_
 refine qnx hτ h rfl rfl rfl fun x8 h=>?_
 refine qa1 hτ rfl rfl rfl<|qa1 hτ rfl rfl rfl<|qa5 ?_
 refine qaa (qa3 [] (l:=[(4,.d (.cx .f32 x7 x8))]) (objs:=[]) rfl (by simp) rfl (by trivial) ⟨rfl,trivial,trivial⟩) ?_
 refine qap ?_
 exact qah (.inr rfl) [] (objs':=[]) (new:=[]) rfl (by simp) (by simp) rfl (by trivial) rfl rfl (by trivial) (fun _=>⟨by simp [V.flat,V.qbg,V.qbb,D.flat],qan⟩) ⟨_,h,rfl,rfl,rfl⟩
theorem qli (n:Nat) (x_:Cx) (y_:Cx) {Q_:Cx→Prop} (h:qel n x_ y_ Q_):qb1 prog false 92 [.d (.cx .f32 x_.re x_.im),.d (.cx .f32 y_.re y_.im)] [] (fun v o new=>∃ r,Q_ r∧v = .d (.cx .f32 r.re r.im)∧o = []∧new = []):=impl_MulComplex_okP_fr0 false n x_ y_ h
def qlm (n:Nat) (own_:Cx) (one_:Cx) (two_:Cx) (a3_:SBus):Option Cx :=
 (qm4 n a3_.Own own_).bind fun x3 =>
 (qm4 n a3_.Shared (Cx.mk (qao .add .f32 one_.re two_.re) (qao .add .f32 one_.im two_.im))).bind fun x4 =>
 some (Cx.mk (qao .add .f32 x3.re x4.re) (qao .add .f32 x3.im x4.im))
def qew (n:Nat) (own_:Cx) (one_:Cx) (two_:Cx) (a3_:SBus) (Q_:Cx→Prop):Prop :=
 qel n a3_.Own own_ fun x3 =>
 qel n a3_.Shared (Cx.mk (qao .add .f32 one_.re two_.re) (qao .add .f32 one_.im two_.im)) fun x4 =>
 Q_ ((Cx.mk (qao .add .f32 x3.re x4.re) (qao .add .f32 x3.im x4.im)))
theorem impl_DropOf_1_okP_fr0 (fr:Bool) (n:Nat) (own_:Cx) (one_:Cx) (two_:Cx) (a3_:SBus) {Q_:Cx→Prop} (h:qew n own_ one_ two_ a3_ Q_):qb1 prog fr 91 [.d (.cx .f32 own_.re own_.im),.d (.cx .f32 one_.re one_.im),.d (.cx .f32 two_.re two_.im),.ptr 0 0] [.box [.d (.int .i64 a3_.qaw),.d (.cx .f32 a3_.Own.re a3_.Own.im),.d (.cx .f32 a3_.Shared.re a3_.Shared.im),.d (.int .i64 a3_.Kind),.d (.cx .f32 a3_.Load.A.re a3_.Load.A.im),.d (.cx .f32 a3_.Load.B.re a3_.Load.B.im),.d (.cx .f32 a3_.Load.C.re a3_.Load.C.im),.d (.int .i64 a3_.qag)]] (fun v o new=>∃ r,Q_ r∧v = .d (.cx .f32 r.re r.im)∧o = [.box [.d (.int .i64 a3_.qaw),.d (.cx .f32 a3_.Own.re a3_.Own.im),.d (.cx .f32 a3_.Shared.re a3_.Shared.im),.d (.int .i64 a3_.Kind),.d (.cx .f32 a3_.Load.A.re a3_.Load.A.im),.d (.cx .f32 a3_.Load.B.re a3_.Load.B.im),.d (.cx .f32 a3_.Load.C.re a3_.Load.C.im),.d (.int .i64 a3_.qag)]]∧new = []):=by
 refine qak hτ func91 rfl (by simp) (by simp) ?_
 unfold qew at h
 refine qa8<|qa2<|qa1 hτ rfl rfl rfl<|qa5<|qa8 ?_
 refine qk7 mixed ?_
 refine qa4 hτ [0] 0 rfl rfl rfl rfl rfl ?_
 refine qa4 hτ [0] 1 rfl rfl rfl rfl rfl ?_
 refine qa4 hτ [] 2 rfl rfl rfl rfl rfl ?_
 refine qa4 hτ [0] 4 rfl rfl rfl rfl rfl ?_
 refine qa4 hτ [0] 5 rfl rfl rfl rfl rfl ?_
 refine qa4 hτ [] 6 rfl rfl rfl rfl rfl ?_
 refine qa4 hτ [] 7 rfl rfl rfl rfl rfl ?_
 refine qa4 hτ [] 8 rfl rfl rfl rfl rfl ?_
 refine qgs [3] (by kernel_rfl) fun _ hfs=>⟨?_,trivial⟩
 refine qie hτ false [] [0] hfs (by kernel_rfl) rfl rfl rfl rfl (qaj func92 rfl rfl) rfl rfl (by simp) ⟨trivial,trivial,trivial⟩ (by trivial) (qli n a3_.Own own_ h) (by rintro _ _ _ ⟨_,_,rfl,rfl,rfl⟩ _;exact ⟨rfl,trivial⟩) ?_
 rintro r0 o0 n0 ⟨x3,h,rfl,rfl,rfl⟩ - _
 refine qgs [9] (by kernel_rfl) fun _ hfs=>⟨?_,trivial⟩
 refine qie hτ false [] [0] hfs (by kernel_rfl) rfl rfl rfl rfl (qaj func92 rfl rfl) rfl rfl (by simp) ⟨trivial,trivial,trivial⟩ (by trivial) (qli n a3_.Shared (Cx.mk (qao .add .f32 one_.re two_.re) (qao .add .f32 one_.im two_.im)) h) (by rintro _ _ _ ⟨_,_,rfl,rfl,rfl⟩ _;exact ⟨rfl,trivial⟩) ?_
 rintro r0 o0 n0 ⟨x4,h,rfl,rfl,rfl⟩ - _
 refine qa4 hτ [] 10 rfl rfl rfl rfl rfl ?_
 refine qa4 hτ [] 11 rfl rfl rfl rfl rfl ?_
 refine qg2 (by kernel_rfl) ?_
 refine qaa (qa3 [0] (l:=[(7,.d (.cx .f32 (qao .add .f32 x3.re x4.re) (qao .add .f32 x3.im x4.im)))]) (objs:=[.box [.d (.int .i64 a3_.qaw),.d (.cx .f32 a3_.Own.re a3_.Own.im),.d (.cx .f32 a3_.Shared.re a3_.Shared.im),.d (.int .i64 a3_.Kind),.d (.cx .f32 a3_.Load.A.re a3_.Load.A.im),.d (.cx .f32 a3_.Load.B.re a3_.Load.B.im),.d (.cx .f32 a3_.Load.C.re a3_.Load.C.im),.d (.int .i64 a3_.qag)]]) rfl (by simp) rfl (by trivial) ⟨rfl,trivial,trivial⟩) ?_
 refine qap ?_
 exact qah (.inr rfl) [] (objs':=[.box [.d (.int .i64 a3_.qaw),.d (.cx .f32 a3_.Own.re a3_.Own.im),.d (.cx .f32 a3_.Shared.re a3_.Shared.im),.d (.int .i64 a3_.Kind),.d (.cx .f32 a3_.Load.A.re a3_.Load.A.im),.d (.cx .f32 a3_.Load.B.re a3_.Load.B.im),.d (.cx .f32 a3_.Load.C.re a3_.Load.C.im),.d (.int .i64 a3_.qag)]]) (new:=[]) rfl (by simp) (by simp) rfl (by trivial) rfl rfl (by trivial) (fun _=>⟨by simp [V.flat,V.qbg,V.qbb,D.flat],(qc8 (by simp [AObj.flat,V.qbb,D.flat]) qan)⟩) ⟨_,h,rfl,rfl,rfl⟩
theorem qka (n:Nat) (own_:Cx) (one_:Cx) (two_:Cx) (a3_:SBus) {Q_:Cx→Prop} (h:qew n own_ one_ two_ a3_ Q_):qb1 prog false 91 [.d (.cx .f32 own_.re own_.im),.d (.cx .f32 one_.re one_.im),.d (.cx .f32 two_.re two_.im),.ptr 0 0] [.box [.d (.int .i64 a3_.qaw),.d (.cx .f32 a3_.Own.re a3_.Own.im),.d (.cx .f32 a3_.Shared.re a3_.Shared.im),.d (.int .i64 a3_.Kind),.d (.cx .f32 a3_.Load.A.re a3_.Load.A.im),.d (.cx .f32 a3_.Load.B.re a3_.Load.B.im),.d (.cx .f32 a3_.Load.C.re a3_.Load.C.im),.d (.int .i64 a3_.qag)]] (fun v o new=>∃ r,Q_ r∧v = .d (.cx .f32 r.re r.im)∧o = [.box [.d (.int .i64 a3_.qaw),.d (.cx .f32 a3_.Own.re a3_.Own.im),.d (.cx .f32 a3_.Shared.re a3_.Shared.im),.d (.int .i64 a3_.Kind),.d (.cx .f32 a3_.Load.A.re a3_.Load.A.im),.d (.cx .f32 a3_.Load.B.re a3_.Load.B.im),.d (.cx .f32 a3_.Load.C.re a3_.Load.C.im),.d (.int .i64 a3_.qag)]]∧new = []):=impl_DropOf_1_okP_fr0 false n own_ one_ two_ a3_ h
def m_impl_DropOf (n:Nat) (b_:SBus) (current_:qad):Option qad :=
 (qlm n current_.A current_.B current_.C b_).bind fun x4 =>
 (qlm n current_.B current_.C current_.A b_).bind fun x5 =>
 (qlm n current_.C current_.A current_.B b_).bind fun x6 =>
 some (qad.mk x4 x5 x6)
def qih (n:Nat) (b_:SBus) (current_:qad) (Q_:qad→Prop):Prop :=
 qew n current_.A current_.B current_.C b_ fun x4 =>
 qew n current_.B current_.C current_.A b_ fun x5 =>
 qew n current_.C current_.A current_.B b_ fun x6 =>
 Q_ ((qad.mk x4 x5 x6))
theorem impl_DropOf_okP_fr0 (fr:Bool) (n:Nat) (b_:SBus) (current_:qad) {Q_:qad→Prop} (h:qih n b_ current_ Q_):qb1 prog fr 75 [.agg [.d (.int .i64 b_.qaw),.d (.cx .f32 b_.Own.re b_.Own.im),.d (.cx .f32 b_.Shared.re b_.Shared.im),.d (.int .i64 b_.Kind),.d (.cx .f32 b_.Load.A.re b_.Load.A.im),.d (.cx .f32 b_.Load.B.re b_.Load.B.im),.d (.cx .f32 b_.Load.C.re b_.Load.C.im),.d (.int .i64 b_.qag)],.agg [.d (.cx .f32 current_.A.re current_.A.im),.d (.cx .f32 current_.B.re current_.B.im),.d (.cx .f32 current_.C.re current_.C.im)]] [] (fun v o new=>∃ r,Q_ r∧v = .agg [.d (.cx .f32 r.A.re r.A.im),.d (.cx .f32 r.B.re r.B.im),.d (.cx .f32 r.C.re r.C.im)]∧o = []∧new = []):=by
 refine qak hτ func75 rfl (by simp) (by simp) ?_
 unfold qih at h
 refine qa8<|qa2<|qal hτ rfl rfl rfl<|qal hτ rfl rfl rfl<|qal hτ rfl rfl rfl ?_
 refine qa5<|qa8<|qa2<|qa1 hτ rfl rfl rfl<|qa1 hτ rfl rfl rfl ?_
 refine qa5<|qa8<|qa2<|qa1 hτ rfl rfl rfl<|qal hτ rfl rfl rfl ?_
 refine qal hτ rfl rfl rfl<|qa5<|qa8 ?_
 refine qaa (qa3 [2,0,3] (l:=[(4,.ptr 0 0),(5,.func 91 [] [.ptr 1 0]),(6,.ptr 2 0)]) (objs:=[.box [.d (.cx .f32 (0:Nat) (0:Nat)),.d (.cx .f32 (0:Nat) (0:Nat)),.d (.cx .f32 (0:Nat) (0:Nat))],.box [.d (.int .i64 b_.qaw),.d (.cx .f32 b_.Own.re b_.Own.im),.d (.cx .f32 b_.Shared.re b_.Shared.im),.d (.int .i64 b_.Kind),.d (.cx .f32 b_.Load.A.re b_.Load.A.im),.d (.cx .f32 b_.Load.B.re b_.Load.B.im),.d (.cx .f32 b_.Load.C.re b_.Load.C.im),.d (.int .i64 b_.qag)],.box [.d (.cx .f32 current_.A.re current_.A.im),.d (.cx .f32 current_.B.re current_.B.im),.d (.cx .f32 current_.C.re current_.C.im)]]) rfl (by simp) rfl (by trivial) ⟨rfl,trivial,rfl,(by trivial),rfl,trivial,trivial⟩) ?_
 refine qk7 mixed ?_
 refine qa4 hτ [] 0 rfl rfl rfl rfl rfl ?_
 refine qa4 hτ [2] 1 rfl rfl rfl rfl rfl ?_
 refine qa4 hτ [2] 2 rfl rfl rfl rfl rfl ?_
 refine qa4 hτ [2] 3 rfl rfl rfl rfl rfl ?_
 refine qa4 hτ [2] 4 rfl rfl rfl rfl rfl ?_
 refine qa4 hτ [2] 5 rfl rfl rfl rfl rfl ?_
 refine qa4 hτ [2] 6 rfl rfl rfl rfl rfl ?_
 refine qa4 hτ [] 8 rfl rfl rfl rfl rfl ?_
 refine qa4 hτ [2] 9 rfl rfl rfl rfl rfl ?_
 refine qa4 hτ [2] 10 rfl rfl rfl rfl rfl ?_
 refine qa4 hτ [2] 11 rfl rfl rfl rfl rfl ?_
 refine qa4 hτ [2] 12 rfl rfl rfl rfl rfl ?_
 refine qa4 hτ [2] 13 rfl rfl rfl rfl rfl ?_
 refine qa4 hτ [2] 14 rfl rfl rfl rfl rfl ?_
 refine qa4 hτ [] 16 rfl rfl rfl rfl rfl ?_
 refine qa4 hτ [2] 17 rfl rfl rfl rfl rfl ?_
 refine qa4 hτ [2] 18 rfl rfl rfl rfl rfl ?_
 refine qa4 hτ [2] 19 rfl rfl rfl rfl rfl ?_
 refine qa4 hτ [2] 20 rfl rfl rfl rfl rfl ?_
 refine qa4 hτ [2] 21 rfl rfl rfl rfl rfl ?_
 refine qa4 hτ [2] 22 rfl rfl rfl rfl rfl ?_
 refine qgs [7] (by kernel_rfl) fun _ hfs=>⟨?_,trivial⟩
 refine qie hτ false [1] [0,1,2] hfs (by kernel_rfl) rfl rfl rfl rfl (qaj func91 rfl rfl) rfl rfl (by simp) ⟨trivial,trivial,trivial,trivial,trivial⟩ (by trivial) (qka n current_.A current_.B current_.C b_ h) (by rintro _ _ _ ⟨_,_,rfl,rfl,rfl⟩ _;exact ⟨rfl,rfl,rfl,trivial⟩) ?_
 rintro r0 o0 n0 ⟨x4,h,rfl,rfl,rfl⟩ - _
 refine qgs [15] (by kernel_rfl) fun _ hfs=>⟨?_,trivial⟩
 refine qie hτ false [1] [0,1,2] hfs (by kernel_rfl) rfl rfl rfl rfl (qaj func91 rfl rfl) rfl rfl (by simp) ⟨trivial,trivial,trivial,trivial,trivial⟩ (by trivial) (qka n current_.B current_.C current_.A b_ h) (by rintro _ _ _ ⟨_,_,rfl,rfl,rfl⟩ _;exact ⟨rfl,rfl,rfl,trivial⟩) ?_
 rintro r0 o0 n0 ⟨x5,h,rfl,rfl,rfl⟩ - _
 refine qgs [23] (by kernel_rfl) fun _ hfs=>⟨?_,trivial⟩
 refine qie hτ false [1] [0,1,2] hfs (by kernel_rfl) rfl rfl rfl rfl (qaj func91 rfl rfl) rfl rfl (by simp) ⟨trivial,trivial,trivial,trivial,trivial⟩ (by trivial) (qka n current_.C current_.A current_.B b_ h) (by rintro _ _ _ ⟨_,_,rfl,rfl,rfl⟩ _;exact ⟨rfl,rfl,rfl,trivial⟩) ?_
 rintro r0 o0 n0 ⟨x6,h,rfl,rfl,rfl⟩ - _
 refine qa4 hτ [] 24 rfl rfl rfl rfl rfl ?_
 refine qbf hτ [1,2] 25 rfl rfl rfl rfl ⟨rfl,rfl,trivial⟩ ?_
 refine qg2 (by kernel_rfl) ?_
 refine qaa (qa3 [0] (l:=[(4,.ptr 0 0)]) (objs:=[.box [.d (.cx .f32 x4.re x4.im),.d (.cx .f32 x5.re x5.im),.d (.cx .f32 x6.re x6.im)]]) rfl (by simp) rfl (by trivial) ⟨rfl,trivial,trivial⟩) ?_
 refine qap ?_
 exact qah (.inr rfl) [] (objs':=[]) (new:=[]) rfl (by simp) (by simp) rfl (by trivial) rfl rfl (by trivial) (fun _=>⟨by simp [V.flat,V.qbg,V.qbb,D.flat],qan⟩) ⟨_,h,rfl,rfl,rfl⟩
theorem impl_DropOf_okP (n:Nat) (b_:SBus) (current_:qad) {Q_:qad→Prop} (h:qih n b_ current_ Q_):qb1 prog false 75 [.agg [.d (.int .i64 b_.qaw),.d (.cx .f32 b_.Own.re b_.Own.im),.d (.cx .f32 b_.Shared.re b_.Shared.im),.d (.int .i64 b_.Kind),.d (.cx .f32 b_.Load.A.re b_.Load.A.im),.d (.cx .f32 b_.Load.B.re b_.Load.B.im),.d (.cx .f32 b_.Load.C.re b_.Load.C.im),.d (.int .i64 b_.qag)],.agg [.d (.cx .f32 current_.A.re current_.A.im),.d (.cx .f32 current_.B.re current_.B.im),.d (.cx .f32 current_.C.re current_.C.im)]] [] (fun v o new=>∃ r,Q_ r∧v = .agg [.d (.cx .f32 r.A.re r.A.im),.d (.cx .f32 r.B.re r.B.im),.d (.cx .f32 r.C.re r.C.im)]∧o = []∧new = []):=impl_DropOf_okP_fr0 false n b_ current_ h
def qjp (n:Nat) (x_:Cx) (y_:Cx):Option Cx :=
 some (Cx.mk (qao .sub .f32 x_.re y_.re) (qao .sub .f32 x_.im y_.im))
theorem impl_minus_ok_fr0 (fr:Bool) (n:Nat) (x_:Cx) (y_:Cx) {r:Cx} (h:qjp n x_ y_ = some r):qb1 prog fr 77 [.d (.cx .f32 x_.re x_.im),.d (.cx .f32 y_.re y_.im)] [] (fun v o new=>v = .d (.cx .f32 r.re r.im)∧o = []∧new = []):=by
 refine qak hτ func77 rfl (by simp) (by simp) ?_
 unfold qjp at h
 refine qa8<|qa2<|qa1 hτ rfl rfl rfl<|qa5<|qa8 ?_
 refine qa2<|qa1 hτ rfl rfl rfl<|qa1 hτ rfl rfl rfl<|qa1 hτ rfl rfl rfl<|qa1 hτ rfl rfl rfl ?_
 refine qa5 ?_
 refine qaa (qa3 [] (l:=[(4,.d (.cx .f32 (qao .sub .f32 x_.re y_.re) (qao .sub .f32 x_.im y_.im)))]) (objs:=[]) rfl (by simp) rfl (by trivial) ⟨rfl,trivial,trivial⟩) ?_
 refine qap ?_
 have hr:=Option.some.inj h
 subst hr
 exact qah (.inr rfl) [] (objs':=[]) (new:=[]) rfl (by simp) (by simp) rfl (by trivial) rfl rfl (by trivial) (fun _=>⟨by simp [V.flat,V.qbg,V.qbb,D.flat],qan⟩) ⟨rfl,rfl,rfl⟩
theorem qmf (n:Nat) (x_:Cx) (y_:Cx) {r:Cx} (h:qjp n x_ y_ = some r):qb1 prog false 77 [.d (.cx .f32 x_.re x_.im),.d (.cx .f32 y_.re y_.im)] [] (fun v o new=>v = .d (.cx .f32 r.re r.im)∧o = []∧new = []):=impl_minus_ok_fr0 false n x_ y_ h
def ql9 (n:Nat) (a_:qad) (b_:qad):Option qad :=
 (qjp n a_.A b_.A).bind fun x4 =>
 (qjp n a_.B b_.B).bind fun x5 =>
 (qjp n a_.C b_.C).bind fun x6 =>
 some (qad.mk x4 x5 x6)
theorem impl_each_3_ok_fr0 (fr:Bool) (n:Nat) (a_:qad) (b_:qad) {r:qad} (h:ql9 n a_ b_ = some r):qb1 prog fr 76 [.agg [.d (.cx .f32 a_.A.re a_.A.im),.d (.cx .f32 a_.B.re a_.B.im),.d (.cx .f32 a_.C.re a_.C.im)],.agg [.d (.cx .f32 b_.A.re b_.A.im),.d (.cx .f32 b_.B.re b_.B.im),.d (.cx .f32 b_.C.re b_.C.im)],.func 77 [] []] [] (fun v o new=>v = .agg [.d (.cx .f32 r.A.re r.A.im),.d (.cx .f32 r.B.re r.B.im),.d (.cx .f32 r.C.re r.C.im)]∧o = []∧new = []):=by
 refine qak hτ func76 rfl (by simp) (by simp) ?_
 unfold ql9 at h
 refine qa8<|qa2<|qal hτ rfl rfl rfl<|qal hτ rfl rfl rfl<|qal hτ rfl rfl rfl ?_
 refine qa5<|qa8<|qd5 ?_
 refine qa4 hτ [] 0 rfl rfl rfl rfl rfl ?_
 refine qa4 hτ [0] 1 rfl rfl rfl rfl rfl ?_
 refine qa4 hτ [0] 2 rfl rfl rfl rfl rfl ?_
 refine qa4 hτ [1] 3 rfl rfl rfl rfl rfl ?_
 refine qa4 hτ [1] 4 rfl rfl rfl rfl rfl ?_
 refine qa4 hτ [] 6 rfl rfl rfl rfl rfl ?_
 refine qa4 hτ [0] 7 rfl rfl rfl rfl rfl ?_
 refine qa4 hτ [0] 8 rfl rfl rfl rfl rfl ?_
 refine qa4 hτ [1] 9 rfl rfl rfl rfl rfl ?_
 refine qa4 hτ [1] 10 rfl rfl rfl rfl rfl ?_
 refine qa4 hτ [] 12 rfl rfl rfl rfl rfl ?_
 refine qa4 hτ [0] 13 rfl rfl rfl rfl rfl ?_
 refine qa4 hτ [0] 14 rfl rfl rfl rfl rfl ?_
 refine qa4 hτ [1] 15 rfl rfl rfl rfl rfl ?_
 refine qa4 hτ [1] 16 rfl rfl rfl rfl rfl ?_
 refine qaf h fun x4 hx4 h=>?_
 refine qcf hτ false [] [0,1,2] 5 rfl rfl rfl rfl (qaj func77 rfl rfl) rfl rfl (by simp) ⟨trivial,trivial,trivial⟩ (by trivial) (qmf n a_.A b_.A hx4) ⟨rfl,rfl,rfl,trivial⟩ ?_
 refine qaf h fun x5 hx5 h=>?_
 refine qcf hτ false [] [0,1,2] 11 rfl rfl rfl rfl (qaj func77 rfl rfl) rfl rfl (by simp) ⟨trivial,trivial,trivial⟩ (by trivial) (qmf n a_.B b_.B hx5) ⟨rfl,rfl,rfl,trivial⟩ ?_
 refine qaf h fun x6 hx6 h=>?_
 refine qcf hτ false [] [0,1,2] 17 rfl rfl rfl rfl (qaj func77 rfl rfl) rfl rfl (by simp) ⟨trivial,trivial,trivial⟩ (by trivial) (qmf n a_.C b_.C hx6) ⟨rfl,rfl,rfl,trivial⟩ ?_
 refine qa4 hτ [] 18 rfl rfl rfl rfl rfl ?_
 refine qbf hτ [0,1] 19 rfl rfl rfl rfl ⟨rfl,rfl,trivial⟩ ?_
 refine qbo mixed (by kernel_rfl) ?_
 refine qaa (qa3 [2] (l:=[(6,.ptr 0 0)]) (objs:=[.box [.d (.cx .f32 x4.re x4.im),.d (.cx .f32 x5.re x5.im),.d (.cx .f32 x6.re x6.im)]]) rfl (by simp) rfl (by trivial) ⟨rfl,trivial,trivial⟩) ?_
 refine qap ?_
 have hr:=Option.some.inj h
 subst hr
 exact qah (.inr rfl) [] (objs':=[]) (new:=[]) rfl (by simp) (by simp) rfl (by trivial) rfl rfl (by trivial) (fun _=>⟨by simp [V.flat,V.qbg,V.qbb,D.flat],qan⟩) ⟨rfl,rfl,rfl⟩
theorem impl_each_3_ok (n:Nat) (a_:qad) (b_:qad) {r:qad} (h:ql9 n a_ b_ = some r):qb1 prog false 76 [.agg [.d (.cx .f32 a_.A.re a_.A.im),.d (.cx .f32 a_.B.re a_.B.im),.d (.cx .f32 a_.C.re a_.C.im)],.agg [.d (.cx .f32 b_.A.re b_.A.im),.d (.cx .f32 b_.B.re b_.B.im),.d (.cx .f32 b_.C.re b_.C.im)],.func 77 [] []] [] (fun v o new=>v = .agg [.d (.cx .f32 r.A.re r.A.im),.d (.cx .f32 r.B.re r.B.im),.d (.cx .f32 r.C.re r.C.im)]∧o = []∧new = []):=impl_each_3_ok_fr0 false n a_ b_ h
def qe9 (n:Nat) (a_:qad) (b_:qad):Option qad :=
 (ql9 n a_ b_).bind fun x2 =>
 some x2
theorem impl_LessPhases_ok_fr0 (fr:Bool) (n:Nat) (a_:qad) (b_:qad) {r:qad} (h:qe9 n a_ b_ = some r):qb1 prog fr 60 [.agg [.d (.cx .f32 a_.A.re a_.A.im),.d (.cx .f32 a_.B.re a_.B.im),.d (.cx .f32 a_.C.re a_.C.im)],.agg [.d (.cx .f32 b_.A.re b_.A.im),.d (.cx .f32 b_.B.re b_.B.im),.d (.cx .f32 b_.C.re b_.C.im)]] [] (fun v o new=>v = .agg [.d (.cx .f32 r.A.re r.A.im),.d (.cx .f32 r.B.re r.B.im),.d (.cx .f32 r.C.re r.C.im)]∧o = []∧new = []):=by
 refine qak hτ func60 rfl (by simp) (by simp) ?_
 unfold qe9 at h
 refine qa8<|qa2<|qal hτ rfl rfl rfl<|qal hτ rfl rfl rfl<|qal hτ rfl rfl rfl ?_
 refine qa5<|qa8<|qa2<|qa1 hτ rfl rfl rfl<|qa1 hτ rfl rfl rfl ?_
 refine qaf h fun x2 hx2 h=>?_
 refine qae hτ false [] rfl rfl rfl (qaj func76 rfl rfl) rfl rfl (by simp) ⟨(by trivial),(by trivial),(by trivial),trivial⟩ (by trivial) (impl_each_3_ok n a_ b_ hx2) ?_
 rintro r0 o0 n0 ⟨rfl,rfl,rfl⟩ -
 refine qal hτ rfl rfl rfl<|qa5 ?_
 refine qaa (qa3 [2] (l:=[(4,.ptr 0 0)]) (objs:=[.box [.d (.cx .f32 x2.A.re x2.A.im),.d (.cx .f32 x2.B.re x2.B.im),.d (.cx .f32 x2.C.re x2.C.im)]]) rfl (by simp) rfl (by trivial) ⟨rfl,trivial,trivial⟩) ?_
 refine qap ?_
 have hr:=Option.some.inj h
 subst hr
 exact qah (.inr rfl) [] (objs':=[]) (new:=[]) rfl (by simp) (by simp) rfl (by trivial) rfl rfl (by trivial) (fun _=>⟨by simp [V.flat,V.qbg,V.qbb,D.flat],qan⟩) ⟨rfl,rfl,rfl⟩
theorem qlt (n:Nat) (a_:qad) (b_:qad) {r:qad} (h:qe9 n a_ b_ = some r):qb1 prog false 60 [.agg [.d (.cx .f32 a_.A.re a_.A.im),.d (.cx .f32 a_.B.re a_.B.im),.d (.cx .f32 a_.C.re a_.C.im)],.agg [.d (.cx .f32 b_.A.re b_.A.im),.d (.cx .f32 b_.B.re b_.B.im),.d (.cx .f32 b_.C.re b_.C.im)]] [] (fun v o new=>v = .agg [.d (.cx .f32 r.A.re r.A.im),.d (.cx .f32 r.B.re r.B.im),.d (.cx .f32 r.C.re r.C.im)]∧o = []∧new = []):=impl_LessPhases_ok_fr0 false n a_ b_ h
def qk4 (n:Nat) (f_:qau) (currents_:List qad):Nat→List qad→Int→Option (List qad)
 | 0,_,_=>none
 | m37 + 1,v26,v27 =>
  if v27 < (f_.qa7.length:Int) then
   (getI f_.qa7 v27).bind fun x40 =>
   (getI v26 x40.qaw).bind fun x41 =>
   (getI currents_ v27).bind fun x42 =>
   (m_impl_DropOf n x40 x42).bind fun x43 =>
   (qe9 n x41 x43).bind fun x44 =>
   (qjm n v27 x44).bind fun x45 =>
   grd (room (v26.length + 1) 24) <|
   (qk4 n f_ currents_ m37) (v26 ++ [x45]) (w64 (v27 + (1:Int)))
  else
   some v26
def m_impl_Feeder_forth (n:Nat) (f_:qau) (currents_:List qad):Option (List qad) :=
 qk4 n f_ currents_ n [f_.Source] (1:Int)
def qcn (n:Nat) (Q_:List qad→Prop) (f_:qau) (currents_:List qad):Nat→List qad→Int→Prop
 | 0,_,_=>False
 | m37 + 1,v26,v27 =>
  if v27 < (f_.qa7.length:Int) then
   bndP (getI f_.qa7 v27) fun x40 =>
   bndP (getI v26 x40.qaw) fun x41 =>
   bndP (getI currents_ v27) fun x42 =>
   qih n x40 x42 fun x43 =>
   bndP (qe9 n x41 x43) fun x44 =>
   bndP (qjm n v27 x44) fun x45 =>
   grdP (room (v26.length + 1) 24) <|
   (qcn n Q_ f_ currents_ m37) (v26 ++ [x45]) (w64 (v27 + (1:Int)))
  else
   Q_ (v26)
def qhl (n:Nat) (f_:qau) (currents_:List qad) (Q_:List qad→Prop):Prop :=
 qcn n Q_ f_ currents_ n [f_.Source] (1:Int)
theorem impl_Feeder_forth_okP (n:Nat) (f_:qau) (currents_:List qad) {Q_:List qad→Prop} (h:qhl n f_ currents_ Q_):qb1 prog false 59 [.ptr 0 0,.d (.sl false (currents_.map qai)),.func 41 [] []] [.box [.d (.cx .f32 f_.Source.A.re f_.Source.A.im),.d (.cx .f32 f_.Source.B.re f_.Source.B.im),.d (.cx .f32 f_.Source.C.re f_.Source.C.im),.d (.sl false (f_.qa7.map qac))]] (fun v o new=>∃ r,Q_ r∧v = .row 1 r.length 0 r.length∧o = [.box [.d (.cx .f32 f_.Source.A.re f_.Source.A.im),.d (.cx .f32 f_.Source.B.re f_.Source.B.im),.d (.cx .f32 f_.Source.C.re f_.Source.C.im),.d (.sl false (f_.qa7.map qac))]]∧new = [.row 3 (r.map qai)]):=by
 refine qak hτ func59 rfl (by simp) (by simp) ?_
 unfold qhl at h
 refine qa8<|qa2<|qa1 hτ rfl rfl rfl<|qa5<|qa8 ?_
 refine qa2<|qa1 hτ rfl rfl rfl<|qa1 hτ rfl rfl rfl<|qa1 hτ rfl rfl rfl<|qa1 hτ rfl rfl rfl ?_
 refine qal hτ rfl rfl rfl<|qa1 hτ rfl rfl rfl<|qa5<|qa8<|qa8 ?_
 refine qaa (qa3 [0,1] (l:=[(0,.ptr 0 0),(1,.d (.sl false (currents_.map qai))),(2,.func 41 [] []),(7,.row 1 ([f_.Source].length) 0 ([f_.Source].length))]) (objs:=[.box [.d (.cx .f32 f_.Source.A.re f_.Source.A.im),.d (.cx .f32 f_.Source.B.re f_.Source.B.im),.d (.cx .f32 f_.Source.C.re f_.Source.C.im),.d (.sl false (f_.qa7.map qac))],.row 3 ([f_.Source].map qai)]) rfl (by simp) rfl (by trivial) ⟨rfl,trivial,rfl,trivial,rfl,(by trivial),rfl,trivial,trivial⟩) ?_
 refine qa2<|qa1 hτ rfl rfl rfl<|qa5<|qay ?_
 refine qde (ι:=Nat × List qad × Int) (fun (m37,v26,v27)=>St.of [(0,.ptr 0 0),(1,.d (.sl false (currents_.map qai))),(2,.func 41 [] []),(7,.row 1 v26.length 0 v26.length),(8,.d (.int .i64 v27))] [.box [.d (.cx .f32 f_.Source.A.re f_.Source.A.im),.d (.cx .f32 f_.Source.B.re f_.Source.B.im),.d (.cx .f32 f_.Source.C.re f_.Source.C.im),.d (.sl false (f_.qa7.map qac))],.row 3 (v26.map qai)] f59.ntmps 1) (fun (m37,v26,v27)=>qcn n Q_ f_ currents_ m37 v26 v27) (fun x=>x.1) (n,[f_.Source],(1:Int)) h (qa3 [0,1] (l:=[(0,.ptr 0 0),(1,.d (.sl false (currents_.map qai))),(2,.func 41 [] []),(7,.row 1 ([f_.Source].length) 0 ([f_.Source].length)),(8,.d (.int .i64 (1:Int)))]) (objs:=[.box [.d (.cx .f32 f_.Source.A.re f_.Source.A.im),.d (.cx .f32 f_.Source.B.re f_.Source.B.im),.d (.cx .f32 f_.Source.C.re f_.Source.C.im),.d (.sl false (f_.qa7.map qac))],.row 3 ([f_.Source].map qai)]) rfl (by simp) rfl (by trivial) ⟨rfl,trivial,rfl,trivial,rfl,(by trivial),rfl,trivial,rfl,trivial,trivial⟩) ?_
 rintro ⟨m37,v26,v27⟩ h
 replace h:qcn n Q_ f_ currents_ m37 v26 v27:=h
 rcases m37 with _ | m37
 ·rw [qcn] at h;cases h
 rw [qcn] at h
 refine qa8<|qa8<|qa2<|qa1 hτ rfl rfl rfl<|qa1 hτ rfl rfl rfl ?_
 refine qa1 hτ rfl rfl rfl<|qa1 hτ rfl rfl rfl<|qa1 hτ rfl rfl rfl ?_
 refine qa1 hτ (v:=.d (.int .i64 (f_.qa7.length:Int))) rfl rfl (Eq.trans rfl (qei (f:=qac) f_.qa7)) ?_
 refine qa1 hτ rfl rfl rfl<|qa5 ?_
 refine qaa (qa3 [0,1] (l:=[(0,.ptr 0 0),(1,.d (.sl false (currents_.map qai))),(2,.func 41 [] []),(7,.row 1 v26.length 0 v26.length),(8,.d (.int .i64 v27)),(21,.d (.bool (decide (v27 < (f_.qa7.length:Int)))))]) (objs:=[.box [.d (.cx .f32 f_.Source.A.re f_.Source.A.im),.d (.cx .f32 f_.Source.B.re f_.Source.B.im),.d (.cx .f32 f_.Source.C.re f_.Source.C.im),.d (.sl false (f_.qa7.map qac))],.row 3 (v26.map qai)]) rfl (by simp) rfl (by trivial) ⟨rfl,trivial,rfl,trivial,rfl,(by trivial),rfl,trivial,rfl,trivial,rfl,trivial,trivial⟩) ?_
 refine qaq rfl (fun hc39=>?_) (fun hc39=>?_)
 ·have h:=qk2 h hc39
  refine qat<|qa8<|qay<|qa8<|qa2 ?_
  refine qa1 hτ rfl rfl rfl<|qa1 hτ rfl rfl rfl<|qa1 hτ rfl rfl rfl<|qa1 hτ rfl rfl rfl<|qa1 hτ rfl rfl rfl ?_
  refine qaz h fun x40 hx40 h=>?_
  refine qce hτ rfl rfl rfl (qb8 hx40).1 (qbm hx40) rfl ?_
  refine qa1 hτ rfl rfl rfl<|qal hτ rfl rfl rfl<|qal hτ rfl rfl rfl<|qa5 ?_
  refine qaa (qa3 [0,1,2] (l:=[(0,.ptr 0 0),(1,.d (.sl false (currents_.map qai))),(2,.func 41 [] []),(7,.row 1 v26.length 0 v26.length),(8,.d (.int .i64 v27)),(9,.ptr 2 0)]) (objs:=[.box [.d (.cx .f32 f_.Source.A.re f_.Source.A.im),.d (.cx .f32 f_.Source.B.re f_.Source.B.im),.d (.cx .f32 f_.Source.C.re f_.Source.C.im),.d (.sl false (f_.qa7.map qac))],.row 3 (v26.map qai),.box [.d (.int .i64 x40.qaw),.d (.cx .f32 x40.Own.re x40.Own.im),.d (.cx .f32 x40.Shared.re x40.Shared.im),.d (.int .i64 x40.Kind),.d (.cx .f32 x40.Load.A.re x40.Load.A.im),.d (.cx .f32 x40.Load.B.re x40.Load.B.im),.d (.cx .f32 x40.Load.C.re x40.Load.C.im),.d (.int .i64 x40.qag)]]) rfl (by simp) rfl (by trivial) ⟨rfl,trivial,rfl,trivial,rfl,(by trivial),rfl,trivial,rfl,trivial,rfl,trivial,trivial⟩) ?_
  refine qk7 mixed ?_
  refine qa4 hτ [] 0 rfl rfl rfl rfl rfl ?_
  refine qa4 hτ [] 1 rfl rfl rfl rfl rfl ?_
  refine qa4 hτ [] 2 rfl rfl rfl rfl rfl ?_
  refine qa4 hτ [] 3 rfl rfl rfl rfl rfl ?_
  refine qa4 hτ [2] 4 rfl rfl rfl rfl rfl ?_
  refine qa4 hτ [2] 5 rfl rfl rfl rfl rfl ?_
  refine qaz h fun x41 hx41 h=>?_
  refine qca hτ [1] 6 rfl rfl rfl rfl rfl (qcy hx41) ?_
  refine qbx hτ [1] 7 rfl rfl rfl rfl rfl (qb4 _) (qds hx41) rfl ?_
  refine qa4 hτ [2] 8 rfl rfl rfl rfl rfl ?_
  refine qa4 hτ [] 9 rfl rfl rfl rfl rfl ?_
  refine qa4 hτ [] 10 rfl rfl rfl rfl rfl ?_
  refine qaz h fun x42 hx42 h=>?_
  refine qbx hτ [] 11 rfl rfl rfl rfl rfl (qb8 hx42).1 (qbm hx42) rfl ?_
  refine qa4 hτ [] 12 rfl rfl rfl rfl rfl ?_
  refine qgs [13] (by kernel_rfl) fun _ hfs=>⟨?_,trivial⟩
  refine qie hτ false [] [0,1,2] hfs (by kernel_rfl) rfl rfl rfl rfl (qaj func75 rfl rfl) rfl rfl (by simp) ⟨(by trivial),(by trivial),trivial⟩ (by trivial) (impl_DropOf_okP n x40 x42 h) (by rintro _ _ _ ⟨_,_,rfl,rfl,rfl⟩ _;exact ⟨rfl,rfl,rfl,trivial⟩) ?_
  rintro r0 o0 n0 ⟨x43,h,rfl,rfl,rfl⟩ - _
  refine qaz h fun x44 hx44 h=>?_
  refine qcf hτ false [] [0,1,2] 14 rfl rfl rfl rfl (qaj func60 rfl rfl) rfl rfl (by simp) ⟨(by trivial),(by trivial),trivial⟩ (by trivial) (qlt n x41 x43 hx44) ⟨rfl,rfl,rfl,trivial⟩ ?_
  refine qaz h fun x45 hx45 h=>?_
  refine qcf hτ false [] [0,1,2] 15 rfl rfl rfl rfl (qaj func41 rfl rfl) rfl rfl (by simp) ⟨trivial,(by trivial),trivial⟩ (by trivial) (qp2 n v27 x44 hx45) ⟨rfl,rfl,rfl,trivial⟩ ?_
  refine qbf hτ [0,1,2] 16 rfl rfl rfl rfl ⟨rfl,rfl,rfl,trivial⟩ ?_
  refine qq0 h fun hg46 h=>?_
  refine qif hτ [0,2,3] 17 rfl rfl rfl (Eq.trans rfl (or_append (f:=qai) v26 [x45] rfl)) ⟨⟨rfl,Nat.le_of_ble_eq_true rfl⟩,qb4 _,rfl,rfl,hg46,by decide,(all1 rfl)⟩ ⟨rfl,rfl,rfl,trivial⟩ ?_
  refine qa4 hτ [] 18 rfl rfl rfl rfl rfl ?_
  refine qg2 (by kernel_rfl) ?_
  refine qaa (qa3 [0,1] (l:=[(0,.ptr 0 0),(1,.d (.sl false (currents_.map qai))),(2,.func 41 [] []),(7,.row 1 ((v26 ++ [x45]).length) 0 ((v26 ++ [x45]).length)),(8,.d (.int .i64 v27))]) (objs:=[.box [.d (.cx .f32 f_.Source.A.re f_.Source.A.im),.d (.cx .f32 f_.Source.B.re f_.Source.B.im),.d (.cx .f32 f_.Source.C.re f_.Source.C.im),.d (.sl false (f_.qa7.map qac))],.row 3 ((v26 ++ [x45]).map qai)]) rfl (by simp) rfl (by trivial) ⟨rfl,trivial,rfl,trivial,rfl,(by trivial),rfl,trivial,rfl,trivial,trivial⟩) ?_
  refine qa2<|qa1 hτ rfl rfl rfl<|qa1 hτ rfl rfl rfl<|qa1 hτ rfl rfl rfl<|qa5 ?_
  exact ⟨(m37,(v26 ++ [x45]),(w64 (v27 + (1:Int)))),h,Nat.lt_succ_self m37,(qa3 [0,1] (l:=[(0,.ptr 0 0),(1,.d (.sl false (currents_.map qai))),(2,.func 41 [] []),(7,.row 1 ((v26 ++ [x45]).length) 0 ((v26 ++ [x45]).length)),(8,.d (.int .i64 (w64 (v27 + (1:Int)))))]) (objs:=[.box [.d (.cx .f32 f_.Source.A.re f_.Source.A.im),.d (.cx .f32 f_.Source.B.re f_.Source.B.im),.d (.cx .f32 f_.Source.C.re f_.Source.C.im),.d (.sl false (f_.qa7.map qac))],.row 3 ((v26 ++ [x45]).map qai)]) rfl (by simp) rfl (by trivial) ⟨rfl,trivial,rfl,trivial,rfl,(by trivial),rfl,trivial,rfl,trivial,trivial⟩)⟩
 ·have h:=qk1 h hc39
  refine qd3<|qa8<|qa2<|qa1 hτ rfl rfl rfl<|qa1 hτ rfl rfl rfl ?_
  refine qa5 ?_
  refine qaa (qa3 [0,1] (l:=[(6,.row 1 v26.length 0 v26.length)]) (objs:=[.box [.d (.cx .f32 f_.Source.A.re f_.Source.A.im),.d (.cx .f32 f_.Source.B.re f_.Source.B.im),.d (.cx .f32 f_.Source.C.re f_.Source.C.im),.d (.sl false (f_.qa7.map qac))],.row 3 (v26.map qai)]) rfl (by simp) rfl (by trivial) ⟨rfl,trivial,trivial⟩) ?_
  refine qap ?_
  exact qah (.inr rfl) [1] (objs':=[.box [.d (.cx .f32 f_.Source.A.re f_.Source.A.im),.d (.cx .f32 f_.Source.B.re f_.Source.B.im),.d (.cx .f32 f_.Source.C.re f_.Source.C.im),.d (.sl false (f_.qa7.map qac))]]) (new:=[.row 3 (v26.map qai)]) rfl (by simp) (by simp) rfl (by trivial) rfl rfl (by trivial) (fun h=>nomatch h) ⟨_,h,rfl,rfl,rfl⟩
def m_impl_Feeder_sweep (n:Nat) (f_:qau) (voltages_:List qad):Option ql4 :=
 (m_impl_Feeder_loads n f_ voltages_).bind fun x4 =>
 (qfu n f_ x4).bind fun x5 =>
 (m_impl_Feeder_forth n f_ x5).bind fun x6 =>
 some (ql4.mk x6 x5 (1:Int) false)
def qg4 (n:Nat) (f_:qau) (voltages_:List qad) (Q_:ql4→Prop):Prop :=
 qhm n f_ voltages_ fun x4 =>
 bndP (qfu n f_ x4) fun x5 =>
 qhl n f_ x5 fun x6 =>
 Q_ ((ql4.mk x6 x5 (1:Int) false))
theorem impl_Feeder_sweep_okP (n:Nat) (f_:qau) (voltages_:List qad) {Q_:ql4→Prop} (h:qg4 n f_ voltages_ Q_):qb1 prog false 40 [.ptr 0 0,.d (.sl false (voltages_.map qai)),.func 41 [] []] [.box [.d (.cx .f32 f_.Source.A.re f_.Source.A.im),.d (.cx .f32 f_.Source.B.re f_.Source.B.im),.d (.cx .f32 f_.Source.C.re f_.Source.C.im),.d (.sl false (f_.qa7.map qac))]] (fun v o new=>∃ r,Q_ r∧v = .agg [.row 1 r.qd1.length 0 r.qd1.length,.d (.sl false (r.qil.map qai)),.d (.int .i64 r.Rounds),.d (.bool r.qve)]∧o = [.box [.d (.cx .f32 f_.Source.A.re f_.Source.A.im),.d (.cx .f32 f_.Source.B.re f_.Source.B.im),.d (.cx .f32 f_.Source.C.re f_.Source.C.im),.d (.sl false (f_.qa7.map qac))]]∧new = [.row 3 (r.qd1.map qai)]):=by
 refine qak hτ func40 rfl (by simp) (by simp) ?_
 unfold qg4 at h
 refine qa8<|qa2<|qal hτ rfl rfl rfl<|qa5<|qa8 ?_
 refine qa2<|qa1 hτ rfl rfl rfl<|qa1 hτ rfl rfl rfl<|qa1 hτ rfl rfl rfl ?_
 refine qae hτ false [0] rfl rfl rfl (qaj func58 rfl rfl) rfl rfl (by simp) ⟨trivial,trivial,trivial⟩ (by trivial) (impl_Feeder_loads_okP n f_ voltages_ h) ?_
 rintro r0 o0 n0 ⟨x4,h,rfl,rfl,rfl⟩ -
 refine qa1 hτ rfl rfl rfl ?_
 refine qb3 (qa3 [0,1] (l:=[(0,.ptr 0 0),(2,.func 41 [] []),(6,.ptr 1 0),(8,.ptr 0 0),(11,.d (.sl false (x4.map qai))),(12,.func 41 [] [])]) (objs:=[.box [.d (.cx .f32 f_.Source.A.re f_.Source.A.im),.d (.cx .f32 f_.Source.B.re f_.Source.B.im),.d (.cx .f32 f_.Source.C.re f_.Source.C.im),.d (.sl false (f_.qa7.map qac))],.box [.d (.nils),.d (.nils),.d (.int .i64 (0:Int)),.d (.bool false)]]) rfl (by simp) rfl (by trivial) ⟨rfl,trivial,rfl,(by trivial),rfl,trivial,rfl,trivial,(qgy (f:=qai) (j:=2) (sz:=3) x4 rfl rfl rfl),(qfg (f:=qai) (j:=2) (sz:=3) x4 rfl rfl rfl),rfl,(by trivial),trivial⟩) ?_
 refine qaz h fun x5 hx5 h=>?_
 refine qae hτ false [0] rfl rfl rfl (qaj func57 rfl rfl) rfl rfl (by simp) ⟨trivial,trivial,(by trivial),trivial⟩ (by trivial) (impl_Feeder_back_ok n f_ x4 hx5) ?_
 rintro r0 o0 n0 ⟨rfl,rfl,rfl⟩ -
 refine qa1 hτ rfl rfl rfl<|qa5<|qa8<|qa2<|qa1 hτ rfl rfl rfl ?_
 refine qa1 hτ rfl rfl rfl<|qa1 hτ rfl rfl rfl ?_
 refine qb3 (qa3 [0,1] (l:=[(6,.ptr 1 0),(7,.d (.sl false (x5.map qai))),(14,.ptr 0 0),(15,.d (.sl false (x5.map qai))),(16,.func 41 [] [])]) (objs:=[.box [.d (.cx .f32 f_.Source.A.re f_.Source.A.im),.d (.cx .f32 f_.Source.B.re f_.Source.B.im),.d (.cx .f32 f_.Source.C.re f_.Source.C.im),.d (.sl false (f_.qa7.map qac))],.box [.d (.nils),.d (.nils),.d (.int .i64 (0:Int)),.d (.bool false)]]) rfl (by simp) rfl (by trivial) ⟨rfl,trivial,(qgy (f:=qai) (j:=2) (sz:=3) x5 rfl rfl rfl),(qfg (f:=qai) (j:=2) (sz:=3) x5 rfl rfl rfl),rfl,trivial,(qgy (f:=qai) (j:=2) (sz:=3) x5 rfl rfl rfl),(qfg (f:=qai) (j:=2) (sz:=3) x5 rfl rfl rfl),rfl,(by trivial),trivial⟩) ?_
 refine qae hτ false [0] rfl rfl rfl (qaj func59 rfl rfl) rfl rfl (by simp) ⟨trivial,trivial,(by trivial),trivial⟩ (by trivial) (impl_Feeder_forth_okP n f_ x5 h) ?_
 rintro r0 o0 n0 ⟨x6,h,rfl,rfl,rfl⟩ -
 refine qa1 hτ rfl rfl rfl<|qa1 hτ rfl rfl rfl<|qal hτ rfl rfl rfl<|qa5 ?_
 refine qaa (qa3 [0,1,2] (l:=[(6,.ptr 1 0)]) (objs:=[.box [.d (.cx .f32 f_.Source.A.re f_.Source.A.im),.d (.cx .f32 f_.Source.B.re f_.Source.B.im),.d (.cx .f32 f_.Source.C.re f_.Source.C.im),.d (.sl false (f_.qa7.map qac))],.box [.row 2 x6.length 0 x6.length,.d (.sl false (x5.map qai)),.d (.int .i64 (1:Int)),.d (.bool false)],.row 3 (x6.map qai)]) rfl (by simp) rfl (by trivial) ⟨rfl,trivial,trivial⟩) ?_
 refine qap ?_
 exact qah (.inr rfl) [2] (objs':=[.box [.d (.cx .f32 f_.Source.A.re f_.Source.A.im),.d (.cx .f32 f_.Source.B.re f_.Source.B.im),.d (.cx .f32 f_.Source.C.re f_.Source.C.im),.d (.sl false (f_.qa7.map qac))]]) (new:=[.row 3 (x6.map qai)]) rfl (by simp) (by simp) rfl (by trivial) rfl rfl (by trivial) (fun h=>nomatch h) ⟨_,h,rfl,rfl,rfl⟩
def qgj (n:Nat) (p_:qad):Option qno :=
 some (qno.mk p_.A p_.B p_.C)
theorem impl_Phases_three_ok_fr0 (fr:Bool) (n:Nat) (p_:qad) {r:qno} (h:qgj n p_ = some r):qb1 prog fr 61 [.agg [.d (.cx .f32 p_.A.re p_.A.im),.d (.cx .f32 p_.B.re p_.B.im),.d (.cx .f32 p_.C.re p_.C.im)]] [] (fun v o new=>v = .agg [.d (.cx .f32 r.a0.re r.a0.im),.d (.cx .f32 r.a1.re r.a1.im),.d (.cx .f32 r.a2.re r.a2.im)]∧o = []∧new = []):=by
 refine qak hτ func61 rfl (by simp) (by simp) ?_
 unfold qgj at h
 refine qa8<|qa2<|qal hτ rfl rfl rfl<|qal hτ rfl rfl rfl<|qa5 ?_
 refine qa8<|qa2<|qa1 hτ rfl rfl rfl<|qa1 hτ rfl rfl rfl<|qa1 hτ rfl rfl rfl ?_
 refine qa1 hτ rfl rfl rfl<|qa1 hτ rfl rfl rfl<|qa1 hτ rfl rfl rfl<|qa1 hτ rfl rfl rfl<|qal hτ rfl rfl rfl ?_
 refine qa5 ?_
 refine qaa (qa3 [1] (l:=[(2,.ptr 0 0)]) (objs:=[.box [.d (.cx .f32 p_.A.re p_.A.im),.d (.cx .f32 p_.B.re p_.B.im),.d (.cx .f32 p_.C.re p_.C.im)]]) rfl (by simp) rfl (by trivial) ⟨rfl,trivial,trivial⟩) ?_
 refine qap ?_
 have hr:=Option.some.inj h
 subst hr
 exact qah (.inr rfl) [] (objs':=[]) (new:=[]) rfl (by simp) (by simp) rfl (by trivial) rfl rfl (by trivial) (fun _=>⟨by simp [V.flat,V.qbg,V.qbb,D.flat],qan⟩) ⟨rfl,rfl,rfl⟩
theorem impl_Phases_three_ok (n:Nat) (p_:qad) {r:qno} (h:qgj n p_ = some r):qb1 prog false 61 [.agg [.d (.cx .f32 p_.A.re p_.A.im),.d (.cx .f32 p_.B.re p_.B.im),.d (.cx .f32 p_.C.re p_.C.im)]] [] (fun v o new=>v = .agg [.d (.cx .f32 r.a0.re r.a0.im),.d (.cx .f32 r.a1.re r.a1.im),.d (.cx .f32 r.a2.re r.a2.im)]∧o = []∧new = []):=impl_Phases_three_ok_fr0 false n p_ h
def qln (n:Nat) (x_:Nat):Option Nat :=
 some (qvy x_)
theorem math_Sqrt_ok_fr0 (fr:Bool) (n:Nat) (x_:Nat) {r:Nat} (h:qln n x_ = some r):qb1 prog fr 78 [.d (.fl .f64 x_)] [] (fun v o new=>v = .d (.fl .f64 r)∧o = []∧new = []):=by
 refine qak hτ func78 rfl (by simp) (by simp) ?_
 unfold qln at h
 refine qa8<|qa2<|qa1 hτ rfl rfl rfl<|qa5<|qa8 ?_
 refine qa2<|qa1 hτ rfl rfl rfl ?_
 refine qpr hτ rfl rfl rfl ext93 ?_
 refine qa1 hτ rfl rfl rfl<|qa5 ?_
 refine qaa (qa3 [] (l:=[(2,.d (.fl .f64 (qvy x_)))]) (objs:=[]) rfl (by simp) rfl (by trivial) ⟨rfl,trivial,trivial⟩) ?_
 refine qap ?_
 have hr:=Option.some.inj h
 subst hr
 exact qah (.inr rfl) [] (objs':=[]) (new:=[]) rfl (by simp) (by simp) rfl (by trivial) rfl rfl (by trivial) (fun _=>⟨by simp [V.flat,V.qbg,V.qbb,D.flat],qan⟩) ⟨rfl,rfl,rfl⟩
theorem math_Sqrt_ok (n:Nat) (x_:Nat) {r:Nat} (h:qln n x_ = some r):qb1 prog false 78 [.d (.fl .f64 x_)] [] (fun v o new=>v = .d (.fl .f64 r)∧o = []∧new = []):=math_Sqrt_ok_fr0 false n x_ h
def m_impl_LongOf (n:Nat) (x_:Cx):Option Nat :=
 (qh7 n x_).bind fun x4 =>
 (qln n x4).bind fun x5 =>
 (ql6 .f64 .f32 x5).bind fun x6 =>
 some x6
def qii (n:Nat) (x_:Cx) (Q_:Nat→Prop):Prop :=
 bndP (qh7 n x_) fun x4 =>
 bndP (qln n x4) fun x5 =>
 nrwP .f64 .f32 x5 fun x6 =>
 Q_ (x6)
theorem impl_LongOf_okP_fr0 (fr:Bool) (n:Nat) (x_:Cx) {Q_:Nat→Prop} (h:qii n x_ Q_):qb1 prog fr 62 [.d (.cx .f32 x_.re x_.im)] [] (fun v o new=>∃ r,Q_ r∧v = .d (.fl .f32 r)∧o = []∧new = []):=by
 refine qak hτ func62 rfl (by simp) (by simp) ?_
 unfold qii at h
 refine qa8<|qa2<|qa1 hτ rfl rfl rfl<|qa5<|qa8 ?_
 refine qa2<|qa1 hτ rfl rfl rfl ?_
 refine qaz h fun x4 hx4 h=>?_
 refine qae hτ false [] rfl rfl rfl (qaj func79 rfl rfl) rfl rfl (by simp) ⟨trivial,trivial⟩ (by trivial) (qo5 n x_ hx4) ?_
 rintro r0 o0 n0 ⟨rfl,rfl,rfl⟩ -
 refine qaz h fun x5 hx5 h=>?_
 refine qae hτ false [] rfl rfl rfl (qaj func78 rfl rfl) rfl rfl (by simp) ⟨trivial,trivial⟩ (by trivial) (math_Sqrt_ok n x4 hx5) ?_
 rintro r0 o0 n0 ⟨rfl,rfl,rfl⟩ -
 refine qnx hτ h rfl rfl rfl fun x6 h=>?_
 refine qa1 hτ rfl rfl rfl<|qa5 ?_
 refine qaa (qa3 [] (l:=[(2,.d (.fl .f32 x6))]) (objs:=[]) rfl (by simp) rfl (by trivial) ⟨rfl,trivial,trivial⟩) ?_
 refine qap ?_
 exact qah (.inr rfl) [] (objs':=[]) (new:=[]) rfl (by simp) (by simp) rfl (by trivial) rfl rfl (by trivial) (fun _=>⟨by simp [V.flat,V.qbg,V.qbb,D.flat],qan⟩) ⟨_,h,rfl,rfl,rfl⟩
theorem impl_LongOf_okP (n:Nat) (x_:Cx) {Q_:Nat→Prop} (h:qii n x_ Q_):qb1 prog false 62 [.d (.cx .f32 x_.re x_.im)] [] (fun v o new=>∃ r,Q_ r∧v = .d (.fl .f32 r)∧o = []∧new = []):=impl_LongOf_okP_fr0 false n x_ h
def m_impl_change_j2 (n:Nat) (k98:Nat→Int→Option Nat) (v72:Int) (v122:Nat):Option Nat :=
 k98 v122 (w64 (v72 + (1:Int)))
def m_impl_change_j4 (n:Nat) (k147:Nat→Int→Option Nat) (v136:Int) (v156:Nat):Option Nat :=
 k147 v156 (w64 (v136 + (1:Int)))
def qmn (n:Nat) (k147:Nat→Int→Option Nat) (v136:Int) (v164:Nat):Option Nat :=
 (qex n v164).bind fun x165 =>
 if x165 = true then
  some v164
 else
  m_impl_change_j4 n k147 v136 v164
def qmo (n:Nat) (k147:Nat→Int→Option Nat) (v135:Nat) (v136:Int) (x168:Nat) (v172:Bool):Option Nat :=
 if v172 = true then
  qmn n k147 v136 x168
 else
  qmn n k147 v136 v135
def qkw (n:Nat) (k98:Nat→Int→Option Nat) (v72:Int) (x127:qno):Nat→Nat→Int→Option Nat
 | 0,_,_=>none
 | m146 + 1,v135,v136 =>
  if v136 < (3:Int) then
   (getI [x127.a0,x127.a1,x127.a2] v136).bind fun x158 =>
   (m_impl_LongOf n x158).bind fun x168 =>
   if (fcmp .gtr .f32 x168 v135) = true then
    qmo n (qkw n k98 v72 x127 m146) v135 v136 x168 true
   else
    (qex n x168).bind fun x176 =>
    qmo n (qkw n k98 v72 x127 m146) v135 v136 x168 x176
  else
   m_impl_change_j2 n k98 v72 v135
def qmp (n:Nat) (a_:List qad) (b_:List qad):Nat→Nat→Int→Option Nat
 | 0,_,_=>none
 | m97 + 1,v71,v72 =>
  if v72 < (a_.length:Int) then
   (getI a_ v72).bind fun x124 =>
   (getI b_ v72).bind fun x125 =>
   (qe9 n x124 x125).bind fun x126 =>
   (qgj n x126).bind fun x127 =>
   qkw n (qmp n a_ b_ m97) v72 x127 n v71 (0:Int)
  else
   some v71
def m_impl_change (n:Nat) (a_:List qad) (b_:List qad):Option Nat :=
 qmp n a_ b_ n (0:Nat) (0:Int)
def qj3 (n:Nat) (Q_:Nat→Prop) (k98:Nat→Int→Prop) (v72:Int) (v122:Nat):Prop :=
 k98 v122 (w64 (v72 + (1:Int)))
def qhs (n:Nat) (Q_:Nat→Prop) (k147:Nat→Int→Prop) (v136:Int) (v156:Nat):Prop :=
 k147 v156 (w64 (v136 + (1:Int)))
def qf5 (n:Nat) (Q_:Nat→Prop) (k147:Nat→Int→Prop) (v136:Int) (v164:Nat):Prop :=
 bndP (qex n v164) fun x165 =>
 if x165 = true then
  Q_ (v164)
 else
  qhs n Q_ k147 v136 v164
def qf6 (n:Nat) (Q_:Nat→Prop) (k147:Nat→Int→Prop) (v135:Nat) (v136:Int) (x168:Nat) (v172:Bool):Prop :=
 if v172 = true then
  qf5 n Q_ k147 v136 x168
 else
  qf5 n Q_ k147 v136 v135
def qbr (n:Nat) (Q_:Nat→Prop) (k98:Nat→Int→Prop) (v72:Int) (x127:qno):Nat→Nat→Int→Prop
 | 0,_,_=>False
 | m146 + 1,v135,v136 =>
  if v136 < (3:Int) then
   bndP (getI [x127.a0,x127.a1,x127.a2] v136) fun x158 =>
   qii n x158 fun x168 =>
   if (fcmp .gtr .f32 x168 v135) = true then
    qf6 n Q_ (qbr n Q_ k98 v72 x127 m146) v135 v136 x168 true
   else
    bndP (qex n x168) fun x176 =>
    qf6 n Q_ (qbr n Q_ k98 v72 x127 m146) v135 v136 x168 x176
  else
   qj3 n Q_ k98 v72 v135
def qbn (n:Nat) (Q_:Nat→Prop) (a_:List qad) (b_:List qad):Nat→Nat→Int→Prop
 | 0,_,_=>False
 | m97 + 1,v71,v72 =>
  if v72 < (a_.length:Int) then
   bndP (getI a_ v72) fun x124 =>
   bndP (getI b_ v72) fun x125 =>
   bndP (qe9 n x124 x125) fun x126 =>
   bndP (qgj n x126) fun x127 =>
   qbr n Q_ (qbn n Q_ a_ b_ m97) v72 x127 n v71 (0:Int)
  else
   Q_ (v71)
def qjg (n:Nat) (a_:List qad) (b_:List qad) (Q_:Nat→Prop):Prop :=
 qbn n Q_ a_ b_ n (0:Nat) (0:Int)
theorem impl_change_okP_fr0 (fr:Bool) (n:Nat) (a_:List qad) (b_:List qad) {Q_:Nat→Prop} (h:qjg n a_ b_ Q_):qb1 prog fr 42 [.d (.sl false (a_.map qai)),.d (.sl false (b_.map qai))] [] (fun v o new=>∃ r,Q_ r∧v = .d (.fl .f32 r)∧o = []∧new = []):=by
 refine qak hτ func42 rfl (by simp) (by simp) ?_
 unfold qjg at h
 refine qa8<|qa2<|qa1 hτ rfl rfl rfl<|qa5<|qa8 ?_
 refine qa2<|qa1 hτ rfl rfl rfl<|qa5<|qa8<|qa8 ?_
 refine qa2<|qa1 hτ rfl rfl rfl ?_
 refine qa1 hτ (v:=.d (.int .i64 (a_.length:Int))) rfl rfl (Eq.trans rfl (qei (f:=qai) a_)) ?_
 refine qa1 hτ rfl rfl rfl<|qa5<|qay ?_
 refine qde (ι:=Nat × Nat × Int) (fun (m97,v71,v72)=>St.of [(0,.d (.sl false (a_.map qai))),(1,.d (.sl false (b_.map qai))),(5,.d (.fl .f32 v71)),(11,.d (.int .i64 (a_.length:Int))),(12,.d (.int .i64 v72))] [] f42.ntmps 0) (fun (m97,v71,v72)=>qbn n Q_ a_ b_ m97 v71 v72) (fun x=>x.1) (n,(0:Nat),(0:Int)) h (qa3 [] (l:=[(0,.d (.sl false (a_.map qai))),(1,.d (.sl false (b_.map qai))),(5,.d (.fl .f32 (0:Nat))),(11,.d (.int .i64 (a_.length:Int))),(12,.d (.int .i64 (0:Int)))]) (objs:=[]) rfl (by simp) rfl (by trivial) ⟨rfl,trivial,rfl,trivial,rfl,trivial,rfl,trivial,rfl,trivial,trivial⟩) ?_
 rintro ⟨m97,v71,v72⟩ h
 replace h:qbn n Q_ a_ b_ m97 v71 v72:=h
 rcases m97 with _ | m97
 ·rw [qbn] at h;cases h
 rw [qbn] at h
 refine qa8<|qa2<|qa1 hτ rfl rfl rfl<|qa5<|qa8 ?_
 refine qaq rfl (fun hc99=>?_) (fun hc99=>?_)
 ·have h:=qk2 h hc99
  refine qat ?_
  refine qby (ι:=Nat) (fun v122=>St.of [(0,.d (.sl false (a_.map qai))),(1,.d (.sl false (b_.map qai))),(5,.d (.fl .f32 v122)),(11,.d (.int .i64 (a_.length:Int))),(12,.d (.int .i64 v72))] [] f42.ntmps 0) (fun v122=>qj3 n Q_ (qbn n Q_ a_ b_ m97) v72 v122) ?_ (fun hk123=>?_)
  ·rintro v122 h
   replace h:qj3 n Q_ (qbn n Q_ a_ b_ m97) v72 v122:=h
   unfold qj3 at h
   refine qa2<|qa1 hτ rfl rfl rfl<|qa1 hτ rfl rfl rfl<|qa5 ?_
   exact ⟨(m97,v122,(w64 (v72 + (1:Int)))),h,Nat.lt_succ_self m97,(qa3 [] (l:=[(0,.d (.sl false (a_.map qai))),(1,.d (.sl false (b_.map qai))),(5,.d (.fl .f32 v122)),(11,.d (.int .i64 (a_.length:Int))),(12,.d (.int .i64 (w64 (v72 + (1:Int)))))]) (objs:=[]) rfl (by simp) rfl (by trivial) ⟨rfl,trivial,rfl,trivial,rfl,trivial,rfl,trivial,rfl,trivial,trivial⟩)⟩
  ·refine qa8<|qay<|qa8<|qa2<|qa1 hτ rfl rfl rfl ?_
   refine qa1 hτ rfl rfl rfl<|qa5<|qa8<|qd5 ?_
   refine qa4 hτ [] 0 rfl rfl rfl rfl rfl ?_
   refine qa4 hτ [] 1 rfl rfl rfl rfl rfl ?_
   refine qaz h fun x124 hx124 h=>?_
   refine qbx hτ [] 2 rfl rfl rfl rfl rfl (qb8 hx124).1 (qbm hx124) rfl ?_
   refine qa4 hτ [] 3 rfl rfl rfl rfl rfl ?_
   refine qa4 hτ [] 4 rfl rfl rfl rfl rfl ?_
   refine qa4 hτ [] 5 rfl rfl rfl rfl rfl ?_
   refine qaz h fun x125 hx125 h=>?_
   refine qbx hτ [] 6 rfl rfl rfl rfl rfl (qb8 hx125).1 (qbm hx125) rfl ?_
   refine qa4 hτ [] 7 rfl rfl rfl rfl rfl ?_
   refine qa4 hτ [] 10 rfl rfl rfl rfl rfl ?_
   refine qaz h fun x126 hx126 h=>?_
   refine qcf hτ false [] [] 8 rfl rfl rfl rfl (qaj func60 rfl rfl) rfl rfl (by simp) ⟨(by trivial),(by trivial),trivial⟩ (by trivial) (qlt n x124 x125 hx126) trivial ?_
   refine qaz h fun x127 hx127 h=>?_
   refine qcf hτ false [] [] 9 rfl rfl rfl rfl (qaj func61 rfl rfl) rfl rfl (by simp) ⟨(by trivial),trivial⟩ (by trivial) (impl_Phases_three_ok n x126 hx127) trivial ?_
   refine qbo mixed (by kernel_rfl) ?_
   refine qay ?_
   refine qde (ι:=Nat × Nat × Int) (fun (m146,v135,v136)=>St.of [(0,.d (.sl false (a_.map qai))),(1,.d (.sl false (b_.map qai))),(5,.d (.fl .f32 v135)),(11,.d (.int .i64 (a_.length:Int))),(12,.d (.int .i64 v72)),(24,.agg [.d (.cx .f32 x127.a0.re x127.a0.im),.d (.cx .f32 x127.a1.re x127.a1.im),.d (.cx .f32 x127.a2.re x127.a2.im)]),(25,.d (.int .i64 v136))] [] f42.ntmps 0) (fun (m146,v135,v136)=>qbr n Q_ (qbn n Q_ a_ b_ m97) v72 x127 m146 v135 v136) (fun x=>x.1) (n,v71,(0:Int)) h (qa3 [] (l:=[(0,.d (.sl false (a_.map qai))),(1,.d (.sl false (b_.map qai))),(5,.d (.fl .f32 v71)),(11,.d (.int .i64 (a_.length:Int))),(12,.d (.int .i64 v72)),(24,.agg [.d (.cx .f32 x127.a0.re x127.a0.im),.d (.cx .f32 x127.a1.re x127.a1.im),.d (.cx .f32 x127.a2.re x127.a2.im)]),(25,.d (.int .i64 (0:Int)))]) (objs:=[]) rfl (by simp) rfl (by trivial) ⟨rfl,trivial,rfl,trivial,rfl,trivial,rfl,trivial,rfl,trivial,rfl,(by trivial),rfl,trivial,trivial⟩) ?_
   rintro ⟨m146,v135,v136⟩ h
   replace h:qbr n Q_ (qbn n Q_ a_ b_ m97) v72 x127 m146 v135 v136:=h
   rcases m146 with _ | m146
   ·rw [qbr] at h;cases h
   rw [qbr] at h
   refine qa8<|qa2<|qa1 hτ rfl rfl rfl<|qa5<|qa8 ?_
   refine qaq rfl (fun hc148=>?_) (fun hc148=>?_)
   ·have h:=qk2 h hc148
    refine qat ?_
    refine qby (ι:=Nat) (fun v156=>St.of [(0,.d (.sl false (a_.map qai))),(1,.d (.sl false (b_.map qai))),(5,.d (.fl .f32 v156)),(11,.d (.int .i64 (a_.length:Int))),(12,.d (.int .i64 v72)),(24,.agg [.d (.cx .f32 x127.a0.re x127.a0.im),.d (.cx .f32 x127.a1.re x127.a1.im),.d (.cx .f32 x127.a2.re x127.a2.im)]),(25,.d (.int .i64 v136))] [] f42.ntmps 0) (fun v156=>qhs n Q_ (qbr n Q_ (qbn n Q_ a_ b_ m97) v72 x127 m146) v136 v156) ?_ (fun hk157=>?_)
    ·rintro v156 h
     replace h:qhs n Q_ (qbr n Q_ (qbn n Q_ a_ b_ m97) v72 x127 m146) v136 v156:=h
     unfold qhs at h
     refine qa2<|qa1 hτ rfl rfl rfl<|qa1 hτ rfl rfl rfl<|qa5 ?_
     exact ⟨(m146,v156,(w64 (v136 + (1:Int)))),h,Nat.lt_succ_self m146,(qa3 [] (l:=[(0,.d (.sl false (a_.map qai))),(1,.d (.sl false (b_.map qai))),(5,.d (.fl .f32 v156)),(11,.d (.int .i64 (a_.length:Int))),(12,.d (.int .i64 v72)),(24,.agg [.d (.cx .f32 x127.a0.re x127.a0.im),.d (.cx .f32 x127.a1.re x127.a1.im),.d (.cx .f32 x127.a2.re x127.a2.im)]),(25,.d (.int .i64 (w64 (v136 + (1:Int)))))]) (objs:=[]) rfl (by simp) rfl (by trivial) ⟨rfl,trivial,rfl,trivial,rfl,trivial,rfl,trivial,rfl,trivial,rfl,(by trivial),rfl,trivial,trivial⟩)⟩
    ·refine qa8<|qay<|qa8<|qa2 ?_
     refine qaz h fun x158 hx158 h=>?_
     refine qcg hτ (v:=.d (.cx .f32 x158.re x158.im)) rfl rfl (Eq.trans rfl (or_aidx (f:=fun (c:Cx)=>V.d (.cx .f32 c.re c.im)) hx158)) (aidx_need hx158 rfl rfl) ?_
     refine qa1 hτ rfl rfl rfl<|qa5 ?_
     refine qby (ι:=Nat) (fun v164=>St.of [(0,.d (.sl false (a_.map qai))),(1,.d (.sl false (b_.map qai))),(5,.d (.fl .f32 v164)),(11,.d (.int .i64 (a_.length:Int))),(12,.d (.int .i64 v72)),(24,.agg [.d (.cx .f32 x127.a0.re x127.a0.im),.d (.cx .f32 x127.a1.re x127.a1.im),.d (.cx .f32 x127.a2.re x127.a2.im)]),(25,.d (.int .i64 v136))] [] f42.ntmps 0) (fun v164=>qf5 n Q_ (qbr n Q_ (qbn n Q_ a_ b_ m97) v72 x127 m146) v136 v164) ?_ (fun hk167=>?_)
     ·rintro v164 h
      replace h:qf5 n Q_ (qbr n Q_ (qbn n Q_ a_ b_ m97) v72 x127 m146) v136 v164:=h
      unfold qf5 at h
      refine qa8<|qa2<|qa1 hτ rfl rfl rfl ?_
      refine qaz h fun x165 hx165 h=>?_
      refine qae hτ false [] rfl rfl rfl (qaj func54 rfl rfl) rfl rfl (by simp) ⟨trivial,trivial⟩ (by trivial) (qiz n v164 hx165) ?_
      rintro r0 o0 n0 ⟨rfl,rfl,rfl⟩ -
      refine qa5 ?_
      refine qaq rfl (fun hc166=>?_) (fun hc166=>?_)
      ·have h:=qin h hc166
       refine qa8<|qa2<|qa1 hτ rfl rfl rfl<|qa1 hτ rfl rfl rfl<|qa5 ?_
       refine qaa (qa3 [] (l:=[(4,.d (.fl .f32 v164))]) (objs:=[]) rfl (by simp) rfl (by trivial) ⟨rfl,trivial,trivial⟩) ?_
       refine qap ?_
       exact qah (.inr rfl) [] (objs':=[]) (new:=[]) rfl (by simp) (by simp) rfl (by trivial) rfl rfl (by trivial) (fun _=>⟨by simp [V.flat,V.qbg,V.qbb,D.flat],qan⟩) ⟨_,h,rfl,rfl,rfl⟩
      ·have h:=qim h hc166
       refine qat ?_
       refine qaa (qa3 [] (l:=[(0,.d (.sl false (a_.map qai))),(1,.d (.sl false (b_.map qai))),(5,.d (.fl .f32 v164)),(11,.d (.int .i64 (a_.length:Int))),(12,.d (.int .i64 v72)),(24,.agg [.d (.cx .f32 x127.a0.re x127.a0.im),.d (.cx .f32 x127.a1.re x127.a1.im),.d (.cx .f32 x127.a2.re x127.a2.im)]),(25,.d (.int .i64 v136))]) (objs:=[]) rfl (by simp) rfl (by trivial) ⟨rfl,trivial,rfl,trivial,rfl,trivial,rfl,trivial,rfl,trivial,rfl,(by trivial),rfl,trivial,trivial⟩) ?_
       exact hk157 v164 h
     ·refine qa8<|qa8<|qa2<|qa1 hτ rfl rfl rfl ?_
      refine qae hτ false [] rfl rfl rfl (qaj func62 rfl rfl) rfl rfl (by simp) ⟨trivial,trivial⟩ (by trivial) (impl_LongOf_okP n x158 h) ?_
      rintro r0 o0 n0 ⟨x168,h,rfl,rfl,rfl⟩ -
      refine qa1 hτ rfl rfl rfl<|qa5 ?_
      refine qby (ι:=Bool) (fun v172=>St.of [(0,.d (.sl false (a_.map qai))),(1,.d (.sl false (b_.map qai))),(5,.d (.fl .f32 v135)),(9,.d (.fl .f32 x168)),(11,.d (.int .i64 (a_.length:Int))),(12,.d (.int .i64 v72)),(24,.agg [.d (.cx .f32 x127.a0.re x127.a0.im),.d (.cx .f32 x127.a1.re x127.a1.im),.d (.cx .f32 x127.a2.re x127.a2.im)]),(25,.d (.int .i64 v136)),(36,.d (.bool v172))] [] f42.ntmps 0) (fun v172=>qf6 n Q_ (qbr n Q_ (qbn n Q_ a_ b_ m97) v72 x127 m146) v135 v136 x168 v172) ?_ (fun hk174=>?_)
      ·rintro v172 h
       replace h:qf6 n Q_ (qbr n Q_ (qbn n Q_ a_ b_ m97) v72 x127 m146) v135 v136 x168 v172:=h
       unfold qf6 at h
       refine qaq rfl (fun hc173=>?_) (fun hc173=>?_)
       ·have h:=qin h hc173
        refine qa2<|qa1 hτ rfl rfl rfl<|qa1 hτ rfl rfl rfl<|qa5 ?_
        refine qaa (qa3 [] (l:=[(0,.d (.sl false (a_.map qai))),(1,.d (.sl false (b_.map qai))),(5,.d (.fl .f32 x168)),(11,.d (.int .i64 (a_.length:Int))),(12,.d (.int .i64 v72)),(24,.agg [.d (.cx .f32 x127.a0.re x127.a0.im),.d (.cx .f32 x127.a1.re x127.a1.im),.d (.cx .f32 x127.a2.re x127.a2.im)]),(25,.d (.int .i64 v136))]) (objs:=[]) rfl (by simp) rfl (by trivial) ⟨rfl,trivial,rfl,trivial,rfl,trivial,rfl,trivial,rfl,trivial,rfl,(by trivial),rfl,trivial,trivial⟩) ?_
        exact hk167 x168 h
       ·have h:=qim h hc173
        refine qat ?_
        refine qaa (qa3 [] (l:=[(0,.d (.sl false (a_.map qai))),(1,.d (.sl false (b_.map qai))),(5,.d (.fl .f32 v135)),(11,.d (.int .i64 (a_.length:Int))),(12,.d (.int .i64 v72)),(24,.agg [.d (.cx .f32 x127.a0.re x127.a0.im),.d (.cx .f32 x127.a1.re x127.a1.im),.d (.cx .f32 x127.a2.re x127.a2.im)]),(25,.d (.int .i64 v136))]) (objs:=[]) rfl (by simp) rfl (by trivial) ⟨rfl,trivial,rfl,trivial,rfl,trivial,rfl,trivial,rfl,trivial,rfl,(by trivial),rfl,trivial,trivial⟩) ?_
        exact hk167 v135 h
      ·refine qa8 ?_
       refine qaa (qa3 [] (l:=[(0,.d (.sl false (a_.map qai))),(1,.d (.sl false (b_.map qai))),(5,.d (.fl .f32 v135)),(9,.d (.fl .f32 x168)),(11,.d (.int .i64 (a_.length:Int))),(12,.d (.int .i64 v72)),(24,.agg [.d (.cx .f32 x127.a0.re x127.a0.im),.d (.cx .f32 x127.a1.re x127.a1.im),.d (.cx .f32 x127.a2.re x127.a2.im)]),(25,.d (.int .i64 v136))]) (objs:=[]) rfl (by simp) rfl (by trivial) ⟨rfl,trivial,rfl,trivial,rfl,trivial,rfl,trivial,rfl,trivial,rfl,trivial,rfl,(by trivial),rfl,trivial,trivial⟩) ?_
       refine qa2<|qa1 hτ rfl rfl rfl<|qa1 hτ rfl rfl rfl<|qa1 hτ rfl rfl rfl<|qa1 hτ rfl rfl rfl ?_
       refine qbq 33 rfl (fun hb175=>?_) (fun hb175=>?_)
       ·have h:=qin h hb175
        refine qab rfl rfl<|qab rfl rfl<|qa1 hτ rfl rfl rfl<|qa5 ?_
        refine qaa (qa3 [] (l:=[(0,.d (.sl false (a_.map qai))),(1,.d (.sl false (b_.map qai))),(5,.d (.fl .f32 v135)),(9,.d (.fl .f32 x168)),(11,.d (.int .i64 (a_.length:Int))),(12,.d (.int .i64 v72)),(24,.agg [.d (.cx .f32 x127.a0.re x127.a0.im),.d (.cx .f32 x127.a1.re x127.a1.im),.d (.cx .f32 x127.a2.re x127.a2.im)]),(25,.d (.int .i64 v136)),(36,.d (.bool true))]) (objs:=[]) rfl (by simp) rfl (by trivial) ⟨rfl,trivial,rfl,trivial,rfl,trivial,rfl,trivial,rfl,trivial,rfl,trivial,rfl,(by trivial),rfl,trivial,rfl,trivial,trivial⟩) ?_
        exact hk174 true h
       ·have h:=qim h hb175
        refine qa1 hτ rfl rfl rfl ?_
        refine qaz h fun x176 hx176 h=>?_
        refine qae hτ false [] rfl rfl rfl (qaj func54 rfl rfl) rfl rfl (by simp) ⟨trivial,trivial⟩ (by trivial) (qiz n x168 hx176) ?_
        rintro r0 o0 n0 ⟨rfl,rfl,rfl⟩ -
        refine qa1 hτ rfl rfl rfl<|qa5 ?_
        refine qaa (qa3 [] (l:=[(0,.d (.sl false (a_.map qai))),(1,.d (.sl false (b_.map qai))),(5,.d (.fl .f32 v135)),(9,.d (.fl .f32 x168)),(11,.d (.int .i64 (a_.length:Int))),(12,.d (.int .i64 v72)),(24,.agg [.d (.cx .f32 x127.a0.re x127.a0.im),.d (.cx .f32 x127.a1.re x127.a1.im),.d (.cx .f32 x127.a2.re x127.a2.im)]),(25,.d (.int .i64 v136)),(36,.d (.bool x176))]) (objs:=[]) rfl (by simp) rfl (by trivial) ⟨rfl,trivial,rfl,trivial,rfl,trivial,rfl,trivial,rfl,trivial,rfl,trivial,rfl,(by trivial),rfl,trivial,rfl,trivial,trivial⟩) ?_
        exact hk174 x176 h
   ·have h:=qk1 h hc148
    refine qd3 ?_
    refine qaa (qa3 [] (l:=[(0,.d (.sl false (a_.map qai))),(1,.d (.sl false (b_.map qai))),(5,.d (.fl .f32 v135)),(11,.d (.int .i64 (a_.length:Int))),(12,.d (.int .i64 v72))]) (objs:=[]) rfl (by simp) rfl (by trivial) ⟨rfl,trivial,rfl,trivial,rfl,trivial,rfl,trivial,rfl,trivial,trivial⟩) ?_
    exact hk123 v135 h
 ·have h:=qk1 h hc99
  refine qd3<|qa8<|qa2<|qa1 hτ rfl rfl rfl<|qa1 hτ rfl rfl rfl ?_
  refine qa5 ?_
  refine qaa (qa3 [] (l:=[(4,.d (.fl .f32 v71))]) (objs:=[]) rfl (by simp) rfl (by trivial) ⟨rfl,trivial,trivial⟩) ?_
  refine qap ?_
  exact qah (.inr rfl) [] (objs':=[]) (new:=[]) rfl (by simp) (by simp) rfl (by trivial) rfl rfl (by trivial) (fun _=>⟨by simp [V.flat,V.qbg,V.qbb,D.flat],qan⟩) ⟨_,h,rfl,rfl,rfl⟩
theorem impl_change_okP_fr (n:Nat) (a_:List qad) (b_:List qad) {Q_:Nat→Prop} (h:qjg n a_ b_ Q_):qb1 prog true 42 [.d (.sl false (a_.map qai)),.d (.sl false (b_.map qai))] [] (fun v o new=>∃ r,Q_ r∧v = .d (.fl .f32 r)∧o = []∧new = []):=impl_change_okP_fr0 true n a_ b_ h
end Go.Proofs.YtiegopnofbgoaaaGreatDoor.AWN

set_option maxHeartbeats 2000000
namespace Go.Proofs.YtiegopnofbgoaaaGreatDoor.AWN
open Go Go.Proofs.Tryz
def qko (n:Nat) (v61:List qad) (v62:List qad) (v63:Int) (v64:Bool):Option (ql4 × Bool) :=
 some ((ql4.mk v61 v62 v63 v64),true)
def qkp (n:Nat) (f_:qau) (rounds_:Int) (near_:Nat):Nat→List qad→List qad→Int→Bool→Int→Option (ql4 × Bool)
 | 0,_,_,_,_,_=>none
 | m88 + 1,v72,v73,v74,v75,v76 =>
  if v76 < rounds_ then
   (m_impl_Feeder_sweep n f_ v72).bind fun x93 =>
   (m_impl_change n v72 x93.qd1).bind fun x94 =>
   if (fcmp .leq .f32 x94 near_) = true then
    qko n x93.qd1 x93.qil (w64 (v76 + (1:Int))) (fcmp .leq .f32 x94 near_)
   else
    (qkp n f_ rounds_ near_ m88) x93.qd1 x93.qil (w64 (v76 + (1:Int))) (fcmp .leq .f32 x94 near_) (w64 (v76 + (1:Int)))
  else
   qko n v72 v73 v74 v75
def m_impl_SolveFeeder_j1 (n:Nat) (f_:qau) (rounds_:Int) (near_:Nat):Option (ql4 × Bool) :=
 (qh0 n f_).bind fun x38 =>
 qkp n f_ rounds_ near_ n x38 ([]:List qad) (0:Int) false (0:Int)
def qh3 (n:Nat) (f_:qau) (rounds_:Int) (near_:Nat) (v104:Bool):Option (ql4 × Bool) :=
 if v104 = true then
  some ((ql4.mk ([]:List qad) ([]:List qad) (0:Int) false),false)
 else
  m_impl_SolveFeeder_j1 n f_ rounds_ near_
def m_impl_SolveFeeder (n:Nat) (f_:qau) (rounds_:Int) (near_:Nat):Option (ql4 × Bool) :=
 (qcq n f_).bind fun x107 =>
 if x107 = true then
  (qfl n rounds_ (1:Int) (50:Int)).bind fun x109 =>
  if x109 = true then
   (qiu n near_).bind fun x111 =>
   if x111 = true then
    qh3 n f_ rounds_ near_ (fcmp .lss .f32 near_ (0:Nat))
   else
    qh3 n f_ rounds_ near_ true
  else
   qh3 n f_ rounds_ near_ true
 else
  qh3 n f_ rounds_ near_ true
def qf0 (n:Nat) (Q_:ql4 × Bool→Prop) (v61:List qad) (v62:List qad) (v63:Int) (v64:Bool):Prop :=
 Q_ (((ql4.mk v61 v62 v63 v64),true))
def qd0 (n:Nat) (Q_:ql4 × Bool→Prop) (f_:qau) (rounds_:Int) (near_:Nat):Nat→List qad→List qad→Int→Bool→Int→Prop
 | 0,_,_,_,_,_=>False
 | m88 + 1,v72,v73,v74,v75,v76 =>
  if v76 < rounds_ then
   qg4 n f_ v72 fun x93 =>
   qjg n v72 x93.qd1 fun x94 =>
   if (fcmp .leq .f32 x94 near_) = true then
    qf0 n Q_ x93.qd1 x93.qil (w64 (v76 + (1:Int))) (fcmp .leq .f32 x94 near_)
   else
    (qd0 n Q_ f_ rounds_ near_ m88) x93.qd1 x93.qil (w64 (v76 + (1:Int))) (fcmp .leq .f32 x94 near_) (w64 (v76 + (1:Int)))
  else
   qf0 n Q_ v72 v73 v74 v75
def qez (n:Nat) (Q_:ql4 × Bool→Prop) (f_:qau) (rounds_:Int) (near_:Nat):Prop :=
 bndP (qh0 n f_) fun x38 =>
 qd0 n Q_ f_ rounds_ near_ n x38 ([]:List qad) (0:Int) false (0:Int)
def qcz (n:Nat) (Q_:ql4 × Bool→Prop) (f_:qau) (rounds_:Int) (near_:Nat) (v104:Bool):Prop :=
 if v104 = true then
  Q_ (((ql4.mk ([]:List qad) ([]:List qad) (0:Int) false),false))
 else
  qez n Q_ f_ rounds_ near_
def qgk (n:Nat) (f_:qau) (rounds_:Int) (near_:Nat) (Q_:ql4 × Bool→Prop):Prop :=
 bndP (qcq n f_) fun x107 =>
 if x107 = true then
  bndP (qfl n rounds_ (1:Int) (50:Int)) fun x109 =>
  if x109 = true then
   bndP (qiu n near_) fun x111 =>
   if x111 = true then
    qcz n Q_ f_ rounds_ near_ (fcmp .lss .f32 near_ (0:Nat))
   else
    qcz n Q_ f_ rounds_ near_ true
  else
   qcz n Q_ f_ rounds_ near_ true
 else
  qcz n Q_ f_ rounds_ near_ true
theorem impl_SolveFeeder_okP (n:Nat) (f_:qau) (rounds_:Int) (near_:Nat) {Q_:ql4 × Bool→Prop} (h:qgk n f_ rounds_ near_ Q_):qb1 prog false 15 [.agg [.d (.cx .f32 f_.Source.A.re f_.Source.A.im),.d (.cx .f32 f_.Source.B.re f_.Source.B.im),.d (.cx .f32 f_.Source.C.re f_.Source.C.im),.d (.sl false (f_.qa7.map qac))],.d (.int .i64 rounds_),.d (.fl .f32 near_)] [] (fun v o new=>∃ r,Q_ r∧v = .tup [.agg [.row 0 r.1.qd1.length 0 r.1.qd1.length,.d (.sl false (r.1.qil.map qai)),.d (.int .i64 r.1.Rounds),.d (.bool r.1.qve)],.d (.bool r.2)]∧o = []∧new = [.row 3 (r.1.qd1.map qai)]):=by
 refine qak hτ func15 rfl (by simp) (by simp) ?_
 unfold qgk at h
 refine qa8<|qa2<|qal hτ rfl rfl rfl<|qal hτ rfl rfl rfl<|qa1 hτ rfl rfl rfl ?_
 refine qa5 ?_
 refine qby (ι:=Unit) (fun _=>St.of [(1,.d (.int .i64 rounds_)),(2,.d (.fl .f32 near_)),(3,.ptr 0 0),(6,.ptr 1 0)] [.box [.d (.cx .f32 f_.Source.A.re f_.Source.A.im),.d (.cx .f32 f_.Source.B.re f_.Source.B.im),.d (.cx .f32 f_.Source.C.re f_.Source.C.im),.d (.sl false (f_.qa7.map qac))],.box [.d (.nils),.d (.nils),.d (.int .i64 (0:Int)),.d (.bool false)]] f15.ntmps 0) (fun _=>qez n Q_ f_ rounds_ near_) ?_ (fun hk96=>?_)
 ·rintro ⟨⟩ h
  replace h:qez n Q_ f_ rounds_ near_:=h
  unfold qez at h
  refine qa8<|qa2 ?_
  refine qaz h fun x38 hx38 h=>?_
  refine qae hτ false [0] rfl rfl rfl (qaj func39 rfl rfl) rfl rfl (by simp) ⟨trivial,trivial⟩ (by trivial) (impl_Feeder_flat_ok n f_ hx38) ?_
  rintro r0 o0 n0 ⟨rfl,rfl,rfl⟩ -
  refine qa1 hτ rfl rfl rfl<|qal hτ rfl rfl rfl<|qal hτ rfl rfl rfl<|qa5 ?_
  refine qby (ι:=List qad × List qad × Int × Bool) (fun (v61,v62,v63,v64)=>St.of [(6,.ptr 0 0),(8,.ptr 1 0)] [.box [.d (.nils),.d (.nils),.d (.int .i64 (0:Int)),.d (.bool false)],.box [.row 2 v61.length 0 v61.length,.d (.sl false (v62.map qai)),.d (.int .i64 v63),.d (.bool v64)],.row 3 (v61.map qai)] f15.ntmps 0) (fun (v61,v62,v63,v64)=>qf0 n Q_ v61 v62 v63 v64) ?_ (fun hk65=>?_)
  ·rintro ⟨v61,v62,v63,v64⟩ h
   replace h:qf0 n Q_ v61 v62 v63 v64:=h
   unfold qf0 at h
   refine qa8<|qa2<|qa1 hτ rfl rfl rfl<|qal hτ rfl rfl rfl<|qa1 hτ rfl rfl rfl ?_
   refine qa5 ?_
   refine qaa (qa3 [0,2] (l:=[(6,.ptr 0 0),(7,.d (.bool true))]) (objs:=[.box [.row 1 v61.length 0 v61.length,.d (.sl false (v62.map qai)),.d (.int .i64 v63),.d (.bool v64)],.row 3 (v61.map qai)]) rfl (by simp) rfl (by trivial) ⟨rfl,trivial,rfl,trivial,trivial⟩) ?_
   refine qap ?_
   exact qah (.inr rfl) [1] (objs':=[]) (new:=[.row 3 (v61.map qai)]) rfl (by simp) (by simp) rfl (by trivial) rfl rfl (by trivial) (fun h=>nomatch h) ⟨_,h,rfl,rfl,rfl⟩
  ·refine qa8<|qa8<|qa2<|qa1 hτ rfl rfl rfl<|qa1 hτ rfl rfl rfl ?_
   refine qa5<|qay ?_
   refine qde (ι:=Nat × List qad × List qad × Int × Bool × Int) (fun (m88,v72,v73,v74,v75,v76)=>St.of [(2,.d (.fl .f32 near_)),(3,.ptr 0 0),(6,.ptr 1 0),(8,.ptr 2 0),(31,.d (.int .i64 rounds_)),(32,.d (.int .i64 v76))] [.box [.d (.cx .f32 f_.Source.A.re f_.Source.A.im),.d (.cx .f32 f_.Source.B.re f_.Source.B.im),.d (.cx .f32 f_.Source.C.re f_.Source.C.im),.d (.sl false (f_.qa7.map qac))],.box [.d (.nils),.d (.nils),.d (.int .i64 (0:Int)),.d (.bool false)],.box [.row 3 v72.length 0 v72.length,.d (.sl false (v73.map qai)),.d (.int .i64 v74),.d (.bool v75)],.row 3 (v72.map qai)] f15.ntmps 0) (fun (m88,v72,v73,v74,v75,v76)=>qd0 n Q_ f_ rounds_ near_ m88 v72 v73 v74 v75 v76) (fun x=>x.1) (n,x38,([]:List qad),(0:Int),false,(0:Int)) h (Weak.trans (qa3 [0,1,3,2] (l:=[(2,.d (.fl .f32 near_)),(3,.ptr 0 0),(6,.ptr 1 0),(8,.ptr 2 0),(31,.d (.int .i64 rounds_)),(32,.d (.int .i64 (0:Int)))]) (objs:=[.box [.d (.cx .f32 f_.Source.A.re f_.Source.A.im),.d (.cx .f32 f_.Source.B.re f_.Source.B.im),.d (.cx .f32 f_.Source.C.re f_.Source.C.im),.d (.sl false (f_.qa7.map qac))],.box [.d (.nils),.d (.nils),.d (.int .i64 (0:Int)),.d (.bool false)],.box [.row 3 x38.length 0 x38.length,.d (.nils),.d (.int .i64 (0:Int)),.d (.bool false)],.row 3 (x38.map qai)]) rfl (by simp) rfl (by trivial) ⟨rfl,trivial,rfl,trivial,rfl,trivial,rfl,trivial,rfl,trivial,rfl,trivial,trivial⟩) (qjc [] (l':=[(2,.d (.fl .f32 near_)),(3,.ptr 0 0),(6,.ptr 1 0),(8,.ptr 2 0),(31,.d (.int .i64 rounds_)),(32,.d (.int .i64 (0:Int)))]) (objs':=[.box [.d (.cx .f32 f_.Source.A.re f_.Source.A.im),.d (.cx .f32 f_.Source.B.re f_.Source.B.im),.d (.cx .f32 f_.Source.C.re f_.Source.C.im),.d (.sl false (f_.qa7.map qac))],.box [.d (.nils),.d (.nils),.d (.int .i64 (0:Int)),.d (.bool false)],.box [.row 3 x38.length 0 x38.length,.d (.sl false (([]:List qad).map qai)),.d (.int .i64 (0:Int)),.d (.bool false)],.row 3 (x38.map qai)]) (.cons (.c (.refl _)) (.cons (.c (.refl _)) (.cons (.c (.refl _)) (.cons (.c (.refl _)) (.cons (.c (.refl _)) (.cons (.c (.refl _)) .nil)))))) (.cons (.refl _) (.cons (.refl _) (.cons (.box (.cons (.refl _) (.cons (.d .nil) (.cons (.refl _) (.cons (.refl _) .nil))))) (.cons (.refl _) .nil)))))) ?_
   rintro ⟨m88,v72,v73,v74,v75,v76⟩ h
   replace h:qd0 n Q_ f_ rounds_ near_ m88 v72 v73 v74 v75 v76:=h
   rcases m88 with _ | m88
   ·rw [qd0] at h;cases h
   rw [qd0] at h
   refine qa8<|qa2<|qa1 hτ rfl rfl rfl<|qa5<|qa8 ?_
   refine qaq rfl (fun hc90=>?_) (fun hc90=>?_)
   ·have h:=qk2 h hc90
    refine qat<|qa8<|qay<|qa8<|qa2 ?_
    refine qa1 hτ rfl rfl rfl<|qa1 hτ rfl rfl rfl<|qa5<|qa8<|qa2 ?_
    refine qa1 hτ rfl rfl rfl<|qa1 hτ rfl rfl rfl ?_
    refine qb3 (qa3 [0,1,2] (l:=[(2,.d (.fl .f32 near_)),(3,.ptr 0 0),(6,.ptr 1 0),(8,.ptr 2 0),(9,.d (.int .i64 v76)),(31,.d (.int .i64 rounds_)),(32,.d (.int .i64 v76)),(36,.d (.sl false (v72.map qai)))]) (objs:=[.box [.d (.cx .f32 f_.Source.A.re f_.Source.A.im),.d (.cx .f32 f_.Source.B.re f_.Source.B.im),.d (.cx .f32 f_.Source.C.re f_.Source.C.im),.d (.sl false (f_.qa7.map qac))],.box [.d (.nils),.d (.nils),.d (.int .i64 (0:Int)),.d (.bool false)],.box [.d (.sl false (v72.map qai)),.d (.sl false (v73.map qai)),.d (.int .i64 v74),.d (.bool v75)]]) rfl (by simp) (qbe rfl (qbe rfl (qbe (qvv (qbe (qkg (f:=qai) (j:=3) (sz:=3) v72 rfl rfl rfl) (qbe rfl (qbe rfl (qbe rfl qgu))))) qgu))) ⟨(by trivial),(by trivial),⟨(qkh (f:=qai) (j:=3) (sz:=3) v72 rfl rfl rfl),trivial,trivial,trivial⟩,trivial⟩ ⟨rfl,trivial,rfl,trivial,rfl,trivial,rfl,trivial,rfl,trivial,rfl,trivial,rfl,trivial,(qgy (f:=qai) (j:=3) (sz:=3) v72 rfl rfl rfl),(qfg (f:=qai) (j:=3) (sz:=3) v72 rfl rfl rfl),trivial⟩) ?_
    refine qae hτ false [0] rfl rfl rfl (qaj func40 rfl rfl) rfl rfl (by simp) ⟨trivial,trivial,(by trivial),trivial⟩ (by trivial) (impl_Feeder_sweep_okP n f_ v72 h) ?_
    rintro r0 o0 n0 ⟨x93,h,rfl,rfl,rfl⟩ -
    refine qal hτ rfl rfl rfl<|qal hτ rfl rfl rfl<|qa5<|qa8<|qa2 ?_
    refine qa1 hτ rfl rfl rfl<|qa1 hτ rfl rfl rfl<|qa1 hτ rfl rfl rfl<|qa1 hτ rfl rfl rfl<|qa1 hτ rfl rfl rfl ?_
    refine qa1 hτ rfl rfl rfl ?_
    refine qb3 (qa3 [0,1,2,4,3] (l:=[(2,.d (.fl .f32 near_)),(3,.ptr 0 0),(6,.ptr 1 0),(8,.ptr 2 0),(10,.ptr 3 0),(31,.d (.int .i64 rounds_)),(32,.d (.int .i64 v76)),(39,.d (.int .i64 (w64 (v76 + (1:Int))))),(41,.d (.sl false (v72.map qai))),(43,.row 4 x93.qd1.length 0 x93.qd1.length)]) (objs:=[.box [.d (.cx .f32 f_.Source.A.re f_.Source.A.im),.d (.cx .f32 f_.Source.B.re f_.Source.B.im),.d (.cx .f32 f_.Source.C.re f_.Source.C.im),.d (.sl false (f_.qa7.map qac))],.box [.d (.nils),.d (.nils),.d (.int .i64 (0:Int)),.d (.bool false)],.box [.d (.sl false (v72.map qai)),.d (.sl false (v73.map qai)),.d (.int .i64 v74),.d (.bool v75)],.box [.row 4 x93.qd1.length 0 x93.qd1.length,.d (.sl false (x93.qil.map qai)),.d (.int .i64 x93.Rounds),.d (.bool x93.qve)],.row 3 (x93.qd1.map qai)]) rfl (by simp) rfl (by trivial) ⟨rfl,trivial,rfl,trivial,rfl,trivial,rfl,trivial,rfl,trivial,rfl,trivial,rfl,trivial,rfl,trivial,rfl,trivial,rfl,trivial,trivial⟩) ?_
    refine qae hτ true [] rfl rfl rfl (qaj func42 rfl rfl) (qbe rfl (qbe (qgy (f:=qai) (j:=4) (sz:=3) x93.qd1 rfl rfl rfl) qgu)) rfl (by simp) ⟨trivial,(qfg (f:=qai) (j:=4) (sz:=3) x93.qd1 rfl rfl rfl),trivial⟩ (by trivial) (impl_change_okP_fr n v72 x93.qd1 h) ?_
    rintro r0 o0 n0 ⟨x94,h,rfl,rfl,rfl⟩ -
    refine qa1 hτ rfl rfl rfl<|qa1 hτ rfl rfl rfl<|qa1 hτ rfl rfl rfl<|qal hτ rfl rfl rfl<|qa1 hτ rfl rfl rfl ?_
    refine qal hτ rfl rfl rfl<|qa5<|qa8 ?_
    refine qaa (qa3 [0,1,2,3,4] (l:=[(2,.d (.fl .f32 near_)),(3,.ptr 0 0),(6,.ptr 1 0),(8,.ptr 2 0),(10,.ptr 3 0),(31,.d (.int .i64 rounds_)),(32,.d (.int .i64 v76))]) (objs:=[.box [.d (.cx .f32 f_.Source.A.re f_.Source.A.im),.d (.cx .f32 f_.Source.B.re f_.Source.B.im),.d (.cx .f32 f_.Source.C.re f_.Source.C.im),.d (.sl false (f_.qa7.map qac))],.box [.d (.nils),.d (.nils),.d (.int .i64 (0:Int)),.d (.bool false)],.box [.d (.sl false (v72.map qai)),.d (.sl false (v73.map qai)),.d (.int .i64 v74),.d (.bool v75)],.box [.row 4 x93.qd1.length 0 x93.qd1.length,.d (.sl false (x93.qil.map qai)),.d (.int .i64 (w64 (v76 + (1:Int)))),.d (.bool (fcmp .leq .f32 x94 near_))],.row 3 (x93.qd1.map qai)]) rfl (by simp) rfl (by trivial) ⟨rfl,trivial,rfl,trivial,rfl,trivial,rfl,trivial,rfl,trivial,rfl,trivial,rfl,trivial,trivial⟩) ?_
    refine qa2<|qa1 hτ rfl rfl rfl<|qal hτ rfl rfl rfl<|qa5<|qa8 ?_
    refine qa2<|qa1 hτ rfl rfl rfl<|qa1 hτ rfl rfl rfl<|qa5 ?_
    refine qaq rfl (fun hc95=>?_) (fun hc95=>?_)
    ·have h:=qin h hc95
     refine qd3 ?_
     refine qaa (qa3 [1,2,4] (l:=[(6,.ptr 0 0),(8,.ptr 1 0)]) (objs:=[.box [.d (.nils),.d (.nils),.d (.int .i64 (0:Int)),.d (.bool false)],.box [.row 2 x93.qd1.length 0 x93.qd1.length,.d (.sl false (x93.qil.map qai)),.d (.int .i64 (w64 (v76 + (1:Int)))),.d (.bool (fcmp .leq .f32 x94 near_))],.row 3 (x93.qd1.map qai)]) rfl (by simp) rfl (by trivial) ⟨rfl,trivial,rfl,trivial,trivial⟩) ?_
     exact hk65 (x93.qd1,x93.qil,(w64 (v76 + (1:Int))),(fcmp .leq .f32 x94 near_)) h
    ·have h:=qim h hc95
     refine qat<|qa2<|qa1 hτ rfl rfl rfl<|qa1 hτ rfl rfl rfl<|qa5 ?_
     exact ⟨(m88,x93.qd1,x93.qil,(w64 (v76 + (1:Int))),(fcmp .leq .f32 x94 near_),(w64 (v76 + (1:Int)))),h,Nat.lt_succ_self m88,(qa3 [0,1,2,4] (l:=[(2,.d (.fl .f32 near_)),(3,.ptr 0 0),(6,.ptr 1 0),(8,.ptr 2 0),(31,.d (.int .i64 rounds_)),(32,.d (.int .i64 (w64 (v76 + (1:Int)))))]) (objs:=[.box [.d (.cx .f32 f_.Source.A.re f_.Source.A.im),.d (.cx .f32 f_.Source.B.re f_.Source.B.im),.d (.cx .f32 f_.Source.C.re f_.Source.C.im),.d (.sl false (f_.qa7.map qac))],.box [.d (.nils),.d (.nils),.d (.int .i64 (0:Int)),.d (.bool false)],.box [.row 3 x93.qd1.length 0 x93.qd1.length,.d (.sl false (x93.qil.map qai)),.d (.int .i64 (w64 (v76 + (1:Int)))),.d (.bool (fcmp .leq .f32 x94 near_))],.row 3 (x93.qd1.map qai)]) rfl (by simp) rfl (by trivial) ⟨rfl,trivial,rfl,trivial,rfl,trivial,rfl,trivial,rfl,trivial,rfl,trivial,trivial⟩)⟩
   ·have h:=qk1 h hc90
    refine qd3 ?_
    refine qaa (qa3 [1,2,3] (l:=[(6,.ptr 0 0),(8,.ptr 1 0)]) (objs:=[.box [.d (.nils),.d (.nils),.d (.int .i64 (0:Int)),.d (.bool false)],.box [.row 2 v72.length 0 v72.length,.d (.sl false (v73.map qai)),.d (.int .i64 v74),.d (.bool v75)],.row 3 (v72.map qai)]) rfl (by simp) rfl (by trivial) ⟨rfl,trivial,rfl,trivial,trivial⟩) ?_
    exact hk65 (v72,v73,v74,v75) h
 ·refine qa8 ?_
  refine qby (ι:=Bool) (fun v104=>St.of [(1,.d (.int .i64 rounds_)),(2,.d (.fl .f32 near_)),(3,.ptr 0 0),(6,.ptr 1 0),(27,.d (.bool v104))] [.box [.d (.cx .f32 f_.Source.A.re f_.Source.A.im),.d (.cx .f32 f_.Source.B.re f_.Source.B.im),.d (.cx .f32 f_.Source.C.re f_.Source.C.im),.d (.sl false (f_.qa7.map qac))],.box [.d (.nils),.d (.nils),.d (.int .i64 (0:Int)),.d (.bool false)]] f15.ntmps 0) (fun v104=>qcz n Q_ f_ rounds_ near_ v104) ?_ (fun hk106=>?_)
  ·rintro v104 h
   replace h:qcz n Q_ f_ rounds_ near_ v104:=h
   unfold qcz at h
   refine qaq rfl (fun hc105=>?_) (fun hc105=>?_)
   ·have h:=qin h hc105
    refine qa8<|qa2<|qa1 hτ rfl rfl rfl<|qal hτ rfl rfl rfl<|qa1 hτ rfl rfl rfl ?_
    refine qa5 ?_
    refine qaa (qa3 [1] (l:=[(6,.ptr 0 0),(7,.d (.bool false))]) (objs:=[.box [.d (.nils),.d (.nils),.d (.int .i64 (0:Int)),.d (.bool false)]]) rfl (by simp) rfl (by trivial) ⟨rfl,trivial,rfl,trivial,trivial⟩) ?_
    refine qaa (qjc [3] (l':=[(6,.ptr 0 0),(7,.d (.bool false))]) (objs':=[.box [.row 1 (([]:List qad).length) 0 (([]:List qad).length),.d (.sl false (([]:List qad).map qai)),.d (.int .i64 (0:Int)),.d (.bool false)]]) (.cons (.c (.refl _)) (.cons (.c (.refl _)) .nil)) (.cons (.box (.cons (.ghost ⟨Nat.le_of_ble_eq_true rfl,Nat.le_of_ble_eq_true rfl⟩) (.cons (.d .nil) (.cons (.refl _) (.cons (.refl _) .nil))))) .nil)) ?_
    refine qap ?_
    exact qah (.inr rfl) [1] (objs':=[]) (new:=[.row 3 (([]:List qad).map qai)]) rfl (by simp) (by simp) rfl (by trivial) rfl rfl (by trivial) (fun h=>nomatch h) ⟨_,h,rfl,rfl,rfl⟩
   ·have h:=qim h hc105
    refine qat ?_
    refine qaa (qa3 [0,1] (l:=[(1,.d (.int .i64 rounds_)),(2,.d (.fl .f32 near_)),(3,.ptr 0 0),(6,.ptr 1 0)]) (objs:=[.box [.d (.cx .f32 f_.Source.A.re f_.Source.A.im),.d (.cx .f32 f_.Source.B.re f_.Source.B.im),.d (.cx .f32 f_.Source.C.re f_.Source.C.im),.d (.sl false (f_.qa7.map qac))],.box [.d (.nils),.d (.nils),.d (.int .i64 (0:Int)),.d (.bool false)]]) rfl (by simp) rfl (by trivial) ⟨rfl,trivial,rfl,trivial,rfl,trivial,rfl,trivial,trivial⟩) ?_
    exact hk96 () h
  ·refine qa8<|qa2<|qa1 hτ rfl rfl rfl ?_
   refine qaz h fun x107 hx107 h=>?_
   refine qae hτ false [] rfl rfl rfl (qaj func11 rfl rfl) rfl rfl (by simp) ⟨(by trivial),trivial⟩ (by trivial) (qlk n f_ hx107) ?_
   rintro r0 o0 n0 ⟨rfl,rfl,rfl⟩ -
   refine qa1 hτ rfl rfl rfl<|qa1 hτ rfl rfl rfl ?_
   refine qbq 14 rfl (fun hb108=>?_) (fun hb108=>?_)
   ·have hb108:=qjf hb108
    have h:=qim h hb108
    refine qab rfl rfl<|qab rfl rfl<|qab rfl rfl<|qa1 hτ rfl rfl rfl<|qa1 hτ rfl rfl rfl ?_
    refine qb3 (qa3 [0,1] (l:=[(1,.d (.int .i64 rounds_)),(2,.d (.fl .f32 near_)),(3,.ptr 0 0),(6,.ptr 1 0),(19,.d (.bool true))]) (objs:=[.box [.d (.cx .f32 f_.Source.A.re f_.Source.A.im),.d (.cx .f32 f_.Source.B.re f_.Source.B.im),.d (.cx .f32 f_.Source.C.re f_.Source.C.im),.d (.sl false (f_.qa7.map qac))],.box [.d (.nils),.d (.nils),.d (.int .i64 (0:Int)),.d (.bool false)]]) rfl (by simp) rfl (by trivial) ⟨rfl,trivial,rfl,trivial,rfl,trivial,rfl,trivial,rfl,trivial,trivial⟩) ?_
    refine qab rfl rfl<|qab rfl rfl<|qab rfl rfl<|qa1 hτ rfl rfl rfl<|qa1 hτ rfl rfl rfl ?_
    refine qab rfl rfl<|qab rfl rfl<|qa1 hτ rfl rfl rfl<|qa5 ?_
    refine qaa (qa3 [0,1] (l:=[(1,.d (.int .i64 rounds_)),(2,.d (.fl .f32 near_)),(3,.ptr 0 0),(6,.ptr 1 0),(27,.d (.bool true))]) (objs:=[.box [.d (.cx .f32 f_.Source.A.re f_.Source.A.im),.d (.cx .f32 f_.Source.B.re f_.Source.B.im),.d (.cx .f32 f_.Source.C.re f_.Source.C.im),.d (.sl false (f_.qa7.map qac))],.box [.d (.nils),.d (.nils),.d (.int .i64 (0:Int)),.d (.bool false)]]) rfl (by simp) rfl (by trivial) ⟨rfl,trivial,rfl,trivial,rfl,trivial,rfl,trivial,rfl,trivial,trivial⟩) ?_
    exact hk106 true h
   ·have hb108:=qje hb108
    have h:=qin h hb108
    refine qa1 hτ rfl rfl rfl ?_
    refine qaz h fun x109 hx109 h=>?_
    refine qae hτ false [] rfl rfl rfl (qaj func36 rfl rfl) rfl rfl (by simp) ⟨trivial,trivial,trivial,trivial⟩ (by trivial) (qig n rounds_ (1:Int) (50:Int) hx109) ?_
    rintro r0 o0 n0 ⟨rfl,rfl,rfl⟩ -
    refine qa1 hτ rfl rfl rfl<|qa1 hτ rfl rfl rfl<|qa1 hτ rfl rfl rfl ?_
    refine qb3 (qa3 [0,1] (l:=[(1,.d (.int .i64 rounds_)),(2,.d (.fl .f32 near_)),(3,.ptr 0 0),(6,.ptr 1 0),(19,.d (.bool (!x109)))]) (objs:=[.box [.d (.cx .f32 f_.Source.A.re f_.Source.A.im),.d (.cx .f32 f_.Source.B.re f_.Source.B.im),.d (.cx .f32 f_.Source.C.re f_.Source.C.im),.d (.sl false (f_.qa7.map qac))],.box [.d (.nils),.d (.nils),.d (.int .i64 (0:Int)),.d (.bool false)]]) rfl (by simp) rfl (by trivial) ⟨rfl,trivial,rfl,trivial,rfl,trivial,rfl,trivial,rfl,trivial,trivial⟩) ?_
    refine qbq 19 rfl (fun hb110=>?_) (fun hb110=>?_)
    ·have hb110:=qjf hb110
     have h:=qim h hb110
     refine qab rfl rfl<|qab rfl rfl<|qab rfl rfl<|qa1 hτ rfl rfl rfl<|qa1 hτ rfl rfl rfl ?_
     refine qab rfl rfl<|qab rfl rfl<|qa1 hτ rfl rfl rfl<|qa5 ?_
     refine qaa (qa3 [0,1] (l:=[(1,.d (.int .i64 rounds_)),(2,.d (.fl .f32 near_)),(3,.ptr 0 0),(6,.ptr 1 0),(27,.d (.bool true))]) (objs:=[.box [.d (.cx .f32 f_.Source.A.re f_.Source.A.im),.d (.cx .f32 f_.Source.B.re f_.Source.B.im),.d (.cx .f32 f_.Source.C.re f_.Source.C.im),.d (.sl false (f_.qa7.map qac))],.box [.d (.nils),.d (.nils),.d (.int .i64 (0:Int)),.d (.bool false)]]) rfl (by simp) rfl (by trivial) ⟨rfl,trivial,rfl,trivial,rfl,trivial,rfl,trivial,rfl,trivial,trivial⟩) ?_
     exact hk106 true h
    ·have hb110:=qje hb110
     have h:=qin h hb110
     refine qa1 hτ rfl rfl rfl ?_
     refine qaz h fun x111 hx111 h=>?_
     refine qae hτ false [] rfl rfl rfl (qaj func38 rfl rfl) rfl rfl (by simp) ⟨trivial,trivial⟩ (by trivial) (impl_IsFinite_ok n near_ hx111) ?_
     rintro r0 o0 n0 ⟨rfl,rfl,rfl⟩ -
     refine qa1 hτ rfl rfl rfl<|qa1 hτ rfl rfl rfl<|qa1 hτ rfl rfl rfl ?_
     refine qbq 24 rfl (fun hb112=>?_) (fun hb112=>?_)
     ·have hb112:=qjf hb112
      have h:=qim h hb112
      refine qab rfl rfl<|qab rfl rfl<|qa1 hτ rfl rfl rfl<|qa5 ?_
      refine qaa (qa3 [0,1] (l:=[(1,.d (.int .i64 rounds_)),(2,.d (.fl .f32 near_)),(3,.ptr 0 0),(6,.ptr 1 0),(27,.d (.bool true))]) (objs:=[.box [.d (.cx .f32 f_.Source.A.re f_.Source.A.im),.d (.cx .f32 f_.Source.B.re f_.Source.B.im),.d (.cx .f32 f_.Source.C.re f_.Source.C.im),.d (.sl false (f_.qa7.map qac))],.box [.d (.nils),.d (.nils),.d (.int .i64 (0:Int)),.d (.bool false)]]) rfl (by simp) rfl (by trivial) ⟨rfl,trivial,rfl,trivial,rfl,trivial,rfl,trivial,rfl,trivial,trivial⟩) ?_
      exact hk106 true h
     ·have hb112:=qje hb112
      have h:=qin h hb112
      refine qa1 hτ rfl rfl rfl<|qa1 hτ rfl rfl rfl<|qa1 hτ rfl rfl rfl<|qa5 ?_
      refine qaa (qa3 [0,1] (l:=[(1,.d (.int .i64 rounds_)),(2,.d (.fl .f32 near_)),(3,.ptr 0 0),(6,.ptr 1 0),(27,.d (.bool (fcmp .lss .f32 near_ (0:Nat))))]) (objs:=[.box [.d (.cx .f32 f_.Source.A.re f_.Source.A.im),.d (.cx .f32 f_.Source.B.re f_.Source.B.im),.d (.cx .f32 f_.Source.C.re f_.Source.C.im),.d (.sl false (f_.qa7.map qac))],.box [.d (.nils),.d (.nils),.d (.int .i64 (0:Int)),.d (.bool false)]]) rfl (by simp) rfl (by trivial) ⟨rfl,trivial,rfl,trivial,rfl,trivial,rfl,trivial,rfl,trivial,trivial⟩) ?_
      exact hk106 (fcmp .lss .f32 near_ (0:Nat)) h
def qdf (n:Nat) (k26:List Int→Int→Option (List Int)) (v18:Int) (v32:List Int):Option (List Int) :=
 k26 v32 (w64 (v18 + (1:Int)))
def qbw (n:Nat) (f_:qbk):Nat→List Int→Int→Option (List Int)
 | 0,_,_=>none
 | m25 + 1,v17,v18 =>
  if v18 < (f_.qa0.qa7.length:Int) then
   (getI f_.qa0.qa7 v18).bind fun x34 =>
   (qf7 n v17 x34.qaw).bind fun x35 =>
   if x35 = true then
    grd (room (v17.length + 1) 8) <|
    qdf n (qbw n f_ m25) v18 (v17 ++ [v18])
   else
    qdf n (qbw n f_ m25) v18 v17
  else
   some v17
def qgf (n:Nat) (f_:qbk) (bus_:Int):Option (List Int) :=
 qbw n f_ n [bus_] (w64 (bus_ + (1:Int)))
theorem impl_Feeder_below_ok (n:Nat) (f_:qbk) (bus_:Int) {r:List Int} (h:qgf n f_ bus_ = some r):qb1 prog false 44 [.ptr 0 0,.d (.int .i64 bus_)] [.box [.d (.cx .f32 f_.qa0.Source.A.re f_.qa0.Source.A.im),.d (.cx .f32 f_.qa0.Source.B.re f_.qa0.Source.B.im),.d (.cx .f32 f_.qa0.Source.C.re f_.qa0.Source.C.im),.d (.sl false (f_.qa0.qa7.map qac)),.d (.sl false (f_.Ties.map qam))]] (fun v o new=>v = .row 1 r.length 0 r.length∧o = [.box [.d (.cx .f32 f_.qa0.Source.A.re f_.qa0.Source.A.im),.d (.cx .f32 f_.qa0.Source.B.re f_.qa0.Source.B.im),.d (.cx .f32 f_.qa0.Source.C.re f_.qa0.Source.C.im),.d (.sl false (f_.qa0.qa7.map qac)),.d (.sl false (f_.Ties.map qam))]]∧new = [.row 1 (r.map qa6)]):=by
 refine qak hτ func44 rfl (by simp) (by simp) ?_
 unfold qgf at h
 refine qa8<|qa2<|qa1 hτ rfl rfl rfl<|qa5<|qa8 ?_
 refine qa2<|qa1 hτ rfl rfl rfl<|qal hτ rfl rfl rfl<|qa1 hτ rfl rfl rfl<|qa5 ?_
 refine qa8<|qa8<|qa2<|qa1 hτ rfl rfl rfl<|qa1 hτ rfl rfl rfl ?_
 refine qa1 hτ rfl rfl rfl<|qa5<|qay ?_
 refine qde (ι:=Nat × List Int × Int) (fun (m25,v17,v18)=>St.of [(0,.ptr 0 0),(5,.row 1 v17.length 0 v17.length),(6,.d (.int .i64 v18))] [.box [.d (.cx .f32 f_.qa0.Source.A.re f_.qa0.Source.A.im),.d (.cx .f32 f_.qa0.Source.B.re f_.qa0.Source.B.im),.d (.cx .f32 f_.qa0.Source.C.re f_.qa0.Source.C.im),.d (.sl false (f_.qa0.qa7.map qac)),.d (.sl false (f_.Ties.map qam))],.row 1 (v17.map qa6)] f44.ntmps 1) (fun (m25,v17,v18)=>qbw n f_ m25 v17 v18 = some r) (fun x=>x.1) (n,[bus_],(w64 (bus_ + (1:Int)))) h (qa3 [0,1] (l:=[(0,.ptr 0 0),(5,.row 1 ([bus_].length) 0 ([bus_].length)),(6,.d (.int .i64 (w64 (bus_ + (1:Int)))))]) (objs:=[.box [.d (.cx .f32 f_.qa0.Source.A.re f_.qa0.Source.A.im),.d (.cx .f32 f_.qa0.Source.B.re f_.qa0.Source.B.im),.d (.cx .f32 f_.qa0.Source.C.re f_.qa0.Source.C.im),.d (.sl false (f_.qa0.qa7.map qac)),.d (.sl false (f_.Ties.map qam))],.row 1 ([bus_].map qa6)]) rfl (by simp) rfl (by trivial) ⟨rfl,trivial,rfl,trivial,rfl,trivial,trivial⟩) ?_
 rintro ⟨m25,v17,v18⟩ h
 replace h:qbw n f_ m25 v17 v18 = some r:=h
 rcases m25 with _ | m25
 ·rw [qbw] at h;cases h
 rw [qbw] at h
 refine qa8<|qa8<|qa2<|qa1 hτ rfl rfl rfl<|qa1 hτ rfl rfl rfl ?_
 refine qa1 hτ rfl rfl rfl<|qa1 hτ rfl rfl rfl<|qa1 hτ rfl rfl rfl ?_
 refine qa1 hτ (v:=.d (.int .i64 (f_.qa0.qa7.length:Int))) rfl rfl (Eq.trans rfl (qei (f:=qac) f_.qa0.qa7)) ?_
 refine qa1 hτ rfl rfl rfl<|qa5 ?_
 refine qaa (qa3 [0,1] (l:=[(0,.ptr 0 0),(5,.row 1 v17.length 0 v17.length),(6,.d (.int .i64 v18)),(17,.d (.bool (decide (v18 < (f_.qa0.qa7.length:Int)))))]) (objs:=[.box [.d (.cx .f32 f_.qa0.Source.A.re f_.qa0.Source.A.im),.d (.cx .f32 f_.qa0.Source.B.re f_.qa0.Source.B.im),.d (.cx .f32 f_.qa0.Source.C.re f_.qa0.Source.C.im),.d (.sl false (f_.qa0.qa7.map qac)),.d (.sl false (f_.Ties.map qam))],.row 1 (v17.map qa6)]) rfl (by simp) rfl (by trivial) ⟨rfl,trivial,rfl,trivial,rfl,trivial,rfl,trivial,trivial⟩) ?_
 refine qaq rfl (fun hc27=>?_) (fun hc27=>?_)
 ·have h:=if_t h hc27
  refine qat ?_
  refine qby (ι:=List Int) (fun v32=>St.of [(0,.ptr 0 0),(5,.row 1 v32.length 0 v32.length),(6,.d (.int .i64 v18))] [.box [.d (.cx .f32 f_.qa0.Source.A.re f_.qa0.Source.A.im),.d (.cx .f32 f_.qa0.Source.B.re f_.qa0.Source.B.im),.d (.cx .f32 f_.qa0.Source.C.re f_.qa0.Source.C.im),.d (.sl false (f_.qa0.qa7.map qac)),.d (.sl false (f_.Ties.map qam))],.row 1 (v32.map qa6)] f44.ntmps 1) (fun v32=>qdf n (qbw n f_ m25) v18 v32 = some r) ?_ (fun hk33=>?_)
  ·rintro v32 h
   replace h:qdf n (qbw n f_ m25) v18 v32 = some r:=h
   unfold qdf at h
   refine qa2<|qa1 hτ rfl rfl rfl<|qa1 hτ rfl rfl rfl<|qa1 hτ rfl rfl rfl<|qa5 ?_
   exact ⟨(m25,v32,(w64 (v18 + (1:Int)))),h,Nat.lt_succ_self m25,(qa3 [0,1] (l:=[(0,.ptr 0 0),(5,.row 1 v32.length 0 v32.length),(6,.d (.int .i64 (w64 (v18 + (1:Int)))))]) (objs:=[.box [.d (.cx .f32 f_.qa0.Source.A.re f_.qa0.Source.A.im),.d (.cx .f32 f_.qa0.Source.B.re f_.qa0.Source.B.im),.d (.cx .f32 f_.qa0.Source.C.re f_.qa0.Source.C.im),.d (.sl false (f_.qa0.qa7.map qac)),.d (.sl false (f_.Ties.map qam))],.row 1 (v32.map qa6)]) rfl (by simp) rfl (by trivial) ⟨rfl,trivial,rfl,trivial,rfl,trivial,trivial⟩)⟩
  ·refine qa8<|qay<|qa8<|qa2<|qa1 hτ rfl rfl rfl ?_
   refine qa1 hτ rfl rfl rfl<|qa1 hτ rfl rfl rfl<|qa1 hτ rfl rfl rfl<|qa1 hτ rfl rfl rfl<|qa1 hτ rfl rfl rfl ?_
   refine qaf h fun x34 hx34 h=>?_
   refine qce hτ rfl rfl rfl (qb8 hx34).1 (qbm hx34) rfl ?_
   refine qa1 hτ rfl rfl rfl<|qa1 hτ rfl rfl rfl ?_
   refine qb3 (qa3 [0,1] (l:=[(0,.ptr 0 0),(5,.row 1 v17.length 0 v17.length),(6,.d (.int .i64 v18)),(20,.row 1 v17.length 0 v17.length),(28,.d (.int .i64 x34.qaw))]) (objs:=[.box [.d (.cx .f32 f_.qa0.Source.A.re f_.qa0.Source.A.im),.d (.cx .f32 f_.qa0.Source.B.re f_.qa0.Source.B.im),.d (.cx .f32 f_.qa0.Source.C.re f_.qa0.Source.C.im),.d (.sl false (f_.qa0.qa7.map qac)),.d (.sl false (f_.Ties.map qam))],.row 1 (v17.map qa6)]) rfl (by simp) rfl (by trivial) ⟨rfl,trivial,rfl,trivial,rfl,trivial,rfl,trivial,rfl,trivial,trivial⟩) ?_
   refine qaf h fun x35 hx35 h=>?_
   refine qae hτ true [] rfl rfl rfl (qaj func32 rfl rfl) (qbe (qgy (f:=qa6) (j:=1) (sz:=1) v17 rfl rfl rfl) (qbe rfl qgu)) rfl (by simp) ⟨(qfg (f:=qa6) (j:=1) (sz:=1) v17 rfl rfl rfl),trivial,trivial⟩ (by trivial) (qku n v17 x34.qaw hx35) ?_
   rintro r0 o0 n0 ⟨rfl,rfl,rfl⟩ -
   refine qa5 ?_
   refine qaq rfl (fun hc36=>?_) (fun hc36=>?_)
   ·have h:=qeh h hc36
    refine qa2<|qa1 hτ rfl rfl rfl<|qa1 hτ rfl rfl rfl<|qal hτ rfl rfl rfl ?_
    refine qci h fun hg37 h=>?_
    refine qi7 hτ rfl rfl (Eq.trans rfl (or_append (f:=qa6) v17 [v18] rfl)) ⟨⟨rfl,Nat.le_of_ble_eq_true rfl⟩,qb4 _,rfl,rfl,hg37,by decide,(all1 rfl)⟩ ?_
    refine qa1 hτ rfl rfl rfl<|qa5 ?_
    refine qaa (qa3 [0,1] (l:=[(0,.ptr 0 0),(5,.row 1 ((v17 ++ [v18]).length) 0 ((v17 ++ [v18]).length)),(6,.d (.int .i64 v18))]) (objs:=[.box [.d (.cx .f32 f_.qa0.Source.A.re f_.qa0.Source.A.im),.d (.cx .f32 f_.qa0.Source.B.re f_.qa0.Source.B.im),.d (.cx .f32 f_.qa0.Source.C.re f_.qa0.Source.C.im),.d (.sl false (f_.qa0.qa7.map qac)),.d (.sl false (f_.Ties.map qam))],.row 1 ((v17 ++ [v18]).map qa6)]) rfl (by simp) rfl (by trivial) ⟨rfl,trivial,rfl,trivial,rfl,trivial,trivial⟩) ?_
    exact hk33 (v17 ++ [v18]) h
   ·have h:=qeg h hc36
    refine qat ?_
    refine qaa (qa3 [0,1] (l:=[(0,.ptr 0 0),(5,.row 1 v17.length 0 v17.length),(6,.d (.int .i64 v18))]) (objs:=[.box [.d (.cx .f32 f_.qa0.Source.A.re f_.qa0.Source.A.im),.d (.cx .f32 f_.qa0.Source.B.re f_.qa0.Source.B.im),.d (.cx .f32 f_.qa0.Source.C.re f_.qa0.Source.C.im),.d (.sl false (f_.qa0.qa7.map qac)),.d (.sl false (f_.Ties.map qam))],.row 1 (v17.map qa6)]) rfl (by simp) rfl (by trivial) ⟨rfl,trivial,rfl,trivial,rfl,trivial,trivial⟩) ?_
    exact hk33 v17 h
 ·have h:=if_f h hc27
  refine qd3<|qa8<|qa2<|qa1 hτ rfl rfl rfl<|qa1 hτ rfl rfl rfl ?_
  refine qa5 ?_
  refine qaa (qa3 [0,1] (l:=[(4,.row 1 v17.length 0 v17.length)]) (objs:=[.box [.d (.cx .f32 f_.qa0.Source.A.re f_.qa0.Source.A.im),.d (.cx .f32 f_.qa0.Source.B.re f_.qa0.Source.B.im),.d (.cx .f32 f_.qa0.Source.C.re f_.qa0.Source.C.im),.d (.sl false (f_.qa0.qa7.map qac)),.d (.sl false (f_.Ties.map qam))],.row 1 (v17.map qa6)]) rfl (by simp) rfl (by trivial) ⟨rfl,trivial,trivial⟩) ?_
  refine qap ?_
  have hr:=Option.some.inj h
  subst hr
  exact qah (.inr rfl) [1] (objs':=[.box [.d (.cx .f32 f_.qa0.Source.A.re f_.qa0.Source.A.im),.d (.cx .f32 f_.qa0.Source.B.re f_.qa0.Source.B.im),.d (.cx .f32 f_.qa0.Source.C.re f_.qa0.Source.C.im),.d (.sl false (f_.qa0.qa7.map qac)),.d (.sl false (f_.Ties.map qam))]]) (new:=[.row 1 (v17.map qa6)]) rfl (by simp) (by simp) rfl (by trivial) rfl rfl (by trivial) (fun h=>nomatch h) ⟨rfl,rfl,rfl⟩
def qdx (n:Nat) (g_:qbk) (x16:Int):Nat→List Int→Int→Option (List Int × Bool)
 | 0,_,_=>none
 | m25 + 1,v19,v20 =>
  if v20 < (g_.qa0.qa7.length:Int) then
   (qcv n g_ v20).bind fun x28 =>
   grd (room (v19.length + 1) 8) <|
   (qdx n g_ x16 m25) (v19 ++ [(w64 (x16 - x28.2.1))]) (w64 (v20 + (1:Int)))
  else
   some (v19,true)
def qfj (n:Nat) (g_:qbk):Option (List Int × Bool) :=
 (qe1 n g_).bind fun x13 =>
 if x13 = true then
  (qgf n g_ (0:Int)).bind fun x15 =>
  (qg8 n g_ x15).bind fun x16 =>
  qdx n g_ x16 n [x16] (1:Int)
 else
  some (([]:List Int),false)
theorem impl_ImpactOf_ok_fr0 (fr:Bool) (n:Nat) (g_:qbk) {r:List Int × Bool} (h:qfj n g_ = some r):qb1 prog fr 16 [.agg [.d (.cx .f32 g_.qa0.Source.A.re g_.qa0.Source.A.im),.d (.cx .f32 g_.qa0.Source.B.re g_.qa0.Source.B.im),.d (.cx .f32 g_.qa0.Source.C.re g_.qa0.Source.C.im),.d (.sl false (g_.qa0.qa7.map qac)),.d (.sl false (g_.Ties.map qam))]] [] (fun v o new=>v = .tup [.row 0 r.1.length 0 r.1.length,.d (.bool r.2)]∧o = []∧new = [.row 1 (r.1.map qa6)]):=by
 refine qak hτ func16 rfl (by simp) (by simp) ?_
 unfold qfj at h
 refine qa8<|qa2<|qal hτ rfl rfl rfl<|qa1 hτ rfl rfl rfl<|qa1 hτ rfl rfl rfl ?_
 refine qa5<|qa8<|qa8<|qa2<|qa1 hτ rfl rfl rfl ?_
 refine qaf h fun x13 hx13 h=>?_
 refine qae hτ false [] rfl rfl rfl (qaj func6 rfl rfl) rfl rfl (by simp) ⟨(by trivial),trivial⟩ (by trivial) (qm3 n g_ hx13) ?_
 rintro r0 o0 n0 ⟨rfl,rfl,rfl⟩ -
 refine qa1 hτ rfl rfl rfl<|qa5 ?_
 refine qaa (qa3 [0] (l:=[(1,.ptr 0 0),(12,.d (.bool (!x13)))]) (objs:=[.box [.d (.cx .f32 g_.qa0.Source.A.re g_.qa0.Source.A.im),.d (.cx .f32 g_.qa0.Source.B.re g_.qa0.Source.B.im),.d (.cx .f32 g_.qa0.Source.C.re g_.qa0.Source.C.im),.d (.sl false (g_.qa0.qa7.map qac)),.d (.sl false (g_.Ties.map qam))]]) rfl (by simp) rfl (by trivial) ⟨rfl,trivial,rfl,trivial,trivial⟩) ?_
 refine qaq rfl (fun hc14=>?_) (fun hc14=>?_)
 ·have hc14:=qjf hc14
  have h:=qeg h hc14
  refine qa8<|qa2<|qa1 hτ rfl rfl rfl<|qa1 hτ rfl rfl rfl<|qa5 ?_
  refine qaa (qa3 [] (l:=[(2,.d (.nils)),(3,.d (.bool false))]) (objs:=[]) rfl (by simp) rfl (by trivial) ⟨rfl,trivial,rfl,trivial,trivial⟩) ?_
  refine qaa (qjc [1] (l':=[(2,.row 0 (([]:List Int).length) 0 (([]:List Int).length)),(3,.d (.bool false))]) (objs':=[]) (.cons (.c (.ghost ⟨Nat.le_of_ble_eq_true rfl,Nat.le_of_ble_eq_true rfl⟩)) (.cons (.c (.refl _)) .nil)) .nil) ?_
  refine qap ?_
  have hr:=Option.some.inj h
  subst hr
  exact qah (.inr rfl) [0] (objs':=[]) (new:=[.row 1 (([]:List Int).map qa6)]) rfl (by simp) (by simp) rfl (by trivial) rfl rfl (by trivial) (fun _=>⟨by simp [V.flat,V.qbg,V.qbb,D.flat],(qc8 (qgt qff _) qan)⟩) ⟨rfl,rfl,rfl⟩
 ·have hc14:=qje hc14
  have h:=qeh h hc14
  refine qat<|qa8<|qa2<|qa1 hτ rfl rfl rfl<|qa1 hτ rfl rfl rfl ?_
  refine qaf h fun x15 hx15 h=>?_
  refine qae hτ false [0] rfl rfl rfl (qaj func44 rfl rfl) rfl rfl (by simp) ⟨trivial,trivial,trivial⟩ (by trivial) (impl_Feeder_below_ok n g_ (0:Int) hx15) ?_
  rintro r0 o0 n0 ⟨rfl,rfl,rfl⟩ -
  refine qb3 (qa3 [0] (l:=[(1,.ptr 0 0),(13,.ptr 0 0),(15,.d (.sl false (x15.map qa6)))]) (objs:=[.box [.d (.cx .f32 g_.qa0.Source.A.re g_.qa0.Source.A.im),.d (.cx .f32 g_.qa0.Source.B.re g_.qa0.Source.B.im),.d (.cx .f32 g_.qa0.Source.C.re g_.qa0.Source.C.im),.d (.sl false (g_.qa0.qa7.map qac)),.d (.sl false (g_.Ties.map qam))]]) rfl (by simp) rfl (by trivial) ⟨rfl,trivial,rfl,trivial,(qgy (f:=qa6) (j:=1) (sz:=1) x15 rfl rfl rfl),(qfg (f:=qa6) (j:=1) (sz:=1) x15 rfl rfl rfl),trivial⟩) ?_
  refine qaf h fun x16 hx16 h=>?_
  refine qae hτ false [0] rfl rfl rfl (qaj func43 rfl rfl) rfl rfl (by simp) ⟨trivial,trivial,trivial⟩ (by trivial) (impl_Feeder_customers_ok n g_ x15 hx16) ?_
  rintro r0 o0 n0 ⟨rfl,rfl,rfl⟩ -
  refine qa1 hτ rfl rfl rfl<|qa5<|qa8<|qa2<|qa1 hτ rfl rfl rfl ?_
  refine qal hτ rfl rfl rfl<|qa1 hτ rfl rfl rfl<|qa5<|qa8<|qa8 ?_
  refine qa2<|qa1 hτ rfl rfl rfl<|qa5<|qay ?_
  refine qde (ι:=Nat × List Int × Int) (fun (m25,v19,v20)=>St.of [(1,.ptr 0 0),(4,.d (.int .i64 x16)),(5,.row 1 v19.length 0 v19.length),(6,.d (.int .i64 v20))] [.box [.d (.cx .f32 g_.qa0.Source.A.re g_.qa0.Source.A.im),.d (.cx .f32 g_.qa0.Source.B.re g_.qa0.Source.B.im),.d (.cx .f32 g_.qa0.Source.C.re g_.qa0.Source.C.im),.d (.sl false (g_.qa0.qa7.map qac)),.d (.sl false (g_.Ties.map qam))],.row 1 (v19.map qa6)] f16.ntmps 0) (fun (m25,v19,v20)=>qdx n g_ x16 m25 v19 v20 = some r) (fun x=>x.1) (n,[x16],(1:Int)) h (qa3 [0,1] (l:=[(1,.ptr 0 0),(4,.d (.int .i64 x16)),(5,.row 1 ([x16].length) 0 ([x16].length)),(6,.d (.int .i64 (1:Int)))]) (objs:=[.box [.d (.cx .f32 g_.qa0.Source.A.re g_.qa0.Source.A.im),.d (.cx .f32 g_.qa0.Source.B.re g_.qa0.Source.B.im),.d (.cx .f32 g_.qa0.Source.C.re g_.qa0.Source.C.im),.d (.sl false (g_.qa0.qa7.map qac)),.d (.sl false (g_.Ties.map qam))],.row 1 ([x16].map qa6)]) rfl (by simp) rfl (by trivial) ⟨rfl,trivial,rfl,trivial,rfl,trivial,rfl,trivial,trivial⟩) ?_
  rintro ⟨m25,v19,v20⟩ h
  replace h:qdx n g_ x16 m25 v19 v20 = some r:=h
  rcases m25 with _ | m25
  ·rw [qdx] at h;cases h
  rw [qdx] at h
  refine qa8<|qa8<|qa2<|qa1 hτ rfl rfl rfl<|qa1 hτ rfl rfl rfl ?_
  refine qa1 hτ rfl rfl rfl<|qa1 hτ rfl rfl rfl ?_
  refine qa1 hτ (v:=.d (.int .i64 (g_.qa0.qa7.length:Int))) rfl rfl (Eq.trans rfl (qei (f:=qac) g_.qa0.qa7)) ?_
  refine qa1 hτ rfl rfl rfl<|qa5 ?_
  refine qaa (qa3 [0,1] (l:=[(1,.ptr 0 0),(4,.d (.int .i64 x16)),(5,.row 1 v19.length 0 v19.length),(6,.d (.int .i64 v20)),(24,.d (.bool (decide (v20 < (g_.qa0.qa7.length:Int)))))]) (objs:=[.box [.d (.cx .f32 g_.qa0.Source.A.re g_.qa0.Source.A.im),.d (.cx .f32 g_.qa0.Source.B.re g_.qa0.Source.B.im),.d (.cx .f32 g_.qa0.Source.C.re g_.qa0.Source.C.im),.d (.sl false (g_.qa0.qa7.map qac)),.d (.sl false (g_.Ties.map qam))],.row 1 (v19.map qa6)]) rfl (by simp) rfl (by trivial) ⟨rfl,trivial,rfl,trivial,rfl,trivial,rfl,trivial,rfl,trivial,trivial⟩) ?_
  refine qaq rfl (fun hc27=>?_) (fun hc27=>?_)
  ·have h:=if_t h hc27
   refine qat<|qa8<|qay<|qa8<|qa2 ?_
   refine qa1 hτ rfl rfl rfl<|qa1 hτ rfl rfl rfl ?_
   refine qaf h fun x28 hx28 h=>?_
   refine qae hτ false [] rfl rfl rfl (qaj func8 rfl rfl) rfl rfl (by simp) ⟨(by trivial),trivial,trivial⟩ (by trivial) (ql0 n g_ v20 hx28) ?_
   rintro r0 o0 n0 ⟨rfl,rfl,rfl⟩ -
   refine qa1 hτ rfl rfl rfl<|qa1 hτ rfl rfl rfl<|qa1 hτ rfl rfl rfl<|qa1 hτ rfl rfl rfl<|qa1 hτ rfl rfl rfl ?_
   refine qa1 hτ rfl rfl rfl<|qa1 hτ rfl rfl rfl<|qa5 ?_
   refine qaa (qa3 [0,1] (l:=[(1,.ptr 0 0),(4,.d (.int .i64 x16)),(5,.row 1 v19.length 0 v19.length),(6,.d (.int .i64 v20)),(8,.d (.int .i64 x28.2.1))]) (objs:=[.box [.d (.cx .f32 g_.qa0.Source.A.re g_.qa0.Source.A.im),.d (.cx .f32 g_.qa0.Source.B.re g_.qa0.Source.B.im),.d (.cx .f32 g_.qa0.Source.C.re g_.qa0.Source.C.im),.d (.sl false (g_.qa0.qa7.map qac)),.d (.sl false (g_.Ties.map qam))],.row 1 (v19.map qa6)]) rfl (by simp) rfl (by trivial) ⟨rfl,trivial,rfl,trivial,rfl,trivial,rfl,trivial,rfl,trivial,trivial⟩) ?_
   refine qa2<|qa1 hτ rfl rfl rfl<|qa1 hτ rfl rfl rfl<|qa1 hτ rfl rfl rfl<|qa1 hτ rfl rfl rfl ?_
   refine qal hτ rfl rfl rfl ?_
   refine qci h fun hg29 h=>?_
   refine qi7 hτ rfl rfl (Eq.trans rfl (or_append (f:=qa6) v19 [(w64 (x16 - x28.2.1))] rfl)) ⟨⟨rfl,Nat.le_of_ble_eq_true rfl⟩,qb4 _,rfl,rfl,hg29,by decide,(all1 rfl)⟩ ?_
   refine qa1 hτ rfl rfl rfl<|qa5 ?_
   refine qaa (qa3 [0,1] (l:=[(1,.ptr 0 0),(4,.d (.int .i64 x16)),(5,.row 1 ((v19 ++ [(w64 (x16 - x28.2.1))]).length) 0 ((v19 ++ [(w64 (x16 - x28.2.1))]).length)),(6,.d (.int .i64 v20))]) (objs:=[.box [.d (.cx .f32 g_.qa0.Source.A.re g_.qa0.Source.A.im),.d (.cx .f32 g_.qa0.Source.B.re g_.qa0.Source.B.im),.d (.cx .f32 g_.qa0.Source.C.re g_.qa0.Source.C.im),.d (.sl false (g_.qa0.qa7.map qac)),.d (.sl false (g_.Ties.map qam))],.row 1 ((v19 ++ [(w64 (x16 - x28.2.1))]).map qa6)]) rfl (by simp) rfl (by trivial) ⟨rfl,trivial,rfl,trivial,rfl,trivial,rfl,trivial,trivial⟩) ?_
   refine qa2<|qa1 hτ rfl rfl rfl<|qa1 hτ rfl rfl rfl<|qa1 hτ rfl rfl rfl<|qa5 ?_
   exact ⟨(m25,(v19 ++ [(w64 (x16 - x28.2.1))]),(w64 (v20 + (1:Int)))),h,Nat.lt_succ_self m25,(qa3 [0,1] (l:=[(1,.ptr 0 0),(4,.d (.int .i64 x16)),(5,.row 1 ((v19 ++ [(w64 (x16 - x28.2.1))]).length) 0 ((v19 ++ [(w64 (x16 - x28.2.1))]).length)),(6,.d (.int .i64 (w64 (v20 + (1:Int)))))]) (objs:=[.box [.d (.cx .f32 g_.qa0.Source.A.re g_.qa0.Source.A.im),.d (.cx .f32 g_.qa0.Source.B.re g_.qa0.Source.B.im),.d (.cx .f32 g_.qa0.Source.C.re g_.qa0.Source.C.im),.d (.sl false (g_.qa0.qa7.map qac)),.d (.sl false (g_.Ties.map qam))],.row 1 ((v19 ++ [(w64 (x16 - x28.2.1))]).map qa6)]) rfl (by simp) rfl (by trivial) ⟨rfl,trivial,rfl,trivial,rfl,trivial,rfl,trivial,trivial⟩)⟩
  ·have h:=if_f h hc27
   refine qd3<|qa8<|qa2<|qa1 hτ rfl rfl rfl<|qa1 hτ rfl rfl rfl ?_
   refine qa1 hτ rfl rfl rfl<|qa5 ?_
   refine qaa (qa3 [1] (l:=[(2,.row 0 v19.length 0 v19.length),(3,.d (.bool true))]) (objs:=[.row 1 (v19.map qa6)]) rfl (by simp) rfl (by trivial) ⟨rfl,trivial,rfl,trivial,trivial⟩) ?_
   refine qap ?_
   have hr:=Option.some.inj h
   subst hr
   exact qah (.inr rfl) [0] (objs':=[]) (new:=[.row 1 (v19.map qa6)]) rfl (by simp) (by simp) rfl (by trivial) rfl rfl (by trivial) (fun _=>⟨by simp [V.flat,V.qbg,V.qbb,D.flat],(qc8 (qgt qff _) qan)⟩) ⟨rfl,rfl,rfl⟩
theorem qmm (n:Nat) (g_:qbk) {r:List Int × Bool} (h:qfj n g_ = some r):qb1 prog false 16 [.agg [.d (.cx .f32 g_.qa0.Source.A.re g_.qa0.Source.A.im),.d (.cx .f32 g_.qa0.Source.B.re g_.qa0.Source.B.im),.d (.cx .f32 g_.qa0.Source.C.re g_.qa0.Source.C.im),.d (.sl false (g_.qa0.qa7.map qac)),.d (.sl false (g_.Ties.map qam))]] [] (fun v o new=>v = .tup [.row 0 r.1.length 0 r.1.length,.d (.bool r.2)]∧o = []∧new = [.row 1 (r.1.map qa6)]):=impl_ImpactOf_ok_fr0 false n g_ h
def qh6 (n:Nat) (x15:List Int × Bool) (v28:Int):Option (Int × Int × Bool) :=
 (getI x15.1 v28).bind fun x29 =>
 some (v28,x29,true)
def qfv (n:Nat) (k42:Int→Int→Option (Int × Int × Bool)) (v35:Int) (v47:Int):Option (Int × Int × Bool) :=
 k42 v47 (w64 (v35 + (1:Int)))
def qcs (n:Nat) (x15:List Int × Bool):Nat→Int→Int→Option (Int × Int × Bool)
 | 0,_,_=>none
 | m41 + 1,v34,v35 =>
  if v35 < (x15.1.length:Int) then
   (getI x15.1 v35).bind fun x49 =>
   (getI x15.1 v34).bind fun x50 =>
   if x49 > x50 then
    qfv n (qcs n x15 m41) v35 v35
   else
    qfv n (qcs n x15 m41) v35 v34
  else
   qh6 n x15 v34
def qh5 (n:Nat) (x15:List Int × Bool):Option (Int × Int × Bool) :=
 qcs n x15 n (1:Int) (2:Int)
def qfw (n:Nat) (x15:List Int × Bool) (v55:Bool):Option (Int × Int × Bool) :=
 if v55 = true then
  some ((0:Int),(0:Int),false)
 else
  qh5 n x15
def qgl (n:Nat) (g_:qbk):Option (Int × Int × Bool) :=
 (qfj n g_).bind fun x15 =>
 if x15.2 = true then
  qfw n x15 (decide ((x15.1.length:Int) < (2:Int)))
 else
  qfw n x15 true
theorem impl_WorstBus_ok_fr0 (fr:Bool) (n:Nat) (g_:qbk) {r:Int × Int × Bool} (h:qgl n g_ = some r):qb1 prog fr 17 [.agg [.d (.cx .f32 g_.qa0.Source.A.re g_.qa0.Source.A.im),.d (.cx .f32 g_.qa0.Source.B.re g_.qa0.Source.B.im),.d (.cx .f32 g_.qa0.Source.C.re g_.qa0.Source.C.im),.d (.sl false (g_.qa0.qa7.map qac)),.d (.sl false (g_.Ties.map qam))]] [] (fun v o new=>v = .tup [.d (.int .i64 r.1),.d (.int .i64 r.2.1),.d (.bool r.2.2)]∧o = []∧new = []):=by
 refine qak hτ func17 rfl (by simp) (by simp) ?_
 unfold qgl at h
 refine qa8<|qa2<|qal hτ rfl rfl rfl<|qa1 hτ rfl rfl rfl<|qa1 hτ rfl rfl rfl ?_
 refine qa1 hτ rfl rfl rfl<|qa5<|qa8<|qa2<|qa1 hτ rfl rfl rfl ?_
 refine qaf h fun x15 hx15 h=>?_
 refine qae hτ false [] rfl rfl rfl (qaj func16 rfl rfl) rfl rfl (by simp) ⟨(by trivial),trivial⟩ (by trivial) (qmm n g_ hx15) ?_
 rintro r0 o0 n0 ⟨rfl,rfl,rfl⟩ -
 refine qa1 hτ rfl rfl rfl<|qa1 hτ rfl rfl rfl<|qa1 hτ rfl rfl rfl<|qa1 hτ rfl rfl rfl<|qa1 hτ rfl rfl rfl ?_
 refine qa5 ?_
 refine qby (ι:=Unit) (fun _=>St.of [(5,.row 0 x15.1.length 0 x15.1.length)] [.row 1 (x15.1.map qa6)] f17.ntmps 0) (fun _=>qh5 n x15 = some r) ?_ (fun hk52=>?_)
 ·rintro ⟨⟩ h
  replace h:qh5 n x15 = some r:=h
  unfold qh5 at h
  refine qa8<|qa2<|qa1 hτ rfl rfl rfl<|qa5 ?_
  refine qby (ι:=Int) (fun v28=>St.of [(5,.row 0 x15.1.length 0 x15.1.length),(7,.d (.int .i64 v28))] [.row 1 (x15.1.map qa6)] f17.ntmps 0) (fun v28=>qh6 n x15 v28 = some r) ?_ (fun hk30=>?_)
  ·rintro v28 h
   replace h:qh6 n x15 v28 = some r:=h
   unfold qh6 at h
   refine qa8<|qd5 ?_
   refine qa4 hτ [] 0 rfl rfl rfl rfl rfl ?_
   refine qa4 hτ [] 1 rfl rfl rfl rfl rfl ?_
   refine qa4 hτ [] 2 rfl rfl rfl rfl rfl ?_
   refine qaf h fun x29 hx29 h=>?_
   refine qca hτ [0] 3 rfl rfl rfl rfl rfl (qcy hx29) ?_
   refine qbx hτ [0] 4 rfl rfl rfl rfl rfl (qb4 _) (qds hx29) rfl ?_
   refine qa4 hτ [] 5 rfl rfl rfl rfl rfl ?_
   refine qa4 hτ [] 6 rfl rfl rfl rfl rfl ?_
   refine qa4 hτ [] 7 rfl rfl rfl rfl rfl ?_
   refine qbo mixed (by kernel_rfl) ?_
   refine qaa (qa3 [] (l:=[(2,.d (.int .i64 v28)),(3,.d (.int .i64 x29)),(4,.d (.bool true))]) (objs:=[]) rfl (by simp) rfl (by trivial) ⟨rfl,trivial,rfl,trivial,rfl,trivial,trivial⟩) ?_
   refine qap ?_
   have hr:=Option.some.inj h
   subst hr
   exact qah (.inr rfl) [] (objs':=[]) (new:=[]) rfl (by simp) (by simp) rfl (by trivial) rfl rfl (by trivial) (fun _=>⟨by simp [V.flat,V.qbg,V.qbb,D.flat],qan⟩) ⟨rfl,rfl,rfl⟩
  ·refine qa8<|qa8<|qa2<|qa1 hτ rfl rfl rfl<|qa5 ?_
   refine qay ?_
   refine qde (ι:=Nat × Int × Int) (fun (m41,v34,v35)=>St.of [(5,.row 0 x15.1.length 0 x15.1.length),(7,.d (.int .i64 v34)),(8,.d (.int .i64 v35))] [.row 1 (x15.1.map qa6)] f17.ntmps 0) (fun (m41,v34,v35)=>qcs n x15 m41 v34 v35 = some r) (fun x=>x.1) (n,(1:Int),(2:Int)) h (qa3 [0] (l:=[(5,.row 0 x15.1.length 0 x15.1.length),(7,.d (.int .i64 (1:Int))),(8,.d (.int .i64 (2:Int)))]) (objs:=[.row 1 (x15.1.map qa6)]) rfl (by simp) rfl (by trivial) ⟨rfl,trivial,rfl,trivial,rfl,trivial,trivial⟩) ?_
   rintro ⟨m41,v34,v35⟩ h
   replace h:qcs n x15 m41 v34 v35 = some r:=h
   rcases m41 with _ | m41
   ·rw [qcs] at h;cases h
   rw [qcs] at h
   refine qa8<|qa8<|qa2<|qa1 hτ rfl rfl rfl<|qa1 hτ rfl rfl rfl ?_
   refine qcg hτ rfl rfl rfl (qb4 _) ?_
   refine qa1 hτ rfl rfl rfl<|qa5 ?_
   refine qaq rfl (fun hc43=>?_) (fun hc43=>?_)
   ·have h:=if_t h hc43
    refine qat ?_
    refine qby (ι:=Int) (fun v47=>St.of [(5,.row 0 x15.1.length 0 x15.1.length),(7,.d (.int .i64 v47)),(8,.d (.int .i64 v35))] [.row 1 (x15.1.map qa6)] f17.ntmps 0) (fun v47=>qfv n (qcs n x15 m41) v35 v47 = some r) ?_ (fun hk48=>?_)
    ·rintro v47 h
     replace h:qfv n (qcs n x15 m41) v35 v47 = some r:=h
     unfold qfv at h
     refine qa2<|qa1 hτ rfl rfl rfl<|qa1 hτ rfl rfl rfl<|qa1 hτ rfl rfl rfl<|qa5 ?_
     exact ⟨(m41,v47,(w64 (v35 + (1:Int)))),h,Nat.lt_succ_self m41,(qa3 [0] (l:=[(5,.row 0 x15.1.length 0 x15.1.length),(7,.d (.int .i64 v47)),(8,.d (.int .i64 (w64 (v35 + (1:Int)))))]) (objs:=[.row 1 (x15.1.map qa6)]) rfl (by simp) rfl (by trivial) ⟨rfl,trivial,rfl,trivial,rfl,trivial,trivial⟩)⟩
    ·refine qa8<|qay<|qa8<|qd5 ?_
     refine qa4 hτ [] 0 rfl rfl rfl rfl rfl ?_
     refine qa4 hτ [] 1 rfl rfl rfl rfl rfl ?_
     refine qaf h fun x49 hx49 h=>?_
     refine qca hτ [0] 2 rfl rfl rfl rfl rfl (qcy hx49) ?_
     refine qbx hτ [0] 3 rfl rfl rfl rfl rfl (qb4 _) (qds hx49) rfl ?_
     refine qa4 hτ [] 4 rfl rfl rfl rfl rfl ?_
     refine qa4 hτ [] 5 rfl rfl rfl rfl rfl ?_
     refine qaf h fun x50 hx50 h=>?_
     refine qca hτ [0] 6 rfl rfl rfl rfl rfl (qcy hx50) ?_
     refine qbx hτ [0] 7 rfl rfl rfl rfl rfl (qb4 _) (qds hx50) rfl ?_
     refine qa4 hτ [] 8 rfl rfl rfl rfl rfl ?_
     refine qbo mixed (by kernel_rfl) ?_
     refine qaa (qa3 [0] (l:=[(5,.row 0 x15.1.length 0 x15.1.length),(7,.d (.int .i64 v34)),(8,.d (.int .i64 v35)),(35,.d (.bool (decide (x49 > x50))))]) (objs:=[.row 1 (x15.1.map qa6)]) rfl (by simp) rfl (by trivial) ⟨rfl,trivial,rfl,trivial,rfl,trivial,rfl,trivial,trivial⟩) ?_
     refine qaq rfl (fun hc51=>?_) (fun hc51=>?_)
     ·have h:=if_t h hc51
      refine qa2<|qa1 hτ rfl rfl rfl<|qa1 hτ rfl rfl rfl<|qa5 ?_
      refine qaa (qa3 [0] (l:=[(5,.row 0 x15.1.length 0 x15.1.length),(7,.d (.int .i64 v35)),(8,.d (.int .i64 v35))]) (objs:=[.row 1 (x15.1.map qa6)]) rfl (by simp) rfl (by trivial) ⟨rfl,trivial,rfl,trivial,rfl,trivial,trivial⟩) ?_
      exact hk48 v35 h
     ·have h:=if_f h hc51
      refine qat ?_
      refine qaa (qa3 [0] (l:=[(5,.row 0 x15.1.length 0 x15.1.length),(7,.d (.int .i64 v34)),(8,.d (.int .i64 v35))]) (objs:=[.row 1 (x15.1.map qa6)]) rfl (by simp) rfl (by trivial) ⟨rfl,trivial,rfl,trivial,rfl,trivial,trivial⟩) ?_
      exact hk48 v34 h
   ·have h:=if_f h hc43
    refine qd3 ?_
    refine qaa (qa3 [0] (l:=[(5,.row 0 x15.1.length 0 x15.1.length),(7,.d (.int .i64 v34))]) (objs:=[.row 1 (x15.1.map qa6)]) rfl (by simp) rfl (by trivial) ⟨rfl,trivial,rfl,trivial,trivial⟩) ?_
    exact hk30 v34 h
 ·refine qa8 ?_
  refine qby (ι:=Bool) (fun v55=>St.of [(5,.row 0 x15.1.length 0 x15.1.length),(20,.d (.bool v55))] [.row 1 (x15.1.map qa6)] f17.ntmps 0) (fun v55=>qfw n x15 v55 = some r) ?_ (fun hk57=>?_)
  ·rintro v55 h
   replace h:qfw n x15 v55 = some r:=h
   unfold qfw at h
   refine qaq rfl (fun hc56=>?_) (fun hc56=>?_)
   ·have h:=qeh h hc56
    refine qa8<|qa2<|qa1 hτ rfl rfl rfl<|qa1 hτ rfl rfl rfl<|qa1 hτ rfl rfl rfl ?_
    refine qa5 ?_
    refine qaa (qa3 [] (l:=[(2,.d (.int .i64 (0:Int))),(3,.d (.int .i64 (0:Int))),(4,.d (.bool false))]) (objs:=[]) rfl (by simp) rfl (by trivial) ⟨rfl,trivial,rfl,trivial,rfl,trivial,trivial⟩) ?_
    refine qap ?_
    have hr:=Option.some.inj h
    subst hr
    exact qah (.inr rfl) [] (objs':=[]) (new:=[]) rfl (by simp) (by simp) rfl (by trivial) rfl rfl (by trivial) (fun _=>⟨by simp [V.flat,V.qbg,V.qbb,D.flat],qan⟩) ⟨rfl,rfl,rfl⟩
   ·have h:=qeg h hc56
    refine qat ?_
    refine qaa (qa3 [0] (l:=[(5,.row 0 x15.1.length 0 x15.1.length)]) (objs:=[.row 1 (x15.1.map qa6)]) rfl (by simp) rfl (by trivial) ⟨rfl,trivial,trivial⟩) ?_
    exact hk52 () h
  ·refine qa8 ?_
   refine qaa (qa3 [1] (l:=[(5,.row 0 x15.1.length 0 x15.1.length),(6,.d (.bool x15.2))]) (objs:=[.row 1 (x15.1.map qa6)]) rfl (by simp) rfl (by trivial) ⟨rfl,trivial,rfl,trivial,trivial⟩) ?_
   refine qa2<|qa1 hτ rfl rfl rfl<|qa1 hτ rfl rfl rfl<|qa1 hτ rfl rfl rfl ?_
   refine qbq 16 rfl (fun hb58=>?_) (fun hb58=>?_)
   ·have hb58:=qjf hb58
    have h:=qeg h hb58
    refine qab rfl rfl<|qab rfl rfl<|qab rfl rfl<|qa1 hτ rfl rfl rfl<|qa5 ?_
    refine qaa (qa3 [0] (l:=[(5,.row 0 x15.1.length 0 x15.1.length),(20,.d (.bool true))]) (objs:=[.row 1 (x15.1.map qa6)]) rfl (by simp) rfl (by trivial) ⟨rfl,trivial,rfl,trivial,trivial⟩) ?_
    exact hk57 true h
   ·have hb58:=qje hb58
    have h:=qeh h hb58
    refine qa1 hτ rfl rfl rfl ?_
    refine qcg hτ rfl rfl rfl (qb4 _) ?_
    refine qa1 hτ rfl rfl rfl<|qa1 hτ rfl rfl rfl<|qa5 ?_
    refine qaa (qa3 [0] (l:=[(5,.row 0 x15.1.length 0 x15.1.length),(20,.d (.bool (decide ((x15.1.length:Int) < (2:Int)))))]) (objs:=[.row 1 (x15.1.map qa6)]) rfl (by simp) rfl (by trivial) ⟨rfl,trivial,rfl,trivial,trivial⟩) ?_
    exact hk57 (decide ((x15.1.length:Int) < (2:Int))) h
theorem impl_WorstBus_ok (n:Nat) (g_:qbk) {r:Int × Int × Bool} (h:qgl n g_ = some r):qb1 prog false 17 [.agg [.d (.cx .f32 g_.qa0.Source.A.re g_.qa0.Source.A.im),.d (.cx .f32 g_.qa0.Source.B.re g_.qa0.Source.B.im),.d (.cx .f32 g_.qa0.Source.C.re g_.qa0.Source.C.im),.d (.sl false (g_.qa0.qa7.map qac)),.d (.sl false (g_.Ties.map qam))]] [] (fun v o new=>v = .tup [.d (.int .i64 r.1),.d (.int .i64 r.2.1),.d (.bool r.2.2)]∧o = []∧new = []):=impl_WorstBus_ok_fr0 false n g_ h
end Go.Proofs.YtiegopnofbgoaaaGreatDoor.AWN
