/- Models and contracts, printed by program. -/
import Derived.Test.YtiegopnofbgoaaaGreatDoorFnAfterC
set_option linter.unusedVariables false
set_option linter.unusedSimpArgs false
set_option linter.unusedSectionVars false
set_option maxHeartbeats 2000000
namespace Go.Proofs.YtiegopnofbgoaaaGreatDoor.AWN
open Go Go.Proofs.Tryz
def qct (n:Nat) (s_:List STie) (c_:Int):Nat→Int→Option Int
 | 0,_=>none
 | m13 + 1,v9 =>
  if v9 < (s_.length:Int) then
   (getI s_ v9).bind fun x18 =>
   (qh4 n x18 c_).bind fun x19 =>
   if x19 = true then
    some v9
   else
    (qct n s_ c_ m13) (w64 (v9 + (1:Int)))
  else
   some (-1:Int)
def qha (n:Nat) (s_:List STie) (c_:Int):Option Int :=
 qct n s_ c_ n (0:Int)
theorem slices_IndexFunc_ok_fr0 (fr:Bool) (n:Nat) (s_:List STie) (c_:Int) {r:Int} (h:qha n s_ c_ = some r):qb1 prog fr 47 [.d (.sl false (s_.map qam)),.func 21 [] [.ptr 0 0]] [.box [.d (.int .i64 c_)]] (fun v o new=>v = .d (.int .i64 r)∧o = [.box [.d (.int .i64 c_)]]∧new = []):=by
 refine qak hτ func47 rfl (by simp) (by simp) ?_
 unfold qha at h
 refine qa8<|qa2<|qa1 hτ rfl rfl rfl<|qa5<|qa8 ?_
 refine qa8<|qa2<|qa1 hτ rfl rfl rfl ?_
 refine qa1 hτ (v:=.d (.int .i64 (s_.length:Int))) rfl rfl (Eq.trans rfl (qei (f:=qam) s_)) ?_
 refine qa1 hτ rfl rfl rfl<|qa5<|qay ?_
 refine qde (ι:=Nat × Int) (fun (m13,v9)=>St.of [(0,.d (.sl false (s_.map qam))),(1,.func 21 [] [.ptr 0 0]),(7,.d (.int .i64 (s_.length:Int))),(8,.d (.int .i64 v9))] [.box [.d (.int .i64 c_)]] f47.ntmps 1) (fun (m13,v9)=>qct n s_ c_ m13 v9 = some r) (fun x=>x.1) (n,(0:Int)) h (qa3 [0] (l:=[(0,.d (.sl false (s_.map qam))),(1,.func 21 [] [.ptr 0 0]),(7,.d (.int .i64 (s_.length:Int))),(8,.d (.int .i64 (0:Int)))]) (objs:=[.box [.d (.int .i64 c_)]]) rfl (by simp) rfl (by trivial) ⟨rfl,trivial,rfl,(by trivial),rfl,trivial,rfl,trivial,trivial⟩) ?_
 rintro ⟨m13,v9⟩ h
 replace h:qct n s_ c_ m13 v9 = some r:=h
 rcases m13 with _ | m13
 ·rw [qct] at h;cases h
 rw [qct] at h
 refine qa8<|qa2<|qa1 hτ rfl rfl rfl<|qa5<|qa8 ?_
 refine qaq rfl (fun hc15=>?_) (fun hc15=>?_)
 ·have h:=if_t h hc15
  refine qat<|qa8<|qay<|qa8<|qa2 ?_
  refine qa1 hτ rfl rfl rfl<|qa1 hτ rfl rfl rfl<|qa5<|qa8<|qa2 ?_
  refine qa1 hτ rfl rfl rfl<|qa1 hτ rfl rfl rfl<|qa1 hτ rfl rfl rfl ?_
  refine qaf h fun x18 hx18 h=>?_
  refine qce hτ rfl rfl rfl (qb8 hx18).1 (qbm hx18) rfl ?_
  refine qa1 hτ rfl rfl rfl ?_
  refine qaf h fun x19 hx19 h=>?_
  refine qae hτ false [0] rfl rfl rfl (qaj func21 rfl rfl) rfl rfl (by simp) ⟨(by trivial),trivial,trivial⟩ (by trivial) (impl_ValidGrid_1_ok n x18 c_ hx19) ?_
  rintro r0 o0 n0 ⟨rfl,rfl,rfl⟩ -
  refine qa5 ?_
  refine qaa (qa3 [0] (l:=[(0,.d (.sl false (s_.map qam))),(1,.func 21 [] [.ptr 0 0]),(5,.d (.int .i64 v9)),(7,.d (.int .i64 (s_.length:Int))),(8,.d (.int .i64 v9)),(16,.d (.bool x19))]) (objs:=[.box [.d (.int .i64 c_)]]) rfl (by simp) rfl (by trivial) ⟨rfl,trivial,rfl,(by trivial),rfl,trivial,rfl,trivial,rfl,trivial,rfl,trivial,trivial⟩) ?_
  refine qaq rfl (fun hc20=>?_) (fun hc20=>?_)
  ·have h:=qeh h hc20
   refine qa8<|qa2<|qa1 hτ rfl rfl rfl<|qa1 hτ rfl rfl rfl<|qa5 ?_
   refine qaa (qa3 [0] (l:=[(4,.d (.int .i64 v9))]) (objs:=[.box [.d (.int .i64 c_)]]) rfl (by simp) rfl (by trivial) ⟨rfl,trivial,trivial⟩) ?_
   refine qap ?_
   have hr:=Option.some.inj h
   subst hr
   exact qah (.inr rfl) [] (objs':=[.box [.d (.int .i64 c_)]]) (new:=[]) rfl (by simp) (by simp) rfl (by trivial) rfl rfl (by trivial) (fun _=>⟨by simp [V.flat,V.qbg,V.qbb,D.flat],(qc8 (by simp [AObj.flat,V.qbb,D.flat]) qan)⟩) ⟨rfl,rfl,rfl⟩
  ·have h:=qeg h hc20
   refine qat<|qa2<|qa1 hτ rfl rfl rfl<|qa1 hτ rfl rfl rfl<|qa5 ?_
   exact ⟨(m13,(w64 (v9 + (1:Int)))),h,Nat.lt_succ_self m13,(qa3 [0] (l:=[(0,.d (.sl false (s_.map qam))),(1,.func 21 [] [.ptr 0 0]),(7,.d (.int .i64 (s_.length:Int))),(8,.d (.int .i64 (w64 (v9 + (1:Int)))))]) (objs:=[.box [.d (.int .i64 c_)]]) rfl (by simp) rfl (by trivial) ⟨rfl,trivial,rfl,(by trivial),rfl,trivial,rfl,trivial,trivial⟩)⟩
 ·have h:=if_f h hc15
  refine qd3<|qa8<|qa2<|qa1 hτ rfl rfl rfl<|qa5 ?_
  refine qaa (qa3 [0] (l:=[(4,.d (.int .i64 (-1:Int)))]) (objs:=[.box [.d (.int .i64 c_)]]) rfl (by simp) rfl (by trivial) ⟨rfl,trivial,trivial⟩) ?_
  refine qap ?_
  have hr:=Option.some.inj h
  subst hr
  exact qah (.inr rfl) [] (objs':=[.box [.d (.int .i64 c_)]]) (new:=[]) rfl (by simp) (by simp) rfl (by trivial) rfl rfl (by trivial) (fun _=>⟨by simp [V.flat,V.qbg,V.qbb,D.flat],(qc8 (by simp [AObj.flat,V.qbb,D.flat]) qan)⟩) ⟨rfl,rfl,rfl⟩
theorem slices_IndexFunc_ok (n:Nat) (s_:List STie) (c_:Int) {r:Int} (h:qha n s_ c_ = some r):qb1 prog false 47 [.d (.sl false (s_.map qam)),.func 21 [] [.ptr 0 0]] [.box [.d (.int .i64 c_)]] (fun v o new=>v = .d (.int .i64 r)∧o = [.box [.d (.int .i64 c_)]]∧new = []):=slices_IndexFunc_ok_fr0 false n s_ c_ h
def qfm (n:Nat) (s_:List STie) (c_:Int):Option Bool :=
 (qha n s_ c_).bind fun x2 =>
 some (decide (x2 ≥ (0:Int)))
theorem slices_ContainsFunc_ok_fr0 (fr:Bool) (n:Nat) (s_:List STie) (c_:Int) {r:Bool} (h:qfm n s_ c_ = some r):qb1 prog fr 20 [.d (.sl false (s_.map qam)),.func 21 [] [.ptr 0 0]] [.box [.d (.int .i64 c_)]] (fun v o new=>v = .d (.bool r)∧o = [.box [.d (.int .i64 c_)]]∧new = []):=by
 refine qak hτ func20 rfl (by simp) (by simp) ?_
 unfold qfm at h
 refine qa8<|qa2<|qa1 hτ rfl rfl rfl<|qa5<|qa8 ?_
 refine qa2<|qa1 hτ rfl rfl rfl<|qa1 hτ rfl rfl rfl ?_
 refine qaf h fun x2 hx2 h=>?_
 refine qae hτ false [0] rfl rfl rfl (qaj func47 rfl rfl) rfl rfl (by simp) ⟨trivial,(by trivial),trivial⟩ (by trivial) (slices_IndexFunc_ok n s_ c_ hx2) ?_
 rintro r0 o0 n0 ⟨rfl,rfl,rfl⟩ -
 refine qa1 hτ rfl rfl rfl<|qa1 hτ rfl rfl rfl<|qa5 ?_
 refine qaa (qa3 [0] (l:=[(4,.d (.bool (decide (x2 ≥ (0:Int)))))]) (objs:=[.box [.d (.int .i64 c_)]]) rfl (by simp) rfl (by trivial) ⟨rfl,trivial,trivial⟩) ?_
 refine qap ?_
 have hr:=Option.some.inj h
 subst hr
 exact qah (.inr rfl) [] (objs':=[.box [.d (.int .i64 c_)]]) (new:=[]) rfl (by simp) (by simp) rfl (by trivial) rfl rfl (by trivial) (fun _=>⟨by simp [V.flat,V.qbg,V.qbb,D.flat],(qc8 (by simp [AObj.flat,V.qbb,D.flat]) qan)⟩) ⟨rfl,rfl,rfl⟩
theorem slices_ContainsFunc_ok (n:Nat) (s_:List STie) (c_:Int) {r:Bool} (h:qfm n s_ c_ = some r):qb1 prog false 20 [.d (.sl false (s_.map qam)),.func 21 [] [.ptr 0 0]] [.box [.d (.int .i64 c_)]] (fun v o new=>v = .d (.bool r)∧o = [.box [.d (.int .i64 c_)]]∧new = []):=slices_ContainsFunc_ok_fr0 false n s_ c_ h
def qe1 (n:Nat) (g_:qbk):Option Bool :=
 (qcq n g_.qa0).bind fun x7 =>
 if x7 = true then
  if (g_.Ties.length:Int) ≤ (6:Int) then
   (qfm n g_.Ties (g_.qa0.qa7.length:Int)).bind fun x10 =>
   some (!x10)
  else
   some false
 else
  some false
theorem qkm (fr:Bool) (n:Nat) (g_:qbk) {r:Bool} (h:qe1 n g_ = some r):qb1 prog fr 6 [.agg [.d (.cx .f32 g_.qa0.Source.A.re g_.qa0.Source.A.im),.d (.cx .f32 g_.qa0.Source.B.re g_.qa0.Source.B.im),.d (.cx .f32 g_.qa0.Source.C.re g_.qa0.Source.C.im),.d (.sl false (g_.qa0.qa7.map qac)),.d (.sl false (g_.Ties.map qam))]] [] (fun v o new=>v = .d (.bool r)∧o = []∧new = []):=by
 refine qak hτ func6 rfl (by simp) (by simp) ?_
 unfold qe1 at h
 refine qa8<|qa2<|qal hτ rfl rfl rfl<|qa1 hτ rfl rfl rfl<|qa5 ?_
 refine qa8<|qa2<|qa1 hτ rfl rfl rfl<|qa1 hτ rfl rfl rfl<|qa1 hτ rfl rfl rfl ?_
 refine qa1 hτ (v:=.d (.int .i64 (g_.qa0.qa7.length:Int))) rfl rfl (Eq.trans rfl (qei (f:=qac) g_.qa0.qa7)) ?_
 refine qal hτ rfl rfl rfl<|qal hτ rfl rfl rfl<|qa5<|qa8 ?_
 refine qaa (qa3 [0,1] (l:=[(1,.ptr 0 0),(3,.ptr 1 0)]) (objs:=[.box [.d (.cx .f32 g_.qa0.Source.A.re g_.qa0.Source.A.im),.d (.cx .f32 g_.qa0.Source.B.re g_.qa0.Source.B.im),.d (.cx .f32 g_.qa0.Source.C.re g_.qa0.Source.C.im),.d (.sl false (g_.qa0.qa7.map qac)),.d (.sl false (g_.Ties.map qam))],.box [.d (.int .i64 (g_.qa0.qa7.length:Int))]]) rfl (by simp) rfl (by trivial) ⟨rfl,trivial,rfl,trivial,trivial⟩) ?_
 refine qa2<|qa1 hτ rfl rfl rfl<|qa1 hτ rfl rfl rfl ?_
 refine qaf h fun x7 hx7 h=>?_
 refine qae hτ false [] rfl rfl rfl (qaj func11 rfl rfl) rfl rfl (by simp) ⟨(by trivial),trivial⟩ (by trivial) (qlk n g_.qa0 hx7) ?_
 rintro r0 o0 n0 ⟨rfl,rfl,rfl⟩ -
 refine qa1 hτ rfl rfl rfl ?_
 refine qbq 11 rfl (fun hb8=>?_) (fun hb8=>?_)
 ·have h:=qeh h hb8
  refine qa1 hτ rfl rfl rfl<|qa1 hτ rfl rfl rfl ?_
  refine qa1 hτ (v:=.d (.int .i64 (g_.Ties.length:Int))) rfl rfl (Eq.trans rfl (qei (f:=qam) g_.Ties)) ?_
  refine qa1 hτ rfl rfl rfl<|qa1 hτ rfl rfl rfl<|qa1 hτ rfl rfl rfl ?_
  refine qbq 17 rfl (fun hb9=>?_) (fun hb9=>?_)
  ·have h:=if_t h hb9
   refine qa1 hτ rfl rfl rfl<|qa1 hτ rfl rfl rfl ?_
   refine qb3 (qa3 [1] (l:=[(3,.ptr 0 0),(17,.d (.bool true)),(19,.d (.sl false (g_.Ties.map qam)))]) (objs:=[.box [.d (.int .i64 (g_.qa0.qa7.length:Int))]]) rfl (by simp) rfl (by trivial) ⟨rfl,trivial,rfl,trivial,rfl,trivial,trivial⟩) ?_
   refine qa1 hτ rfl rfl rfl ?_
   refine qaf h fun x10 hx10 h=>?_
   refine qae hτ false [0] rfl rfl rfl (qaj func20 rfl rfl) rfl rfl (by simp) ⟨trivial,(by trivial),trivial⟩ (by trivial) (slices_ContainsFunc_ok n g_.Ties (g_.qa0.qa7.length:Int) hx10) ?_
   rintro r0 o0 n0 ⟨rfl,rfl,rfl⟩ -
   refine qa1 hτ rfl rfl rfl<|qa1 hτ rfl rfl rfl<|qa1 hτ rfl rfl rfl<|qa5 ?_
   refine qaa (qa3 [] (l:=[(2,.d (.bool (!x10)))]) (objs:=[]) rfl (by simp) rfl (by trivial) ⟨rfl,trivial,trivial⟩) ?_
   refine qap ?_
   have hr:=Option.some.inj h
   subst hr
   exact qah (.inr rfl) [] (objs':=[]) (new:=[]) rfl (by simp) (by simp) rfl (by trivial) rfl rfl (by trivial) (fun _=>⟨by simp [V.flat,V.qbg,V.qbb,D.flat],qan⟩) ⟨rfl,rfl,rfl⟩
  ·have h:=if_f h hb9
   refine qab rfl rfl<|qab rfl rfl ?_
   refine qb3 (qa3 [1] (l:=[(3,.ptr 0 0),(17,.d (.bool false)),(19,.und)]) (objs:=[.box [.d (.int .i64 (g_.qa0.qa7.length:Int))]]) rfl (by simp) rfl (by trivial) ⟨rfl,trivial,rfl,trivial,rfl,trivial,trivial⟩) ?_
   refine qab rfl rfl<|qab rfl rfl<|qab rfl rfl<|qa1 hτ rfl rfl rfl<|qa1 hτ rfl rfl rfl ?_
   refine qa5 ?_
   refine qaa (qa3 [] (l:=[(2,.d (.bool false))]) (objs:=[]) rfl (by simp) rfl (by trivial) ⟨rfl,trivial,trivial⟩) ?_
   refine qap ?_
   have hr:=Option.some.inj h
   subst hr
   exact qah (.inr rfl) [] (objs':=[]) (new:=[]) rfl (by simp) (by simp) rfl (by trivial) rfl rfl (by trivial) (fun _=>⟨by simp [V.flat,V.qbg,V.qbb,D.flat],qan⟩) ⟨rfl,rfl,rfl⟩
 ·have h:=qeg h hb8
  refine qab rfl rfl<|qab rfl rfl<|qab rfl rfl<|qab rfl rfl<|qa1 hτ rfl rfl rfl ?_
  refine qa1 hτ rfl rfl rfl<|qab rfl rfl<|qab rfl rfl ?_
  refine qb3 (qa3 [1] (l:=[(3,.ptr 0 0),(17,.d (.bool false)),(19,.und)]) (objs:=[.box [.d (.int .i64 (g_.qa0.qa7.length:Int))]]) rfl (by simp) rfl (by trivial) ⟨rfl,trivial,rfl,trivial,rfl,trivial,trivial⟩) ?_
  refine qab rfl rfl<|qab rfl rfl<|qab rfl rfl<|qa1 hτ rfl rfl rfl<|qa1 hτ rfl rfl rfl ?_
  refine qa5 ?_
  refine qaa (qa3 [] (l:=[(2,.d (.bool false))]) (objs:=[]) rfl (by simp) rfl (by trivial) ⟨rfl,trivial,trivial⟩) ?_
  refine qap ?_
  have hr:=Option.some.inj h
  subst hr
  exact qah (.inr rfl) [] (objs':=[]) (new:=[]) rfl (by simp) (by simp) rfl (by trivial) rfl rfl (by trivial) (fun _=>⟨by simp [V.flat,V.qbg,V.qbb,D.flat],qan⟩) ⟨rfl,rfl,rfl⟩
theorem qm3 (n:Nat) (g_:qbk) {r:Bool} (h:qe1 n g_ = some r):qb1 prog false 6 [.agg [.d (.cx .f32 g_.qa0.Source.A.re g_.qa0.Source.A.im),.d (.cx .f32 g_.qa0.Source.B.re g_.qa0.Source.B.im),.d (.cx .f32 g_.qa0.Source.C.re g_.qa0.Source.C.im),.d (.sl false (g_.qa0.qa7.map qac)),.d (.sl false (g_.Ties.map qam))]] [] (fun v o new=>v = .d (.bool r)∧o = []∧new = []):=qkm false n g_ h
theorem impl_ValidGrid_ok_fr (n:Nat) (g_:qbk) {r:Bool} (h:qe1 n g_ = some r):qb1 prog true 6 [.agg [.d (.cx .f32 g_.qa0.Source.A.re g_.qa0.Source.A.im),.d (.cx .f32 g_.qa0.Source.B.re g_.qa0.Source.B.im),.d (.cx .f32 g_.qa0.Source.C.re g_.qa0.Source.C.im),.d (.sl false (g_.qa0.qa7.map qac)),.d (.sl false (g_.Ties.map qam))]] [] (fun v o new=>v = .d (.bool r)∧o = []∧new = []):=qkm true n g_ h
def qjh (n:Nat) (code_:List Int) (k_:Int) (n_:Int):Option Int :=
 (getI code_ k_).bind fun x7 =>
 grd (n_ ≠ 0) <|
 some ((w64 (x7)).tmod n_)
def qhj (n:Nat) (code_:List Int) (k_:Int) (n_:Int) (v12:Bool):Option Int :=
 if v12 = true then
  some (0:Int)
 else
  qjh n code_ k_ n_
def qke (n:Nat) (code_:List Int) (k_:Int) (n_:Int):Option Int :=
 if n_ ≤ (1:Int) then
  qhj n code_ k_ n_ true
 else
  qhj n code_ k_ n_ (decide (k_ ≥ (code_.length:Int)))
theorem laws_r8At_ok_fr0 (fr:Bool) (n:Nat) (code_:List Int) (k_:Int) (n_:Int) {r:Int} (h:qke n code_ k_ n_ = some r):qb1 prog fr 7 [.d (.sl false (code_.map qav)),.d (.int .i64 k_),.d (.int .i64 n_)] [] (fun v o new=>v = .d (.int .i64 r)∧o = []∧new = []):=by
 refine qak hτ func7 rfl (by simp) (by simp) ?_
 unfold qke at h
 refine qa8<|qa2<|qa1 hτ rfl rfl rfl<|qa5 ?_
 refine qby (ι:=Unit) (fun _=>St.of [(0,.d (.sl false (code_.map qav))),(1,.d (.int .i64 k_)),(2,.d (.int .i64 n_))] [] f7.ntmps 0) (fun _=>qjh n code_ k_ n_ = some r) ?_ (fun hk9=>?_)
 ·rintro ⟨⟩ h
  replace h:qjh n code_ k_ n_ = some r:=h
  unfold qjh at h
  refine qa8<|qa2<|qa1 hτ rfl rfl rfl<|qa1 hτ rfl rfl rfl ?_
  refine qaf h fun x7 hx7 h=>?_
  refine qce hτ rfl rfl rfl (qb8 hx7).1 (qbm hx7) rfl ?_
  refine qa1 hτ rfl rfl rfl<|qa1 hτ rfl rfl rfl<|qa1 hτ rfl rfl rfl ?_
  refine qci h fun hg8 h=>?_
  refine qcg hτ rfl rfl rfl hg8 ?_
  refine qa1 hτ rfl rfl rfl<|qa5 ?_
  refine qaa (qa3 [] (l:=[(6,.d (.int .i64 ((w64 (x7)).tmod n_)))]) (objs:=[]) rfl (by simp) rfl (by trivial) ⟨rfl,trivial,trivial⟩) ?_
  refine qap ?_
  have hr:=Option.some.inj h
  subst hr
  exact qah (.inr rfl) [] (objs':=[]) (new:=[]) rfl (by simp) (by simp) rfl (by trivial) rfl rfl (by trivial) (fun _=>⟨by simp [V.flat,V.qbg,V.qbb,D.flat],qan⟩) ⟨rfl,rfl,rfl⟩
 ·refine qa8 ?_
  refine qby (ι:=Bool) (fun v12=>St.of [(0,.d (.sl false (code_.map qav))),(1,.d (.int .i64 k_)),(2,.d (.int .i64 n_)),(14,.d (.bool v12))] [] f7.ntmps 0) (fun v12=>qhj n code_ k_ n_ v12 = some r) ?_ (fun hk14=>?_)
  ·rintro v12 h
   replace h:qhj n code_ k_ n_ v12 = some r:=h
   unfold qhj at h
   refine qaq rfl (fun hc13=>?_) (fun hc13=>?_)
   ·have h:=qeh h hc13
    refine qa8<|qa2<|qa1 hτ rfl rfl rfl<|qa5 ?_
    refine qaa (qa3 [] (l:=[(6,.d (.int .i64 (0:Int)))]) (objs:=[]) rfl (by simp) rfl (by trivial) ⟨rfl,trivial,trivial⟩) ?_
    refine qap ?_
    have hr:=Option.some.inj h
    subst hr
    exact qah (.inr rfl) [] (objs':=[]) (new:=[]) rfl (by simp) (by simp) rfl (by trivial) rfl rfl (by trivial) (fun _=>⟨by simp [V.flat,V.qbg,V.qbb,D.flat],qan⟩) ⟨rfl,rfl,rfl⟩
   ·have h:=qeg h hc13
    refine qat ?_
    refine qaa (qa3 [] (l:=[(0,.d (.sl false (code_.map qav))),(1,.d (.int .i64 k_)),(2,.d (.int .i64 n_))]) (objs:=[]) rfl (by simp) rfl (by trivial) ⟨rfl,trivial,rfl,trivial,rfl,trivial,trivial⟩) ?_
    exact hk9 () h
  ·refine qa8<|qa2<|qa1 hτ rfl rfl rfl<|qa1 hτ rfl rfl rfl<|qa1 hτ rfl rfl rfl ?_
   refine qbq 9 rfl (fun hb15=>?_) (fun hb15=>?_)
   ·have h:=if_t h hb15
    refine qab rfl rfl<|qab rfl rfl<|qab rfl rfl<|qab rfl rfl<|qa1 hτ rfl rfl rfl ?_
    refine qa5 ?_
    refine qaa (qa3 [] (l:=[(0,.d (.sl false (code_.map qav))),(1,.d (.int .i64 k_)),(2,.d (.int .i64 n_)),(14,.d (.bool true))]) (objs:=[]) rfl (by simp) rfl (by trivial) ⟨rfl,trivial,rfl,trivial,rfl,trivial,rfl,trivial,trivial⟩) ?_
    exact hk14 true h
   ·have h:=if_f h hb15
    refine qa1 hτ rfl rfl rfl<|qa1 hτ rfl rfl rfl ?_
    refine qa1 hτ (v:=.d (.int .i64 (code_.length:Int))) rfl rfl (Eq.trans rfl (qei (f:=qav) code_)) ?_
    refine qa1 hτ rfl rfl rfl<|qa1 hτ rfl rfl rfl<|qa5 ?_
    refine qaa (qa3 [] (l:=[(0,.d (.sl false (code_.map qav))),(1,.d (.int .i64 k_)),(2,.d (.int .i64 n_)),(14,.d (.bool (decide (k_ ≥ (code_.length:Int)))))]) (objs:=[]) rfl (by simp) rfl (by trivial) ⟨rfl,trivial,rfl,trivial,rfl,trivial,rfl,trivial,trivial⟩) ?_
    exact hk14 (decide (k_ ≥ (code_.length:Int))) h
theorem laws_r8At_ok (n:Nat) (code_:List Int) (k_:Int) (n_:Int) {r:Int} (h:qke n code_ k_ n_ = some r):qb1 prog false 7 [.d (.sl false (code_.map qav)),.d (.int .i64 k_),.d (.int .i64 n_)] [] (fun v o new=>v = .d (.int .i64 r)∧o = []∧new = []):=laws_r8At_ok_fr0 false n code_ k_ n_ h
def qf2 (n:Nat) (g_:qbk) (bus_:Int):Option Bool :=
 (qe1 n g_).bind fun x5 =>
 if x5 = true then
  (qfl n bus_ (1:Int) (w64 ((g_.qa0.qa7.length:Int) - (1:Int)))).bind fun x7 =>
  some x7
 else
  some false
theorem qkz (n:Nat) (g_:qbk) (bus_:Int) {r:Bool} (h:qf2 n g_ bus_ = some r):qb1 prog false 23 [.ptr 0 0,.d (.int .i64 bus_)] [.box [.d (.cx .f32 g_.qa0.Source.A.re g_.qa0.Source.A.im),.d (.cx .f32 g_.qa0.Source.B.re g_.qa0.Source.B.im),.d (.cx .f32 g_.qa0.Source.C.re g_.qa0.Source.C.im),.d (.sl false (g_.qa0.qa7.map qac)),.d (.sl false (g_.Ties.map qam))]] (fun v o new=>v = .d (.bool r)∧o = [.box [.d (.cx .f32 g_.qa0.Source.A.re g_.qa0.Source.A.im),.d (.cx .f32 g_.qa0.Source.B.re g_.qa0.Source.B.im),.d (.cx .f32 g_.qa0.Source.C.re g_.qa0.Source.C.im),.d (.sl false (g_.qa0.qa7.map qac)),.d (.sl false (g_.Ties.map qam))]]∧new = []):=by
 refine qak hτ func23 rfl (by simp) (by simp) ?_
 unfold qf2 at h
 refine qa8<|qa2<|qa1 hτ rfl rfl rfl<|qa5<|qa8 ?_
 refine qa2<|qa1 hτ rfl rfl rfl<|qa1 hτ rfl rfl rfl<|qa1 hτ rfl rfl rfl ?_
 refine qaf h fun x5 hx5 h=>?_
 refine qae hτ false [] rfl rfl rfl (qaj func6 rfl rfl) rfl rfl (by simp) ⟨(by trivial),trivial⟩ (by trivial) (qm3 n g_ hx5) ?_
 rintro r0 o0 n0 ⟨rfl,rfl,rfl⟩ -
 refine qa1 hτ rfl rfl rfl ?_
 refine qbq 9 rfl (fun hb6=>?_) (fun hb6=>?_)
 ·have h:=qeh h hb6
  refine qa1 hτ rfl rfl rfl<|qa1 hτ rfl rfl rfl<|qa1 hτ rfl rfl rfl<|qa1 hτ rfl rfl rfl<|qa1 hτ rfl rfl rfl ?_
  refine qa1 hτ rfl rfl rfl ?_
  refine qb3 (qa3 [0] (l:=[(9,.d (.bool true)),(10,.d (.int .i64 bus_)),(15,.d (.sl false (g_.qa0.qa7.map qac)))]) (objs:=[.box [.d (.cx .f32 g_.qa0.Source.A.re g_.qa0.Source.A.im),.d (.cx .f32 g_.qa0.Source.B.re g_.qa0.Source.B.im),.d (.cx .f32 g_.qa0.Source.C.re g_.qa0.Source.C.im),.d (.sl false (g_.qa0.qa7.map qac)),.d (.sl false (g_.Ties.map qam))]]) rfl (by simp) rfl (by trivial) ⟨rfl,trivial,rfl,trivial,rfl,trivial,trivial⟩) ?_
  refine qa1 hτ (v:=.d (.int .i64 (g_.qa0.qa7.length:Int))) rfl rfl (Eq.trans rfl (qei (f:=qac) g_.qa0.qa7)) ?_
  refine qa1 hτ rfl rfl rfl ?_
  refine qaf h fun x7 hx7 h=>?_
  refine qae hτ false [] rfl rfl rfl (qaj func36 rfl rfl) rfl rfl (by simp) ⟨trivial,trivial,trivial,trivial⟩ (by trivial) (qig n bus_ (1:Int) (w64 ((g_.qa0.qa7.length:Int) - (1:Int))) hx7) ?_
  rintro r0 o0 n0 ⟨rfl,rfl,rfl⟩ -
  refine qa1 hτ rfl rfl rfl<|qa1 hτ rfl rfl rfl<|qa5 ?_
  refine qaa (qa3 [0] (l:=[(4,.d (.bool x7))]) (objs:=[.box [.d (.cx .f32 g_.qa0.Source.A.re g_.qa0.Source.A.im),.d (.cx .f32 g_.qa0.Source.B.re g_.qa0.Source.B.im),.d (.cx .f32 g_.qa0.Source.C.re g_.qa0.Source.C.im),.d (.sl false (g_.qa0.qa7.map qac)),.d (.sl false (g_.Ties.map qam))]]) rfl (by simp) rfl (by trivial) ⟨rfl,trivial,trivial⟩) ?_
  refine qap ?_
  have hr:=Option.some.inj h
  subst hr
  exact qah (.inr rfl) [] (objs':=[.box [.d (.cx .f32 g_.qa0.Source.A.re g_.qa0.Source.A.im),.d (.cx .f32 g_.qa0.Source.B.re g_.qa0.Source.B.im),.d (.cx .f32 g_.qa0.Source.C.re g_.qa0.Source.C.im),.d (.sl false (g_.qa0.qa7.map qac)),.d (.sl false (g_.Ties.map qam))]]) (new:=[]) rfl (by simp) (by simp) rfl (by trivial) rfl rfl (by trivial) (fun h=>nomatch h) ⟨rfl,rfl,rfl⟩
 ·have h:=qeg h hb6
  refine qab rfl rfl<|qab rfl rfl<|qab rfl rfl<|qab rfl rfl<|qab rfl rfl ?_
  refine qab rfl rfl ?_
  refine qb3 (qa3 [0] (l:=[(9,.d (.bool false)),(10,.und),(15,.und)]) (objs:=[.box [.d (.cx .f32 g_.qa0.Source.A.re g_.qa0.Source.A.im),.d (.cx .f32 g_.qa0.Source.B.re g_.qa0.Source.B.im),.d (.cx .f32 g_.qa0.Source.C.re g_.qa0.Source.C.im),.d (.sl false (g_.qa0.qa7.map qac)),.d (.sl false (g_.Ties.map qam))]]) rfl (by simp) rfl (by trivial) ⟨rfl,trivial,rfl,trivial,rfl,trivial,trivial⟩) ?_
  refine qab rfl rfl<|qab rfl rfl<|qab rfl rfl<|qa1 hτ rfl rfl rfl<|qa1 hτ rfl rfl rfl ?_
  refine qa5 ?_
  refine qaa (qa3 [0] (l:=[(4,.d (.bool false))]) (objs:=[.box [.d (.cx .f32 g_.qa0.Source.A.re g_.qa0.Source.A.im),.d (.cx .f32 g_.qa0.Source.B.re g_.qa0.Source.B.im),.d (.cx .f32 g_.qa0.Source.C.re g_.qa0.Source.C.im),.d (.sl false (g_.qa0.qa7.map qac)),.d (.sl false (g_.Ties.map qam))]]) rfl (by simp) rfl (by trivial) ⟨rfl,trivial,trivial⟩) ?_
  refine qap ?_
  have hr:=Option.some.inj h
  subst hr
  exact qah (.inr rfl) [] (objs':=[.box [.d (.cx .f32 g_.qa0.Source.A.re g_.qa0.Source.A.im),.d (.cx .f32 g_.qa0.Source.B.re g_.qa0.Source.B.im),.d (.cx .f32 g_.qa0.Source.C.re g_.qa0.Source.C.im),.d (.sl false (g_.qa0.qa7.map qac)),.d (.sl false (g_.Ties.map qam))]]) (new:=[]) rfl (by simp) (by simp) rfl (by trivial) rfl rfl (by trivial) (fun h=>nomatch h) ⟨rfl,rfl,rfl⟩
def qek (n:Nat) (a_:Int) (b_:Int) (a2_:Int):Option Int :=
 grd (0 ≤ a_) <|
 grd (0 ≤ b_) <|
 if (qcu .and .u64 (a2_.fdiv (2 ^ min a_.toNat (IntKind.bits .u64))) (1:Int)) = (qcu .and .u64 (a2_.fdiv (2 ^ min b_.toNat (IntKind.bits .u64))) (1:Int)) then
  some a2_
 else
  grd (0 ≤ a_) <|
  grd (0 ≤ b_) <|
  some (qcu .or .u64 a2_ (qcu .or .u64 (IntKind.wrap .u64 ((1:Int) * 2 ^ min a_.toNat (IntKind.bits .u64))) (IntKind.wrap .u64 ((1:Int) * 2 ^ min b_.toNat (IntKind.bits .u64)))))
theorem impl_Grid_hung_1_ok_fr0 (fr:Bool) (n:Nat) (a_:Int) (b_:Int) (a2_:Int) {r:Int} (h:qek n a_ b_ a2_ = some r):qb1 prog fr 53 [.d (.int .i64 a_),.d (.int .i64 b_),.ptr 0 0] [.box [.d (.int .u64 a2_)]] (fun v o new=>v = .tup []∧o = [.box [.d (.int .u64 r)]]∧new = []):=by
 refine qak hτ func53 rfl (by simp) (by simp) ?_
 unfold qek at h
 refine qa8<|qd5 ?_
 refine qa4 hτ [0] 0 rfl rfl rfl rfl rfl ?_
 refine qa4 hτ [] 1 rfl rfl rfl rfl rfl ?_
 refine qci h fun hg6 h=>?_
 refine qca hτ [] 2 rfl rfl rfl rfl rfl hg6 ?_
 refine qa4 hτ [] 3 rfl rfl rfl rfl rfl ?_
 refine qa4 hτ [0] 4 rfl rfl rfl rfl rfl ?_
 refine qa4 hτ [] 5 rfl rfl rfl rfl rfl ?_
 refine qci h fun hg7 h=>?_
 refine qca hτ [] 6 rfl rfl rfl rfl rfl hg7 ?_
 refine qa4 hτ [] 7 rfl rfl rfl rfl rfl ?_
 refine qa4 hτ (v:=.d (.bool (!(decide ((qcu .and .u64 (a2_.fdiv (2 ^ min a_.toNat (IntKind.bits .u64))) (1:Int)) = (qcu .and .u64 (a2_.fdiv (2 ^ min b_.toNat (IntKind.bits .u64))) (1:Int))))))) [] 8 rfl rfl rfl rfl (qlw _ _) ?_
 refine qbo mixed (by kernel_rfl) ?_
 refine qaa (qa3 [0] (l:=[(0,.d (.int .i64 a_)),(1,.d (.int .i64 b_)),(2,.ptr 0 0),(13,.d (.bool (!(decide ((qcu .and .u64 (a2_.fdiv (2 ^ min a_.toNat (IntKind.bits .u64))) (1:Int)) = (qcu .and .u64 (a2_.fdiv (2 ^ min b_.toNat (IntKind.bits .u64))) (1:Int)))))))]) (objs:=[.box [.d (.int .u64 a2_)]]) rfl (by simp) rfl (by trivial) ⟨rfl,trivial,rfl,trivial,rfl,trivial,rfl,trivial,trivial⟩) ?_
 refine qaq rfl (fun hc8=>?_) (fun hc8=>?_)
 ·have hc8:=qjf hc8
  have h:=if_f h hc8
  refine qd5 ?_
  refine qa4 hτ [0] 0 rfl rfl rfl rfl rfl ?_
  refine qa4 hτ [] 1 rfl rfl rfl rfl rfl ?_
  refine qci h fun hg9 h=>?_
  refine qca hτ [] 2 rfl rfl rfl rfl rfl hg9 ?_
  refine qa4 hτ [] 3 rfl rfl rfl rfl rfl ?_
  refine qci h fun hg10 h=>?_
  refine qca hτ [] 4 rfl rfl rfl rfl rfl hg10 ?_
  refine qa4 hτ [] 5 rfl rfl rfl rfl rfl ?_
  refine qa4 hτ [] 6 rfl rfl rfl rfl rfl ?_
  refine qbf hτ [] 7 rfl rfl rfl rfl trivial ?_
  refine qbo mixed (by kernel_rfl) ?_
  have hr:=Option.some.inj h
  subst hr
  exact qah (.inl rfl) [] (objs':=[.box [.d (.int .u64 (qcu .or .u64 a2_ (qcu .or .u64 (IntKind.wrap .u64 ((1:Int) * 2 ^ min a_.toNat (IntKind.bits .u64))) (IntKind.wrap .u64 ((1:Int) * 2 ^ min b_.toNat (IntKind.bits .u64))))))]]) (new:=[]) rfl (by simp) (by simp) rfl (by trivial) rfl rfl (by trivial) (fun _=>⟨by simp [V.flat,V.qbg,V.qbb,D.flat],(qc8 (by simp [AObj.flat,V.qbb,D.flat]) qan)⟩) ⟨rfl,rfl,rfl⟩
 ·have hc8:=qje hc8
  have h:=if_t h hc8
  refine qat ?_
  have hr:=Option.some.inj h
  subst hr
  exact qah (.inl rfl) [] (objs':=[.box [.d (.int .u64 a2_)]]) (new:=[]) rfl (by simp) (by simp) rfl (by trivial) rfl rfl (by trivial) (fun _=>⟨by simp [V.flat,V.qbg,V.qbb,D.flat],(qc8 (by simp [AObj.flat,V.qbb,D.flat]) qan)⟩) ⟨rfl,rfl,rfl⟩
theorem qlh (n:Nat) (a_:Int) (b_:Int) (a2_:Int) {r:Int} (h:qek n a_ b_ a2_ = some r):qb1 prog false 53 [.d (.int .i64 a_),.d (.int .i64 b_),.ptr 0 0] [.box [.d (.int .u64 a2_)]] (fun v o new=>v = .tup []∧o = [.box [.d (.int .u64 r)]]∧new = []):=impl_Grid_hung_1_ok_fr0 false n a_ b_ a2_ h
def qi1 (n:Nat) (v123:Int):Option Int :=
 some v123
def qgg (n:Nat) (k186:Int→Int→Option Int) (v154:Int) (v216:Int):Option Int :=
 k186 v216 (w64 (v154 + (1:Int)))
def qdi (n:Nat) (g_:qbk) (ties_:List Int) (k186:Int→Int→Option Int) (v154:Int):Nat→Int→Int→Option Int
 | 0,_,_=>none
 | m247 + 1,v240,v241 =>
  if v241 < (ties_.length:Int) then
   (getI ties_ v241).bind fun x250 =>
   (getI g_.Ties x250).bind fun x251 =>
   (qek n x251.A x251.B v240).bind fun x252 =>
   (qdi n g_ ties_ k186 v154 m247) x252 (w64 (v241 + (1:Int)))
  else
   qgg n k186 v154 v240
def qgh (n:Nat) (g_:qbk) (ties_:List Int) (k186:Int→Int→Option Int) (v154:Int) (v236:Int):Option Int :=
 qdi n g_ ties_ k186 v154 n v236 (0:Int)
def qe2 (n:Nat) (k273:Int→Int→Option Int) (v262:Int) (v282:Int):Option Int :=
 k273 v282 (w64 (v262 + (1:Int)))
def qd9 (n:Nat) (k273:Int→Int→Option Int) (v261:Int) (v262:Int) (x284:SBus) (v289:Bool):Option Int :=
 if v289 = true then
  (qek n v262 x284.qaw v261).bind fun x291 =>
  qe2 n k273 v262 x291
 else
  qe2 n k273 v262 v261
def qbl (n:Nat) (g_:qbk) (bus_:Int) (ties_:List Int) (k186:Int→Int→Option Int) (v154:Int):Nat→Int→Int→Option Int
 | 0,_,_=>none
 | m272 + 1,v261,v262 =>
  if v262 < (g_.qa0.qa7.length:Int) then
   (getI g_.qa0.qa7 v262).bind fun x284 =>
   if v262 > (0:Int) then
    if v262 = bus_ then
     qd9 n (qbl n g_ bus_ ties_ k186 v154 m272) v261 v262 x284 false
    else
     qd9 n (qbl n g_ bus_ ties_ k186 v154 m272) v261 v262 x284 (!(decide (x284.qaw = bus_)))
   else
    qd9 n (qbl n g_ bus_ ties_ k186 v154 m272) v261 v262 x284 false
  else
   qgh n g_ ties_ k186 v154 v261
def qb2 (n:Nat) (g_:qbk) (bus_:Int) (ties_:List Int):Nat→Int→Int→Option Int
 | 0,_,_=>none
 | m185 + 1,v153,v154 =>
  if v154 < (g_.qa0.qa7.length:Int) then
   qbl n g_ bus_ ties_ (qb2 n g_ bus_ ties_ m185) v154 n v153 (0:Int)
  else
   qi1 n v153
def qdp (n:Nat) (g_:qbk) (bus_:Int) (ties_:List Int) (from_:Int):Option Int :=
 grd (0 ≤ from_) <|
 qb2 n g_ bus_ ties_ n (IntKind.wrap .u64 ((1:Int) * 2 ^ min from_.toNat (IntKind.bits .u64))) (0:Int)
theorem qhn (n:Nat) (g_:qbk) (bus_:Int) (ties_:List Int) (from_:Int) {r:Int} (h:qdp n g_ bus_ ties_ from_ = some r):qb1 prog false 34 [.ptr 0 0,.d (.int .i64 bus_),.d (.sl false (ties_.map qa6)),.d (.int .i64 from_)] [.box [.d (.cx .f32 g_.qa0.Source.A.re g_.qa0.Source.A.im),.d (.cx .f32 g_.qa0.Source.B.re g_.qa0.Source.B.im),.d (.cx .f32 g_.qa0.Source.C.re g_.qa0.Source.C.im),.d (.sl false (g_.qa0.qa7.map qac)),.d (.sl false (g_.Ties.map qam))]] (fun v o new=>v = .d (.int .u64 r)∧o = [.box [.d (.cx .f32 g_.qa0.Source.A.re g_.qa0.Source.A.im),.d (.cx .f32 g_.qa0.Source.B.re g_.qa0.Source.B.im),.d (.cx .f32 g_.qa0.Source.C.re g_.qa0.Source.C.im),.d (.sl false (g_.qa0.qa7.map qac)),.d (.sl false (g_.Ties.map qam))]]∧new = []):=by
 refine qak hτ func34 rfl (by simp) (by simp) ?_
 unfold qdp at h
 refine qa8<|qa2<|qa1 hτ rfl rfl rfl<|qa5<|qa8 ?_
 refine qa2<|qa1 hτ rfl rfl rfl ?_
 refine qci h fun hg62 h=>?_
 refine qcg hτ rfl rfl rfl hg62 ?_
 refine qal hτ rfl rfl rfl<|qal hτ rfl rfl rfl<|qa5<|qa8<|qa2 ?_
 refine qa1 hτ rfl rfl rfl<|qa1 hτ rfl rfl rfl<|qa5 ?_
 refine qby (ι:=Int) (fun v123=>St.of [(9,.ptr 1 0)] [.box [.d (.cx .f32 g_.qa0.Source.A.re g_.qa0.Source.A.im),.d (.cx .f32 g_.qa0.Source.B.re g_.qa0.Source.B.im),.d (.cx .f32 g_.qa0.Source.C.re g_.qa0.Source.C.im),.d (.sl false (g_.qa0.qa7.map qac)),.d (.sl false (g_.Ties.map qam))],.box [.d (.int .u64 v123)]] f34.ntmps 1) (fun v123=>qi1 n v123 = some r) ?_ (fun hk124=>?_)
 ·rintro v123 h
  replace h:qi1 n v123 = some r:=h
  unfold qi1 at h
  refine qa8<|qa2<|qa1 hτ rfl rfl rfl<|qa1 hτ rfl rfl rfl<|qa5 ?_
  refine qaa (qa3 [0] (l:=[(8,.d (.int .u64 v123))]) (objs:=[.box [.d (.cx .f32 g_.qa0.Source.A.re g_.qa0.Source.A.im),.d (.cx .f32 g_.qa0.Source.B.re g_.qa0.Source.B.im),.d (.cx .f32 g_.qa0.Source.C.re g_.qa0.Source.C.im),.d (.sl false (g_.qa0.qa7.map qac)),.d (.sl false (g_.Ties.map qam))]]) rfl (by simp) rfl (by trivial) ⟨rfl,trivial,trivial⟩) ?_
  refine qap ?_
  have hr:=Option.some.inj h
  subst hr
  exact qah (.inr rfl) [] (objs':=[.box [.d (.cx .f32 g_.qa0.Source.A.re g_.qa0.Source.A.im),.d (.cx .f32 g_.qa0.Source.B.re g_.qa0.Source.B.im),.d (.cx .f32 g_.qa0.Source.C.re g_.qa0.Source.C.im),.d (.sl false (g_.qa0.qa7.map qac)),.d (.sl false (g_.Ties.map qam))]]) (new:=[]) rfl (by simp) (by simp) rfl (by trivial) rfl rfl (by trivial) (fun h=>nomatch h) ⟨rfl,rfl,rfl⟩
 ·refine qa8<|qa8 ?_
  refine qaa (qa3 [0,1] (l:=[(0,.ptr 0 0),(1,.d (.int .i64 bus_)),(2,.d (.sl false (ties_.map qa6))),(9,.ptr 1 0),(10,.func 53 [] [.ptr 1 0])]) (objs:=[.box [.d (.cx .f32 g_.qa0.Source.A.re g_.qa0.Source.A.im),.d (.cx .f32 g_.qa0.Source.B.re g_.qa0.Source.B.im),.d (.cx .f32 g_.qa0.Source.C.re g_.qa0.Source.C.im),.d (.sl false (g_.qa0.qa7.map qac)),.d (.sl false (g_.Ties.map qam))],.box [.d (.int .u64 (IntKind.wrap .u64 ((1:Int) * 2 ^ min from_.toNat (IntKind.bits .u64))))]]) rfl (by simp) rfl (by trivial) ⟨rfl,trivial,rfl,trivial,rfl,trivial,rfl,trivial,rfl,(by trivial),trivial⟩) ?_
  refine qa2<|qa1 hτ rfl rfl rfl<|qa1 hτ rfl rfl rfl<|qa1 hτ rfl rfl rfl<|qa1 hτ rfl rfl rfl ?_
  refine qa1 hτ rfl rfl rfl ?_
  refine qa1 hτ (v:=.d (.int .i64 (g_.qa0.qa7.length:Int))) rfl rfl (Eq.trans rfl (qei (f:=qac) g_.qa0.qa7)) ?_
  refine qa1 hτ rfl rfl rfl<|qa5<|qay ?_
  refine qde (ι:=Nat × Int × Int) (fun (m185,v153,v154)=>St.of [(0,.ptr 0 0),(1,.d (.int .i64 bus_)),(2,.d (.sl false (ties_.map qa6))),(9,.ptr 1 0),(10,.func 53 [] [.ptr 1 0]),(23,.d (.int .i64 (g_.qa0.qa7.length:Int))),(24,.d (.int .i64 v154))] [.box [.d (.cx .f32 g_.qa0.Source.A.re g_.qa0.Source.A.im),.d (.cx .f32 g_.qa0.Source.B.re g_.qa0.Source.B.im),.d (.cx .f32 g_.qa0.Source.C.re g_.qa0.Source.C.im),.d (.sl false (g_.qa0.qa7.map qac)),.d (.sl false (g_.Ties.map qam))],.box [.d (.int .u64 v153)]] f34.ntmps 1) (fun (m185,v153,v154)=>qb2 n g_ bus_ ties_ m185 v153 v154 = some r) (fun x=>x.1) (n,(IntKind.wrap .u64 ((1:Int) * 2 ^ min from_.toNat (IntKind.bits .u64))),(0:Int)) h (qa3 [0,1] (l:=[(0,.ptr 0 0),(1,.d (.int .i64 bus_)),(2,.d (.sl false (ties_.map qa6))),(9,.ptr 1 0),(10,.func 53 [] [.ptr 1 0]),(23,.d (.int .i64 (g_.qa0.qa7.length:Int))),(24,.d (.int .i64 (0:Int)))]) (objs:=[.box [.d (.cx .f32 g_.qa0.Source.A.re g_.qa0.Source.A.im),.d (.cx .f32 g_.qa0.Source.B.re g_.qa0.Source.B.im),.d (.cx .f32 g_.qa0.Source.C.re g_.qa0.Source.C.im),.d (.sl false (g_.qa0.qa7.map qac)),.d (.sl false (g_.Ties.map qam))],.box [.d (.int .u64 (IntKind.wrap .u64 ((1:Int) * 2 ^ min from_.toNat (IntKind.bits .u64))))]]) rfl (by simp) rfl (by trivial) ⟨rfl,trivial,rfl,trivial,rfl,trivial,rfl,trivial,rfl,(by trivial),rfl,trivial,rfl,trivial,trivial⟩) ?_
  rintro ⟨m185,v153,v154⟩ h
  replace h:qb2 n g_ bus_ ties_ m185 v153 v154 = some r:=h
  rcases m185 with _ | m185
  ·rw [qb2] at h;cases h
  rw [qb2] at h
  refine qa8<|qa2<|qa1 hτ rfl rfl rfl<|qa5<|qa8 ?_
  refine qaq rfl (fun hc187=>?_) (fun hc187=>?_)
  ·have h:=if_t h hc187
   refine qat ?_
   refine qby (ι:=Int) (fun v216=>St.of [(0,.ptr 0 0),(1,.d (.int .i64 bus_)),(2,.d (.sl false (ties_.map qa6))),(9,.ptr 1 0),(10,.func 53 [] [.ptr 1 0]),(23,.d (.int .i64 (g_.qa0.qa7.length:Int))),(24,.d (.int .i64 v154))] [.box [.d (.cx .f32 g_.qa0.Source.A.re g_.qa0.Source.A.im),.d (.cx .f32 g_.qa0.Source.B.re g_.qa0.Source.B.im),.d (.cx .f32 g_.qa0.Source.C.re g_.qa0.Source.C.im),.d (.sl false (g_.qa0.qa7.map qac)),.d (.sl false (g_.Ties.map qam))],.box [.d (.int .u64 v216)]] f34.ntmps 1) (fun v216=>qgg n (qb2 n g_ bus_ ties_ m185) v154 v216 = some r) ?_ (fun hk217=>?_)
   ·rintro v216 h
    replace h:qgg n (qb2 n g_ bus_ ties_ m185) v154 v216 = some r:=h
    unfold qgg at h
    refine qa2<|qa1 hτ rfl rfl rfl<|qa1 hτ rfl rfl rfl<|qa5 ?_
    exact ⟨(m185,v216,(w64 (v154 + (1:Int)))),h,Nat.lt_succ_self m185,(qa3 [0,1] (l:=[(0,.ptr 0 0),(1,.d (.int .i64 bus_)),(2,.d (.sl false (ties_.map qa6))),(9,.ptr 1 0),(10,.func 53 [] [.ptr 1 0]),(23,.d (.int .i64 (g_.qa0.qa7.length:Int))),(24,.d (.int .i64 (w64 (v154 + (1:Int)))))]) (objs:=[.box [.d (.cx .f32 g_.qa0.Source.A.re g_.qa0.Source.A.im),.d (.cx .f32 g_.qa0.Source.B.re g_.qa0.Source.B.im),.d (.cx .f32 g_.qa0.Source.C.re g_.qa0.Source.C.im),.d (.sl false (g_.qa0.qa7.map qac)),.d (.sl false (g_.Ties.map qam))],.box [.d (.int .u64 v216)]]) rfl (by simp) rfl (by trivial) ⟨rfl,trivial,rfl,trivial,rfl,trivial,rfl,trivial,rfl,(by trivial),rfl,trivial,rfl,trivial,trivial⟩)⟩
   ·refine qa8<|qay ?_
    refine qby (ι:=Int) (fun v236=>St.of [(0,.ptr 0 0),(1,.d (.int .i64 bus_)),(2,.d (.sl false (ties_.map qa6))),(9,.ptr 1 0),(10,.func 53 [] [.ptr 1 0]),(23,.d (.int .i64 (g_.qa0.qa7.length:Int))),(24,.d (.int .i64 v154))] [.box [.d (.cx .f32 g_.qa0.Source.A.re g_.qa0.Source.A.im),.d (.cx .f32 g_.qa0.Source.B.re g_.qa0.Source.B.im),.d (.cx .f32 g_.qa0.Source.C.re g_.qa0.Source.C.im),.d (.sl false (g_.qa0.qa7.map qac)),.d (.sl false (g_.Ties.map qam))],.box [.d (.int .u64 v236)]] f34.ntmps 1) (fun v236=>qgh n g_ ties_ (qb2 n g_ bus_ ties_ m185) v154 v236 = some r) ?_ (fun hk253=>?_)
    ·rintro v236 h
     replace h:qgh n g_ ties_ (qb2 n g_ bus_ ties_ m185) v154 v236 = some r:=h
     unfold qgh at h
     refine qa8<|qa2<|qa1 hτ rfl rfl rfl ?_
     refine qa1 hτ (v:=.d (.int .i64 (ties_.length:Int))) rfl rfl (Eq.trans rfl (qei (f:=qa6) ties_)) ?_
     refine qa1 hτ rfl rfl rfl<|qa5<|qay ?_
     refine qde (ι:=Nat × Int × Int) (fun (m247,v240,v241)=>St.of [(0,.ptr 0 0),(1,.d (.int .i64 bus_)),(2,.d (.sl false (ties_.map qa6))),(9,.ptr 1 0),(10,.func 53 [] [.ptr 1 0]),(23,.d (.int .i64 (g_.qa0.qa7.length:Int))),(24,.d (.int .i64 v154)),(56,.d (.sl false (ties_.map qa6))),(57,.d (.int .i64 (ties_.length:Int))),(58,.d (.int .i64 v241))] [.box [.d (.cx .f32 g_.qa0.Source.A.re g_.qa0.Source.A.im),.d (.cx .f32 g_.qa0.Source.B.re g_.qa0.Source.B.im),.d (.cx .f32 g_.qa0.Source.C.re g_.qa0.Source.C.im),.d (.sl false (g_.qa0.qa7.map qac)),.d (.sl false (g_.Ties.map qam))],.box [.d (.int .u64 v240)]] f34.ntmps 1) (fun (m247,v240,v241)=>qdi n g_ ties_ (qb2 n g_ bus_ ties_ m185) v154 m247 v240 v241 = some r) (fun x=>x.1) (n,v236,(0:Int)) h (qa3 [0,1] (l:=[(0,.ptr 0 0),(1,.d (.int .i64 bus_)),(2,.d (.sl false (ties_.map qa6))),(9,.ptr 1 0),(10,.func 53 [] [.ptr 1 0]),(23,.d (.int .i64 (g_.qa0.qa7.length:Int))),(24,.d (.int .i64 v154)),(56,.d (.sl false (ties_.map qa6))),(57,.d (.int .i64 (ties_.length:Int))),(58,.d (.int .i64 (0:Int)))]) (objs:=[.box [.d (.cx .f32 g_.qa0.Source.A.re g_.qa0.Source.A.im),.d (.cx .f32 g_.qa0.Source.B.re g_.qa0.Source.B.im),.d (.cx .f32 g_.qa0.Source.C.re g_.qa0.Source.C.im),.d (.sl false (g_.qa0.qa7.map qac)),.d (.sl false (g_.Ties.map qam))],.box [.d (.int .u64 v236)]]) rfl (by simp) rfl (by trivial) ⟨rfl,trivial,rfl,trivial,rfl,trivial,rfl,trivial,rfl,(by trivial),rfl,trivial,rfl,trivial,rfl,trivial,rfl,trivial,rfl,trivial,trivial⟩) ?_
     rintro ⟨m247,v240,v241⟩ h
     replace h:qdi n g_ ties_ (qb2 n g_ bus_ ties_ m185) v154 m247 v240 v241 = some r:=h
     rcases m247 with _ | m247
     ·rw [qdi] at h;cases h
     rw [qdi] at h
     refine qa8<|qa2<|qa1 hτ rfl rfl rfl<|qa5<|qa8 ?_
     refine qaq rfl (fun hc249=>?_) (fun hc249=>?_)
     ·have h:=if_t h hc249
      refine qat<|qa8<|qay<|qa8<|qa2 ?_
      refine qaf h fun x250 hx250 h=>?_
      refine qce hτ rfl rfl rfl (qb8 hx250).1 (qbm hx250) rfl ?_
      refine qa1 hτ rfl rfl rfl<|qa1 hτ rfl rfl rfl<|qa5<|qd5 ?_
      refine qa4 hτ [] 0 rfl rfl rfl rfl rfl ?_
      refine qa4 hτ [] 1 rfl rfl rfl rfl rfl ?_
      refine qa4 hτ [] 2 rfl rfl rfl rfl rfl ?_
      refine qa4 hτ [0] 3 rfl rfl rfl rfl rfl ?_
      refine qa4 hτ [0] 4 rfl rfl rfl rfl rfl ?_
      refine qa4 hτ [] 5 rfl rfl rfl rfl rfl ?_
      refine qaf h fun x251 hx251 h=>?_
      refine qbx hτ [] 6 rfl rfl rfl rfl rfl (qb8 hx251).1 (qbm hx251) rfl ?_
      refine qa4 hτ [] 7 rfl rfl rfl rfl rfl ?_
      refine qa4 hτ [] 8 rfl rfl rfl rfl rfl ?_
      refine qa4 hτ [] 9 rfl rfl rfl rfl rfl ?_
      refine qa4 hτ [] 10 rfl rfl rfl rfl rfl ?_
      refine qa4 hτ [0] 11 rfl rfl rfl rfl rfl ?_
      refine qa4 hτ [0] 12 rfl rfl rfl rfl rfl ?_
      refine qa4 hτ [] 13 rfl rfl rfl rfl rfl ?_
      refine qbx hτ [] 14 rfl rfl rfl rfl rfl (qb8 hx251).1 (qbm hx251) rfl ?_
      refine qa4 hτ [] 15 rfl rfl rfl rfl rfl ?_
      refine qa4 hτ [] 16 rfl rfl rfl rfl rfl ?_
      refine qaf h fun x252 hx252 h=>?_
      refine qcf hτ false [1] [0] 17 rfl rfl rfl rfl (qaj func53 rfl rfl) rfl rfl (by simp) ⟨trivial,trivial,trivial,trivial⟩ (by trivial) (qlh n x251.A x251.B v240 hx252) ⟨rfl,trivial⟩ ?_
      refine qbo mixed (by kernel_rfl) ?_
      refine qaa (qa3 [0,1] (l:=[(0,.ptr 0 0),(1,.d (.int .i64 bus_)),(2,.d (.sl false (ties_.map qa6))),(9,.ptr 1 0),(10,.func 53 [] [.ptr 1 0]),(23,.d (.int .i64 (g_.qa0.qa7.length:Int))),(24,.d (.int .i64 v154)),(56,.d (.sl false (ties_.map qa6))),(57,.d (.int .i64 (ties_.length:Int))),(58,.d (.int .i64 v241))]) (objs:=[.box [.d (.cx .f32 g_.qa0.Source.A.re g_.qa0.Source.A.im),.d (.cx .f32 g_.qa0.Source.B.re g_.qa0.Source.B.im),.d (.cx .f32 g_.qa0.Source.C.re g_.qa0.Source.C.im),.d (.sl false (g_.qa0.qa7.map qac)),.d (.sl false (g_.Ties.map qam))],.box [.d (.int .u64 x252)]]) rfl (by simp) rfl (by trivial) ⟨rfl,trivial,rfl,trivial,rfl,trivial,rfl,trivial,rfl,(by trivial),rfl,trivial,rfl,trivial,rfl,trivial,rfl,trivial,rfl,trivial,trivial⟩) ?_
      refine qa2<|qa1 hτ rfl rfl rfl<|qa1 hτ rfl rfl rfl<|qa5 ?_
      exact ⟨(m247,x252,(w64 (v241 + (1:Int)))),h,Nat.lt_succ_self m247,(qa3 [0,1] (l:=[(0,.ptr 0 0),(1,.d (.int .i64 bus_)),(2,.d (.sl false (ties_.map qa6))),(9,.ptr 1 0),(10,.func 53 [] [.ptr 1 0]),(23,.d (.int .i64 (g_.qa0.qa7.length:Int))),(24,.d (.int .i64 v154)),(56,.d (.sl false (ties_.map qa6))),(57,.d (.int .i64 (ties_.length:Int))),(58,.d (.int .i64 (w64 (v241 + (1:Int)))))]) (objs:=[.box [.d (.cx .f32 g_.qa0.Source.A.re g_.qa0.Source.A.im),.d (.cx .f32 g_.qa0.Source.B.re g_.qa0.Source.B.im),.d (.cx .f32 g_.qa0.Source.C.re g_.qa0.Source.C.im),.d (.sl false (g_.qa0.qa7.map qac)),.d (.sl false (g_.Ties.map qam))],.box [.d (.int .u64 x252)]]) rfl (by simp) rfl (by trivial) ⟨rfl,trivial,rfl,trivial,rfl,trivial,rfl,trivial,rfl,(by trivial),rfl,trivial,rfl,trivial,rfl,trivial,rfl,trivial,rfl,trivial,trivial⟩)⟩
     ·have h:=if_f h hc249
      refine qd3 ?_
      refine qaa (qa3 [0,1] (l:=[(0,.ptr 0 0),(1,.d (.int .i64 bus_)),(2,.d (.sl false (ties_.map qa6))),(9,.ptr 1 0),(10,.func 53 [] [.ptr 1 0]),(23,.d (.int .i64 (g_.qa0.qa7.length:Int))),(24,.d (.int .i64 v154))]) (objs:=[.box [.d (.cx .f32 g_.qa0.Source.A.re g_.qa0.Source.A.im),.d (.cx .f32 g_.qa0.Source.B.re g_.qa0.Source.B.im),.d (.cx .f32 g_.qa0.Source.C.re g_.qa0.Source.C.im),.d (.sl false (g_.qa0.qa7.map qac)),.d (.sl false (g_.Ties.map qam))],.box [.d (.int .u64 v240)]]) rfl (by simp) rfl (by trivial) ⟨rfl,trivial,rfl,trivial,rfl,trivial,rfl,trivial,rfl,(by trivial),rfl,trivial,rfl,trivial,trivial⟩) ?_
      exact hk217 v240 h
    ·refine qa8<|qa8<|qa2<|qa1 hτ rfl rfl rfl<|qa1 hτ rfl rfl rfl ?_
     refine qa1 hτ rfl rfl rfl<|qa1 hτ rfl rfl rfl<|qa1 hτ rfl rfl rfl ?_
     refine qa1 hτ (v:=.d (.int .i64 (g_.qa0.qa7.length:Int))) rfl rfl (Eq.trans rfl (qei (f:=qac) g_.qa0.qa7)) ?_
     refine qa1 hτ rfl rfl rfl<|qa5<|qay ?_
     refine qde (ι:=Nat × Int × Int) (fun (m272,v261,v262)=>St.of [(0,.ptr 0 0),(1,.d (.int .i64 bus_)),(2,.d (.sl false (ties_.map qa6))),(9,.ptr 1 0),(10,.func 53 [] [.ptr 1 0]),(23,.d (.int .i64 (g_.qa0.qa7.length:Int))),(24,.d (.int .i64 v154)),(30,.d (.sl false (g_.qa0.qa7.map qac))),(31,.d (.int .i64 (g_.qa0.qa7.length:Int))),(32,.d (.int .i64 v262))] [.box [.d (.cx .f32 g_.qa0.Source.A.re g_.qa0.Source.A.im),.d (.cx .f32 g_.qa0.Source.B.re g_.qa0.Source.B.im),.d (.cx .f32 g_.qa0.Source.C.re g_.qa0.Source.C.im),.d (.sl false (g_.qa0.qa7.map qac)),.d (.sl false (g_.Ties.map qam))],.box [.d (.int .u64 v261)]] f34.ntmps 1) (fun (m272,v261,v262)=>qbl n g_ bus_ ties_ (qb2 n g_ bus_ ties_ m185) v154 m272 v261 v262 = some r) (fun x=>x.1) (n,v153,(0:Int)) h (qa3 [0,1] (l:=[(0,.ptr 0 0),(1,.d (.int .i64 bus_)),(2,.d (.sl false (ties_.map qa6))),(9,.ptr 1 0),(10,.func 53 [] [.ptr 1 0]),(23,.d (.int .i64 (g_.qa0.qa7.length:Int))),(24,.d (.int .i64 v154)),(30,.d (.sl false (g_.qa0.qa7.map qac))),(31,.d (.int .i64 (g_.qa0.qa7.length:Int))),(32,.d (.int .i64 (0:Int)))]) (objs:=[.box [.d (.cx .f32 g_.qa0.Source.A.re g_.qa0.Source.A.im),.d (.cx .f32 g_.qa0.Source.B.re g_.qa0.Source.B.im),.d (.cx .f32 g_.qa0.Source.C.re g_.qa0.Source.C.im),.d (.sl false (g_.qa0.qa7.map qac)),.d (.sl false (g_.Ties.map qam))],.box [.d (.int .u64 v153)]]) rfl (by simp) rfl (by trivial) ⟨rfl,trivial,rfl,trivial,rfl,trivial,rfl,trivial,rfl,(by trivial),rfl,trivial,rfl,trivial,rfl,trivial,rfl,trivial,rfl,trivial,trivial⟩) ?_
     rintro ⟨m272,v261,v262⟩ h
     replace h:qbl n g_ bus_ ties_ (qb2 n g_ bus_ ties_ m185) v154 m272 v261 v262 = some r:=h
     rcases m272 with _ | m272
     ·rw [qbl] at h;cases h
     rw [qbl] at h
     refine qa8<|qa2<|qa1 hτ rfl rfl rfl<|qa5<|qa8 ?_
     refine qaq rfl (fun hc274=>?_) (fun hc274=>?_)
     ·have h:=if_t h hc274
      refine qat ?_
      refine qby (ι:=Int) (fun v282=>St.of [(0,.ptr 0 0),(1,.d (.int .i64 bus_)),(2,.d (.sl false (ties_.map qa6))),(9,.ptr 1 0),(10,.func 53 [] [.ptr 1 0]),(23,.d (.int .i64 (g_.qa0.qa7.length:Int))),(24,.d (.int .i64 v154)),(30,.d (.sl false (g_.qa0.qa7.map qac))),(31,.d (.int .i64 (g_.qa0.qa7.length:Int))),(32,.d (.int .i64 v262))] [.box [.d (.cx .f32 g_.qa0.Source.A.re g_.qa0.Source.A.im),.d (.cx .f32 g_.qa0.Source.B.re g_.qa0.Source.B.im),.d (.cx .f32 g_.qa0.Source.C.re g_.qa0.Source.C.im),.d (.sl false (g_.qa0.qa7.map qac)),.d (.sl false (g_.Ties.map qam))],.box [.d (.int .u64 v282)]] f34.ntmps 1) (fun v282=>qe2 n (qbl n g_ bus_ ties_ (qb2 n g_ bus_ ties_ m185) v154 m272) v262 v282 = some r) ?_ (fun hk283=>?_)
      ·rintro v282 h
       replace h:qe2 n (qbl n g_ bus_ ties_ (qb2 n g_ bus_ ties_ m185) v154 m272) v262 v282 = some r:=h
       unfold qe2 at h
       refine qa2<|qa1 hτ rfl rfl rfl<|qa1 hτ rfl rfl rfl<|qa5 ?_
       exact ⟨(m272,v282,(w64 (v262 + (1:Int)))),h,Nat.lt_succ_self m272,(qa3 [0,1] (l:=[(0,.ptr 0 0),(1,.d (.int .i64 bus_)),(2,.d (.sl false (ties_.map qa6))),(9,.ptr 1 0),(10,.func 53 [] [.ptr 1 0]),(23,.d (.int .i64 (g_.qa0.qa7.length:Int))),(24,.d (.int .i64 v154)),(30,.d (.sl false (g_.qa0.qa7.map qac))),(31,.d (.int .i64 (g_.qa0.qa7.length:Int))),(32,.d (.int .i64 (w64 (v262 + (1:Int)))))]) (objs:=[.box [.d (.cx .f32 g_.qa0.Source.A.re g_.qa0.Source.A.im),.d (.cx .f32 g_.qa0.Source.B.re g_.qa0.Source.B.im),.d (.cx .f32 g_.qa0.Source.C.re g_.qa0.Source.C.im),.d (.sl false (g_.qa0.qa7.map qac)),.d (.sl false (g_.Ties.map qam))],.box [.d (.int .u64 v282)]]) rfl (by simp) rfl (by trivial) ⟨rfl,trivial,rfl,trivial,rfl,trivial,rfl,trivial,rfl,(by trivial),rfl,trivial,rfl,trivial,rfl,trivial,rfl,trivial,rfl,trivial,trivial⟩)⟩
      ·refine qa8<|qay<|qa8<|qa2<|qa1 hτ rfl rfl rfl ?_
       refine qaf h fun x284 hx284 h=>?_
       refine qce hτ rfl rfl rfl (qb8 hx284).1 (qbm hx284) rfl ?_
       refine qa1 hτ rfl rfl rfl<|qal hτ rfl rfl rfl<|qa1 hτ rfl rfl rfl<|qal hτ rfl rfl rfl<|qa5 ?_
       refine qby (ι:=Bool) (fun v289=>St.of [(0,.ptr 0 0),(1,.d (.int .i64 bus_)),(2,.d (.sl false (ties_.map qa6))),(9,.ptr 1 0),(10,.func 53 [] [.ptr 1 0]),(11,.d (.int .i64 v262)),(12,.ptr 2 0),(23,.d (.int .i64 (g_.qa0.qa7.length:Int))),(24,.d (.int .i64 v154)),(30,.d (.sl false (g_.qa0.qa7.map qac))),(31,.d (.int .i64 (g_.qa0.qa7.length:Int))),(32,.d (.int .i64 v262)),(49,.d (.bool v289))] [.box [.d (.cx .f32 g_.qa0.Source.A.re g_.qa0.Source.A.im),.d (.cx .f32 g_.qa0.Source.B.re g_.qa0.Source.B.im),.d (.cx .f32 g_.qa0.Source.C.re g_.qa0.Source.C.im),.d (.sl false (g_.qa0.qa7.map qac)),.d (.sl false (g_.Ties.map qam))],.box [.d (.int .u64 v261)],.box [.d (.int .i64 x284.qaw),.d (.cx .f32 x284.Own.re x284.Own.im),.d (.cx .f32 x284.Shared.re x284.Shared.im),.d (.int .i64 x284.Kind),.d (.cx .f32 x284.Load.A.re x284.Load.A.im),.d (.cx .f32 x284.Load.B.re x284.Load.B.im),.d (.cx .f32 x284.Load.C.re x284.Load.C.im),.d (.int .i64 x284.qag)]] f34.ntmps 1) (fun v289=>qd9 n (qbl n g_ bus_ ties_ (qb2 n g_ bus_ ties_ m185) v154 m272) v261 v262 x284 v289 = some r) ?_ (fun hk292=>?_)
       ·rintro v289 h
        replace h:qd9 n (qbl n g_ bus_ ties_ (qb2 n g_ bus_ ties_ m185) v154 m272) v261 v262 x284 v289 = some r:=h
        unfold qd9 at h
        refine qaq rfl (fun hc290=>?_) (fun hc290=>?_)
        ·have h:=qeh h hc290
         refine qa2<|qa1 hτ rfl rfl rfl<|qa1 hτ rfl rfl rfl<|qa1 hτ rfl rfl rfl<|qa1 hτ rfl rfl rfl ?_
         refine qaf h fun x291 hx291 h=>?_
         refine qae hτ false [1] rfl rfl rfl (qaj func53 rfl rfl) rfl rfl (by simp) ⟨trivial,trivial,trivial,trivial⟩ (by trivial) (qlh n v262 x284.qaw v261 hx291) ?_
         rintro r0 o0 n0 ⟨rfl,rfl,rfl⟩ -
         refine qa5 ?_
         refine qaa (qa3 [0,1] (l:=[(0,.ptr 0 0),(1,.d (.int .i64 bus_)),(2,.d (.sl false (ties_.map qa6))),(9,.ptr 1 0),(10,.func 53 [] [.ptr 1 0]),(23,.d (.int .i64 (g_.qa0.qa7.length:Int))),(24,.d (.int .i64 v154)),(30,.d (.sl false (g_.qa0.qa7.map qac))),(31,.d (.int .i64 (g_.qa0.qa7.length:Int))),(32,.d (.int .i64 v262))]) (objs:=[.box [.d (.cx .f32 g_.qa0.Source.A.re g_.qa0.Source.A.im),.d (.cx .f32 g_.qa0.Source.B.re g_.qa0.Source.B.im),.d (.cx .f32 g_.qa0.Source.C.re g_.qa0.Source.C.im),.d (.sl false (g_.qa0.qa7.map qac)),.d (.sl false (g_.Ties.map qam))],.box [.d (.int .u64 x291)]]) rfl (by simp) rfl (by trivial) ⟨rfl,trivial,rfl,trivial,rfl,trivial,rfl,trivial,rfl,(by trivial),rfl,trivial,rfl,trivial,rfl,trivial,rfl,trivial,rfl,trivial,trivial⟩) ?_
         exact hk283 x291 h
        ·have h:=qeg h hc290
         refine qat ?_
         refine qaa (qa3 [0,1] (l:=[(0,.ptr 0 0),(1,.d (.int .i64 bus_)),(2,.d (.sl false (ties_.map qa6))),(9,.ptr 1 0),(10,.func 53 [] [.ptr 1 0]),(23,.d (.int .i64 (g_.qa0.qa7.length:Int))),(24,.d (.int .i64 v154)),(30,.d (.sl false (g_.qa0.qa7.map qac))),(31,.d (.int .i64 (g_.qa0.qa7.length:Int))),(32,.d (.int .i64 v262))]) (objs:=[.box [.d (.cx .f32 g_.qa0.Source.A.re g_.qa0.Source.A.im),.d (.cx .f32 g_.qa0.Source.B.re g_.qa0.Source.B.im),.d (.cx .f32 g_.qa0.Source.C.re g_.qa0.Source.C.im),.d (.sl false (g_.qa0.qa7.map qac)),.d (.sl false (g_.Ties.map qam))],.box [.d (.int .u64 v261)]]) rfl (by simp) rfl (by trivial) ⟨rfl,trivial,rfl,trivial,rfl,trivial,rfl,trivial,rfl,(by trivial),rfl,trivial,rfl,trivial,rfl,trivial,rfl,trivial,rfl,trivial,trivial⟩) ?_
         exact hk283 v261 h
       ·refine qa8 ?_
        refine qaa (qa3 [0,1,2] (l:=[(0,.ptr 0 0),(1,.d (.int .i64 bus_)),(2,.d (.sl false (ties_.map qa6))),(9,.ptr 1 0),(10,.func 53 [] [.ptr 1 0]),(11,.d (.int .i64 v262)),(12,.ptr 2 0),(23,.d (.int .i64 (g_.qa0.qa7.length:Int))),(24,.d (.int .i64 v154)),(30,.d (.sl false (g_.qa0.qa7.map qac))),(31,.d (.int .i64 (g_.qa0.qa7.length:Int))),(32,.d (.int .i64 v262))]) (objs:=[.box [.d (.cx .f32 g_.qa0.Source.A.re g_.qa0.Source.A.im),.d (.cx .f32 g_.qa0.Source.B.re g_.qa0.Source.B.im),.d (.cx .f32 g_.qa0.Source.C.re g_.qa0.Source.C.im),.d (.sl false (g_.qa0.qa7.map qac)),.d (.sl false (g_.Ties.map qam))],.box [.d (.int .u64 v261)],.box [.d (.int .i64 x284.qaw),.d (.cx .f32 x284.Own.re x284.Own.im),.d (.cx .f32 x284.Shared.re x284.Shared.im),.d (.int .i64 x284.Kind),.d (.cx .f32 x284.Load.A.re x284.Load.A.im),.d (.cx .f32 x284.Load.B.re x284.Load.B.im),.d (.cx .f32 x284.Load.C.re x284.Load.C.im),.d (.int .i64 x284.qag)]]) rfl (by simp) rfl (by trivial) ⟨rfl,trivial,rfl,trivial,rfl,trivial,rfl,trivial,rfl,(by trivial),rfl,trivial,rfl,trivial,rfl,trivial,rfl,trivial,rfl,trivial,rfl,trivial,rfl,trivial,trivial⟩) ?_
        refine qa2<|qa1 hτ rfl rfl rfl<|qa1 hτ rfl rfl rfl<|qa1 hτ rfl rfl rfl ?_
        refine qbq 39 rfl (fun hb293=>?_) (fun hb293=>?_)
        ·have h:=if_t h hb293
         refine qa1 hτ rfl rfl rfl<|qa1 hτ rfl rfl rfl ?_
         refine qa1 hτ (v:=.d (.bool (!(decide (v262 = bus_))))) rfl rfl (qlw _ _) ?_
         refine qa1 hτ rfl rfl rfl<|qa1 hτ rfl rfl rfl ?_
         refine qbq 44 rfl (fun hb294=>?_) (fun hb294=>?_)
         ·have hb294:=qjf hb294
          have h:=if_f h hb294
          refine qa1 hτ rfl rfl rfl<|qa1 hτ rfl rfl rfl<|qa1 hτ rfl rfl rfl ?_
          refine qa1 hτ (v:=.d (.bool (!(decide (x284.qaw = bus_))))) rfl rfl (qlw _ _) ?_
          refine qb3 (qa3 [0,1,2] (l:=[(0,.ptr 0 0),(1,.d (.int .i64 bus_)),(2,.d (.sl false (ties_.map qa6))),(9,.ptr 1 0),(10,.func 53 [] [.ptr 1 0]),(11,.d (.int .i64 v262)),(12,.ptr 2 0),(23,.d (.int .i64 (g_.qa0.qa7.length:Int))),(24,.d (.int .i64 v154)),(30,.d (.sl false (g_.qa0.qa7.map qac))),(31,.d (.int .i64 (g_.qa0.qa7.length:Int))),(32,.d (.int .i64 v262)),(44,.d (.bool true)),(48,.d (.bool (!(decide (x284.qaw = bus_)))))]) (objs:=[.box [.d (.cx .f32 g_.qa0.Source.A.re g_.qa0.Source.A.im),.d (.cx .f32 g_.qa0.Source.B.re g_.qa0.Source.B.im),.d (.cx .f32 g_.qa0.Source.C.re g_.qa0.Source.C.im),.d (.sl false (g_.qa0.qa7.map qac)),.d (.sl false (g_.Ties.map qam))],.box [.d (.int .u64 v261)],.box [.d (.int .i64 x284.qaw),.d (.cx .f32 x284.Own.re x284.Own.im),.d (.cx .f32 x284.Shared.re x284.Shared.im),.d (.int .i64 x284.Kind),.d (.cx .f32 x284.Load.A.re x284.Load.A.im),.d (.cx .f32 x284.Load.B.re x284.Load.B.im),.d (.cx .f32 x284.Load.C.re x284.Load.C.im),.d (.int .i64 x284.qag)]]) rfl (by simp) rfl (by trivial) ⟨rfl,trivial,rfl,trivial,rfl,trivial,rfl,trivial,rfl,(by trivial),rfl,trivial,rfl,trivial,rfl,trivial,rfl,trivial,rfl,trivial,rfl,trivial,rfl,trivial,rfl,trivial,rfl,trivial,trivial⟩) ?_
          refine qa1 hτ rfl rfl rfl<|qa5 ?_
          refine qaa (qa3 [0,1,2] (l:=[(0,.ptr 0 0),(1,.d (.int .i64 bus_)),(2,.d (.sl false (ties_.map qa6))),(9,.ptr 1 0),(10,.func 53 [] [.ptr 1 0]),(11,.d (.int .i64 v262)),(12,.ptr 2 0),(23,.d (.int .i64 (g_.qa0.qa7.length:Int))),(24,.d (.int .i64 v154)),(30,.d (.sl false (g_.qa0.qa7.map qac))),(31,.d (.int .i64 (g_.qa0.qa7.length:Int))),(32,.d (.int .i64 v262)),(49,.d (.bool (!(decide (x284.qaw = bus_)))))]) (objs:=[.box [.d (.cx .f32 g_.qa0.Source.A.re g_.qa0.Source.A.im),.d (.cx .f32 g_.qa0.Source.B.re g_.qa0.Source.B.im),.d (.cx .f32 g_.qa0.Source.C.re g_.qa0.Source.C.im),.d (.sl false (g_.qa0.qa7.map qac)),.d (.sl false (g_.Ties.map qam))],.box [.d (.int .u64 v261)],.box [.d (.int .i64 x284.qaw),.d (.cx .f32 x284.Own.re x284.Own.im),.d (.cx .f32 x284.Shared.re x284.Shared.im),.d (.int .i64 x284.Kind),.d (.cx .f32 x284.Load.A.re x284.Load.A.im),.d (.cx .f32 x284.Load.B.re x284.Load.B.im),.d (.cx .f32 x284.Load.C.re x284.Load.C.im),.d (.int .i64 x284.qag)]]) rfl (by simp) rfl (by trivial) ⟨rfl,trivial,rfl,trivial,rfl,trivial,rfl,trivial,rfl,(by trivial),rfl,trivial,rfl,trivial,rfl,trivial,rfl,trivial,rfl,trivial,rfl,trivial,rfl,trivial,rfl,trivial,trivial⟩) ?_
          exact hk292 (!(decide (x284.qaw = bus_))) h
         ·have hb294:=qje hb294
          have h:=if_t h hb294
          refine qab rfl rfl<|qab rfl rfl<|qab rfl rfl<|qab rfl rfl ?_
          refine qb3 (qa3 [0,1,2] (l:=[(0,.ptr 0 0),(1,.d (.int .i64 bus_)),(2,.d (.sl false (ties_.map qa6))),(9,.ptr 1 0),(10,.func 53 [] [.ptr 1 0]),(11,.d (.int .i64 v262)),(12,.ptr 2 0),(23,.d (.int .i64 (g_.qa0.qa7.length:Int))),(24,.d (.int .i64 v154)),(30,.d (.sl false (g_.qa0.qa7.map qac))),(31,.d (.int .i64 (g_.qa0.qa7.length:Int))),(32,.d (.int .i64 v262)),(44,.d (.bool false)),(48,.und)]) (objs:=[.box [.d (.cx .f32 g_.qa0.Source.A.re g_.qa0.Source.A.im),.d (.cx .f32 g_.qa0.Source.B.re g_.qa0.Source.B.im),.d (.cx .f32 g_.qa0.Source.C.re g_.qa0.Source.C.im),.d (.sl false (g_.qa0.qa7.map qac)),.d (.sl false (g_.Ties.map qam))],.box [.d (.int .u64 v261)],.box [.d (.int .i64 x284.qaw),.d (.cx .f32 x284.Own.re x284.Own.im),.d (.cx .f32 x284.Shared.re x284.Shared.im),.d (.int .i64 x284.Kind),.d (.cx .f32 x284.Load.A.re x284.Load.A.im),.d (.cx .f32 x284.Load.B.re x284.Load.B.im),.d (.cx .f32 x284.Load.C.re x284.Load.C.im),.d (.int .i64 x284.qag)]]) rfl (by simp) rfl (by trivial) ⟨rfl,trivial,rfl,trivial,rfl,trivial,rfl,trivial,rfl,(by trivial),rfl,trivial,rfl,trivial,rfl,trivial,rfl,trivial,rfl,trivial,rfl,trivial,rfl,trivial,rfl,trivial,rfl,trivial,trivial⟩) ?_
          refine qa1 hτ rfl rfl rfl<|qa5 ?_
          refine qaa (qa3 [0,1,2] (l:=[(0,.ptr 0 0),(1,.d (.int .i64 bus_)),(2,.d (.sl false (ties_.map qa6))),(9,.ptr 1 0),(10,.func 53 [] [.ptr 1 0]),(11,.d (.int .i64 v262)),(12,.ptr 2 0),(23,.d (.int .i64 (g_.qa0.qa7.length:Int))),(24,.d (.int .i64 v154)),(30,.d (.sl false (g_.qa0.qa7.map qac))),(31,.d (.int .i64 (g_.qa0.qa7.length:Int))),(32,.d (.int .i64 v262)),(49,.d (.bool false))]) (objs:=[.box [.d (.cx .f32 g_.qa0.Source.A.re g_.qa0.Source.A.im),.d (.cx .f32 g_.qa0.Source.B.re g_.qa0.Source.B.im),.d (.cx .f32 g_.qa0.Source.C.re g_.qa0.Source.C.im),.d (.sl false (g_.qa0.qa7.map qac)),.d (.sl false (g_.Ties.map qam))],.box [.d (.int .u64 v261)],.box [.d (.int .i64 x284.qaw),.d (.cx .f32 x284.Own.re x284.Own.im),.d (.cx .f32 x284.Shared.re x284.Shared.im),.d (.int .i64 x284.Kind),.d (.cx .f32 x284.Load.A.re x284.Load.A.im),.d (.cx .f32 x284.Load.B.re x284.Load.B.im),.d (.cx .f32 x284.Load.C.re x284.Load.C.im),.d (.int .i64 x284.qag)]]) rfl (by simp) rfl (by trivial) ⟨rfl,trivial,rfl,trivial,rfl,trivial,rfl,trivial,rfl,(by trivial),rfl,trivial,rfl,trivial,rfl,trivial,rfl,trivial,rfl,trivial,rfl,trivial,rfl,trivial,rfl,trivial,trivial⟩) ?_
          exact hk292 false h
        ·have h:=if_f h hb293
         refine qab rfl rfl<|qab rfl rfl<|qab rfl rfl<|qa1 hτ rfl rfl rfl<|qa1 hτ rfl rfl rfl ?_
         refine qab rfl rfl<|qab rfl rfl<|qab rfl rfl<|qab rfl rfl ?_
         refine qb3 (qa3 [0,1,2] (l:=[(0,.ptr 0 0),(1,.d (.int .i64 bus_)),(2,.d (.sl false (ties_.map qa6))),(9,.ptr 1 0),(10,.func 53 [] [.ptr 1 0]),(11,.d (.int .i64 v262)),(12,.ptr 2 0),(23,.d (.int .i64 (g_.qa0.qa7.length:Int))),(24,.d (.int .i64 v154)),(30,.d (.sl false (g_.qa0.qa7.map qac))),(31,.d (.int .i64 (g_.qa0.qa7.length:Int))),(32,.d (.int .i64 v262)),(44,.d (.bool false)),(48,.und)]) (objs:=[.box [.d (.cx .f32 g_.qa0.Source.A.re g_.qa0.Source.A.im),.d (.cx .f32 g_.qa0.Source.B.re g_.qa0.Source.B.im),.d (.cx .f32 g_.qa0.Source.C.re g_.qa0.Source.C.im),.d (.sl false (g_.qa0.qa7.map qac)),.d (.sl false (g_.Ties.map qam))],.box [.d (.int .u64 v261)],.box [.d (.int .i64 x284.qaw),.d (.cx .f32 x284.Own.re x284.Own.im),.d (.cx .f32 x284.Shared.re x284.Shared.im),.d (.int .i64 x284.Kind),.d (.cx .f32 x284.Load.A.re x284.Load.A.im),.d (.cx .f32 x284.Load.B.re x284.Load.B.im),.d (.cx .f32 x284.Load.C.re x284.Load.C.im),.d (.int .i64 x284.qag)]]) rfl (by simp) rfl (by trivial) ⟨rfl,trivial,rfl,trivial,rfl,trivial,rfl,trivial,rfl,(by trivial),rfl,trivial,rfl,trivial,rfl,trivial,rfl,trivial,rfl,trivial,rfl,trivial,rfl,trivial,rfl,trivial,rfl,trivial,trivial⟩) ?_
         refine qa1 hτ rfl rfl rfl<|qa5 ?_
         refine qaa (qa3 [0,1,2] (l:=[(0,.ptr 0 0),(1,.d (.int .i64 bus_)),(2,.d (.sl false (ties_.map qa6))),(9,.ptr 1 0),(10,.func 53 [] [.ptr 1 0]),(11,.d (.int .i64 v262)),(12,.ptr 2 0),(23,.d (.int .i64 (g_.qa0.qa7.length:Int))),(24,.d (.int .i64 v154)),(30,.d (.sl false (g_.qa0.qa7.map qac))),(31,.d (.int .i64 (g_.qa0.qa7.length:Int))),(32,.d (.int .i64 v262)),(49,.d (.bool false))]) (objs:=[.box [.d (.cx .f32 g_.qa0.Source.A.re g_.qa0.Source.A.im),.d (.cx .f32 g_.qa0.Source.B.re g_.qa0.Source.B.im),.d (.cx .f32 g_.qa0.Source.C.re g_.qa0.Source.C.im),.d (.sl false (g_.qa0.qa7.map qac)),.d (.sl false (g_.Ties.map qam))],.box [.d (.int .u64 v261)],.box [.d (.int .i64 x284.qaw),.d (.cx .f32 x284.Own.re x284.Own.im),.d (.cx .f32 x284.Shared.re x284.Shared.im),.d (.int .i64 x284.Kind),.d (.cx .f32 x284.Load.A.re x284.Load.A.im),.d (.cx .f32 x284.Load.B.re x284.Load.B.im),.d (.cx .f32 x284.Load.C.re x284.Load.C.im),.d (.int .i64 x284.qag)]]) rfl (by simp) rfl (by trivial) ⟨rfl,trivial,rfl,trivial,rfl,trivial,rfl,trivial,rfl,(by trivial),rfl,trivial,rfl,trivial,rfl,trivial,rfl,trivial,rfl,trivial,rfl,trivial,rfl,trivial,rfl,trivial,trivial⟩) ?_
         exact hk292 false h
     ·have h:=if_f h hc274
      refine qd3 ?_
      refine qaa (qa3 [0,1] (l:=[(0,.ptr 0 0),(1,.d (.int .i64 bus_)),(2,.d (.sl false (ties_.map qa6))),(9,.ptr 1 0),(10,.func 53 [] [.ptr 1 0]),(23,.d (.int .i64 (g_.qa0.qa7.length:Int))),(24,.d (.int .i64 v154))]) (objs:=[.box [.d (.cx .f32 g_.qa0.Source.A.re g_.qa0.Source.A.im),.d (.cx .f32 g_.qa0.Source.B.re g_.qa0.Source.B.im),.d (.cx .f32 g_.qa0.Source.C.re g_.qa0.Source.C.im),.d (.sl false (g_.qa0.qa7.map qac)),.d (.sl false (g_.Ties.map qam))],.box [.d (.int .u64 v261)]]) rfl (by simp) rfl (by trivial) ⟨rfl,trivial,rfl,trivial,rfl,trivial,rfl,trivial,rfl,(by trivial),rfl,trivial,rfl,trivial,trivial⟩) ?_
      exact hk253 v261 h
  ·have h:=if_f h hc187
   refine qd3 ?_
   refine qaa (qa3 [0,1] (l:=[(9,.ptr 1 0)]) (objs:=[.box [.d (.cx .f32 g_.qa0.Source.A.re g_.qa0.Source.A.im),.d (.cx .f32 g_.qa0.Source.B.re g_.qa0.Source.B.im),.d (.cx .f32 g_.qa0.Source.C.re g_.qa0.Source.C.im),.d (.sl false (g_.qa0.qa7.map qac)),.d (.sl false (g_.Ties.map qam))],.box [.d (.int .u64 v153)]]) rfl (by simp) rfl (by trivial) ⟨rfl,trivial,trivial⟩) ?_
   exact hk124 v153 h
def qk3 (n:Nat) (x:Int):Option Int:=tz64 x
theorem bits_TrailingZeros64_ok (n:Nat) (x:Int) {r:Int} (h:qk3 n x = some r):qb1 prog false 68 [.d (.int .u64 x)] [] (fun v o new=>v = .d (.int .i64 r)∧o = []∧new = []):=acall_quiet (tz64_does h)
def qhk (n:Nat) (x_:Int):Option Int :=
 (qk3 n x_).bind fun x2 =>
 some x2
theorem bits_TrailingZeros_ok_fr0 (fr:Bool) (n:Nat) (x_:Int) {r:Int} (h:qhk n x_ = some r):qb1 prog fr 48 [.d (.int .u64 x_)] [] (fun v o new=>v = .d (.int .i64 r)∧o = []∧new = []):=by
 refine qak hτ func48 rfl (by simp) (by simp) ?_
 unfold qhk at h
 refine qa8<|qa2<|qa1 hτ rfl rfl rfl<|qa5<|qa8 ?_
 refine qaq (b:=false) rfl (fun hd=>nomatch hd) (fun _=>?_)
 refine qat<|qa8<|qa2<|qa1 hτ rfl rfl rfl ?_
 refine qaf h fun x2 hx2 h=>?_
 refine qae hτ false [] rfl rfl rfl (qaj func68 rfl rfl) rfl rfl (by simp) ⟨trivial,trivial⟩ (by trivial) (bits_TrailingZeros64_ok n x_ hx2) ?_
 rintro r0 o0 n0 ⟨rfl,rfl,rfl⟩ -
 refine qa1 hτ rfl rfl rfl<|qa5 ?_
 refine qaa (qa3 [] (l:=[(2,.d (.int .i64 x2))]) (objs:=[]) rfl (by simp) rfl (by trivial) ⟨rfl,trivial,trivial⟩) ?_
 refine qap ?_
 have hr:=Option.some.inj h
 subst hr
 exact qah (.inr rfl) [] (objs':=[]) (new:=[]) rfl (by simp) (by simp) rfl (by trivial) rfl rfl (by trivial) (fun _=>⟨by simp [V.flat,V.qbg,V.qbb,D.flat],qan⟩) ⟨rfl,rfl,rfl⟩
theorem bits_TrailingZeros_ok (n:Nat) (x_:Int) {r:Int} (h:qhk n x_ = some r):qb1 prog false 48 [.d (.int .u64 x_)] [] (fun v o new=>v = .d (.int .i64 r)∧o = []∧new = []):=bits_TrailingZeros_ok_fr0 false n x_ h
def qgv (n:Nat):Nat→Int→List Int→Option (List Int)
 | 0,_,_=>none
 | m17 + 1,v11,v12 =>
  if v11 = (0:Int) then
   some v12
  else
   (qhk n v11).bind fun x20 =>
   grd (room (v12.length + 1) 8) <|
   (qgv n m17) (qcu .and .u64 v11 (IntKind.wrap .u64 (v11 - (1:Int)))) (v12 ++ [x20])
def qg9 (n:Nat) (set_:Int):Option (List Int) :=
 qgv n n set_ ([]:List Int)
theorem impl_listed_ok_fr0 (fr:Bool) (n:Nat) (set_:Int) {r:List Int} (h:qg9 n set_ = some r):qb1 prog fr 25 [.d (.int .u64 set_)] [] (fun v o new=>v = .row 0 r.length 0 r.length∧o = []∧new = [.row 1 (r.map qa6)]):=by
 refine qak hτ func25 rfl (by simp) (by simp) ?_
 unfold qg9 at h
 refine qa8<|qa2<|qa1 hτ rfl rfl rfl<|qa5<|qa8 ?_
 refine qa2<|qal hτ rfl rfl rfl<|qa1 hτ rfl rfl rfl<|qa5<|qa8 ?_
 refine qay ?_
 refine qde (ι:=Nat × Int × List Int) (fun (m17,v11,v12)=>St.of [(0,.d (.int .u64 v11)),(3,.row 0 v12.length 0 v12.length)] [.row 1 (v12.map qa6)] f25.ntmps 0) (fun (m17,v11,v12)=>qgv n m17 v11 v12 = some r) (fun x=>x.1) (n,set_,([]:List Int)) h (qa3 [0] (l:=[(0,.d (.int .u64 set_)),(3,.row 0 (([]:List Int).length) 0 (([]:List Int).length))]) (objs:=[.row 1 (([]:List Int).map qa6)]) rfl (by simp) rfl (by trivial) ⟨rfl,trivial,rfl,trivial,trivial⟩) ?_
 rintro ⟨m17,v11,v12⟩ h
 replace h:qgv n m17 v11 v12 = some r:=h
 rcases m17 with _ | m17
 ·rw [qgv] at h;cases h
 rw [qgv] at h
 refine qa8<|qa8<|qa2<|qa1 hτ rfl rfl rfl ?_
 refine qa1 hτ (v:=.d (.bool (!(decide (v11 = (0:Int)))))) rfl rfl (qlw _ _) ?_
 refine qa5 ?_
 refine qaq rfl (fun hc19=>?_) (fun hc19=>?_)
 ·have hc19:=qjf hc19
  have h:=if_f h hc19
  refine qat<|qa8<|qay<|qa2<|qa1 hτ rfl rfl rfl ?_
  refine qa1 hτ rfl rfl rfl ?_
  refine qaf h fun x20 hx20 h=>?_
  refine qae hτ false [] rfl rfl rfl (qaj func48 rfl rfl) rfl rfl (by simp) ⟨trivial,trivial⟩ (by trivial) (bits_TrailingZeros_ok n v11 hx20) ?_
  rintro r0 o0 n0 ⟨rfl,rfl,rfl⟩ -
  refine qal hτ rfl rfl rfl ?_
  refine qci h fun hg21 h=>?_
  refine qi7 hτ rfl rfl (Eq.trans rfl (or_append (f:=qa6) v12 [x20] rfl)) ⟨⟨rfl,Nat.le_of_ble_eq_true rfl⟩,qb4 _,rfl,rfl,hg21,by decide,(all1 rfl)⟩ ?_
  refine qa1 hτ rfl rfl rfl<|qa5 ?_
  refine qaa (qa3 [0] (l:=[(0,.d (.int .u64 v11)),(3,.row 0 ((v12 ++ [x20]).length) 0 ((v12 ++ [x20]).length))]) (objs:=[.row 1 ((v12 ++ [x20]).map qa6)]) rfl (by simp) rfl (by trivial) ⟨rfl,trivial,rfl,trivial,trivial⟩) ?_
  refine qa2<|qa1 hτ rfl rfl rfl<|qa1 hτ rfl rfl rfl<|qa1 hτ rfl rfl rfl<|qa1 hτ rfl rfl rfl ?_
  refine qa1 hτ rfl rfl rfl<|qa5 ?_
  exact ⟨(m17,(qcu .and .u64 v11 (IntKind.wrap .u64 (v11 - (1:Int)))),(v12 ++ [x20])),h,Nat.lt_succ_self m17,(qa3 [0] (l:=[(0,.d (.int .u64 (qcu .and .u64 v11 (IntKind.wrap .u64 (v11 - (1:Int)))))),(3,.row 0 ((v12 ++ [x20]).length) 0 ((v12 ++ [x20]).length))]) (objs:=[.row 1 ((v12 ++ [x20]).map qa6)]) rfl (by simp) rfl (by trivial) ⟨rfl,trivial,rfl,trivial,trivial⟩)⟩
 ·have hc19:=qje hc19
  have h:=if_t h hc19
  refine qd3<|qa8<|qa2<|qa1 hτ rfl rfl rfl<|qa1 hτ rfl rfl rfl ?_
  refine qa5 ?_
  refine qaa (qa3 [0] (l:=[(2,.row 0 v12.length 0 v12.length)]) (objs:=[.row 1 (v12.map qa6)]) rfl (by simp) rfl (by trivial) ⟨rfl,trivial,trivial⟩) ?_
  refine qap ?_
  have hr:=Option.some.inj h
  subst hr
  exact qah (.inr rfl) [0] (objs':=[]) (new:=[.row 1 (v12.map qa6)]) rfl (by simp) (by simp) rfl (by trivial) rfl rfl (by trivial) (fun _=>⟨by simp [V.flat,V.qbg,V.qbb,D.flat],(qc8 (qgt qff _) qan)⟩) ⟨rfl,rfl,rfl⟩
theorem qki (n:Nat) (set_:Int) {r:List Int} (h:qg9 n set_ = some r):qb1 prog false 25 [.d (.int .u64 set_)] [] (fun v o new=>v = .row 0 r.length 0 r.length∧o = []∧new = [.row 1 (r.map qa6)]):=impl_listed_ok_fr0 false n set_ h
def qcd (n:Nat) (f_:qbk) (buses_:List Int):Nat→Int→Int→Option Int
 | 0,_,_=>none
 | m17 + 1,v11,v12 =>
  if v12 < (buses_.length:Int) then
   (getI buses_ v12).bind fun x20 =>
   (getI f_.qa0.qa7 x20).bind fun x21 =>
   (qcd n f_ buses_ m17) (w64 (v11 + x21.qag)) (w64 (v12 + (1:Int)))
  else
   some v11
def qg8 (n:Nat) (f_:qbk) (buses_:List Int):Option Int :=
 qcd n f_ buses_ n (0:Int) (0:Int)
theorem impl_Feeder_customers_ok (n:Nat) (f_:qbk) (buses_:List Int) {r:Int} (h:qg8 n f_ buses_ = some r):qb1 prog false 43 [.ptr 0 0,.d (.sl false (buses_.map qa6))] [.box [.d (.cx .f32 f_.qa0.Source.A.re f_.qa0.Source.A.im),.d (.cx .f32 f_.qa0.Source.B.re f_.qa0.Source.B.im),.d (.cx .f32 f_.qa0.Source.C.re f_.qa0.Source.C.im),.d (.sl false (f_.qa0.qa7.map qac)),.d (.sl false (f_.Ties.map qam))]] (fun v o new=>v = .d (.int .i64 r)∧o = [.box [.d (.cx .f32 f_.qa0.Source.A.re f_.qa0.Source.A.im),.d (.cx .f32 f_.qa0.Source.B.re f_.qa0.Source.B.im),.d (.cx .f32 f_.qa0.Source.C.re f_.qa0.Source.C.im),.d (.sl false (f_.qa0.qa7.map qac)),.d (.sl false (f_.Ties.map qam))]]∧new = []):=by
 refine qak hτ func43 rfl (by simp) (by simp) ?_
 unfold qg8 at h
 refine qa8<|qa2<|qa1 hτ rfl rfl rfl<|qa5<|qa8 ?_
 refine qa2<|qa1 hτ rfl rfl rfl<|qa5<|qa8<|qa8 ?_
 refine qa2<|qa1 hτ rfl rfl rfl ?_
 refine qa1 hτ (v:=.d (.int .i64 (buses_.length:Int))) rfl rfl (Eq.trans rfl (qei (f:=qa6) buses_)) ?_
 refine qa1 hτ rfl rfl rfl<|qa5<|qay ?_
 refine qde (ι:=Nat × Int × Int) (fun (m17,v11,v12)=>St.of [(0,.ptr 0 0),(5,.d (.int .i64 v11)),(8,.d (.sl false (buses_.map qa6))),(9,.d (.int .i64 (buses_.length:Int))),(10,.d (.int .i64 v12))] [.box [.d (.cx .f32 f_.qa0.Source.A.re f_.qa0.Source.A.im),.d (.cx .f32 f_.qa0.Source.B.re f_.qa0.Source.B.im),.d (.cx .f32 f_.qa0.Source.C.re f_.qa0.Source.C.im),.d (.sl false (f_.qa0.qa7.map qac)),.d (.sl false (f_.Ties.map qam))]] f43.ntmps 1) (fun (m17,v11,v12)=>qcd n f_ buses_ m17 v11 v12 = some r) (fun x=>x.1) (n,(0:Int),(0:Int)) h (qa3 [0] (l:=[(0,.ptr 0 0),(5,.d (.int .i64 (0:Int))),(8,.d (.sl false (buses_.map qa6))),(9,.d (.int .i64 (buses_.length:Int))),(10,.d (.int .i64 (0:Int)))]) (objs:=[.box [.d (.cx .f32 f_.qa0.Source.A.re f_.qa0.Source.A.im),.d (.cx .f32 f_.qa0.Source.B.re f_.qa0.Source.B.im),.d (.cx .f32 f_.qa0.Source.C.re f_.qa0.Source.C.im),.d (.sl false (f_.qa0.qa7.map qac)),.d (.sl false (f_.Ties.map qam))]]) rfl (by simp) rfl (by trivial) ⟨rfl,trivial,rfl,trivial,rfl,trivial,rfl,trivial,rfl,trivial,trivial⟩) ?_
 rintro ⟨m17,v11,v12⟩ h
 replace h:qcd n f_ buses_ m17 v11 v12 = some r:=h
 rcases m17 with _ | m17
 ·rw [qcd] at h;cases h
 rw [qcd] at h
 refine qa8<|qa2<|qa1 hτ rfl rfl rfl<|qa5<|qa8 ?_
 refine qaq rfl (fun hc19=>?_) (fun hc19=>?_)
 ·have h:=if_t h hc19
  refine qat<|qa8<|qay<|qa8<|qa2 ?_
  refine qaf h fun x20 hx20 h=>?_
  refine qce hτ rfl rfl rfl (qb8 hx20).1 (qbm hx20) rfl ?_
  refine qa1 hτ rfl rfl rfl<|qa1 hτ rfl rfl rfl<|qa5<|qa2<|qa1 hτ rfl rfl rfl ?_
  refine qa1 hτ rfl rfl rfl<|qa1 hτ rfl rfl rfl<|qa1 hτ rfl rfl rfl<|qa1 hτ rfl rfl rfl<|qa1 hτ rfl rfl rfl ?_
  refine qaf h fun x21 hx21 h=>?_
  refine qce hτ rfl rfl rfl (qb8 hx21).1 (qbm hx21) rfl ?_
  refine qa1 hτ rfl rfl rfl ?_
  refine qb3 (qa3 [0] (l:=[(0,.ptr 0 0),(8,.d (.sl false (buses_.map qa6))),(9,.d (.int .i64 (buses_.length:Int))),(10,.d (.int .i64 v12)),(14,.d (.int .i64 v11)),(21,.rop [.int .i64 x21.qaw,.cx .f32 x21.Own.re x21.Own.im,.cx .f32 x21.Shared.re x21.Shared.im,.int .i64 x21.Kind,.cx .f32 x21.Load.A.re x21.Load.A.im,.cx .f32 x21.Load.B.re x21.Load.B.im,.cx .f32 x21.Load.C.re x21.Load.C.im,.int .i64 x21.qag] 7)]) (objs:=[.box [.d (.cx .f32 f_.qa0.Source.A.re f_.qa0.Source.A.im),.d (.cx .f32 f_.qa0.Source.B.re f_.qa0.Source.B.im),.d (.cx .f32 f_.qa0.Source.C.re f_.qa0.Source.C.im),.d (.sl false (f_.qa0.qa7.map qac)),.d (.sl false (f_.Ties.map qam))]]) rfl (by simp) rfl (by trivial) ⟨rfl,trivial,rfl,trivial,rfl,trivial,rfl,trivial,rfl,trivial,rfl,trivial,trivial⟩) ?_
  refine qa1 hτ rfl rfl rfl<|qa1 hτ rfl rfl rfl<|qa1 hτ rfl rfl rfl<|qa5<|qa2 ?_
  refine qa1 hτ rfl rfl rfl<|qa1 hτ rfl rfl rfl<|qa5 ?_
  exact ⟨(m17,(w64 (v11 + x21.qag)),(w64 (v12 + (1:Int)))),h,Nat.lt_succ_self m17,(qa3 [0] (l:=[(0,.ptr 0 0),(5,.d (.int .i64 (w64 (v11 + x21.qag)))),(8,.d (.sl false (buses_.map qa6))),(9,.d (.int .i64 (buses_.length:Int))),(10,.d (.int .i64 (w64 (v12 + (1:Int)))))]) (objs:=[.box [.d (.cx .f32 f_.qa0.Source.A.re f_.qa0.Source.A.im),.d (.cx .f32 f_.qa0.Source.B.re f_.qa0.Source.B.im),.d (.cx .f32 f_.qa0.Source.C.re f_.qa0.Source.C.im),.d (.sl false (f_.qa0.qa7.map qac)),.d (.sl false (f_.Ties.map qam))]]) rfl (by simp) rfl (by trivial) ⟨rfl,trivial,rfl,trivial,rfl,trivial,rfl,trivial,rfl,trivial,trivial⟩)⟩
 ·have h:=if_f h hc19
  refine qd3<|qa8<|qa2<|qa1 hτ rfl rfl rfl<|qa1 hτ rfl rfl rfl ?_
  refine qa5 ?_
  refine qaa (qa3 [0] (l:=[(4,.d (.int .i64 v11))]) (objs:=[.box [.d (.cx .f32 f_.qa0.Source.A.re f_.qa0.Source.A.im),.d (.cx .f32 f_.qa0.Source.B.re f_.qa0.Source.B.im),.d (.cx .f32 f_.qa0.Source.C.re f_.qa0.Source.C.im),.d (.sl false (f_.qa0.qa7.map qac)),.d (.sl false (f_.Ties.map qam))]]) rfl (by simp) rfl (by trivial) ⟨rfl,trivial,trivial⟩) ?_
  refine qap ?_
  have hr:=Option.some.inj h
  subst hr
  exact qah (.inr rfl) [] (objs':=[.box [.d (.cx .f32 f_.qa0.Source.A.re f_.qa0.Source.A.im),.d (.cx .f32 f_.qa0.Source.B.re f_.qa0.Source.B.im),.d (.cx .f32 f_.qa0.Source.C.re f_.qa0.Source.C.im),.d (.sl false (f_.qa0.qa7.map qac)),.d (.sl false (f_.Ties.map qam))]]) (new:=[]) rfl (by simp) (by simp) rfl (by trivial) rfl rfl (by trivial) (fun h=>nomatch h) ⟨rfl,rfl,rfl⟩
def qbz (n:Nat) (f_:qbk) (buses_:List Int):Nat→Int→Int→Option Int
 | 0,_,_=>none
 | m17 + 1,v11,v12 =>
  if v12 < (buses_.length:Int) then
   (getI buses_ v12).bind fun x20 =>
   (getI f_.qa0.qa7 x20).bind fun x21 =>
   (qbz n f_ buses_ m17) (w64 (v11 + x21.qag)) (w64 (v12 + (1:Int)))
  else
   some v11
def qdz (n:Nat) (f_:qbk) (buses_:List Int):Option Int :=
 qbz n f_ buses_ n (0:Int) (0:Int)
theorem qjd (n:Nat) (f_:qbk) (buses_:List Int) {r:Int} (h:qdz n f_ buses_ = some r):qb1 prog false 43 [.ptr 0 0,.row 1 buses_.length 0 buses_.length] [.box [.d (.cx .f32 f_.qa0.Source.A.re f_.qa0.Source.A.im),.d (.cx .f32 f_.qa0.Source.B.re f_.qa0.Source.B.im),.d (.cx .f32 f_.qa0.Source.C.re f_.qa0.Source.C.im),.d (.sl false (f_.qa0.qa7.map qac)),.d (.sl false (f_.Ties.map qam))],.row 1 (buses_.map qa6)] (fun v o new=>v = .d (.int .i64 r)∧o = [.box [.d (.cx .f32 f_.qa0.Source.A.re f_.qa0.Source.A.im),.d (.cx .f32 f_.qa0.Source.B.re f_.qa0.Source.B.im),.d (.cx .f32 f_.qa0.Source.C.re f_.qa0.Source.C.im),.d (.sl false (f_.qa0.qa7.map qac)),.d (.sl false (f_.Ties.map qam))],.row 1 (buses_.map qa6)]∧new = []):=by
 refine qak hτ func43 rfl (by simp) (by simp) ?_
 unfold qdz at h
 refine qa8<|qa2<|qa1 hτ rfl rfl rfl<|qa5<|qa8 ?_
 refine qa2<|qa1 hτ rfl rfl rfl<|qa5<|qa8<|qa8 ?_
 refine qa2<|qa1 hτ rfl rfl rfl ?_
 refine qcg hτ rfl rfl rfl (qb4 _) ?_
 refine qa1 hτ rfl rfl rfl<|qa5<|qay ?_
 refine qde (ι:=Nat × Int × Int) (fun (m17,v11,v12)=>St.of [(0,.ptr 0 0),(5,.d (.int .i64 v11)),(8,.row 1 buses_.length 0 buses_.length),(9,.d (.int .i64 (buses_.length:Int))),(10,.d (.int .i64 v12))] [.box [.d (.cx .f32 f_.qa0.Source.A.re f_.qa0.Source.A.im),.d (.cx .f32 f_.qa0.Source.B.re f_.qa0.Source.B.im),.d (.cx .f32 f_.qa0.Source.C.re f_.qa0.Source.C.im),.d (.sl false (f_.qa0.qa7.map qac)),.d (.sl false (f_.Ties.map qam))],.row 1 (buses_.map qa6)] f43.ntmps 2) (fun (m17,v11,v12)=>qbz n f_ buses_ m17 v11 v12 = some r) (fun x=>x.1) (n,(0:Int),(0:Int)) h (qa3 [0,1] (l:=[(0,.ptr 0 0),(5,.d (.int .i64 (0:Int))),(8,.row 1 buses_.length 0 buses_.length),(9,.d (.int .i64 (buses_.length:Int))),(10,.d (.int .i64 (0:Int)))]) (objs:=[.box [.d (.cx .f32 f_.qa0.Source.A.re f_.qa0.Source.A.im),.d (.cx .f32 f_.qa0.Source.B.re f_.qa0.Source.B.im),.d (.cx .f32 f_.qa0.Source.C.re f_.qa0.Source.C.im),.d (.sl false (f_.qa0.qa7.map qac)),.d (.sl false (f_.Ties.map qam))],.row 1 (buses_.map qa6)]) rfl (by simp) rfl (by trivial) ⟨rfl,trivial,rfl,trivial,rfl,trivial,rfl,trivial,rfl,trivial,trivial⟩) ?_
 rintro ⟨m17,v11,v12⟩ h
 replace h:qbz n f_ buses_ m17 v11 v12 = some r:=h
 rcases m17 with _ | m17
 ·rw [qbz] at h;cases h
 rw [qbz] at h
 refine qa8<|qa2<|qa1 hτ rfl rfl rfl<|qa5<|qa8 ?_
 refine qaq rfl (fun hc19=>?_) (fun hc19=>?_)
 ·have h:=if_t h hc19
  refine qat<|qa8<|qay<|qa8<|qa2 ?_
  refine qaf h fun x20 hx20 h=>?_
  refine qcg hτ rfl rfl rfl (qcy hx20) ?_
  refine qce hτ rfl rfl rfl (qb4 _) (qds hx20) rfl ?_
  refine qa1 hτ rfl rfl rfl<|qa5<|qa2<|qa1 hτ rfl rfl rfl<|qa1 hτ rfl rfl rfl ?_
  refine qa1 hτ rfl rfl rfl<|qa1 hτ rfl rfl rfl<|qa1 hτ rfl rfl rfl<|qa1 hτ rfl rfl rfl ?_
  refine qaf h fun x21 hx21 h=>?_
  refine qce hτ rfl rfl rfl (qb8 hx21).1 (qbm hx21) rfl ?_
  refine qa1 hτ rfl rfl rfl ?_
  refine qb3 (qa3 [0,1] (l:=[(0,.ptr 0 0),(8,.row 1 buses_.length 0 buses_.length),(9,.d (.int .i64 (buses_.length:Int))),(10,.d (.int .i64 v12)),(14,.d (.int .i64 v11)),(21,.rop [.int .i64 x21.qaw,.cx .f32 x21.Own.re x21.Own.im,.cx .f32 x21.Shared.re x21.Shared.im,.int .i64 x21.Kind,.cx .f32 x21.Load.A.re x21.Load.A.im,.cx .f32 x21.Load.B.re x21.Load.B.im,.cx .f32 x21.Load.C.re x21.Load.C.im,.int .i64 x21.qag] 7)]) (objs:=[.box [.d (.cx .f32 f_.qa0.Source.A.re f_.qa0.Source.A.im),.d (.cx .f32 f_.qa0.Source.B.re f_.qa0.Source.B.im),.d (.cx .f32 f_.qa0.Source.C.re f_.qa0.Source.C.im),.d (.sl false (f_.qa0.qa7.map qac)),.d (.sl false (f_.Ties.map qam))],.row 1 (buses_.map qa6)]) rfl (by simp) rfl (by trivial) ⟨rfl,trivial,rfl,trivial,rfl,trivial,rfl,trivial,rfl,trivial,rfl,trivial,trivial⟩) ?_
  refine qa1 hτ rfl rfl rfl<|qa1 hτ rfl rfl rfl<|qa1 hτ rfl rfl rfl<|qa5<|qa2 ?_
  refine qa1 hτ rfl rfl rfl<|qa1 hτ rfl rfl rfl<|qa5 ?_
  exact ⟨(m17,(w64 (v11 + x21.qag)),(w64 (v12 + (1:Int)))),h,Nat.lt_succ_self m17,(qa3 [0,1] (l:=[(0,.ptr 0 0),(5,.d (.int .i64 (w64 (v11 + x21.qag)))),(8,.row 1 buses_.length 0 buses_.length),(9,.d (.int .i64 (buses_.length:Int))),(10,.d (.int .i64 (w64 (v12 + (1:Int)))))]) (objs:=[.box [.d (.cx .f32 f_.qa0.Source.A.re f_.qa0.Source.A.im),.d (.cx .f32 f_.qa0.Source.B.re f_.qa0.Source.B.im),.d (.cx .f32 f_.qa0.Source.C.re f_.qa0.Source.C.im),.d (.sl false (f_.qa0.qa7.map qac)),.d (.sl false (f_.Ties.map qam))],.row 1 (buses_.map qa6)]) rfl (by simp) rfl (by trivial) ⟨rfl,trivial,rfl,trivial,rfl,trivial,rfl,trivial,rfl,trivial,trivial⟩)⟩
 ·have h:=if_f h hc19
  refine qd3<|qa8<|qa2<|qa1 hτ rfl rfl rfl<|qa1 hτ rfl rfl rfl ?_
  refine qa5 ?_
  refine qaa (qa3 [0,1] (l:=[(4,.d (.int .i64 v11))]) (objs:=[.box [.d (.cx .f32 f_.qa0.Source.A.re f_.qa0.Source.A.im),.d (.cx .f32 f_.qa0.Source.B.re f_.qa0.Source.B.im),.d (.cx .f32 f_.qa0.Source.C.re f_.qa0.Source.C.im),.d (.sl false (f_.qa0.qa7.map qac)),.d (.sl false (f_.Ties.map qam))],.row 1 (buses_.map qa6)]) rfl (by simp) rfl (by trivial) ⟨rfl,trivial,trivial⟩) ?_
  refine qap ?_
  have hr:=Option.some.inj h
  subst hr
  exact qah (.inr rfl) [] (objs':=[.box [.d (.cx .f32 f_.qa0.Source.A.re f_.qa0.Source.A.im),.d (.cx .f32 f_.qa0.Source.B.re f_.qa0.Source.B.im),.d (.cx .f32 f_.qa0.Source.C.re f_.qa0.Source.C.im),.d (.sl false (f_.qa0.qa7.map qac)),.d (.sl false (f_.Ties.map qam))],.row 1 (buses_.map qa6)]) (new:=[]) rfl (by simp) (by simp) rfl (by trivial) rfl rfl (by trivial) (fun h=>nomatch h) ⟨rfl,rfl,rfl⟩
def qgi (n:Nat) (g_:qbk) (bus_:Int) (closed_:List Int):Option Int :=
 (qdp n g_ bus_ closed_ (0:Int)).bind fun x4 =>
 (qg9 n x4).bind fun x5 =>
 (qdz n g_ x5).bind fun x6 =>
 some x6
theorem qml (n:Nat) (g_:qbk) (bus_:Int) (closed_:List Int) {r:Int} (h:qgi n g_ bus_ closed_ = some r):qb1 prog false 24 [.ptr 0 0,.d (.int .i64 bus_),.d (.sl false (closed_.map qa6))] [.box [.d (.cx .f32 g_.qa0.Source.A.re g_.qa0.Source.A.im),.d (.cx .f32 g_.qa0.Source.B.re g_.qa0.Source.B.im),.d (.cx .f32 g_.qa0.Source.C.re g_.qa0.Source.C.im),.d (.sl false (g_.qa0.qa7.map qac)),.d (.sl false (g_.Ties.map qam))]] (fun v o new=>v = .d (.int .i64 r)∧o = [.box [.d (.cx .f32 g_.qa0.Source.A.re g_.qa0.Source.A.im),.d (.cx .f32 g_.qa0.Source.B.re g_.qa0.Source.B.im),.d (.cx .f32 g_.qa0.Source.C.re g_.qa0.Source.C.im),.d (.sl false (g_.qa0.qa7.map qac)),.d (.sl false (g_.Ties.map qam))]]∧new = []):=by
 refine qak hτ func24 rfl (by simp) (by simp) ?_
 unfold qgi at h
 refine qa8<|qa2<|qa1 hτ rfl rfl rfl<|qa5<|qa8 ?_
 refine qd5 ?_
 refine qa4 hτ [] 0 rfl rfl rfl rfl rfl ?_
 refine qa4 hτ [] 1 rfl rfl rfl rfl rfl ?_
 refine qa4 hτ [0] 2 rfl rfl rfl rfl rfl ?_
 refine qa4 hτ [] 3 rfl rfl rfl rfl rfl ?_
 refine qa4 hτ [] 4 rfl rfl rfl rfl rfl ?_
 refine qa4 hτ [] 5 rfl rfl rfl rfl rfl ?_
 refine qaf h fun x4 hx4 h=>?_
 refine qcf hτ false [0] [0] 6 rfl rfl rfl rfl (qaj func34 rfl rfl) rfl rfl (by simp) ⟨trivial,trivial,trivial,trivial,trivial⟩ (by trivial) (qhn n g_ bus_ closed_ (0:Int) hx4) ⟨rfl,trivial⟩ ?_
 refine qaf h fun x5 hx5 h=>?_
 refine qcf hτ false [] [0] 7 rfl rfl rfl rfl (qaj func25 rfl rfl) rfl rfl (by simp) ⟨trivial,trivial⟩ (by trivial) (qki n x4 hx5) ⟨rfl,trivial⟩ ?_
 refine qaf h fun x6 hx6 h=>?_
 refine qcf hτ false [0,1] [0,1] 8 rfl rfl rfl rfl (qaj func43 rfl rfl) rfl rfl (by simp) ⟨trivial,trivial,trivial⟩ (by trivial) (qjd n g_ x5 hx6) ⟨rfl,rfl,trivial⟩ ?_
 refine qa4 hτ [] 9 rfl rfl rfl rfl rfl ?_
 refine qbo mixed (by kernel_rfl) ?_
 refine qaa (qa3 [0] (l:=[(6,.d (.int .i64 x6))]) (objs:=[.box [.d (.cx .f32 g_.qa0.Source.A.re g_.qa0.Source.A.im),.d (.cx .f32 g_.qa0.Source.B.re g_.qa0.Source.B.im),.d (.cx .f32 g_.qa0.Source.C.re g_.qa0.Source.C.im),.d (.sl false (g_.qa0.qa7.map qac)),.d (.sl false (g_.Ties.map qam))]]) rfl (by simp) rfl (by trivial) ⟨rfl,trivial,trivial⟩) ?_
 refine qap ?_
 have hr:=Option.some.inj h
 subst hr
 exact qah (.inr rfl) [] (objs':=[.box [.d (.cx .f32 g_.qa0.Source.A.re g_.qa0.Source.A.im),.d (.cx .f32 g_.qa0.Source.B.re g_.qa0.Source.B.im),.d (.cx .f32 g_.qa0.Source.C.re g_.qa0.Source.C.im),.d (.sl false (g_.qa0.qa7.map qac)),.d (.sl false (g_.Ties.map qam))]]) (new:=[]) rfl (by simp) (by simp) rfl (by trivial) rfl rfl (by trivial) (fun h=>nomatch h) ⟨rfl,rfl,rfl⟩
def qey (n:Nat) (k62:Int→Option Bool) (v46:Int):Option Bool :=
 k62 (w64 (v46 + (1:Int)))
def qbs (n:Nat) (k62:Int→Option Bool) (v46:Int) (v91:Bool):Option Bool :=
 if v91 = true then
  some false
 else
  qey n k62 v46
def qb5 (n:Nat) (g_:qbk) (bus_:Int) (closed_:List Int):Nat→Int→Option Bool
 | 0,_=>none
 | m61 + 1,v46 =>
  if v46 < (closed_.length:Int) then
   (getI closed_ v46).bind fun x78 =>
   (qfl n x78 (0:Int) (w64 ((g_.Ties.length:Int) - (1:Int)))).bind fun x94 =>
   if x94 = true then
    if v46 > (0:Int) then
     (getI closed_ (w64 (v46 - (1:Int)))).bind fun x97 =>
     if x97 ≥ x78 then
      qbs n (qb5 n g_ bus_ closed_ m61) v46 true
     else
      (getI g_.Ties x78).bind fun x99 =>
      if x99.A = bus_ then
       qbs n (qb5 n g_ bus_ closed_ m61) v46 true
      else
       qbs n (qb5 n g_ bus_ closed_ m61) v46 (decide (x99.B = bus_))
    else
     (getI g_.Ties x78).bind fun x101 =>
     if x101.A = bus_ then
      qbs n (qb5 n g_ bus_ closed_ m61) v46 true
     else
      qbs n (qb5 n g_ bus_ closed_ m61) v46 (decide (x101.B = bus_))
   else
    qbs n (qb5 n g_ bus_ closed_ m61) v46 true
  else
   some true
def qf1 (n:Nat) (g_:qbk) (bus_:Int) (closed_:List Int):Option Bool :=
 (qf2 n g_ bus_).bind fun x31 =>
 if x31 = true then
  qb5 n g_ bus_ closed_ n (0:Int)
 else
  some false
theorem qky (n:Nat) (g_:qbk) (bus_:Int) (closed_:List Int) {r:Bool} (h:qf1 n g_ bus_ closed_ = some r):qb1 prog false 33 [.ptr 0 0,.d (.int .i64 bus_),.d (.sl false (closed_.map qa6))] [.box [.d (.cx .f32 g_.qa0.Source.A.re g_.qa0.Source.A.im),.d (.cx .f32 g_.qa0.Source.B.re g_.qa0.Source.B.im),.d (.cx .f32 g_.qa0.Source.C.re g_.qa0.Source.C.im),.d (.sl false (g_.qa0.qa7.map qac)),.d (.sl false (g_.Ties.map qam))]] (fun v o new=>v = .d (.bool r)∧o = [.box [.d (.cx .f32 g_.qa0.Source.A.re g_.qa0.Source.A.im),.d (.cx .f32 g_.qa0.Source.B.re g_.qa0.Source.B.im),.d (.cx .f32 g_.qa0.Source.C.re g_.qa0.Source.C.im),.d (.sl false (g_.qa0.qa7.map qac)),.d (.sl false (g_.Ties.map qam))]]∧new = []):=by
 refine qak hτ func33 rfl (by simp) (by simp) ?_
 unfold qf1 at h
 refine qa8<|qa2<|qa1 hτ rfl rfl rfl<|qa5<|qa8 ?_
 refine qa8<|qa2<|qa1 hτ rfl rfl rfl<|qa1 hτ rfl rfl rfl ?_
 refine qaf h fun x31 hx31 h=>?_
 refine qae hτ false [0] rfl rfl rfl (qaj func23 rfl rfl) rfl rfl (by simp) ⟨trivial,trivial,trivial⟩ (by trivial) (qkz n g_ bus_ hx31) ?_
 rintro r0 o0 n0 ⟨rfl,rfl,rfl⟩ -
 refine qa1 hτ rfl rfl rfl<|qa5 ?_
 refine qaq rfl (fun hc32=>?_) (fun hc32=>?_)
 ·have hc32:=qjf hc32
  have h:=qeg h hc32
  refine qa8<|qa2<|qa1 hτ rfl rfl rfl<|qa5 ?_
  refine qaa (qa3 [0] (l:=[(6,.d (.bool false))]) (objs:=[.box [.d (.cx .f32 g_.qa0.Source.A.re g_.qa0.Source.A.im),.d (.cx .f32 g_.qa0.Source.B.re g_.qa0.Source.B.im),.d (.cx .f32 g_.qa0.Source.C.re g_.qa0.Source.C.im),.d (.sl false (g_.qa0.qa7.map qac)),.d (.sl false (g_.Ties.map qam))]]) rfl (by simp) rfl (by trivial) ⟨rfl,trivial,trivial⟩) ?_
  refine qap ?_
  have hr:=Option.some.inj h
  subst hr
  exact qah (.inr rfl) [] (objs':=[.box [.d (.cx .f32 g_.qa0.Source.A.re g_.qa0.Source.A.im),.d (.cx .f32 g_.qa0.Source.B.re g_.qa0.Source.B.im),.d (.cx .f32 g_.qa0.Source.C.re g_.qa0.Source.C.im),.d (.sl false (g_.qa0.qa7.map qac)),.d (.sl false (g_.Ties.map qam))]]) (new:=[]) rfl (by simp) (by simp) rfl (by trivial) rfl rfl (by trivial) (fun h=>nomatch h) ⟨rfl,rfl,rfl⟩
 ·have hc32:=qje hc32
  have h:=qeh h hc32
  refine qat<|qa8<|qa8<|qa2<|qa1 hτ rfl rfl rfl ?_
  refine qa1 hτ (v:=.d (.int .i64 (closed_.length:Int))) rfl rfl (Eq.trans rfl (qei (f:=qa6) closed_)) ?_
  refine qa1 hτ rfl rfl rfl<|qa5<|qay ?_
  refine qde (ι:=Nat × Int) (fun (m61,v46)=>St.of [(0,.ptr 0 0),(1,.d (.int .i64 bus_)),(2,.d (.sl false (closed_.map qa6))),(13,.d (.sl false (closed_.map qa6))),(14,.d (.int .i64 (closed_.length:Int))),(15,.d (.int .i64 v46))] [.box [.d (.cx .f32 g_.qa0.Source.A.re g_.qa0.Source.A.im),.d (.cx .f32 g_.qa0.Source.B.re g_.qa0.Source.B.im),.d (.cx .f32 g_.qa0.Source.C.re g_.qa0.Source.C.im),.d (.sl false (g_.qa0.qa7.map qac)),.d (.sl false (g_.Ties.map qam))]] f33.ntmps 1) (fun (m61,v46)=>qb5 n g_ bus_ closed_ m61 v46 = some r) (fun x=>x.1) (n,(0:Int)) h (qa3 [0] (l:=[(0,.ptr 0 0),(1,.d (.int .i64 bus_)),(2,.d (.sl false (closed_.map qa6))),(13,.d (.sl false (closed_.map qa6))),(14,.d (.int .i64 (closed_.length:Int))),(15,.d (.int .i64 (0:Int)))]) (objs:=[.box [.d (.cx .f32 g_.qa0.Source.A.re g_.qa0.Source.A.im),.d (.cx .f32 g_.qa0.Source.B.re g_.qa0.Source.B.im),.d (.cx .f32 g_.qa0.Source.C.re g_.qa0.Source.C.im),.d (.sl false (g_.qa0.qa7.map qac)),.d (.sl false (g_.Ties.map qam))]]) rfl (by simp) rfl (by trivial) ⟨rfl,trivial,rfl,trivial,rfl,trivial,rfl,trivial,rfl,trivial,rfl,trivial,trivial⟩) ?_
  rintro ⟨m61,v46⟩ h
  replace h:qb5 n g_ bus_ closed_ m61 v46 = some r:=h
  rcases m61 with _ | m61
  ·rw [qb5] at h;cases h
  rw [qb5] at h
  refine qa8<|qa2<|qa1 hτ rfl rfl rfl<|qa5<|qa8 ?_
  refine qaq rfl (fun hc63=>?_) (fun hc63=>?_)
  ·have h:=if_t h hc63
   refine qat ?_
   refine qby (ι:=Unit) (fun _=>St.of [(0,.ptr 0 0),(1,.d (.int .i64 bus_)),(2,.d (.sl false (closed_.map qa6))),(13,.d (.sl false (closed_.map qa6))),(14,.d (.int .i64 (closed_.length:Int))),(15,.d (.int .i64 v46))] [.box [.d (.cx .f32 g_.qa0.Source.A.re g_.qa0.Source.A.im),.d (.cx .f32 g_.qa0.Source.B.re g_.qa0.Source.B.im),.d (.cx .f32 g_.qa0.Source.C.re g_.qa0.Source.C.im),.d (.sl false (g_.qa0.qa7.map qac)),.d (.sl false (g_.Ties.map qam))]] f33.ntmps 1) (fun _=>qey n (qb5 n g_ bus_ closed_ m61) v46 = some r) ?_ (fun hk77=>?_)
   ·rintro ⟨⟩ h
    replace h:qey n (qb5 n g_ bus_ closed_ m61) v46 = some r:=h
    unfold qey at h
    refine qa2<|qa1 hτ rfl rfl rfl<|qa1 hτ rfl rfl rfl<|qa5 ?_
    exact ⟨(m61,(w64 (v46 + (1:Int)))),h,Nat.lt_succ_self m61,(qa3 [0] (l:=[(0,.ptr 0 0),(1,.d (.int .i64 bus_)),(2,.d (.sl false (closed_.map qa6))),(13,.d (.sl false (closed_.map qa6))),(14,.d (.int .i64 (closed_.length:Int))),(15,.d (.int .i64 (w64 (v46 + (1:Int)))))]) (objs:=[.box [.d (.cx .f32 g_.qa0.Source.A.re g_.qa0.Source.A.im),.d (.cx .f32 g_.qa0.Source.B.re g_.qa0.Source.B.im),.d (.cx .f32 g_.qa0.Source.C.re g_.qa0.Source.C.im),.d (.sl false (g_.qa0.qa7.map qac)),.d (.sl false (g_.Ties.map qam))]]) rfl (by simp) rfl (by trivial) ⟨rfl,trivial,rfl,trivial,rfl,trivial,rfl,trivial,rfl,trivial,rfl,trivial,trivial⟩)⟩
   ·refine qa8<|qay<|qa8<|qa2<|qa1 hτ rfl rfl rfl ?_
    refine qaf h fun x78 hx78 h=>?_
    refine qce hτ rfl rfl rfl (qb8 hx78).1 (qbm hx78) rfl ?_
    refine qa1 hτ rfl rfl rfl<|qa1 hτ rfl rfl rfl<|qa1 hτ rfl rfl rfl<|qa5 ?_
    refine qby (ι:=Bool) (fun v91=>St.of [(0,.ptr 0 0),(1,.d (.int .i64 bus_)),(2,.d (.sl false (closed_.map qa6))),(13,.d (.sl false (closed_.map qa6))),(14,.d (.int .i64 (closed_.length:Int))),(15,.d (.int .i64 v46)),(65,.d (.bool v91))] [.box [.d (.cx .f32 g_.qa0.Source.A.re g_.qa0.Source.A.im),.d (.cx .f32 g_.qa0.Source.B.re g_.qa0.Source.B.im),.d (.cx .f32 g_.qa0.Source.C.re g_.qa0.Source.C.im),.d (.sl false (g_.qa0.qa7.map qac)),.d (.sl false (g_.Ties.map qam))]] f33.ntmps 1) (fun v91=>qbs n (qb5 n g_ bus_ closed_ m61) v46 v91 = some r) ?_ (fun hk93=>?_)
    ·rintro v91 h
     replace h:qbs n (qb5 n g_ bus_ closed_ m61) v46 v91 = some r:=h
     unfold qbs at h
     refine qaq rfl (fun hc92=>?_) (fun hc92=>?_)
     ·have h:=qeh h hc92
      refine qa8<|qa2<|qa1 hτ rfl rfl rfl<|qa5 ?_
      refine qaa (qa3 [0] (l:=[(6,.d (.bool false))]) (objs:=[.box [.d (.cx .f32 g_.qa0.Source.A.re g_.qa0.Source.A.im),.d (.cx .f32 g_.qa0.Source.B.re g_.qa0.Source.B.im),.d (.cx .f32 g_.qa0.Source.C.re g_.qa0.Source.C.im),.d (.sl false (g_.qa0.qa7.map qac)),.d (.sl false (g_.Ties.map qam))]]) rfl (by simp) rfl (by trivial) ⟨rfl,trivial,trivial⟩) ?_
      refine qap ?_
      have hr:=Option.some.inj h
      subst hr
      exact qah (.inr rfl) [] (objs':=[.box [.d (.cx .f32 g_.qa0.Source.A.re g_.qa0.Source.A.im),.d (.cx .f32 g_.qa0.Source.B.re g_.qa0.Source.B.im),.d (.cx .f32 g_.qa0.Source.C.re g_.qa0.Source.C.im),.d (.sl false (g_.qa0.qa7.map qac)),.d (.sl false (g_.Ties.map qam))]]) (new:=[]) rfl (by simp) (by simp) rfl (by trivial) rfl rfl (by trivial) (fun h=>nomatch h) ⟨rfl,rfl,rfl⟩
     ·have h:=qeg h hc92
      refine qat ?_
      refine qaa (qa3 [0] (l:=[(0,.ptr 0 0),(1,.d (.int .i64 bus_)),(2,.d (.sl false (closed_.map qa6))),(13,.d (.sl false (closed_.map qa6))),(14,.d (.int .i64 (closed_.length:Int))),(15,.d (.int .i64 v46))]) (objs:=[.box [.d (.cx .f32 g_.qa0.Source.A.re g_.qa0.Source.A.im),.d (.cx .f32 g_.qa0.Source.B.re g_.qa0.Source.B.im),.d (.cx .f32 g_.qa0.Source.C.re g_.qa0.Source.C.im),.d (.sl false (g_.qa0.qa7.map qac)),.d (.sl false (g_.Ties.map qam))]]) rfl (by simp) rfl (by trivial) ⟨rfl,trivial,rfl,trivial,rfl,trivial,rfl,trivial,rfl,trivial,rfl,trivial,trivial⟩) ?_
      exact hk77 () h
    ·refine qa8 ?_
     refine qaa (qa3 [0] (l:=[(0,.ptr 0 0),(1,.d (.int .i64 bus_)),(2,.d (.sl false (closed_.map qa6))),(7,.d (.int .i64 v46)),(8,.d (.int .i64 x78)),(13,.d (.sl false (closed_.map qa6))),(14,.d (.int .i64 (closed_.length:Int))),(15,.d (.int .i64 v46))]) (objs:=[.box [.d (.cx .f32 g_.qa0.Source.A.re g_.qa0.Source.A.im),.d (.cx .f32 g_.qa0.Source.B.re g_.qa0.Source.B.im),.d (.cx .f32 g_.qa0.Source.C.re g_.qa0.Source.C.im),.d (.sl false (g_.qa0.qa7.map qac)),.d (.sl false (g_.Ties.map qam))]]) rfl (by simp) rfl (by trivial) ⟨rfl,trivial,rfl,trivial,rfl,trivial,rfl,trivial,rfl,trivial,rfl,trivial,rfl,trivial,rfl,trivial,trivial⟩) ?_
     refine qa2<|qa1 hτ rfl rfl rfl<|qa1 hτ rfl rfl rfl<|qa1 hτ rfl rfl rfl<|qa1 hτ rfl rfl rfl ?_
     refine qa1 hτ rfl rfl rfl ?_
     refine qa1 hτ (v:=.d (.int .i64 (g_.Ties.length:Int))) rfl rfl (Eq.trans rfl (qei (f:=qam) g_.Ties)) ?_
     refine qa1 hτ rfl rfl rfl ?_
     refine qaf h fun x94 hx94 h=>?_
     refine qae hτ false [] rfl rfl rfl (qaj func36 rfl rfl) rfl rfl (by simp) ⟨trivial,trivial,trivial,trivial⟩ (by trivial) (qig n x78 (0:Int) (w64 ((g_.Ties.length:Int) - (1:Int))) hx94) ?_
     rintro r0 o0 n0 ⟨rfl,rfl,rfl⟩ -
     refine qa1 hτ rfl rfl rfl<|qa1 hτ rfl rfl rfl ?_
     refine qbq 29 rfl (fun hb95=>?_) (fun hb95=>?_)
     ·have hb95:=qjf hb95
      have h:=qeg h hb95
      refine qab rfl rfl<|qab rfl rfl ?_
      refine qb3 (qa3 [0] (l:=[(0,.ptr 0 0),(1,.d (.int .i64 bus_)),(2,.d (.sl false (closed_.map qa6))),(7,.d (.int .i64 v46)),(8,.d (.int .i64 x78)),(13,.d (.sl false (closed_.map qa6))),(14,.d (.int .i64 (closed_.length:Int))),(15,.d (.int .i64 v46)),(29,.d (.bool true)),(31,.und)]) (objs:=[.box [.d (.cx .f32 g_.qa0.Source.A.re g_.qa0.Source.A.im),.d (.cx .f32 g_.qa0.Source.B.re g_.qa0.Source.B.im),.d (.cx .f32 g_.qa0.Source.C.re g_.qa0.Source.C.im),.d (.sl false (g_.qa0.qa7.map qac)),.d (.sl false (g_.Ties.map qam))]]) rfl (by simp) rfl (by trivial) ⟨rfl,trivial,rfl,trivial,rfl,trivial,rfl,trivial,rfl,trivial,rfl,trivial,rfl,trivial,rfl,trivial,rfl,trivial,rfl,trivial,trivial⟩) ?_
      refine qab rfl rfl<|qab rfl rfl<|qab rfl rfl<|qab rfl rfl<|qab rfl rfl ?_
      refine qab rfl rfl<|qab rfl rfl<|qab rfl rfl<|qab rfl rfl<|qa1 hτ rfl rfl rfl ?_
      refine qa1 hτ rfl rfl rfl<|qab rfl rfl ?_
      refine qb3 (qa3 [0] (l:=[(0,.ptr 0 0),(1,.d (.int .i64 bus_)),(2,.d (.sl false (closed_.map qa6))),(8,.d (.int .i64 x78)),(13,.d (.sl false (closed_.map qa6))),(14,.d (.int .i64 (closed_.length:Int))),(15,.d (.int .i64 v46)),(42,.d (.bool true)),(43,.und)]) (objs:=[.box [.d (.cx .f32 g_.qa0.Source.A.re g_.qa0.Source.A.im),.d (.cx .f32 g_.qa0.Source.B.re g_.qa0.Source.B.im),.d (.cx .f32 g_.qa0.Source.C.re g_.qa0.Source.C.im),.d (.sl false (g_.qa0.qa7.map qac)),.d (.sl false (g_.Ties.map qam))]]) rfl (by simp) rfl (by trivial) ⟨rfl,trivial,rfl,trivial,rfl,trivial,rfl,trivial,rfl,trivial,rfl,trivial,rfl,trivial,rfl,trivial,rfl,trivial,trivial⟩) ?_
      refine qab rfl rfl<|qab rfl rfl<|qab rfl rfl<|qab rfl rfl<|qab rfl rfl ?_
      refine qab rfl rfl<|qab rfl rfl<|qab rfl rfl<|qab rfl rfl<|qa1 hτ rfl rfl rfl ?_
      refine qa1 hτ rfl rfl rfl<|qab rfl rfl ?_
      refine qb3 (qa3 [0] (l:=[(0,.ptr 0 0),(1,.d (.int .i64 bus_)),(2,.d (.sl false (closed_.map qa6))),(8,.d (.int .i64 x78)),(13,.d (.sl false (closed_.map qa6))),(14,.d (.int .i64 (closed_.length:Int))),(15,.d (.int .i64 v46)),(54,.d (.bool true)),(55,.und)]) (objs:=[.box [.d (.cx .f32 g_.qa0.Source.A.re g_.qa0.Source.A.im),.d (.cx .f32 g_.qa0.Source.B.re g_.qa0.Source.B.im),.d (.cx .f32 g_.qa0.Source.C.re g_.qa0.Source.C.im),.d (.sl false (g_.qa0.qa7.map qac)),.d (.sl false (g_.Ties.map qam))]]) rfl (by simp) rfl (by trivial) ⟨rfl,trivial,rfl,trivial,rfl,trivial,rfl,trivial,rfl,trivial,rfl,trivial,rfl,trivial,rfl,trivial,rfl,trivial,trivial⟩) ?_
      refine qab rfl rfl<|qab rfl rfl<|qab rfl rfl<|qab rfl rfl<|qab rfl rfl ?_
      refine qab rfl rfl<|qab rfl rfl<|qab rfl rfl<|qab rfl rfl<|qa1 hτ rfl rfl rfl ?_
      refine qa5 ?_
      refine qaa (qa3 [0] (l:=[(0,.ptr 0 0),(1,.d (.int .i64 bus_)),(2,.d (.sl false (closed_.map qa6))),(13,.d (.sl false (closed_.map qa6))),(14,.d (.int .i64 (closed_.length:Int))),(15,.d (.int .i64 v46)),(65,.d (.bool true))]) (objs:=[.box [.d (.cx .f32 g_.qa0.Source.A.re g_.qa0.Source.A.im),.d (.cx .f32 g_.qa0.Source.B.re g_.qa0.Source.B.im),.d (.cx .f32 g_.qa0.Source.C.re g_.qa0.Source.C.im),.d (.sl false (g_.qa0.qa7.map qac)),.d (.sl false (g_.Ties.map qam))]]) rfl (by simp) rfl (by trivial) ⟨rfl,trivial,rfl,trivial,rfl,trivial,rfl,trivial,rfl,trivial,rfl,trivial,rfl,trivial,trivial⟩) ?_
      exact hk93 true h
     ·have hb95:=qje hb95
      have h:=qeh h hb95
      refine qa1 hτ rfl rfl rfl<|qa1 hτ rfl rfl rfl ?_
      refine qb3 (qa3 [0] (l:=[(0,.ptr 0 0),(1,.d (.int .i64 bus_)),(2,.d (.sl false (closed_.map qa6))),(7,.d (.int .i64 v46)),(8,.d (.int .i64 x78)),(13,.d (.sl false (closed_.map qa6))),(14,.d (.int .i64 (closed_.length:Int))),(15,.d (.int .i64 v46)),(29,.d (.bool false)),(31,.d (.bool (decide (v46 > (0:Int)))))]) (objs:=[.box [.d (.cx .f32 g_.qa0.Source.A.re g_.qa0.Source.A.im),.d (.cx .f32 g_.qa0.Source.B.re g_.qa0.Source.B.im),.d (.cx .f32 g_.qa0.Source.C.re g_.qa0.Source.C.im),.d (.sl false (g_.qa0.qa7.map qac)),.d (.sl false (g_.Ties.map qam))]]) rfl (by simp) rfl (by trivial) ⟨rfl,trivial,rfl,trivial,rfl,trivial,rfl,trivial,rfl,trivial,rfl,trivial,rfl,trivial,rfl,trivial,rfl,trivial,rfl,trivial,trivial⟩) ?_
      refine qa1 hτ rfl rfl rfl ?_
      refine qbq 32 rfl (fun hb96=>?_) (fun hb96=>?_)
      ·have h:=if_t h hb96
       refine qa1 hτ rfl rfl rfl<|qa1 hτ rfl rfl rfl<|qa1 hτ rfl rfl rfl ?_
       refine qaf h fun x97 hx97 h=>?_
       refine qce hτ rfl rfl rfl (qb8 hx97).1 (qbm hx97) rfl ?_
       refine qa1 hτ rfl rfl rfl<|qa1 hτ rfl rfl rfl<|qa1 hτ rfl rfl rfl<|qa1 hτ rfl rfl rfl<|qa1 hτ rfl rfl rfl ?_
       refine qa1 hτ rfl rfl rfl ?_
       refine qbq 42 rfl (fun hb98=>?_) (fun hb98=>?_)
       ·have h:=if_t h hb98
        refine qab rfl rfl ?_
        refine qb3 (qa3 [0] (l:=[(0,.ptr 0 0),(1,.d (.int .i64 bus_)),(2,.d (.sl false (closed_.map qa6))),(8,.d (.int .i64 x78)),(13,.d (.sl false (closed_.map qa6))),(14,.d (.int .i64 (closed_.length:Int))),(15,.d (.int .i64 v46)),(42,.d (.bool true)),(43,.und)]) (objs:=[.box [.d (.cx .f32 g_.qa0.Source.A.re g_.qa0.Source.A.im),.d (.cx .f32 g_.qa0.Source.B.re g_.qa0.Source.B.im),.d (.cx .f32 g_.qa0.Source.C.re g_.qa0.Source.C.im),.d (.sl false (g_.qa0.qa7.map qac)),.d (.sl false (g_.Ties.map qam))]]) rfl (by simp) rfl (by trivial) ⟨rfl,trivial,rfl,trivial,rfl,trivial,rfl,trivial,rfl,trivial,rfl,trivial,rfl,trivial,rfl,trivial,rfl,trivial,trivial⟩) ?_
        refine qab rfl rfl<|qab rfl rfl<|qab rfl rfl<|qab rfl rfl<|qab rfl rfl ?_
        refine qab rfl rfl<|qab rfl rfl<|qab rfl rfl<|qab rfl rfl<|qa1 hτ rfl rfl rfl ?_
        refine qa1 hτ rfl rfl rfl<|qab rfl rfl ?_
        refine qb3 (qa3 [0] (l:=[(0,.ptr 0 0),(1,.d (.int .i64 bus_)),(2,.d (.sl false (closed_.map qa6))),(8,.d (.int .i64 x78)),(13,.d (.sl false (closed_.map qa6))),(14,.d (.int .i64 (closed_.length:Int))),(15,.d (.int .i64 v46)),(54,.d (.bool true)),(55,.und)]) (objs:=[.box [.d (.cx .f32 g_.qa0.Source.A.re g_.qa0.Source.A.im),.d (.cx .f32 g_.qa0.Source.B.re g_.qa0.Source.B.im),.d (.cx .f32 g_.qa0.Source.C.re g_.qa0.Source.C.im),.d (.sl false (g_.qa0.qa7.map qac)),.d (.sl false (g_.Ties.map qam))]]) rfl (by simp) rfl (by trivial) ⟨rfl,trivial,rfl,trivial,rfl,trivial,rfl,trivial,rfl,trivial,rfl,trivial,rfl,trivial,rfl,trivial,rfl,trivial,trivial⟩) ?_
        refine qab rfl rfl<|qab rfl rfl<|qab rfl rfl<|qab rfl rfl<|qab rfl rfl ?_
        refine qab rfl rfl<|qab rfl rfl<|qab rfl rfl<|qab rfl rfl<|qa1 hτ rfl rfl rfl ?_
        refine qa5 ?_
        refine qaa (qa3 [0] (l:=[(0,.ptr 0 0),(1,.d (.int .i64 bus_)),(2,.d (.sl false (closed_.map qa6))),(13,.d (.sl false (closed_.map qa6))),(14,.d (.int .i64 (closed_.length:Int))),(15,.d (.int .i64 v46)),(65,.d (.bool true))]) (objs:=[.box [.d (.cx .f32 g_.qa0.Source.A.re g_.qa0.Source.A.im),.d (.cx .f32 g_.qa0.Source.B.re g_.qa0.Source.B.im),.d (.cx .f32 g_.qa0.Source.C.re g_.qa0.Source.C.im),.d (.sl false (g_.qa0.qa7.map qac)),.d (.sl false (g_.Ties.map qam))]]) rfl (by simp) rfl (by trivial) ⟨rfl,trivial,rfl,trivial,rfl,trivial,rfl,trivial,rfl,trivial,rfl,trivial,rfl,trivial,trivial⟩) ?_
        exact hk93 true h
       ·have h:=if_f h hb98
        refine qa1 hτ rfl rfl rfl ?_
        refine qb3 (qa3 [0] (l:=[(0,.ptr 0 0),(1,.d (.int .i64 bus_)),(2,.d (.sl false (closed_.map qa6))),(8,.d (.int .i64 x78)),(13,.d (.sl false (closed_.map qa6))),(14,.d (.int .i64 (closed_.length:Int))),(15,.d (.int .i64 v46)),(42,.d (.bool false)),(43,.ptr 0 0)]) (objs:=[.box [.d (.cx .f32 g_.qa0.Source.A.re g_.qa0.Source.A.im),.d (.cx .f32 g_.qa0.Source.B.re g_.qa0.Source.B.im),.d (.cx .f32 g_.qa0.Source.C.re g_.qa0.Source.C.im),.d (.sl false (g_.qa0.qa7.map qac)),.d (.sl false (g_.Ties.map qam))]]) rfl (by simp) rfl (by trivial) ⟨rfl,trivial,rfl,trivial,rfl,trivial,rfl,trivial,rfl,trivial,rfl,trivial,rfl,trivial,rfl,trivial,rfl,trivial,trivial⟩) ?_
        refine qa1 hτ rfl rfl rfl<|qa1 hτ rfl rfl rfl<|qa1 hτ rfl rfl rfl<|qa1 hτ rfl rfl rfl ?_
        refine qaf h fun x99 hx99 h=>?_
        refine qce hτ rfl rfl rfl (qb8 hx99).1 (qbm hx99) rfl ?_
        refine qa1 hτ rfl rfl rfl<|qa1 hτ rfl rfl rfl<|qa1 hτ rfl rfl rfl ?_
        refine qa1 hτ (v:=.d (.bool (decide (x99.A = bus_)))) rfl rfl (qeq _ _) ?_
        refine qa1 hτ rfl rfl rfl<|qa1 hτ rfl rfl rfl ?_
        refine qbq 54 rfl (fun hb100=>?_) (fun hb100=>?_)
        ·have h:=if_t h hb100
         refine qab rfl rfl ?_
         refine qb3 (qa3 [0] (l:=[(0,.ptr 0 0),(1,.d (.int .i64 bus_)),(2,.d (.sl false (closed_.map qa6))),(8,.d (.int .i64 x78)),(13,.d (.sl false (closed_.map qa6))),(14,.d (.int .i64 (closed_.length:Int))),(15,.d (.int .i64 v46)),(54,.d (.bool true)),(55,.und)]) (objs:=[.box [.d (.cx .f32 g_.qa0.Source.A.re g_.qa0.Source.A.im),.d (.cx .f32 g_.qa0.Source.B.re g_.qa0.Source.B.im),.d (.cx .f32 g_.qa0.Source.C.re g_.qa0.Source.C.im),.d (.sl false (g_.qa0.qa7.map qac)),.d (.sl false (g_.Ties.map qam))]]) rfl (by simp) rfl (by trivial) ⟨rfl,trivial,rfl,trivial,rfl,trivial,rfl,trivial,rfl,trivial,rfl,trivial,rfl,trivial,rfl,trivial,rfl,trivial,trivial⟩) ?_
         refine qab rfl rfl<|qab rfl rfl<|qab rfl rfl<|qab rfl rfl<|qab rfl rfl ?_
         refine qab rfl rfl<|qab rfl rfl<|qab rfl rfl<|qab rfl rfl<|qa1 hτ rfl rfl rfl ?_
         refine qa5 ?_
         refine qaa (qa3 [0] (l:=[(0,.ptr 0 0),(1,.d (.int .i64 bus_)),(2,.d (.sl false (closed_.map qa6))),(13,.d (.sl false (closed_.map qa6))),(14,.d (.int .i64 (closed_.length:Int))),(15,.d (.int .i64 v46)),(65,.d (.bool true))]) (objs:=[.box [.d (.cx .f32 g_.qa0.Source.A.re g_.qa0.Source.A.im),.d (.cx .f32 g_.qa0.Source.B.re g_.qa0.Source.B.im),.d (.cx .f32 g_.qa0.Source.C.re g_.qa0.Source.C.im),.d (.sl false (g_.qa0.qa7.map qac)),.d (.sl false (g_.Ties.map qam))]]) rfl (by simp) rfl (by trivial) ⟨rfl,trivial,rfl,trivial,rfl,trivial,rfl,trivial,rfl,trivial,rfl,trivial,rfl,trivial,trivial⟩) ?_
         exact hk93 true h
        ·have h:=if_f h hb100
         refine qa1 hτ rfl rfl rfl ?_
         refine qb3 (qa3 [0] (l:=[(0,.ptr 0 0),(1,.d (.int .i64 bus_)),(2,.d (.sl false (closed_.map qa6))),(8,.d (.int .i64 x78)),(13,.d (.sl false (closed_.map qa6))),(14,.d (.int .i64 (closed_.length:Int))),(15,.d (.int .i64 v46)),(54,.d (.bool false)),(55,.ptr 0 0)]) (objs:=[.box [.d (.cx .f32 g_.qa0.Source.A.re g_.qa0.Source.A.im),.d (.cx .f32 g_.qa0.Source.B.re g_.qa0.Source.B.im),.d (.cx .f32 g_.qa0.Source.C.re g_.qa0.Source.C.im),.d (.sl false (g_.qa0.qa7.map qac)),.d (.sl false (g_.Ties.map qam))]]) rfl (by simp) rfl (by trivial) ⟨rfl,trivial,rfl,trivial,rfl,trivial,rfl,trivial,rfl,trivial,rfl,trivial,rfl,trivial,rfl,trivial,rfl,trivial,trivial⟩) ?_
         refine qa1 hτ rfl rfl rfl<|qa1 hτ rfl rfl rfl<|qa1 hτ rfl rfl rfl<|qa1 hτ rfl rfl rfl ?_
         refine qce hτ rfl rfl rfl (qb8 hx99).1 (qbm hx99) rfl ?_
         refine qa1 hτ rfl rfl rfl<|qa1 hτ rfl rfl rfl<|qa1 hτ rfl rfl rfl ?_
         refine qa1 hτ (v:=.d (.bool (decide (x99.B = bus_)))) rfl rfl (qeq _ _) ?_
         refine qa1 hτ rfl rfl rfl<|qa5 ?_
         refine qaa (qa3 [0] (l:=[(0,.ptr 0 0),(1,.d (.int .i64 bus_)),(2,.d (.sl false (closed_.map qa6))),(13,.d (.sl false (closed_.map qa6))),(14,.d (.int .i64 (closed_.length:Int))),(15,.d (.int .i64 v46)),(65,.d (.bool (decide (x99.B = bus_))))]) (objs:=[.box [.d (.cx .f32 g_.qa0.Source.A.re g_.qa0.Source.A.im),.d (.cx .f32 g_.qa0.Source.B.re g_.qa0.Source.B.im),.d (.cx .f32 g_.qa0.Source.C.re g_.qa0.Source.C.im),.d (.sl false (g_.qa0.qa7.map qac)),.d (.sl false (g_.Ties.map qam))]]) rfl (by simp) rfl (by trivial) ⟨rfl,trivial,rfl,trivial,rfl,trivial,rfl,trivial,rfl,trivial,rfl,trivial,rfl,trivial,trivial⟩) ?_
         exact hk93 (decide (x99.B = bus_)) h
      ·have h:=if_f h hb96
       refine qab rfl rfl<|qab rfl rfl<|qab rfl rfl<|qab rfl rfl<|qab rfl rfl ?_
       refine qab rfl rfl<|qab rfl rfl<|qa1 hτ rfl rfl rfl<|qa1 hτ rfl rfl rfl<|qa1 hτ rfl rfl rfl ?_
       refine qa1 hτ rfl rfl rfl ?_
       refine qb3 (qa3 [0] (l:=[(0,.ptr 0 0),(1,.d (.int .i64 bus_)),(2,.d (.sl false (closed_.map qa6))),(8,.d (.int .i64 x78)),(13,.d (.sl false (closed_.map qa6))),(14,.d (.int .i64 (closed_.length:Int))),(15,.d (.int .i64 v46)),(42,.d (.bool false)),(43,.ptr 0 0)]) (objs:=[.box [.d (.cx .f32 g_.qa0.Source.A.re g_.qa0.Source.A.im),.d (.cx .f32 g_.qa0.Source.B.re g_.qa0.Source.B.im),.d (.cx .f32 g_.qa0.Source.C.re g_.qa0.Source.C.im),.d (.sl false (g_.qa0.qa7.map qac)),.d (.sl false (g_.Ties.map qam))]]) rfl (by simp) rfl (by trivial) ⟨rfl,trivial,rfl,trivial,rfl,trivial,rfl,trivial,rfl,trivial,rfl,trivial,rfl,trivial,rfl,trivial,rfl,trivial,trivial⟩) ?_
       refine qa1 hτ rfl rfl rfl<|qa1 hτ rfl rfl rfl<|qa1 hτ rfl rfl rfl<|qa1 hτ rfl rfl rfl ?_
       refine qaf h fun x101 hx101 h=>?_
       refine qce hτ rfl rfl rfl (qb8 hx101).1 (qbm hx101) rfl ?_
       refine qa1 hτ rfl rfl rfl<|qa1 hτ rfl rfl rfl<|qa1 hτ rfl rfl rfl ?_
       refine qa1 hτ (v:=.d (.bool (decide (x101.A = bus_)))) rfl rfl (qeq _ _) ?_
       refine qa1 hτ rfl rfl rfl<|qa1 hτ rfl rfl rfl ?_
       refine qbq 54 rfl (fun hb102=>?_) (fun hb102=>?_)
       ·have h:=if_t h hb102
        refine qab rfl rfl ?_
        refine qb3 (qa3 [0] (l:=[(0,.ptr 0 0),(1,.d (.int .i64 bus_)),(2,.d (.sl false (closed_.map qa6))),(8,.d (.int .i64 x78)),(13,.d (.sl false (closed_.map qa6))),(14,.d (.int .i64 (closed_.length:Int))),(15,.d (.int .i64 v46)),(54,.d (.bool true)),(55,.und)]) (objs:=[.box [.d (.cx .f32 g_.qa0.Source.A.re g_.qa0.Source.A.im),.d (.cx .f32 g_.qa0.Source.B.re g_.qa0.Source.B.im),.d (.cx .f32 g_.qa0.Source.C.re g_.qa0.Source.C.im),.d (.sl false (g_.qa0.qa7.map qac)),.d (.sl false (g_.Ties.map qam))]]) rfl (by simp) rfl (by trivial) ⟨rfl,trivial,rfl,trivial,rfl,trivial,rfl,trivial,rfl,trivial,rfl,trivial,rfl,trivial,rfl,trivial,rfl,trivial,trivial⟩) ?_
        refine qab rfl rfl<|qab rfl rfl<|qab rfl rfl<|qab rfl rfl<|qab rfl rfl ?_
        refine qab rfl rfl<|qab rfl rfl<|qab rfl rfl<|qab rfl rfl<|qa1 hτ rfl rfl rfl ?_
        refine qa5 ?_
        refine qaa (qa3 [0] (l:=[(0,.ptr 0 0),(1,.d (.int .i64 bus_)),(2,.d (.sl false (closed_.map qa6))),(13,.d (.sl false (closed_.map qa6))),(14,.d (.int .i64 (closed_.length:Int))),(15,.d (.int .i64 v46)),(65,.d (.bool true))]) (objs:=[.box [.d (.cx .f32 g_.qa0.Source.A.re g_.qa0.Source.A.im),.d (.cx .f32 g_.qa0.Source.B.re g_.qa0.Source.B.im),.d (.cx .f32 g_.qa0.Source.C.re g_.qa0.Source.C.im),.d (.sl false (g_.qa0.qa7.map qac)),.d (.sl false (g_.Ties.map qam))]]) rfl (by simp) rfl (by trivial) ⟨rfl,trivial,rfl,trivial,rfl,trivial,rfl,trivial,rfl,trivial,rfl,trivial,rfl,trivial,trivial⟩) ?_
        exact hk93 true h
       ·have h:=if_f h hb102
        refine qa1 hτ rfl rfl rfl ?_
        refine qb3 (qa3 [0] (l:=[(0,.ptr 0 0),(1,.d (.int .i64 bus_)),(2,.d (.sl false (closed_.map qa6))),(8,.d (.int .i64 x78)),(13,.d (.sl false (closed_.map qa6))),(14,.d (.int .i64 (closed_.length:Int))),(15,.d (.int .i64 v46)),(54,.d (.bool false)),(55,.ptr 0 0)]) (objs:=[.box [.d (.cx .f32 g_.qa0.Source.A.re g_.qa0.Source.A.im),.d (.cx .f32 g_.qa0.Source.B.re g_.qa0.Source.B.im),.d (.cx .f32 g_.qa0.Source.C.re g_.qa0.Source.C.im),.d (.sl false (g_.qa0.qa7.map qac)),.d (.sl false (g_.Ties.map qam))]]) rfl (by simp) rfl (by trivial) ⟨rfl,trivial,rfl,trivial,rfl,trivial,rfl,trivial,rfl,trivial,rfl,trivial,rfl,trivial,rfl,trivial,rfl,trivial,trivial⟩) ?_
        refine qa1 hτ rfl rfl rfl<|qa1 hτ rfl rfl rfl<|qa1 hτ rfl rfl rfl<|qa1 hτ rfl rfl rfl ?_
        refine qce hτ rfl rfl rfl (qb8 hx101).1 (qbm hx101) rfl ?_
        refine qa1 hτ rfl rfl rfl<|qa1 hτ rfl rfl rfl<|qa1 hτ rfl rfl rfl ?_
        refine qa1 hτ (v:=.d (.bool (decide (x101.B = bus_)))) rfl rfl (qeq _ _) ?_
        refine qa1 hτ rfl rfl rfl<|qa5 ?_
        refine qaa (qa3 [0] (l:=[(0,.ptr 0 0),(1,.d (.int .i64 bus_)),(2,.d (.sl false (closed_.map qa6))),(13,.d (.sl false (closed_.map qa6))),(14,.d (.int .i64 (closed_.length:Int))),(15,.d (.int .i64 v46)),(65,.d (.bool (decide (x101.B = bus_))))]) (objs:=[.box [.d (.cx .f32 g_.qa0.Source.A.re g_.qa0.Source.A.im),.d (.cx .f32 g_.qa0.Source.B.re g_.qa0.Source.B.im),.d (.cx .f32 g_.qa0.Source.C.re g_.qa0.Source.C.im),.d (.sl false (g_.qa0.qa7.map qac)),.d (.sl false (g_.Ties.map qam))]]) rfl (by simp) rfl (by trivial) ⟨rfl,trivial,rfl,trivial,rfl,trivial,rfl,trivial,rfl,trivial,rfl,trivial,rfl,trivial,trivial⟩) ?_
        exact hk93 (decide (x101.B = bus_)) h
  ·have h:=if_f h hc63
   refine qd3<|qa8<|qa2<|qa1 hτ rfl rfl rfl<|qa5 ?_
   refine qaa (qa3 [0] (l:=[(6,.d (.bool true))]) (objs:=[.box [.d (.cx .f32 g_.qa0.Source.A.re g_.qa0.Source.A.im),.d (.cx .f32 g_.qa0.Source.B.re g_.qa0.Source.B.im),.d (.cx .f32 g_.qa0.Source.C.re g_.qa0.Source.C.im),.d (.sl false (g_.qa0.qa7.map qac)),.d (.sl false (g_.Ties.map qam))]]) rfl (by simp) rfl (by trivial) ⟨rfl,trivial,trivial⟩) ?_
   refine qap ?_
   have hr:=Option.some.inj h
   subst hr
   exact qah (.inr rfl) [] (objs':=[.box [.d (.cx .f32 g_.qa0.Source.A.re g_.qa0.Source.A.im),.d (.cx .f32 g_.qa0.Source.B.re g_.qa0.Source.B.im),.d (.cx .f32 g_.qa0.Source.C.re g_.qa0.Source.C.im),.d (.sl false (g_.qa0.qa7.map qac)),.d (.sl false (g_.Ties.map qam))]]) (new:=[]) rfl (by simp) (by simp) rfl (by trivial) rfl rfl (by trivial) (fun h=>nomatch h) ⟨rfl,rfl,rfl⟩
def qdd (n:Nat) (g_:qbk) (bus_:Int) (closed_:List Int):Nat→Int→Option Bool
 | 0,_=>none
 | m25 + 1,v18 =>
  if v18 < (closed_.length:Int) then
   (getI closed_ v18).bind fun x33 =>
   grd (0 ≤ (0:Int)∧(0:Int) ≤ v18∧v18 ≤ (closed_.length:Int)) <|
   (getI g_.Ties x33).bind fun x35 =>
   (qdp n g_ bus_ (sub closed_ (0:Int) v18) x35.A).bind fun x36 =>
   grd (0 ≤ x35.B) <|
   if (qcu .and .u64 (x36.fdiv (2 ^ min x35.B.toNat (IntKind.bits .u64))) (1:Int)) = (1:Int) then
    some true
   else
    (qdd n g_ bus_ closed_ m25) (w64 (v18 + (1:Int)))
  else
   some false
def qj1 (n:Nat) (g_:qbk) (bus_:Int) (closed_:List Int):Option Bool :=
 qdd n g_ bus_ closed_ n (0:Int)
theorem impl_Grid_loops_ok (n:Nat) (g_:qbk) (bus_:Int) (closed_:List Int) {r:Bool} (h:qj1 n g_ bus_ closed_ = some r):qb1 prog false 69 [.ptr 0 0,.d (.int .i64 bus_),.d (.sl false (closed_.map qa6))] [.box [.d (.cx .f32 g_.qa0.Source.A.re g_.qa0.Source.A.im),.d (.cx .f32 g_.qa0.Source.B.re g_.qa0.Source.B.im),.d (.cx .f32 g_.qa0.Source.C.re g_.qa0.Source.C.im),.d (.sl false (g_.qa0.qa7.map qac)),.d (.sl false (g_.Ties.map qam))]] (fun v o new=>v = .d (.bool r)∧o = [.box [.d (.cx .f32 g_.qa0.Source.A.re g_.qa0.Source.A.im),.d (.cx .f32 g_.qa0.Source.B.re g_.qa0.Source.B.im),.d (.cx .f32 g_.qa0.Source.C.re g_.qa0.Source.C.im),.d (.sl false (g_.qa0.qa7.map qac)),.d (.sl false (g_.Ties.map qam))]]∧new = []):=by
 refine qak hτ func69 rfl (by simp) (by simp) ?_
 unfold qj1 at h
 refine qa8<|qa2<|qa1 hτ rfl rfl rfl<|qa5<|qa8 ?_
 refine qa8<|qa2<|qa1 hτ rfl rfl rfl ?_
 refine qa1 hτ (v:=.d (.int .i64 (closed_.length:Int))) rfl rfl (Eq.trans rfl (qei (f:=qa6) closed_)) ?_
 refine qa1 hτ rfl rfl rfl<|qa5<|qay ?_
 refine qde (ι:=Nat × Int) (fun (m25,v18)=>St.of [(0,.ptr 0 0),(1,.d (.int .i64 bus_)),(2,.d (.sl false (closed_.map qa6))),(9,.d (.sl false (closed_.map qa6))),(10,.d (.int .i64 (closed_.length:Int))),(11,.d (.int .i64 v18))] [.box [.d (.cx .f32 g_.qa0.Source.A.re g_.qa0.Source.A.im),.d (.cx .f32 g_.qa0.Source.B.re g_.qa0.Source.B.im),.d (.cx .f32 g_.qa0.Source.C.re g_.qa0.Source.C.im),.d (.sl false (g_.qa0.qa7.map qac)),.d (.sl false (g_.Ties.map qam))]] f69.ntmps 1) (fun (m25,v18)=>qdd n g_ bus_ closed_ m25 v18 = some r) (fun x=>x.1) (n,(0:Int)) h (qa3 [0] (l:=[(0,.ptr 0 0),(1,.d (.int .i64 bus_)),(2,.d (.sl false (closed_.map qa6))),(9,.d (.sl false (closed_.map qa6))),(10,.d (.int .i64 (closed_.length:Int))),(11,.d (.int .i64 (0:Int)))]) (objs:=[.box [.d (.cx .f32 g_.qa0.Source.A.re g_.qa0.Source.A.im),.d (.cx .f32 g_.qa0.Source.B.re g_.qa0.Source.B.im),.d (.cx .f32 g_.qa0.Source.C.re g_.qa0.Source.C.im),.d (.sl false (g_.qa0.qa7.map qac)),.d (.sl false (g_.Ties.map qam))]]) rfl (by simp) rfl (by trivial) ⟨rfl,trivial,rfl,trivial,rfl,trivial,rfl,trivial,rfl,trivial,rfl,trivial,trivial⟩) ?_
 rintro ⟨m25,v18⟩ h
 replace h:qdd n g_ bus_ closed_ m25 v18 = some r:=h
 rcases m25 with _ | m25
 ·rw [qdd] at h;cases h
 rw [qdd] at h
 refine qa8<|qa2<|qa1 hτ rfl rfl rfl<|qa5<|qa8 ?_
 refine qaq rfl (fun hc27=>?_) (fun hc27=>?_)
 ·have h:=if_t h hc27
  refine qat<|qa8<|qay<|qa8<|qa2 ?_
  refine qa1 hτ rfl rfl rfl ?_
  refine qaf h fun x33 hx33 h=>?_
  refine qce hτ rfl rfl rfl (qb8 hx33).1 (qbm hx33) rfl ?_
  refine qa1 hτ rfl rfl rfl<|qa1 hτ rfl rfl rfl<|qa1 hτ rfl rfl rfl<|qa5<|qa8 ?_
  refine qaa (qa3 [0] (l:=[(0,.ptr 0 0),(1,.d (.int .i64 bus_)),(2,.d (.sl false (closed_.map qa6))),(7,.d (.int .i64 v18)),(8,.d (.int .i64 x33)),(9,.d (.sl false (closed_.map qa6))),(10,.d (.int .i64 (closed_.length:Int))),(11,.d (.int .i64 v18))]) (objs:=[.box [.d (.cx .f32 g_.qa0.Source.A.re g_.qa0.Source.A.im),.d (.cx .f32 g_.qa0.Source.B.re g_.qa0.Source.B.im),.d (.cx .f32 g_.qa0.Source.C.re g_.qa0.Source.C.im),.d (.sl false (g_.qa0.qa7.map qac)),.d (.sl false (g_.Ties.map qam))]]) rfl (by simp) rfl (by trivial) ⟨rfl,trivial,rfl,trivial,rfl,trivial,rfl,trivial,rfl,trivial,rfl,trivial,rfl,trivial,rfl,trivial,trivial⟩) ?_
  refine qd5 ?_
  refine qa4 hτ [] 0 rfl rfl rfl rfl rfl ?_
  refine qa4 hτ [] 1 rfl rfl rfl rfl rfl ?_
  refine qa4 hτ [] 2 rfl rfl rfl rfl rfl ?_
  refine qa4 hτ [] 3 rfl rfl rfl rfl rfl ?_
  refine qci h fun hg34 h=>?_
  refine qca hτ (v:=.d (.sl false ((sub closed_ (0:Int) v18).map qa6))) [] 4 rfl rfl rfl rfl (Eq.trans rfl (or_dsub (f:=qa6) closed_ (0:Int) v18)) (dsub_need (f:=qa6) (fun _=>rfl) hg34) ?_
  refine qa4 hτ [] 5 rfl rfl rfl rfl rfl ?_
  refine qa4 hτ [] 6 rfl rfl rfl rfl rfl ?_
  refine qa4 hτ [0] 7 rfl rfl rfl rfl rfl ?_
  refine qa4 hτ [0] 8 rfl rfl rfl rfl rfl ?_
  refine qa4 hτ [] 9 rfl rfl rfl rfl rfl ?_
  refine qaf h fun x35 hx35 h=>?_
  refine qbx hτ [] 10 rfl rfl rfl rfl rfl (qb8 hx35).1 (qbm hx35) rfl ?_
  refine qa4 hτ [] 11 rfl rfl rfl rfl rfl ?_
  refine qa4 hτ [] 12 rfl rfl rfl rfl rfl ?_
  refine qa4 hτ [] 14 rfl rfl rfl rfl rfl ?_
  refine qa4 hτ [] 15 rfl rfl rfl rfl rfl ?_
  refine qa4 hτ [0] 16 rfl rfl rfl rfl rfl ?_
  refine qa4 hτ [0] 17 rfl rfl rfl rfl rfl ?_
  refine qa4 hτ [] 18 rfl rfl rfl rfl rfl ?_
  refine qbx hτ [] 19 rfl rfl rfl rfl rfl (qb8 hx35).1 (qbm hx35) rfl ?_
  refine qa4 hτ [] 20 rfl rfl rfl rfl rfl ?_
  refine qa4 hτ [] 21 rfl rfl rfl rfl rfl ?_
  refine qaf h fun x36 hx36 h=>?_
  refine qcf hτ false [0] [0] 13 rfl rfl rfl rfl (qaj func34 rfl rfl) rfl rfl (by simp) ⟨trivial,trivial,trivial,trivial,trivial⟩ (by trivial) (qhn n g_ bus_ (sub closed_ (0:Int) v18) x35.A hx36) ⟨rfl,trivial⟩ ?_
  refine qci h fun hg37 h=>?_
  refine qca hτ [] 22 rfl rfl rfl rfl rfl hg37 ?_
  refine qa4 hτ [] 23 rfl rfl rfl rfl rfl ?_
  refine qa4 hτ (v:=.d (.bool (decide ((qcu .and .u64 (x36.fdiv (2 ^ min x35.B.toNat (IntKind.bits .u64))) (1:Int)) = (1:Int))))) [] 24 rfl rfl rfl rfl (qeq _ _) ?_
  refine qbo mixed (by kernel_rfl) ?_
  refine qaa (qa3 [0] (l:=[(0,.ptr 0 0),(1,.d (.int .i64 bus_)),(2,.d (.sl false (closed_.map qa6))),(9,.d (.sl false (closed_.map qa6))),(10,.d (.int .i64 (closed_.length:Int))),(11,.d (.int .i64 v18)),(40,.d (.bool (decide ((qcu .and .u64 (x36.fdiv (2 ^ min x35.B.toNat (IntKind.bits .u64))) (1:Int)) = (1:Int)))))]) (objs:=[.box [.d (.cx .f32 g_.qa0.Source.A.re g_.qa0.Source.A.im),.d (.cx .f32 g_.qa0.Source.B.re g_.qa0.Source.B.im),.d (.cx .f32 g_.qa0.Source.C.re g_.qa0.Source.C.im),.d (.sl false (g_.qa0.qa7.map qac)),.d (.sl false (g_.Ties.map qam))]]) rfl (by simp) rfl (by trivial) ⟨rfl,trivial,rfl,trivial,rfl,trivial,rfl,trivial,rfl,trivial,rfl,trivial,rfl,trivial,trivial⟩) ?_
  refine qaq rfl (fun hc38=>?_) (fun hc38=>?_)
  ·have h:=if_t h hc38
   refine qa8<|qa2<|qa1 hτ rfl rfl rfl<|qa5 ?_
   refine qaa (qa3 [0] (l:=[(6,.d (.bool true))]) (objs:=[.box [.d (.cx .f32 g_.qa0.Source.A.re g_.qa0.Source.A.im),.d (.cx .f32 g_.qa0.Source.B.re g_.qa0.Source.B.im),.d (.cx .f32 g_.qa0.Source.C.re g_.qa0.Source.C.im),.d (.sl false (g_.qa0.qa7.map qac)),.d (.sl false (g_.Ties.map qam))]]) rfl (by simp) rfl (by trivial) ⟨rfl,trivial,trivial⟩) ?_
   refine qap ?_
   have hr:=Option.some.inj h
   subst hr
   exact qah (.inr rfl) [] (objs':=[.box [.d (.cx .f32 g_.qa0.Source.A.re g_.qa0.Source.A.im),.d (.cx .f32 g_.qa0.Source.B.re g_.qa0.Source.B.im),.d (.cx .f32 g_.qa0.Source.C.re g_.qa0.Source.C.im),.d (.sl false (g_.qa0.qa7.map qac)),.d (.sl false (g_.Ties.map qam))]]) (new:=[]) rfl (by simp) (by simp) rfl (by trivial) rfl rfl (by trivial) (fun h=>nomatch h) ⟨rfl,rfl,rfl⟩
  ·have h:=if_f h hc38
   refine qat<|qa2<|qa1 hτ rfl rfl rfl<|qa1 hτ rfl rfl rfl<|qa5 ?_
   exact ⟨(m25,(w64 (v18 + (1:Int)))),h,Nat.lt_succ_self m25,(qa3 [0] (l:=[(0,.ptr 0 0),(1,.d (.int .i64 bus_)),(2,.d (.sl false (closed_.map qa6))),(9,.d (.sl false (closed_.map qa6))),(10,.d (.int .i64 (closed_.length:Int))),(11,.d (.int .i64 (w64 (v18 + (1:Int)))))]) (objs:=[.box [.d (.cx .f32 g_.qa0.Source.A.re g_.qa0.Source.A.im),.d (.cx .f32 g_.qa0.Source.B.re g_.qa0.Source.B.im),.d (.cx .f32 g_.qa0.Source.C.re g_.qa0.Source.C.im),.d (.sl false (g_.qa0.qa7.map qac)),.d (.sl false (g_.Ties.map qam))]]) rfl (by simp) rfl (by trivial) ⟨rfl,trivial,rfl,trivial,rfl,trivial,rfl,trivial,rfl,trivial,rfl,trivial,trivial⟩)⟩
 ·have h:=if_f h hc27
  refine qd3<|qa8<|qa2<|qa1 hτ rfl rfl rfl<|qa5 ?_
  refine qaa (qa3 [0] (l:=[(6,.d (.bool false))]) (objs:=[.box [.d (.cx .f32 g_.qa0.Source.A.re g_.qa0.Source.A.im),.d (.cx .f32 g_.qa0.Source.B.re g_.qa0.Source.B.im),.d (.cx .f32 g_.qa0.Source.C.re g_.qa0.Source.C.im),.d (.sl false (g_.qa0.qa7.map qac)),.d (.sl false (g_.Ties.map qam))]]) rfl (by simp) rfl (by trivial) ⟨rfl,trivial,trivial⟩) ?_
  refine qap ?_
  have hr:=Option.some.inj h
  subst hr
  exact qah (.inr rfl) [] (objs':=[.box [.d (.cx .f32 g_.qa0.Source.A.re g_.qa0.Source.A.im),.d (.cx .f32 g_.qa0.Source.B.re g_.qa0.Source.B.im),.d (.cx .f32 g_.qa0.Source.C.re g_.qa0.Source.C.im),.d (.sl false (g_.qa0.qa7.map qac)),.d (.sl false (g_.Ties.map qam))]]) (new:=[]) rfl (by simp) (by simp) rfl (by trivial) rfl rfl (by trivial) (fun h=>nomatch h) ⟨rfl,rfl,rfl⟩
def qji (n:Nat) (s_:List Int):Option (List Int) :=
 grd (room (([]:List Int).length + s_.length) 8) <|
 some (([]:List Int) ++ s_)
theorem slices_Clone_ok_fr0 (fr:Bool) (n:Nat) (s_:List Int) {r:List Int} (h:qji n s_ = some r):qb1 prog fr 84 [.d (.sl false (s_.map qa6))] [] (fun v o new=>v = .row 0 r.length 0 r.length∧o = []∧new = [.row 1 (r.map qa6)]):=by
 refine qak hτ func84 rfl (by simp) (by simp) ?_
 unfold qji at h
 refine qa8<|qa2<|qa1 hτ rfl rfl rfl<|qa5<|qa8 ?_
 refine qa8<|qa2<|qa1 hτ rfl rfl rfl ?_
 refine qsv rfl rfl (qwf hτ rfl rfl rfl rfl rfl) fun q4 hq4=>?_
 refine qa5 ?_
 refine qaq rfl (fun hc5=>?_) (fun hc5=>?_)
 ·have hl:=List.map_eq_nil_iff.1 (hq4 (by simpa using hc5))
  subst hl
  replace h:(some ([]:List Int)) = some r:=by simpa [grd,room] using h
  refine qa8<|qa2<|qa1 hτ rfl rfl rfl<|qa5 ?_
  refine qaa (qa3 [] (l:=[(2,.d (.nils))]) (objs:=[]) rfl (by simp) rfl (by trivial) ⟨rfl,trivial,trivial⟩) ?_
  refine qaa (qjc [1] (l':=[(2,.row 0 (([]:List Int).length) 0 (([]:List Int).length))]) (objs':=[]) (.cons (.c (.ghost ⟨Nat.le_of_ble_eq_true rfl,Nat.le_of_ble_eq_true rfl⟩)) .nil) .nil) ?_
  refine qap ?_
  have hr:=Option.some.inj h
  subst hr
  exact qah (.inr rfl) [0] (objs':=[]) (new:=[.row 1 (([]:List Int).map qa6)]) rfl (by simp) (by simp) rfl (by trivial) rfl rfl (by trivial) (fun _=>⟨by simp [V.flat,V.qbg,V.qbb,D.flat],(qc8 (qgt qff _) qan)⟩) ⟨rfl,rfl,rfl⟩
 ·refine qat<|qa8<|qa2<|qal hτ rfl rfl rfl<|qa1 hτ rfl rfl rfl ?_
  refine qci h fun hg6 h=>?_
  refine qi7 hτ rfl rfl (Eq.trans rfl (or_append (f:=qa6) ([]:List Int) s_ rfl)) ⟨trivial,qb4 _,rfl,rfl,(qv1 (f:=qa6) hg6),by decide,(qo9 (f:=qa6) (fun _=>rfl) _)⟩ ?_
  refine qa1 hτ rfl rfl rfl<|qa5 ?_
  refine qaa (qa3 [0] (l:=[(2,.row 0 ((([]:List Int) ++ s_).length) 0 ((([]:List Int) ++ s_).length))]) (objs:=[.row 1 ((([]:List Int) ++ s_).map qa6)]) rfl (by simp) rfl (by trivial) ⟨rfl,trivial,trivial⟩) ?_
  refine qap ?_
  have hr:=Option.some.inj h
  subst hr
  exact qah (.inr rfl) [0] (objs':=[]) (new:=[.row 1 ((([]:List Int) ++ s_).map qa6)]) rfl (by simp) (by simp) rfl (by trivial) rfl rfl (by trivial) (fun _=>⟨by simp [V.flat,V.qbg,V.qbb,D.flat],(qc8 (qgt qff _) qan)⟩) ⟨rfl,rfl,rfl⟩
theorem slices_Clone_ok (n:Nat) (s_:List Int) {r:List Int} (h:qji n s_ = some r):qb1 prog false 84 [.d (.sl false (s_.map qa6))] [] (fun v o new=>v = .row 0 r.length 0 r.length∧o = []∧new = [.row 1 (r.map qa6)]):=slices_Clone_ok_fr0 false n s_ h
def qlo (n:Nat) (l:List Int) (i j:Int):Option (List Int):=qs7 l i j
theorem slices_Delete_ok (n:Nat) (l:List Int) (i j:Int) {r:List Int} (h:qlo n l i j = some r):qb1 prog false 83 [.row 0 l.length 0 l.length,.d (.int .i64 i),.d (.int .i64 j)] [.row 1 (l.map qa6)] (fun v o new=>v = .row 0 l.length 0 (l.length - (j.toNat - i.toNat))∧o = [.row 1 (r.map qa6)]∧new = []):=delete_does (fun _=>rfl) h
def qd7 (n:Nat) (g_:qbk) (bus_:Int) (closed_:List Int) (x20:Int):Nat→List Int→Int→Option (List Int)
 | 0,_,_=>none
 | m39 + 1,v28,v29 =>
  if v29 < (closed_.length:Int) then
   (qji n closed_).bind fun x42 =>
   (qlo n x42 v29 (w64 (v29 + (1:Int)))).bind fun x43 =>
   grd (x43.length = x42.length) <|
   (qdp n g_ bus_ (((x43).drop 0).take (x42.length - ((w64 (v29 + (1:Int))).toNat - v29.toNat))) (0:Int)).bind fun x45 =>
   (qg9 n (qcu .andNot .u64 x20 x45)).bind fun x46 =>
   (qdz n g_ x46).bind fun x47 =>
   grd (room (v28.length + 1) 8) <|
   (qd7 n g_ bus_ closed_ x20 m39) (v28 ++ [x47]) (w64 (v29 + (1:Int)))
  else
   some v28
def qh1 (n:Nat) (g_:qbk) (bus_:Int) (closed_:List Int):Option (List Int) :=
 (qdp n g_ bus_ closed_ (0:Int)).bind fun x20 =>
 qd7 n g_ bus_ closed_ x20 n ([]:List Int) (0:Int)
theorem impl_Grid_behind_ok (n:Nat) (g_:qbk) (bus_:Int) (closed_:List Int) {r:List Int} (h:qh1 n g_ bus_ closed_ = some r):qb1 prog false 70 [.ptr 0 0,.d (.int .i64 bus_),.d (.sl false (closed_.map qa6))] [.box [.d (.cx .f32 g_.qa0.Source.A.re g_.qa0.Source.A.im),.d (.cx .f32 g_.qa0.Source.B.re g_.qa0.Source.B.im),.d (.cx .f32 g_.qa0.Source.C.re g_.qa0.Source.C.im),.d (.sl false (g_.qa0.qa7.map qac)),.d (.sl false (g_.Ties.map qam))]] (fun v o new=>v = .row 1 r.length 0 r.length∧o = [.box [.d (.cx .f32 g_.qa0.Source.A.re g_.qa0.Source.A.im),.d (.cx .f32 g_.qa0.Source.B.re g_.qa0.Source.B.im),.d (.cx .f32 g_.qa0.Source.C.re g_.qa0.Source.C.im),.d (.sl false (g_.qa0.qa7.map qac)),.d (.sl false (g_.Ties.map qam))]]∧new = [.row 1 (r.map qa6)]):=by
 refine qak hτ func70 rfl (by simp) (by simp) ?_
 unfold qh1 at h
 refine qa8<|qa2<|qa1 hτ rfl rfl rfl<|qa5<|qa8 ?_
 refine qa2<|qal hτ rfl rfl rfl<|qa1 hτ rfl rfl rfl<|qa1 hτ rfl rfl rfl<|qa1 hτ rfl rfl rfl ?_
 refine qaf h fun x20 hx20 h=>?_
 refine qae hτ false [0] rfl rfl rfl (qaj func34 rfl rfl) rfl rfl (by simp) ⟨trivial,trivial,trivial,trivial,trivial⟩ (by trivial) (qhn n g_ bus_ closed_ (0:Int) hx20) ?_
 rintro r0 o0 n0 ⟨rfl,rfl,rfl⟩ -
 refine qa1 hτ rfl rfl rfl<|qa1 hτ rfl rfl rfl<|qa5<|qa8<|qa8 ?_
 refine qaa (qa3 [0,1] (l:=[(0,.ptr 0 0),(1,.d (.int .i64 bus_)),(2,.d (.sl false (closed_.map qa6))),(7,.row 1 (([]:List Int).length) 0 (([]:List Int).length)),(8,.d (.int .u64 x20))]) (objs:=[.box [.d (.cx .f32 g_.qa0.Source.A.re g_.qa0.Source.A.im),.d (.cx .f32 g_.qa0.Source.B.re g_.qa0.Source.B.im),.d (.cx .f32 g_.qa0.Source.C.re g_.qa0.Source.C.im),.d (.sl false (g_.qa0.qa7.map qac)),.d (.sl false (g_.Ties.map qam))],.row 1 (([]:List Int).map qa6)]) rfl (by simp) rfl (by trivial) ⟨rfl,trivial,rfl,trivial,rfl,trivial,rfl,trivial,rfl,trivial,trivial⟩) ?_
 refine qa2<|qa1 hτ rfl rfl rfl ?_
 refine qa1 hτ (v:=.d (.int .i64 (closed_.length:Int))) rfl rfl (Eq.trans rfl (qei (f:=qa6) closed_)) ?_
 refine qa1 hτ rfl rfl rfl<|qa5<|qay ?_
 refine qde (ι:=Nat × List Int × Int) (fun (m39,v28,v29)=>St.of [(0,.ptr 0 0),(1,.d (.int .i64 bus_)),(2,.d (.sl false (closed_.map qa6))),(7,.row 1 v28.length 0 v28.length),(8,.d (.int .u64 x20)),(17,.d (.int .i64 (closed_.length:Int))),(18,.d (.int .i64 v29))] [.box [.d (.cx .f32 g_.qa0.Source.A.re g_.qa0.Source.A.im),.d (.cx .f32 g_.qa0.Source.B.re g_.qa0.Source.B.im),.d (.cx .f32 g_.qa0.Source.C.re g_.qa0.Source.C.im),.d (.sl false (g_.qa0.qa7.map qac)),.d (.sl false (g_.Ties.map qam))],.row 1 (v28.map qa6)] f70.ntmps 1) (fun (m39,v28,v29)=>qd7 n g_ bus_ closed_ x20 m39 v28 v29 = some r) (fun x=>x.1) (n,([]:List Int),(0:Int)) h (qa3 [0,1] (l:=[(0,.ptr 0 0),(1,.d (.int .i64 bus_)),(2,.d (.sl false (closed_.map qa6))),(7,.row 1 (([]:List Int).length) 0 (([]:List Int).length)),(8,.d (.int .u64 x20)),(17,.d (.int .i64 (closed_.length:Int))),(18,.d (.int .i64 (0:Int)))]) (objs:=[.box [.d (.cx .f32 g_.qa0.Source.A.re g_.qa0.Source.A.im),.d (.cx .f32 g_.qa0.Source.B.re g_.qa0.Source.B.im),.d (.cx .f32 g_.qa0.Source.C.re g_.qa0.Source.C.im),.d (.sl false (g_.qa0.qa7.map qac)),.d (.sl false (g_.Ties.map qam))],.row 1 (([]:List Int).map qa6)]) rfl (by simp) rfl (by trivial) ⟨rfl,trivial,rfl,trivial,rfl,trivial,rfl,trivial,rfl,trivial,rfl,trivial,rfl,trivial,trivial⟩) ?_
 rintro ⟨m39,v28,v29⟩ h
 replace h:qd7 n g_ bus_ closed_ x20 m39 v28 v29 = some r:=h
 rcases m39 with _ | m39
 ·rw [qd7] at h;cases h
 rw [qd7] at h
 refine qa8<|qa2<|qa1 hτ rfl rfl rfl<|qa5<|qa8 ?_
 refine qaq rfl (fun hc41=>?_) (fun hc41=>?_)
 ·have h:=if_t h hc41
  refine qat<|qa8<|qay<|qa8<|qa2 ?_
  refine qa1 hτ rfl rfl rfl<|qa1 hτ rfl rfl rfl<|qa5<|qa8<|qa2 ?_
  refine qa1 hτ rfl rfl rfl ?_
  refine qaf h fun x42 hx42 h=>?_
  refine qae hτ false [] rfl rfl rfl (qaj func84 rfl rfl) rfl rfl (by simp) ⟨trivial,trivial⟩ (by trivial) (slices_Clone_ok n closed_ hx42) ?_
  rintro r0 o0 n0 ⟨rfl,rfl,rfl⟩ -
  refine qa1 hτ rfl rfl rfl<|qa1 hτ rfl rfl rfl<|qa1 hτ rfl rfl rfl ?_
  refine qaf h fun x43 hx43 h=>?_
  refine qae hτ false [2] rfl rfl rfl (qaj func83 rfl rfl) rfl rfl (by simp) ⟨trivial,trivial,trivial,trivial⟩ (by trivial) (slices_Delete_ok n x42 v29 (w64 (v29 + (1:Int))) hx43) ?_
  rintro r0 o0 n0 ⟨rfl,rfl,rfl⟩ -
  refine qci h fun hg44 h=>?_
  refine qa1 hτ rfl rfl rfl<|qa5 ?_
  refine qaa (qa3 [0,1,2] (l:=[(0,.ptr 0 0),(1,.d (.int .i64 bus_)),(2,.d (.sl false (closed_.map qa6))),(7,.row 1 v28.length 0 v28.length),(8,.d (.int .u64 x20)),(10,.row 2 x42.length 0 (x42.length - ((w64 (v29 + (1:Int))).toNat - v29.toNat))),(17,.d (.int .i64 (closed_.length:Int))),(18,.d (.int .i64 v29))]) (objs:=[.box [.d (.cx .f32 g_.qa0.Source.A.re g_.qa0.Source.A.im),.d (.cx .f32 g_.qa0.Source.B.re g_.qa0.Source.B.im),.d (.cx .f32 g_.qa0.Source.C.re g_.qa0.Source.C.im),.d (.sl false (g_.qa0.qa7.map qac)),.d (.sl false (g_.Ties.map qam))],.row 1 (v28.map qa6),.row 1 (x43.map qa6)]) rfl (by simp) rfl (by trivial) ⟨rfl,trivial,rfl,trivial,rfl,trivial,rfl,trivial,rfl,trivial,rfl,trivial,rfl,trivial,rfl,trivial,trivial⟩) ?_
  refine qaa (qa3 [0,1] (l:=[(0,.ptr 0 0),(1,.d (.int .i64 bus_)),(2,.d (.sl false (closed_.map qa6))),(7,.row 1 v28.length 0 v28.length),(8,.d (.int .u64 x20)),(10,.d (.sl false ((((x43).drop 0).take (x42.length - ((w64 (v29 + (1:Int))).toNat - v29.toNat))).map qa6))),(17,.d (.int .i64 (closed_.length:Int))),(18,.d (.int .i64 v29))]) (objs:=[.box [.d (.cx .f32 g_.qa0.Source.A.re g_.qa0.Source.A.im),.d (.cx .f32 g_.qa0.Source.B.re g_.qa0.Source.B.im),.d (.cx .f32 g_.qa0.Source.C.re g_.qa0.Source.C.im),.d (.sl false (g_.qa0.qa7.map qac)),.d (.sl false (g_.Ties.map qam))],.row 1 (v28.map qa6)]) rfl (by simp) rfl (by trivial) ⟨rfl,trivial,rfl,trivial,rfl,trivial,rfl,trivial,rfl,trivial,(qvw (f:=qa6) x43 rfl rfl),(qug (f:=qa6) x43 rfl rfl (by simp [hg44]) (by omega)),rfl,trivial,rfl,trivial,trivial⟩) ?_
  refine qd5 ?_
  refine qa4 hτ [] 0 rfl rfl rfl rfl rfl ?_
  refine qa4 hτ [] 1 rfl rfl rfl rfl rfl ?_
  refine qa4 hτ [] 2 rfl rfl rfl rfl rfl ?_
  refine qa4 hτ [0] 3 rfl rfl rfl rfl rfl ?_
  refine qa4 hτ [] 4 rfl rfl rfl rfl rfl ?_
  refine qa4 hτ [] 5 rfl rfl rfl rfl rfl ?_
  refine qa4 hτ [] 6 rfl rfl rfl rfl rfl ?_
  refine qa4 hτ [] 7 rfl rfl rfl rfl rfl ?_
  refine qaf h fun x45 hx45 h=>?_
  refine qcf hτ false [0] [0,1] 8 rfl rfl rfl rfl (qaj func34 rfl rfl) rfl rfl (by simp) ⟨trivial,trivial,trivial,trivial,trivial⟩ (by trivial) (qhn n g_ bus_ (((x43).drop 0).take (x42.length - ((w64 (v29 + (1:Int))).toNat - v29.toNat))) (0:Int) hx45) ⟨rfl,rfl,trivial⟩ ?_
  refine qa4 hτ [] 9 rfl rfl rfl rfl rfl ?_
  refine qaf h fun x46 hx46 h=>?_
  refine qcf hτ false [] [0,1] 10 rfl rfl rfl rfl (qaj func25 rfl rfl) rfl rfl (by simp) ⟨trivial,trivial⟩ (by trivial) (qki n (qcu .andNot .u64 x20 x45) hx46) ⟨rfl,rfl,trivial⟩ ?_
  refine qaf h fun x47 hx47 h=>?_
  refine qcf hτ false [0,2] [0,1,2] 11 rfl rfl rfl rfl (qaj func43 rfl rfl) rfl rfl (by simp) ⟨trivial,trivial,trivial⟩ (by trivial) (qjd n g_ x46 hx47) ⟨rfl,rfl,rfl,trivial⟩ ?_
  refine qbf hτ [0,1,2] 12 rfl rfl rfl rfl ⟨rfl,rfl,rfl,trivial⟩ ?_
  refine qci h fun hg48 h=>?_
  refine qif hτ [0,2,3] 13 rfl rfl rfl (Eq.trans rfl (or_append (f:=qa6) v28 [x47] rfl)) ⟨⟨rfl,Nat.le_of_ble_eq_true rfl⟩,qb4 _,rfl,rfl,hg48,by decide,(all1 rfl)⟩ ⟨rfl,rfl,rfl,trivial⟩ ?_
  refine qa4 hτ [] 14 rfl rfl rfl rfl rfl ?_
  refine qbo mixed (by kernel_rfl) ?_
  refine qaa (qa3 [0,1] (l:=[(0,.ptr 0 0),(1,.d (.int .i64 bus_)),(2,.d (.sl false (closed_.map qa6))),(7,.row 1 ((v28 ++ [x47]).length) 0 ((v28 ++ [x47]).length)),(8,.d (.int .u64 x20)),(17,.d (.int .i64 (closed_.length:Int))),(18,.d (.int .i64 v29))]) (objs:=[.box [.d (.cx .f32 g_.qa0.Source.A.re g_.qa0.Source.A.im),.d (.cx .f32 g_.qa0.Source.B.re g_.qa0.Source.B.im),.d (.cx .f32 g_.qa0.Source.C.re g_.qa0.Source.C.im),.d (.sl false (g_.qa0.qa7.map qac)),.d (.sl false (g_.Ties.map qam))],.row 1 ((v28 ++ [x47]).map qa6)]) rfl (by simp) rfl (by trivial) ⟨rfl,trivial,rfl,trivial,rfl,trivial,rfl,trivial,rfl,trivial,rfl,trivial,rfl,trivial,trivial⟩) ?_
  refine qa2<|qa1 hτ rfl rfl rfl<|qa1 hτ rfl rfl rfl<|qa5 ?_
  exact ⟨(m39,(v28 ++ [x47]),(w64 (v29 + (1:Int)))),h,Nat.lt_succ_self m39,(qa3 [0,1] (l:=[(0,.ptr 0 0),(1,.d (.int .i64 bus_)),(2,.d (.sl false (closed_.map qa6))),(7,.row 1 ((v28 ++ [x47]).length) 0 ((v28 ++ [x47]).length)),(8,.d (.int .u64 x20)),(17,.d (.int .i64 (closed_.length:Int))),(18,.d (.int .i64 (w64 (v29 + (1:Int)))))]) (objs:=[.box [.d (.cx .f32 g_.qa0.Source.A.re g_.qa0.Source.A.im),.d (.cx .f32 g_.qa0.Source.B.re g_.qa0.Source.B.im),.d (.cx .f32 g_.qa0.Source.C.re g_.qa0.Source.C.im),.d (.sl false (g_.qa0.qa7.map qac)),.d (.sl false (g_.Ties.map qam))],.row 1 ((v28 ++ [x47]).map qa6)]) rfl (by simp) rfl (by trivial) ⟨rfl,trivial,rfl,trivial,rfl,trivial,rfl,trivial,rfl,trivial,rfl,trivial,rfl,trivial,trivial⟩)⟩
 ·have h:=if_f h hc41
  refine qd3<|qa8<|qa2<|qa1 hτ rfl rfl rfl<|qa1 hτ rfl rfl rfl ?_
  refine qa5 ?_
  refine qaa (qa3 [0,1] (l:=[(6,.row 1 v28.length 0 v28.length)]) (objs:=[.box [.d (.cx .f32 g_.qa0.Source.A.re g_.qa0.Source.A.im),.d (.cx .f32 g_.qa0.Source.B.re g_.qa0.Source.B.im),.d (.cx .f32 g_.qa0.Source.C.re g_.qa0.Source.C.im),.d (.sl false (g_.qa0.qa7.map qac)),.d (.sl false (g_.Ties.map qam))],.row 1 (v28.map qa6)]) rfl (by simp) rfl (by trivial) ⟨rfl,trivial,trivial⟩) ?_
  refine qap ?_
  have hr:=Option.some.inj h
  subst hr
  exact qah (.inr rfl) [1] (objs':=[.box [.d (.cx .f32 g_.qa0.Source.A.re g_.qa0.Source.A.im),.d (.cx .f32 g_.qa0.Source.B.re g_.qa0.Source.B.im),.d (.cx .f32 g_.qa0.Source.C.re g_.qa0.Source.C.im),.d (.sl false (g_.qa0.qa7.map qac)),.d (.sl false (g_.Ties.map qam))]]) (new:=[.row 1 (v28.map qa6)]) rfl (by simp) (by simp) rfl (by trivial) rfl rfl (by trivial) (fun h=>nomatch h) ⟨rfl,rfl,rfl⟩
def qg3 (n:Nat) (g_:qbk) (bus_:Int) (closed_:List Int):Option (List Int × Bool) :=
 (qh1 n g_ bus_ closed_).bind fun x10 =>
 some (x10,true)
def qdt (n:Nat) (g_:qbk) (bus_:Int) (closed_:List Int) (v16:Bool):Option (List Int × Bool) :=
 if v16 = true then
  some (([]:List Int),false)
 else
  qg3 n g_ bus_ closed_
def qgd (n:Nat) (g_:qbk) (bus_:Int) (closed_:List Int):Option (List Int × Bool) :=
 (qf1 n g_ bus_ closed_).bind fun x19 =>
 if x19 = true then
  (qj1 n g_ bus_ closed_).bind fun x21 =>
  qdt n g_ bus_ closed_ x21
 else
  qdt n g_ bus_ closed_ true
theorem impl_BehindTies_ok_fr0 (fr:Bool) (n:Nat) (g_:qbk) (bus_:Int) (closed_:List Int) {r:List Int × Bool} (h:qgd n g_ bus_ closed_ = some r):qb1 prog fr 49 [.agg [.d (.cx .f32 g_.qa0.Source.A.re g_.qa0.Source.A.im),.d (.cx .f32 g_.qa0.Source.B.re g_.qa0.Source.B.im),.d (.cx .f32 g_.qa0.Source.C.re g_.qa0.Source.C.im),.d (.sl false (g_.qa0.qa7.map qac)),.d (.sl false (g_.Ties.map qam))],.d (.int .i64 bus_),.d (.sl false (closed_.map qa6))] [] (fun v o new=>v = .tup [.row 0 r.1.length 0 r.1.length,.d (.bool r.2)]∧o = []∧new = [.row 1 (r.1.map qa6)]):=by
 refine qak hτ func49 rfl (by simp) (by simp) ?_
 unfold qgd at h
 refine qa8<|qa2<|qal hτ rfl rfl rfl<|qa1 hτ rfl rfl rfl<|qa1 hτ rfl rfl rfl ?_
 refine qa5 ?_
 refine qby (ι:=Unit) (fun _=>St.of [(1,.d (.int .i64 bus_)),(2,.d (.sl false (closed_.map qa6))),(3,.ptr 0 0)] [.box [.d (.cx .f32 g_.qa0.Source.A.re g_.qa0.Source.A.im),.d (.cx .f32 g_.qa0.Source.B.re g_.qa0.Source.B.im),.d (.cx .f32 g_.qa0.Source.C.re g_.qa0.Source.C.im),.d (.sl false (g_.qa0.qa7.map qac)),.d (.sl false (g_.Ties.map qam))]] f49.ntmps 0) (fun _=>qg3 n g_ bus_ closed_ = some r) ?_ (fun hk11=>?_)
 ·rintro ⟨⟩ h
  replace h:qg3 n g_ bus_ closed_ = some r:=h
  unfold qg3 at h
  refine qa8<|qa2<|qa1 hτ rfl rfl rfl<|qa1 hτ rfl rfl rfl ?_
  refine qaf h fun x10 hx10 h=>?_
  refine qae hτ false [0] rfl rfl rfl (qaj func70 rfl rfl) rfl rfl (by simp) ⟨trivial,trivial,trivial,trivial⟩ (by trivial) (impl_Grid_behind_ok n g_ bus_ closed_ hx10) ?_
  rintro r0 o0 n0 ⟨rfl,rfl,rfl⟩ -
  refine qa1 hτ rfl rfl rfl<|qa1 hτ rfl rfl rfl<|qa5 ?_
  refine qaa (qa3 [1] (l:=[(6,.row 0 x10.length 0 x10.length),(7,.d (.bool true))]) (objs:=[.row 1 (x10.map qa6)]) rfl (by simp) rfl (by trivial) ⟨rfl,trivial,rfl,trivial,trivial⟩) ?_
  refine qap ?_
  have hr:=Option.some.inj h
  subst hr
  exact qah (.inr rfl) [0] (objs':=[]) (new:=[.row 1 (x10.map qa6)]) rfl (by simp) (by simp) rfl (by trivial) rfl rfl (by trivial) (fun _=>⟨by simp [V.flat,V.qbg,V.qbb,D.flat],(qc8 (qgt qff _) qan)⟩) ⟨rfl,rfl,rfl⟩
 ·refine qa8 ?_
  refine qby (ι:=Bool) (fun v16=>St.of [(1,.d (.int .i64 bus_)),(2,.d (.sl false (closed_.map qa6))),(3,.ptr 0 0),(16,.d (.bool v16))] [.box [.d (.cx .f32 g_.qa0.Source.A.re g_.qa0.Source.A.im),.d (.cx .f32 g_.qa0.Source.B.re g_.qa0.Source.B.im),.d (.cx .f32 g_.qa0.Source.C.re g_.qa0.Source.C.im),.d (.sl false (g_.qa0.qa7.map qac)),.d (.sl false (g_.Ties.map qam))]] f49.ntmps 0) (fun v16=>qdt n g_ bus_ closed_ v16 = some r) ?_ (fun hk18=>?_)
  ·rintro v16 h
   replace h:qdt n g_ bus_ closed_ v16 = some r:=h
   unfold qdt at h
   refine qaq rfl (fun hc17=>?_) (fun hc17=>?_)
   ·have h:=qeh h hc17
    refine qa8<|qa2<|qa1 hτ rfl rfl rfl<|qa1 hτ rfl rfl rfl<|qa5 ?_
    refine qaa (qa3 [] (l:=[(6,.d (.nils)),(7,.d (.bool false))]) (objs:=[]) rfl (by simp) rfl (by trivial) ⟨rfl,trivial,rfl,trivial,trivial⟩) ?_
    refine qaa (qjc [1] (l':=[(6,.row 0 (([]:List Int).length) 0 (([]:List Int).length)),(7,.d (.bool false))]) (objs':=[]) (.cons (.c (.ghost ⟨Nat.le_of_ble_eq_true rfl,Nat.le_of_ble_eq_true rfl⟩)) (.cons (.c (.refl _)) .nil)) .nil) ?_
    refine qap ?_
    have hr:=Option.some.inj h
    subst hr
    exact qah (.inr rfl) [0] (objs':=[]) (new:=[.row 1 (([]:List Int).map qa6)]) rfl (by simp) (by simp) rfl (by trivial) rfl rfl (by trivial) (fun _=>⟨by simp [V.flat,V.qbg,V.qbb,D.flat],(qc8 (qgt qff _) qan)⟩) ⟨rfl,rfl,rfl⟩
   ·have h:=qeg h hc17
    refine qat ?_
    refine qaa (qa3 [0] (l:=[(1,.d (.int .i64 bus_)),(2,.d (.sl false (closed_.map qa6))),(3,.ptr 0 0)]) (objs:=[.box [.d (.cx .f32 g_.qa0.Source.A.re g_.qa0.Source.A.im),.d (.cx .f32 g_.qa0.Source.B.re g_.qa0.Source.B.im),.d (.cx .f32 g_.qa0.Source.C.re g_.qa0.Source.C.im),.d (.sl false (g_.qa0.qa7.map qac)),.d (.sl false (g_.Ties.map qam))]]) rfl (by simp) rfl (by trivial) ⟨rfl,trivial,rfl,trivial,rfl,trivial,trivial⟩) ?_
    exact hk11 () h
  ·refine qa8<|qa2<|qa1 hτ rfl rfl rfl<|qa1 hτ rfl rfl rfl ?_
   refine qaf h fun x19 hx19 h=>?_
   refine qae hτ false [0] rfl rfl rfl (qaj func33 rfl rfl) rfl rfl (by simp) ⟨trivial,trivial,trivial,trivial⟩ (by trivial) (qky n g_ bus_ closed_ hx19) ?_
   rintro r0 o0 n0 ⟨rfl,rfl,rfl⟩ -
   refine qa1 hτ rfl rfl rfl<|qa1 hτ rfl rfl rfl ?_
   refine qbq 12 rfl (fun hb20=>?_) (fun hb20=>?_)
   ·have hb20:=qjf hb20
    have h:=qeg h hb20
    refine qab rfl rfl<|qab rfl rfl<|qab rfl rfl<|qa1 hτ rfl rfl rfl<|qa5 ?_
    refine qaa (qa3 [0] (l:=[(1,.d (.int .i64 bus_)),(2,.d (.sl false (closed_.map qa6))),(3,.ptr 0 0),(16,.d (.bool true))]) (objs:=[.box [.d (.cx .f32 g_.qa0.Source.A.re g_.qa0.Source.A.im),.d (.cx .f32 g_.qa0.Source.B.re g_.qa0.Source.B.im),.d (.cx .f32 g_.qa0.Source.C.re g_.qa0.Source.C.im),.d (.sl false (g_.qa0.qa7.map qac)),.d (.sl false (g_.Ties.map qam))]]) rfl (by simp) rfl (by trivial) ⟨rfl,trivial,rfl,trivial,rfl,trivial,rfl,trivial,trivial⟩) ?_
    exact hk18 true h
   ·have hb20:=qje hb20
    have h:=qeh h hb20
    refine qa1 hτ rfl rfl rfl<|qa1 hτ rfl rfl rfl ?_
    refine qaf h fun x21 hx21 h=>?_
    refine qae hτ false [0] rfl rfl rfl (qaj func69 rfl rfl) rfl rfl (by simp) ⟨trivial,trivial,trivial,trivial⟩ (by trivial) (impl_Grid_loops_ok n g_ bus_ closed_ hx21) ?_
    rintro r0 o0 n0 ⟨rfl,rfl,rfl⟩ -
    refine qa1 hτ rfl rfl rfl<|qa5 ?_
    refine qaa (qa3 [0] (l:=[(1,.d (.int .i64 bus_)),(2,.d (.sl false (closed_.map qa6))),(3,.ptr 0 0),(16,.d (.bool x21))]) (objs:=[.box [.d (.cx .f32 g_.qa0.Source.A.re g_.qa0.Source.A.im),.d (.cx .f32 g_.qa0.Source.B.re g_.qa0.Source.B.im),.d (.cx .f32 g_.qa0.Source.C.re g_.qa0.Source.C.im),.d (.sl false (g_.qa0.qa7.map qac)),.d (.sl false (g_.Ties.map qam))]]) rfl (by simp) rfl (by trivial) ⟨rfl,trivial,rfl,trivial,rfl,trivial,rfl,trivial,trivial⟩) ?_
    exact hk18 x21 h
theorem impl_BehindTies_ok (n:Nat) (g_:qbk) (bus_:Int) (closed_:List Int) {r:List Int × Bool} (h:qgd n g_ bus_ closed_ = some r):qb1 prog false 49 [.agg [.d (.cx .f32 g_.qa0.Source.A.re g_.qa0.Source.A.im),.d (.cx .f32 g_.qa0.Source.B.re g_.qa0.Source.B.im),.d (.cx .f32 g_.qa0.Source.C.re g_.qa0.Source.C.im),.d (.sl false (g_.qa0.qa7.map qac)),.d (.sl false (g_.Ties.map qam))],.d (.int .i64 bus_),.d (.sl false (closed_.map qa6))] [] (fun v o new=>v = .tup [.row 0 r.1.length 0 r.1.length,.d (.bool r.2)]∧o = []∧new = [.row 1 (r.1.map qa6)]):=impl_BehindTies_ok_fr0 false n g_ bus_ closed_ h
def qg1 (n:Nat) (k32:Bool→Int→Option Bool) (v23:Int) (v39:Bool):Option Bool :=
 k32 v39 (w64 (v23 + (1:Int)))
def qd2 (n:Nat) (g_:qbk) (closed_:List Int) (x16:List Int × Bool):Nat→Bool→Int→Option Bool
 | 0,_,_=>none
 | m31 + 1,v22,v23 =>
  if v23 < (x16.1.length:Int) then
   (getI x16.1 v23).bind fun x41 =>
   if v22 = true then
    (getI closed_ v23).bind fun x43 =>
    (getI g_.Ties x43).bind fun x44 =>
    qg1 n (qd2 n g_ closed_ x16 m31) v23 (decide (x41 ≤ x44.Most))
   else
    qg1 n (qd2 n g_ closed_ x16 m31) v23 false
  else
   some v22
def qh2 (n:Nat) (g_:qbk) (bus_:Int) (closed_:List Int):Option Bool :=
 (qgd n g_ bus_ closed_).bind fun x16 =>
 qd2 n g_ closed_ x16 n x16.2 (0:Int)
theorem qls (fr:Bool) (n:Nat) (g_:qbk) (bus_:Int) (closed_:List Int) {r:Bool} (h:qh2 n g_ bus_ closed_ = some r):qb1 prog fr 26 [.agg [.d (.cx .f32 g_.qa0.Source.A.re g_.qa0.Source.A.im),.d (.cx .f32 g_.qa0.Source.B.re g_.qa0.Source.B.im),.d (.cx .f32 g_.qa0.Source.C.re g_.qa0.Source.C.im),.d (.sl false (g_.qa0.qa7.map qac)),.d (.sl false (g_.Ties.map qam))],.d (.int .i64 bus_),.d (.sl false (closed_.map qa6))] [] (fun v o new=>v = .d (.bool r)∧o = []∧new = []):=by
 refine qak hτ func26 rfl (by simp) (by simp) ?_
 unfold qh2 at h
 refine qa8<|qa2<|qal hτ rfl rfl rfl<|qa1 hτ rfl rfl rfl<|qa5 ?_
 refine qa8<|qa2<|qa1 hτ rfl rfl rfl<|qa1 hτ rfl rfl rfl<|qa1 hτ rfl rfl rfl ?_
 refine qaf h fun x16 hx16 h=>?_
 refine qae hτ false [] rfl rfl rfl (qaj func49 rfl rfl) rfl rfl (by simp) ⟨(by trivial),trivial,trivial,trivial⟩ (by trivial) (impl_BehindTies_ok n g_ bus_ closed_ hx16) ?_
 rintro r0 o0 n0 ⟨rfl,rfl,rfl⟩ -
 refine qa1 hτ rfl rfl rfl<|qa1 hτ rfl rfl rfl<|qa1 hτ rfl rfl rfl<|qa1 hτ rfl rfl rfl<|qa1 hτ rfl rfl rfl ?_
 refine qa5<|qa8<|qa8 ?_
 refine qaa (qa3 [0,1] (l:=[(2,.d (.sl false (closed_.map qa6))),(3,.ptr 0 0),(7,.row 1 x16.1.length 0 x16.1.length),(8,.d (.bool x16.2))]) (objs:=[.box [.d (.cx .f32 g_.qa0.Source.A.re g_.qa0.Source.A.im),.d (.cx .f32 g_.qa0.Source.B.re g_.qa0.Source.B.im),.d (.cx .f32 g_.qa0.Source.C.re g_.qa0.Source.C.im),.d (.sl false (g_.qa0.qa7.map qac)),.d (.sl false (g_.Ties.map qam))],.row 1 (x16.1.map qa6)]) rfl (by simp) rfl (by trivial) ⟨rfl,trivial,rfl,trivial,rfl,trivial,rfl,trivial,trivial⟩) ?_
 refine qa2<|qa1 hτ rfl rfl rfl ?_
 refine qcg hτ rfl rfl rfl (qb4 _) ?_
 refine qa1 hτ rfl rfl rfl<|qa5<|qay ?_
 refine qde (ι:=Nat × Bool × Int) (fun (m31,v22,v23)=>St.of [(2,.d (.sl false (closed_.map qa6))),(3,.ptr 0 0),(8,.d (.bool v22)),(18,.row 1 x16.1.length 0 x16.1.length),(19,.d (.int .i64 (x16.1.length:Int))),(20,.d (.int .i64 v23))] [.box [.d (.cx .f32 g_.qa0.Source.A.re g_.qa0.Source.A.im),.d (.cx .f32 g_.qa0.Source.B.re g_.qa0.Source.B.im),.d (.cx .f32 g_.qa0.Source.C.re g_.qa0.Source.C.im),.d (.sl false (g_.qa0.qa7.map qac)),.d (.sl false (g_.Ties.map qam))],.row 1 (x16.1.map qa6)] f26.ntmps 0) (fun (m31,v22,v23)=>qd2 n g_ closed_ x16 m31 v22 v23 = some r) (fun x=>x.1) (n,x16.2,(0:Int)) h (qa3 [0,1] (l:=[(2,.d (.sl false (closed_.map qa6))),(3,.ptr 0 0),(8,.d (.bool x16.2)),(18,.row 1 x16.1.length 0 x16.1.length),(19,.d (.int .i64 (x16.1.length:Int))),(20,.d (.int .i64 (0:Int)))]) (objs:=[.box [.d (.cx .f32 g_.qa0.Source.A.re g_.qa0.Source.A.im),.d (.cx .f32 g_.qa0.Source.B.re g_.qa0.Source.B.im),.d (.cx .f32 g_.qa0.Source.C.re g_.qa0.Source.C.im),.d (.sl false (g_.qa0.qa7.map qac)),.d (.sl false (g_.Ties.map qam))],.row 1 (x16.1.map qa6)]) rfl (by simp) rfl (by trivial) ⟨rfl,trivial,rfl,trivial,rfl,trivial,rfl,trivial,rfl,trivial,rfl,trivial,trivial⟩) ?_
 rintro ⟨m31,v22,v23⟩ h
 replace h:qd2 n g_ closed_ x16 m31 v22 v23 = some r:=h
 rcases m31 with _ | m31
 ·rw [qd2] at h;cases h
 rw [qd2] at h
 refine qa8<|qa2<|qa1 hτ rfl rfl rfl<|qa5<|qa8 ?_
 refine qaq rfl (fun hc33=>?_) (fun hc33=>?_)
 ·have h:=if_t h hc33
  refine qat ?_
  refine qby (ι:=Bool) (fun v39=>St.of [(2,.d (.sl false (closed_.map qa6))),(3,.ptr 0 0),(8,.d (.bool v39)),(18,.row 1 x16.1.length 0 x16.1.length),(19,.d (.int .i64 (x16.1.length:Int))),(20,.d (.int .i64 v23))] [.box [.d (.cx .f32 g_.qa0.Source.A.re g_.qa0.Source.A.im),.d (.cx .f32 g_.qa0.Source.B.re g_.qa0.Source.B.im),.d (.cx .f32 g_.qa0.Source.C.re g_.qa0.Source.C.im),.d (.sl false (g_.qa0.qa7.map qac)),.d (.sl false (g_.Ties.map qam))],.row 1 (x16.1.map qa6)] f26.ntmps 0) (fun v39=>qg1 n (qd2 n g_ closed_ x16 m31) v23 v39 = some r) ?_ (fun hk40=>?_)
  ·rintro v39 h
   replace h:qg1 n (qd2 n g_ closed_ x16 m31) v23 v39 = some r:=h
   unfold qg1 at h
   refine qa2<|qa1 hτ rfl rfl rfl<|qa1 hτ rfl rfl rfl<|qa5 ?_
   exact ⟨(m31,v39,(w64 (v23 + (1:Int)))),h,Nat.lt_succ_self m31,(qa3 [0,1] (l:=[(2,.d (.sl false (closed_.map qa6))),(3,.ptr 0 0),(8,.d (.bool v39)),(18,.row 1 x16.1.length 0 x16.1.length),(19,.d (.int .i64 (x16.1.length:Int))),(20,.d (.int .i64 (w64 (v23 + (1:Int)))))]) (objs:=[.box [.d (.cx .f32 g_.qa0.Source.A.re g_.qa0.Source.A.im),.d (.cx .f32 g_.qa0.Source.B.re g_.qa0.Source.B.im),.d (.cx .f32 g_.qa0.Source.C.re g_.qa0.Source.C.im),.d (.sl false (g_.qa0.qa7.map qac)),.d (.sl false (g_.Ties.map qam))],.row 1 (x16.1.map qa6)]) rfl (by simp) rfl (by trivial) ⟨rfl,trivial,rfl,trivial,rfl,trivial,rfl,trivial,rfl,trivial,rfl,trivial,trivial⟩)⟩
  ·refine qa8<|qay<|qa8<|qa2<|qa1 hτ rfl rfl rfl ?_
   refine qaf h fun x41 hx41 h=>?_
   refine qcg hτ rfl rfl rfl (qcy hx41) ?_
   refine qce hτ rfl rfl rfl (qb4 _) (qds hx41) rfl ?_
   refine qa1 hτ rfl rfl rfl<|qa1 hτ rfl rfl rfl<|qa5 ?_
   refine qaa (qa3 [0,1] (l:=[(2,.d (.sl false (closed_.map qa6))),(3,.ptr 0 0),(8,.d (.bool v22)),(9,.d (.int .i64 v23)),(10,.d (.int .i64 x41)),(18,.row 1 x16.1.length 0 x16.1.length),(19,.d (.int .i64 (x16.1.length:Int))),(20,.d (.int .i64 v23))]) (objs:=[.box [.d (.cx .f32 g_.qa0.Source.A.re g_.qa0.Source.A.im),.d (.cx .f32 g_.qa0.Source.B.re g_.qa0.Source.B.im),.d (.cx .f32 g_.qa0.Source.C.re g_.qa0.Source.C.im),.d (.sl false (g_.qa0.qa7.map qac)),.d (.sl false (g_.Ties.map qam))],.row 1 (x16.1.map qa6)]) rfl (by simp) rfl (by trivial) ⟨rfl,trivial,rfl,trivial,rfl,trivial,rfl,trivial,rfl,trivial,rfl,trivial,rfl,trivial,rfl,trivial,trivial⟩) ?_
   refine qd5 ?_
   refine qa4 hτ [] 0 rfl rfl rfl rfl rfl ?_
   refine qa4 hτ [] 1 rfl rfl rfl rfl rfl ?_
   refine qda 26 rfl (fun hb42=>?_) (fun hb42=>?_)
   ·have h:=qeh h hb42
    refine qa4 hτ [] 2 rfl rfl rfl rfl rfl ?_
    refine qa4 hτ [0] 3 rfl rfl rfl rfl rfl ?_
    refine qa4 hτ [0] 4 rfl rfl rfl rfl rfl ?_
    refine qa4 hτ [] 5 rfl rfl rfl rfl rfl ?_
    refine qa4 hτ [] 6 rfl rfl rfl rfl rfl ?_
    refine qaf h fun x43 hx43 h=>?_
    refine qbx hτ [] 7 rfl rfl rfl rfl rfl (qb8 hx43).1 (qbm hx43) rfl ?_
    refine qa4 hτ [] 8 rfl rfl rfl rfl rfl ?_
    refine qaf h fun x44 hx44 h=>?_
    refine qbx hτ [] 9 rfl rfl rfl rfl rfl (qb8 hx44).1 (qbm hx44) rfl ?_
    refine qa4 hτ [] 10 rfl rfl rfl rfl rfl ?_
    refine qa4 hτ [] 11 rfl rfl rfl rfl rfl ?_
    refine qa4 hτ [] 12 rfl rfl rfl rfl rfl ?_
    refine qa4 hτ [] 13 rfl rfl rfl rfl rfl ?_
    refine qa4 hτ [] 14 rfl rfl rfl rfl rfl ?_
    refine qbo mixed (by kernel_rfl) ?_
    refine qaa (qa3 [0,1] (l:=[(2,.d (.sl false (closed_.map qa6))),(3,.ptr 0 0),(8,.d (.bool (decide (x41 ≤ x44.Most)))),(18,.row 1 x16.1.length 0 x16.1.length),(19,.d (.int .i64 (x16.1.length:Int))),(20,.d (.int .i64 v23))]) (objs:=[.box [.d (.cx .f32 g_.qa0.Source.A.re g_.qa0.Source.A.im),.d (.cx .f32 g_.qa0.Source.B.re g_.qa0.Source.B.im),.d (.cx .f32 g_.qa0.Source.C.re g_.qa0.Source.C.im),.d (.sl false (g_.qa0.qa7.map qac)),.d (.sl false (g_.Ties.map qam))],.row 1 (x16.1.map qa6)]) rfl (by simp) rfl (by trivial) ⟨rfl,trivial,rfl,trivial,rfl,trivial,rfl,trivial,rfl,trivial,rfl,trivial,trivial⟩) ?_
    exact hk40 (decide (x41 ≤ x44.Most)) h
   ·have h:=qeg h hb42
    refine qa9 2 rfl rfl rfl ?_
    refine qa9 3 rfl rfl rfl ?_
    refine qa9 4 rfl rfl rfl ?_
    refine qa9 5 rfl rfl rfl ?_
    refine qa9 6 rfl rfl rfl ?_
    refine qa9 7 rfl rfl rfl ?_
    refine qa9 8 rfl rfl rfl ?_
    refine qa9 9 rfl rfl rfl ?_
    refine qa9 10 rfl rfl rfl ?_
    refine qa9 11 rfl rfl rfl ?_
    refine qa9 12 rfl rfl rfl ?_
    refine qa4 hτ [] 13 rfl rfl rfl rfl rfl ?_
    refine qa4 hτ [] 14 rfl rfl rfl rfl rfl ?_
    refine qbo mixed (by kernel_rfl) ?_
    refine qaa (qa3 [0,1] (l:=[(2,.d (.sl false (closed_.map qa6))),(3,.ptr 0 0),(8,.d (.bool false)),(18,.row 1 x16.1.length 0 x16.1.length),(19,.d (.int .i64 (x16.1.length:Int))),(20,.d (.int .i64 v23))]) (objs:=[.box [.d (.cx .f32 g_.qa0.Source.A.re g_.qa0.Source.A.im),.d (.cx .f32 g_.qa0.Source.B.re g_.qa0.Source.B.im),.d (.cx .f32 g_.qa0.Source.C.re g_.qa0.Source.C.im),.d (.sl false (g_.qa0.qa7.map qac)),.d (.sl false (g_.Ties.map qam))],.row 1 (x16.1.map qa6)]) rfl (by simp) rfl (by trivial) ⟨rfl,trivial,rfl,trivial,rfl,trivial,rfl,trivial,rfl,trivial,rfl,trivial,trivial⟩) ?_
    exact hk40 false h
 ·have h:=if_f h hc33
  refine qd3<|qa8<|qa2<|qa1 hτ rfl rfl rfl<|qa1 hτ rfl rfl rfl ?_
  refine qa5 ?_
  refine qaa (qa3 [] (l:=[(6,.d (.bool v22))]) (objs:=[]) rfl (by simp) rfl (by trivial) ⟨rfl,trivial,trivial⟩) ?_
  refine qap ?_
  have hr:=Option.some.inj h
  subst hr
  exact qah (.inr rfl) [] (objs':=[]) (new:=[]) rfl (by simp) (by simp) rfl (by trivial) rfl rfl (by trivial) (fun _=>⟨by simp [V.flat,V.qbg,V.qbb,D.flat],qan⟩) ⟨rfl,rfl,rfl⟩
theorem impl_IsPlan_ok (n:Nat) (g_:qbk) (bus_:Int) (closed_:List Int) {r:Bool} (h:qh2 n g_ bus_ closed_ = some r):qb1 prog false 26 [.agg [.d (.cx .f32 g_.qa0.Source.A.re g_.qa0.Source.A.im),.d (.cx .f32 g_.qa0.Source.B.re g_.qa0.Source.B.im),.d (.cx .f32 g_.qa0.Source.C.re g_.qa0.Source.C.im),.d (.sl false (g_.qa0.qa7.map qac)),.d (.sl false (g_.Ties.map qam))],.d (.int .i64 bus_),.d (.sl false (closed_.map qa6))] [] (fun v o new=>v = .d (.bool r)∧o = []∧new = []):=qls false n g_ bus_ closed_ h
theorem impl_IsPlan_ok_fr (n:Nat) (g_:qbk) (bus_:Int) (closed_:List Int) {r:Bool} (h:qh2 n g_ bus_ closed_ = some r):qb1 prog true 26 [.agg [.d (.cx .f32 g_.qa0.Source.A.re g_.qa0.Source.A.im),.d (.cx .f32 g_.qa0.Source.B.re g_.qa0.Source.B.im),.d (.cx .f32 g_.qa0.Source.C.re g_.qa0.Source.C.im),.d (.sl false (g_.qa0.qa7.map qac)),.d (.sl false (g_.Ties.map qam))],.d (.int .i64 bus_),.d (.sl false (closed_.map qa6))] [] (fun v o new=>v = .d (.bool r)∧o = []∧new = []):=qls true n g_ bus_ closed_ h
def qkc (n:Nat) (x_:Int):Option Bool :=
 some (!(decide (x_ = x_)))
theorem cmp_isNaN_ok_fr0 (fr:Bool) (n:Nat) (x_:Int) {r:Bool} (h:qkc n x_ = some r):qb1 prog fr 50 [.d (.int .i64 x_)] [] (fun v o new=>v = .d (.bool r)∧o = []∧new = []):=by
 refine qak hτ func50 rfl (by simp) (by simp) ?_
 unfold qkc at h
 refine qa8<|qa2<|qa1 hτ rfl rfl rfl<|qa5<|qa8 ?_
 refine qa2<|qa1 hτ rfl rfl rfl<|qa1 hτ rfl rfl rfl ?_
 refine qa1 hτ (v:=.d (.bool (!(decide (x_ = x_))))) rfl rfl (qlw _ _) ?_
 refine qa1 hτ rfl rfl rfl<|qa5 ?_
 refine qaa (qa3 [] (l:=[(2,.d (.bool (!(decide (x_ = x_)))))]) (objs:=[]) rfl (by simp) rfl (by trivial) ⟨rfl,trivial,trivial⟩) ?_
 refine qap ?_
 have hr:=Option.some.inj h
 subst hr
 exact qah (.inr rfl) [] (objs':=[]) (new:=[]) rfl (by simp) (by simp) rfl (by trivial) rfl rfl (by trivial) (fun _=>⟨by simp [V.flat,V.qbg,V.qbb,D.flat],qan⟩) ⟨rfl,rfl,rfl⟩
theorem qox (n:Nat) (x_:Int) {r:Bool} (h:qkc n x_ = some r):qb1 prog false 50 [.d (.int .i64 x_)] [] (fun v o new=>v = .d (.bool r)∧o = []∧new = []):=cmp_isNaN_ok_fr0 false n x_ h
def qi0 (n:Nat) (x_:Int) (y_:Int):Option Int :=
 (qkc n x_).bind fun x3 =>
 (qkc n y_).bind fun x4 =>
 if x3 = true then
  if x4 = true then
   some (0:Int)
  else
   some (-1:Int)
 else
  if x4 = true then
   some (1:Int)
  else
   if x_ < y_ then
    some (-1:Int)
   else
    if x_ > y_ then
     some (1:Int)
    else
     some (0:Int)
theorem cmp_Compare_ok_fr0 (fr:Bool) (n:Nat) (x_:Int) (y_:Int) {r:Int} (h:qi0 n x_ y_ = some r):qb1 prog fr 28 [.d (.int .i64 x_),.d (.int .i64 y_)] [] (fun v o new=>v = .d (.int .i64 r)∧o = []∧new = []):=by
 refine qak hτ func28 rfl (by simp) (by simp) ?_
 unfold qi0 at h
 refine qa8<|qa2<|qa1 hτ rfl rfl rfl<|qa5<|qa8 ?_
 refine qa2<|qa1 hτ rfl rfl rfl ?_
 refine qaf h fun x3 hx3 h=>?_
 refine qae hτ false [] rfl rfl rfl (qaj func50 rfl rfl) rfl rfl (by simp) ⟨trivial,trivial⟩ (by trivial) (qox n x_ hx3) ?_
 rintro r0 o0 n0 ⟨rfl,rfl,rfl⟩ -
 refine qa1 hτ rfl rfl rfl<|qa5<|qa8<|qa2<|qa1 hτ rfl rfl rfl ?_
 refine qaf h fun x4 hx4 h=>?_
 refine qae hτ false [] rfl rfl rfl (qaj func50 rfl rfl) rfl rfl (by simp) ⟨trivial,trivial⟩ (by trivial) (qox n y_ hx4) ?_
 rintro r0 o0 n0 ⟨rfl,rfl,rfl⟩ -
 refine qa1 hτ rfl rfl rfl<|qa5<|qa8<|qa8 ?_
 refine qaa (qa3 [] (l:=[(0,.d (.int .i64 x_)),(1,.d (.int .i64 y_)),(5,.d (.bool x3)),(6,.d (.bool x4))]) (objs:=[]) rfl (by simp) rfl (by trivial) ⟨rfl,trivial,rfl,trivial,rfl,trivial,rfl,trivial,trivial⟩) ?_
 refine qa2<|qa1 hτ rfl rfl rfl<|qa5 ?_
 refine qaq rfl (fun hc5=>?_) (fun hc5=>?_)
 ·have h:=qeh h hc5
  refine qa8<|qa8<|qa2<|qa1 hτ rfl rfl rfl<|qa5 ?_
  refine qaq rfl (fun hc6=>?_) (fun hc6=>?_)
  ·have h:=qeh h hc6
   refine qa8<|qa2<|qa1 hτ rfl rfl rfl<|qa5 ?_
   refine qaa (qa3 [] (l:=[(4,.d (.int .i64 (0:Int)))]) (objs:=[]) rfl (by simp) rfl (by trivial) ⟨rfl,trivial,trivial⟩) ?_
   refine qap ?_
   have hr:=Option.some.inj h
   subst hr
   exact qah (.inr rfl) [] (objs':=[]) (new:=[]) rfl (by simp) (by simp) rfl (by trivial) rfl rfl (by trivial) (fun _=>⟨by simp [V.flat,V.qbg,V.qbb,D.flat],qan⟩) ⟨rfl,rfl,rfl⟩
  ·have h:=qeg h hc6
   refine qat<|qa8<|qa2<|qa1 hτ rfl rfl rfl<|qa5 ?_
   refine qaa (qa3 [] (l:=[(4,.d (.int .i64 (-1:Int)))]) (objs:=[]) rfl (by simp) rfl (by trivial) ⟨rfl,trivial,trivial⟩) ?_
   refine qap ?_
   have hr:=Option.some.inj h
   subst hr
   exact qah (.inr rfl) [] (objs':=[]) (new:=[]) rfl (by simp) (by simp) rfl (by trivial) rfl rfl (by trivial) (fun _=>⟨by simp [V.flat,V.qbg,V.qbb,D.flat],qan⟩) ⟨rfl,rfl,rfl⟩
 ·have h:=qeg h hc5
  refine qat<|qa8<|qa8<|qa2<|qa1 hτ rfl rfl rfl ?_
  refine qa5 ?_
  refine qaq rfl (fun hc7=>?_) (fun hc7=>?_)
  ·have h:=qeh h hc7
   refine qa8<|qa2<|qa1 hτ rfl rfl rfl<|qa5 ?_
   refine qaa (qa3 [] (l:=[(4,.d (.int .i64 (1:Int)))]) (objs:=[]) rfl (by simp) rfl (by trivial) ⟨rfl,trivial,trivial⟩) ?_
   refine qap ?_
   have hr:=Option.some.inj h
   subst hr
   exact qah (.inr rfl) [] (objs':=[]) (new:=[]) rfl (by simp) (by simp) rfl (by trivial) rfl rfl (by trivial) (fun _=>⟨by simp [V.flat,V.qbg,V.qbb,D.flat],qan⟩) ⟨rfl,rfl,rfl⟩
  ·have h:=qeg h hc7
   refine qat<|qa8<|qa8<|qa2<|qa1 hτ rfl rfl rfl ?_
   refine qa1 hτ rfl rfl rfl<|qa1 hτ rfl rfl rfl<|qa5 ?_
   refine qaq rfl (fun hc8=>?_) (fun hc8=>?_)
   ·have h:=if_t h hc8
    refine qa8<|qa2<|qa1 hτ rfl rfl rfl<|qa5 ?_
    refine qaa (qa3 [] (l:=[(4,.d (.int .i64 (-1:Int)))]) (objs:=[]) rfl (by simp) rfl (by trivial) ⟨rfl,trivial,trivial⟩) ?_
    refine qap ?_
    have hr:=Option.some.inj h
    subst hr
    exact qah (.inr rfl) [] (objs':=[]) (new:=[]) rfl (by simp) (by simp) rfl (by trivial) rfl rfl (by trivial) (fun _=>⟨by simp [V.flat,V.qbg,V.qbb,D.flat],qan⟩) ⟨rfl,rfl,rfl⟩
   ·have h:=if_f h hc8
    refine qat<|qa8<|qa8<|qa2<|qa1 hτ rfl rfl rfl ?_
    refine qa1 hτ rfl rfl rfl<|qa1 hτ rfl rfl rfl<|qa5 ?_
    refine qaa (qa3 [] (l:=[(19,.d (.bool (decide (x_ > y_))))]) (objs:=[]) rfl (by simp) rfl (by trivial) ⟨rfl,trivial,trivial⟩) ?_
    refine qaq rfl (fun hc9=>?_) (fun hc9=>?_)
    ·have h:=if_t h hc9
     refine qa8<|qa2<|qa1 hτ rfl rfl rfl<|qa5 ?_
     refine qaa (qa3 [] (l:=[(4,.d (.int .i64 (1:Int)))]) (objs:=[]) rfl (by simp) rfl (by trivial) ⟨rfl,trivial,trivial⟩) ?_
     refine qap ?_
     have hr:=Option.some.inj h
     subst hr
     exact qah (.inr rfl) [] (objs':=[]) (new:=[]) rfl (by simp) (by simp) rfl (by trivial) rfl rfl (by trivial) (fun _=>⟨by simp [V.flat,V.qbg,V.qbb,D.flat],qan⟩) ⟨rfl,rfl,rfl⟩
    ·have h:=if_f h hc9
     refine qat<|qa8<|qa2<|qa1 hτ rfl rfl rfl<|qa5 ?_
     refine qaa (qa3 [] (l:=[(4,.d (.int .i64 (0:Int)))]) (objs:=[]) rfl (by simp) rfl (by trivial) ⟨rfl,trivial,trivial⟩) ?_
     refine qap ?_
     have hr:=Option.some.inj h
     subst hr
     exact qah (.inr rfl) [] (objs':=[]) (new:=[]) rfl (by simp) (by simp) rfl (by trivial) rfl rfl (by trivial) (fun _=>⟨by simp [V.flat,V.qbg,V.qbb,D.flat],qan⟩) ⟨rfl,rfl,rfl⟩
theorem qnf (n:Nat) (x_:Int) (y_:Int) {r:Int} (h:qi0 n x_ y_ = some r):qb1 prog false 28 [.d (.int .i64 x_),.d (.int .i64 y_)] [] (fun v o new=>v = .d (.int .i64 r)∧o = []∧new = []):=cmp_Compare_ok_fr0 false n x_ y_ h
def qj0 (n:Nat) (x_:Int):Option Bool :=
 some (!(decide (x_ = x_)))
theorem cmp_isNaN_2_ok_fr0 (fr:Bool) (n:Nat) (x_:Int) {r:Bool} (h:qj0 n x_ = some r):qb1 prog fr 51 [.d (.int .i64 x_)] [] (fun v o new=>v = .d (.bool r)∧o = []∧new = []):=by
 refine qak hτ func51 rfl (by simp) (by simp) ?_
 unfold qj0 at h
 refine qa8<|qa2<|qa1 hτ rfl rfl rfl<|qa5<|qa8 ?_
 refine qa2<|qa1 hτ rfl rfl rfl<|qa1 hτ rfl rfl rfl ?_
 refine qa1 hτ (v:=.d (.bool (!(decide (x_ = x_))))) rfl rfl (qlw _ _) ?_
 refine qa1 hτ rfl rfl rfl<|qa5 ?_
 refine qaa (qa3 [] (l:=[(2,.d (.bool (!(decide (x_ = x_)))))]) (objs:=[]) rfl (by simp) rfl (by trivial) ⟨rfl,trivial,trivial⟩) ?_
 refine qap ?_
 have hr:=Option.some.inj h
 subst hr
 exact qah (.inr rfl) [] (objs':=[]) (new:=[]) rfl (by simp) (by simp) rfl (by trivial) rfl rfl (by trivial) (fun _=>⟨by simp [V.flat,V.qbg,V.qbb,D.flat],qan⟩) ⟨rfl,rfl,rfl⟩
theorem qng (n:Nat) (x_:Int) {r:Bool} (h:qj0 n x_ = some r):qb1 prog false 51 [.d (.int .i64 x_)] [] (fun v o new=>v = .d (.bool r)∧o = []∧new = []):=cmp_isNaN_2_ok_fr0 false n x_ h
def qhp (n:Nat) (x_:Int) (y_:Int):Option Int :=
 (qj0 n x_).bind fun x3 =>
 (qj0 n y_).bind fun x4 =>
 if x3 = true then
  if x4 = true then
   some (0:Int)
  else
   some (-1:Int)
 else
  if x4 = true then
   some (1:Int)
  else
   if x_ < y_ then
    some (-1:Int)
   else
    if x_ > y_ then
     some (1:Int)
    else
     some (0:Int)
theorem cmp_Compare_2_ok_fr0 (fr:Bool) (n:Nat) (x_:Int) (y_:Int) {r:Int} (h:qhp n x_ y_ = some r):qb1 prog fr 29 [.d (.int .i64 x_),.d (.int .i64 y_)] [] (fun v o new=>v = .d (.int .i64 r)∧o = []∧new = []):=by
 refine qak hτ func29 rfl (by simp) (by simp) ?_
 unfold qhp at h
 refine qa8<|qa2<|qa1 hτ rfl rfl rfl<|qa5<|qa8 ?_
 refine qa2<|qa1 hτ rfl rfl rfl ?_
 refine qaf h fun x3 hx3 h=>?_
 refine qae hτ false [] rfl rfl rfl (qaj func51 rfl rfl) rfl rfl (by simp) ⟨trivial,trivial⟩ (by trivial) (qng n x_ hx3) ?_
 rintro r0 o0 n0 ⟨rfl,rfl,rfl⟩ -
 refine qa1 hτ rfl rfl rfl<|qa5<|qa8<|qa2<|qa1 hτ rfl rfl rfl ?_
 refine qaf h fun x4 hx4 h=>?_
 refine qae hτ false [] rfl rfl rfl (qaj func51 rfl rfl) rfl rfl (by simp) ⟨trivial,trivial⟩ (by trivial) (qng n y_ hx4) ?_
 rintro r0 o0 n0 ⟨rfl,rfl,rfl⟩ -
 refine qa1 hτ rfl rfl rfl<|qa5<|qa8<|qa8 ?_
 refine qaa (qa3 [] (l:=[(0,.d (.int .i64 x_)),(1,.d (.int .i64 y_)),(5,.d (.bool x3)),(6,.d (.bool x4))]) (objs:=[]) rfl (by simp) rfl (by trivial) ⟨rfl,trivial,rfl,trivial,rfl,trivial,rfl,trivial,trivial⟩) ?_
 refine qa2<|qa1 hτ rfl rfl rfl<|qa5 ?_
 refine qaq rfl (fun hc5=>?_) (fun hc5=>?_)
 ·have h:=qeh h hc5
  refine qa8<|qa8<|qa2<|qa1 hτ rfl rfl rfl<|qa5 ?_
  refine qaq rfl (fun hc6=>?_) (fun hc6=>?_)
  ·have h:=qeh h hc6
   refine qa8<|qa2<|qa1 hτ rfl rfl rfl<|qa5 ?_
   refine qaa (qa3 [] (l:=[(4,.d (.int .i64 (0:Int)))]) (objs:=[]) rfl (by simp) rfl (by trivial) ⟨rfl,trivial,trivial⟩) ?_
   refine qap ?_
   have hr:=Option.some.inj h
   subst hr
   exact qah (.inr rfl) [] (objs':=[]) (new:=[]) rfl (by simp) (by simp) rfl (by trivial) rfl rfl (by trivial) (fun _=>⟨by simp [V.flat,V.qbg,V.qbb,D.flat],qan⟩) ⟨rfl,rfl,rfl⟩
  ·have h:=qeg h hc6
   refine qat<|qa8<|qa2<|qa1 hτ rfl rfl rfl<|qa5 ?_
   refine qaa (qa3 [] (l:=[(4,.d (.int .i64 (-1:Int)))]) (objs:=[]) rfl (by simp) rfl (by trivial) ⟨rfl,trivial,trivial⟩) ?_
   refine qap ?_
   have hr:=Option.some.inj h
   subst hr
   exact qah (.inr rfl) [] (objs':=[]) (new:=[]) rfl (by simp) (by simp) rfl (by trivial) rfl rfl (by trivial) (fun _=>⟨by simp [V.flat,V.qbg,V.qbb,D.flat],qan⟩) ⟨rfl,rfl,rfl⟩
 ·have h:=qeg h hc5
  refine qat<|qa8<|qa8<|qa2<|qa1 hτ rfl rfl rfl ?_
  refine qa5 ?_
  refine qaq rfl (fun hc7=>?_) (fun hc7=>?_)
  ·have h:=qeh h hc7
   refine qa8<|qa2<|qa1 hτ rfl rfl rfl<|qa5 ?_
   refine qaa (qa3 [] (l:=[(4,.d (.int .i64 (1:Int)))]) (objs:=[]) rfl (by simp) rfl (by trivial) ⟨rfl,trivial,trivial⟩) ?_
   refine qap ?_
   have hr:=Option.some.inj h
   subst hr
   exact qah (.inr rfl) [] (objs':=[]) (new:=[]) rfl (by simp) (by simp) rfl (by trivial) rfl rfl (by trivial) (fun _=>⟨by simp [V.flat,V.qbg,V.qbb,D.flat],qan⟩) ⟨rfl,rfl,rfl⟩
  ·have h:=qeg h hc7
   refine qat<|qa8<|qa8<|qa2<|qa1 hτ rfl rfl rfl ?_
   refine qa1 hτ rfl rfl rfl<|qa1 hτ rfl rfl rfl<|qa5 ?_
   refine qaq rfl (fun hc8=>?_) (fun hc8=>?_)
   ·have h:=if_t h hc8
    refine qa8<|qa2<|qa1 hτ rfl rfl rfl<|qa5 ?_
    refine qaa (qa3 [] (l:=[(4,.d (.int .i64 (-1:Int)))]) (objs:=[]) rfl (by simp) rfl (by trivial) ⟨rfl,trivial,trivial⟩) ?_
    refine qap ?_
    have hr:=Option.some.inj h
    subst hr
    exact qah (.inr rfl) [] (objs':=[]) (new:=[]) rfl (by simp) (by simp) rfl (by trivial) rfl rfl (by trivial) (fun _=>⟨by simp [V.flat,V.qbg,V.qbb,D.flat],qan⟩) ⟨rfl,rfl,rfl⟩
   ·have h:=if_f h hc8
    refine qat<|qa8<|qa8<|qa2<|qa1 hτ rfl rfl rfl ?_
    refine qa1 hτ rfl rfl rfl<|qa1 hτ rfl rfl rfl<|qa5 ?_
    refine qaa (qa3 [] (l:=[(19,.d (.bool (decide (x_ > y_))))]) (objs:=[]) rfl (by simp) rfl (by trivial) ⟨rfl,trivial,trivial⟩) ?_
    refine qaq rfl (fun hc9=>?_) (fun hc9=>?_)
    ·have h:=if_t h hc9
     refine qa8<|qa2<|qa1 hτ rfl rfl rfl<|qa5 ?_
     refine qaa (qa3 [] (l:=[(4,.d (.int .i64 (1:Int)))]) (objs:=[]) rfl (by simp) rfl (by trivial) ⟨rfl,trivial,trivial⟩) ?_
     refine qap ?_
     have hr:=Option.some.inj h
     subst hr
     exact qah (.inr rfl) [] (objs':=[]) (new:=[]) rfl (by simp) (by simp) rfl (by trivial) rfl rfl (by trivial) (fun _=>⟨by simp [V.flat,V.qbg,V.qbb,D.flat],qan⟩) ⟨rfl,rfl,rfl⟩
    ·have h:=if_f h hc9
     refine qat<|qa8<|qa2<|qa1 hτ rfl rfl rfl<|qa5 ?_
     refine qaa (qa3 [] (l:=[(4,.d (.int .i64 (0:Int)))]) (objs:=[]) rfl (by simp) rfl (by trivial) ⟨rfl,trivial,trivial⟩) ?_
     refine qap ?_
     have hr:=Option.some.inj h
     subst hr
     exact qah (.inr rfl) [] (objs':=[]) (new:=[]) rfl (by simp) (by simp) rfl (by trivial) rfl rfl (by trivial) (fun _=>⟨by simp [V.flat,V.qbg,V.qbb,D.flat],qan⟩) ⟨rfl,rfl,rfl⟩
theorem cmp_Compare_2_ok (n:Nat) (x_:Int) (y_:Int) {r:Int} (h:qhp n x_ y_ = some r):qb1 prog false 29 [.d (.int .i64 x_),.d (.int .i64 y_)] [] (fun v o new=>v = .d (.int .i64 r)∧o = []∧new = []):=cmp_Compare_2_ok_fr0 false n x_ y_ h
def qgm (n:Nat) (s1_:List Int) (s2_:List Int):Option Int :=
 if (s1_.length:Int) < (s2_.length:Int) then
  some (-1:Int)
 else
  some (0:Int)
def qdl (n:Nat) (s1_:List Int) (s2_:List Int):Nat→Int→Option Int
 | 0,_=>none
 | m27 + 1,v22 =>
  if v22 < (s1_.length:Int) then
   (getI s1_ v22).bind fun x33 =>
   if v22 ≥ (s2_.length:Int) then
    some (1:Int)
   else
    (getI s2_ v22).bind fun x35 =>
    (qi0 n x33 x35).bind fun x36 =>
    if x36 = (0:Int) then
     (qdl n s1_ s2_ m27) (w64 (v22 + (1:Int)))
    else
     some x36
  else
   qgm n s1_ s2_
def qia (n:Nat) (s1_:List Int) (s2_:List Int):Option Int :=
 qdl n s1_ s2_ n (0:Int)
theorem slices_Compare_ok_fr0 (fr:Bool) (n:Nat) (s1_:List Int) (s2_:List Int) {r:Int} (h:qia n s1_ s2_ = some r):qb1 prog fr 30 [.d (.sl false (s1_.map qa6)),.d (.sl false (s2_.map qa6))] [] (fun v o new=>v = .d (.int .i64 r)∧o = []∧new = []):=by
 refine qak hτ func30 rfl (by simp) (by simp) ?_
 unfold qia at h
 refine qa8<|qa2<|qa1 hτ rfl rfl rfl<|qa5 ?_
 refine qby (ι:=Unit) (fun _=>St.of [(0,.d (.sl false (s1_.map qa6))),(1,.d (.sl false (s2_.map qa6)))] [] f30.ntmps 0) (fun _=>qgm n s1_ s2_ = some r) ?_ (fun hk18=>?_)
 ·rintro ⟨⟩ h
  replace h:qgm n s1_ s2_ = some r:=h
  unfold qgm at h
  refine qa8<|qa8<|qa2<|qa1 hτ rfl rfl rfl ?_
  refine qa1 hτ (v:=.d (.int .i64 (s1_.length:Int))) rfl rfl (Eq.trans rfl (qei (f:=qa6) s1_)) ?_
  refine qa1 hτ rfl rfl rfl ?_
  refine qa1 hτ (v:=.d (.int .i64 (s2_.length:Int))) rfl rfl (Eq.trans rfl (qei (f:=qa6) s2_)) ?_
  refine qa1 hτ rfl rfl rfl<|qa5 ?_
  refine qaq rfl (fun hc17=>?_) (fun hc17=>?_)
  ·have h:=if_t h hc17
   refine qa8<|qa2<|qa1 hτ rfl rfl rfl<|qa5 ?_
   refine qaa (qa3 [] (l:=[(4,.d (.int .i64 (-1:Int)))]) (objs:=[]) rfl (by simp) rfl (by trivial) ⟨rfl,trivial,trivial⟩) ?_
   refine qap ?_
   have hr:=Option.some.inj h
   subst hr
   exact qah (.inr rfl) [] (objs':=[]) (new:=[]) rfl (by simp) (by simp) rfl (by trivial) rfl rfl (by trivial) (fun _=>⟨by simp [V.flat,V.qbg,V.qbb,D.flat],qan⟩) ⟨rfl,rfl,rfl⟩
  ·have h:=if_f h hc17
   refine qat<|qa8<|qa2<|qa1 hτ rfl rfl rfl<|qa5 ?_
   refine qaa (qa3 [] (l:=[(4,.d (.int .i64 (0:Int)))]) (objs:=[]) rfl (by simp) rfl (by trivial) ⟨rfl,trivial,trivial⟩) ?_
   refine qap ?_
   have hr:=Option.some.inj h
   subst hr
   exact qah (.inr rfl) [] (objs':=[]) (new:=[]) rfl (by simp) (by simp) rfl (by trivial) rfl rfl (by trivial) (fun _=>⟨by simp [V.flat,V.qbg,V.qbb,D.flat],qan⟩) ⟨rfl,rfl,rfl⟩
 ·refine qa8<|qa8<|qa2<|qa1 hτ rfl rfl rfl ?_
  refine qa1 hτ (v:=.d (.int .i64 (s1_.length:Int))) rfl rfl (Eq.trans rfl (qei (f:=qa6) s1_)) ?_
  refine qa1 hτ rfl rfl rfl<|qa5<|qay ?_
  refine qde (ι:=Nat × Int) (fun (m27,v22)=>St.of [(0,.d (.sl false (s1_.map qa6))),(1,.d (.sl false (s2_.map qa6))),(9,.d (.sl false (s1_.map qa6))),(10,.d (.int .i64 (s1_.length:Int))),(11,.d (.int .i64 v22))] [] f30.ntmps 0) (fun (m27,v22)=>qdl n s1_ s2_ m27 v22 = some r) (fun x=>x.1) (n,(0:Int)) h (qa3 [] (l:=[(0,.d (.sl false (s1_.map qa6))),(1,.d (.sl false (s2_.map qa6))),(9,.d (.sl false (s1_.map qa6))),(10,.d (.int .i64 (s1_.length:Int))),(11,.d (.int .i64 (0:Int)))]) (objs:=[]) rfl (by simp) rfl (by trivial) ⟨rfl,trivial,rfl,trivial,rfl,trivial,rfl,trivial,rfl,trivial,trivial⟩) ?_
  rintro ⟨m27,v22⟩ h
  replace h:qdl n s1_ s2_ m27 v22 = some r:=h
  rcases m27 with _ | m27
  ·rw [qdl] at h;cases h
  rw [qdl] at h
  refine qa8<|qa2<|qa1 hτ rfl rfl rfl<|qa5<|qa8 ?_
  refine qaq rfl (fun hc29=>?_) (fun hc29=>?_)
  ·have h:=if_t h hc29
   refine qat<|qa8<|qay<|qa8<|qa2 ?_
   refine qa1 hτ rfl rfl rfl ?_
   refine qaf h fun x33 hx33 h=>?_
   refine qce hτ rfl rfl rfl (qb8 hx33).1 (qbm hx33) rfl ?_
   refine qa1 hτ rfl rfl rfl<|qa1 hτ rfl rfl rfl<|qa1 hτ rfl rfl rfl<|qa5<|qa8 ?_
   refine qa8 ?_
   refine qaa (qa3 [] (l:=[(0,.d (.sl false (s1_.map qa6))),(1,.d (.sl false (s2_.map qa6))),(5,.d (.int .i64 v22)),(6,.d (.int .i64 x33)),(9,.d (.sl false (s1_.map qa6))),(10,.d (.int .i64 (s1_.length:Int))),(11,.d (.int .i64 v22))]) (objs:=[]) rfl (by simp) rfl (by trivial) ⟨rfl,trivial,rfl,trivial,rfl,trivial,rfl,trivial,rfl,trivial,rfl,trivial,rfl,trivial,trivial⟩) ?_
   refine qa2<|qa1 hτ rfl rfl rfl<|qa1 hτ rfl rfl rfl ?_
   refine qa1 hτ (v:=.d (.int .i64 (s2_.length:Int))) rfl rfl (Eq.trans rfl (qei (f:=qa6) s2_)) ?_
   refine qa1 hτ rfl rfl rfl<|qa5 ?_
   refine qaq rfl (fun hc34=>?_) (fun hc34=>?_)
   ·have h:=if_t h hc34
    refine qa8<|qa2<|qa1 hτ rfl rfl rfl<|qa5 ?_
    refine qaa (qa3 [] (l:=[(4,.d (.int .i64 (1:Int)))]) (objs:=[]) rfl (by simp) rfl (by trivial) ⟨rfl,trivial,trivial⟩) ?_
    refine qap ?_
    have hr:=Option.some.inj h
    subst hr
    exact qah (.inr rfl) [] (objs':=[]) (new:=[]) rfl (by simp) (by simp) rfl (by trivial) rfl rfl (by trivial) (fun _=>⟨by simp [V.flat,V.qbg,V.qbb,D.flat],qan⟩) ⟨rfl,rfl,rfl⟩
   ·have h:=if_f h hc34
    refine qat<|qa8<|qa2<|qa1 hτ rfl rfl rfl<|qa1 hτ rfl rfl rfl ?_
    refine qaf h fun x35 hx35 h=>?_
    refine qce hτ rfl rfl rfl (qb8 hx35).1 (qbm hx35) rfl ?_
    refine qa1 hτ rfl rfl rfl<|qa1 hτ rfl rfl rfl<|qa5<|qa8 ?_
    refine qaa (qa3 [] (l:=[(0,.d (.sl false (s1_.map qa6))),(1,.d (.sl false (s2_.map qa6))),(6,.d (.int .i64 x33)),(7,.d (.int .i64 x35)),(9,.d (.sl false (s1_.map qa6))),(10,.d (.int .i64 (s1_.length:Int))),(11,.d (.int .i64 v22))]) (objs:=[]) rfl (by simp) rfl (by trivial) ⟨rfl,trivial,rfl,trivial,rfl,trivial,rfl,trivial,rfl,trivial,rfl,trivial,rfl,trivial,trivial⟩) ?_
    refine qa2<|qa1 hτ rfl rfl rfl<|qa1 hτ rfl rfl rfl ?_
    refine qaf h fun x36 hx36 h=>?_
    refine qae hτ false [] rfl rfl rfl (qaj func28 rfl rfl) rfl rfl (by simp) ⟨trivial,trivial,trivial⟩ (by trivial) (qnf n x33 x35 hx36) ?_
    rintro r0 o0 n0 ⟨rfl,rfl,rfl⟩ -
    refine qa1 hτ rfl rfl rfl<|qa5<|qa8<|qa2<|qa1 hτ rfl rfl rfl ?_
    refine qa1 hτ (v:=.d (.bool (!(decide (x36 = (0:Int)))))) rfl rfl (qlw _ _) ?_
    refine qa5 ?_
    refine qaa (qa3 [] (l:=[(0,.d (.sl false (s1_.map qa6))),(1,.d (.sl false (s2_.map qa6))),(8,.d (.int .i64 x36)),(9,.d (.sl false (s1_.map qa6))),(10,.d (.int .i64 (s1_.length:Int))),(11,.d (.int .i64 v22)),(28,.d (.bool (!(decide (x36 = (0:Int))))))]) (objs:=[]) rfl (by simp) rfl (by trivial) ⟨rfl,trivial,rfl,trivial,rfl,trivial,rfl,trivial,rfl,trivial,rfl,trivial,rfl,trivial,trivial⟩) ?_
    refine qaq rfl (fun hc37=>?_) (fun hc37=>?_)
    ·have hc37:=qjf hc37
     have h:=if_f h hc37
     refine qa8<|qa2<|qa1 hτ rfl rfl rfl<|qa1 hτ rfl rfl rfl<|qa5 ?_
     refine qaa (qa3 [] (l:=[(4,.d (.int .i64 x36))]) (objs:=[]) rfl (by simp) rfl (by trivial) ⟨rfl,trivial,trivial⟩) ?_
     refine qap ?_
     have hr:=Option.some.inj h
     subst hr
     exact qah (.inr rfl) [] (objs':=[]) (new:=[]) rfl (by simp) (by simp) rfl (by trivial) rfl rfl (by trivial) (fun _=>⟨by simp [V.flat,V.qbg,V.qbb,D.flat],qan⟩) ⟨rfl,rfl,rfl⟩
    ·have hc37:=qje hc37
     have h:=if_t h hc37
     refine qat<|qa2<|qa1 hτ rfl rfl rfl<|qa1 hτ rfl rfl rfl<|qa5 ?_
     exact ⟨(m27,(w64 (v22 + (1:Int)))),h,Nat.lt_succ_self m27,(qa3 [] (l:=[(0,.d (.sl false (s1_.map qa6))),(1,.d (.sl false (s2_.map qa6))),(9,.d (.sl false (s1_.map qa6))),(10,.d (.int .i64 (s1_.length:Int))),(11,.d (.int .i64 (w64 (v22 + (1:Int)))))]) (objs:=[]) rfl (by simp) rfl (by trivial) ⟨rfl,trivial,rfl,trivial,rfl,trivial,rfl,trivial,rfl,trivial,trivial⟩)⟩
  ·have h:=if_f h hc29
   refine qd3 ?_
   refine qaa (qa3 [] (l:=[(0,.d (.sl false (s1_.map qa6))),(1,.d (.sl false (s2_.map qa6)))]) (objs:=[]) rfl (by simp) rfl (by trivial) ⟨rfl,trivial,rfl,trivial,trivial⟩) ?_
   exact hk18 () h
theorem slices_Compare_ok (n:Nat) (s1_:List Int) (s2_:List Int) {r:Int} (h:qia n s1_ s2_ = some r):qb1 prog false 30 [.d (.sl false (s1_.map qa6)),.d (.sl false (s2_.map qa6))] [] (fun v o new=>v = .d (.int .i64 r)∧o = []∧new = []):=slices_Compare_ok_fr0 false n s1_ s2_ h
def qkb (n:Nat) (vals_:List Int):Nat→Int→Option Int
 | 0,_=>none
 | m9 + 1,v6 =>
  if v6 < (vals_.length:Int) then
   (getI vals_ v6).bind fun x13 =>
   if x13 = (0:Int) then
    (qkb n vals_ m9) (w64 (v6 + (1:Int)))
   else
    some x13
  else
   some (0:Int)
def qn7 (n:Nat) (vals_:List Int):Option Int :=
 qkb n vals_ n (0:Int)
theorem cmp_Or_ok_fr0 (fr:Bool) (n:Nat) (vals_:List Int) {r:Int} (h:qn7 n vals_ = some r):qb1 prog fr 27 [.d (.sl false (vals_.map qa6))] [] (fun v o new=>v = .d (.int .i64 r)∧o = []∧new = []):=by
 refine qak hτ func27 rfl (by simp) (by simp) ?_
 unfold qn7 at h
 refine qa8<|qa2<|qa1 hτ rfl rfl rfl<|qa5<|qa8 ?_
 refine qa2<|qa1 hτ rfl rfl rfl<|qa5<|qa8<|qa8 ?_
 refine qa2<|qa1 hτ rfl rfl rfl ?_
 refine qa1 hτ (v:=.d (.int .i64 (vals_.length:Int))) rfl rfl (Eq.trans rfl (qei (f:=qa6) vals_)) ?_
 refine qa1 hτ rfl rfl rfl<|qa5<|qay ?_
 refine qde (ι:=Nat × Int) (fun (m9,v6)=>St.of [(3,.d (.int .i64 (0:Int))),(6,.d (.sl false (vals_.map qa6))),(7,.d (.int .i64 (vals_.length:Int))),(8,.d (.int .i64 v6))] [] f27.ntmps 0) (fun (m9,v6)=>qkb n vals_ m9 v6 = some r) (fun x=>x.1) (n,(0:Int)) h (qa3 [] (l:=[(3,.d (.int .i64 (0:Int))),(6,.d (.sl false (vals_.map qa6))),(7,.d (.int .i64 (vals_.length:Int))),(8,.d (.int .i64 (0:Int)))]) (objs:=[]) rfl (by simp) rfl (by trivial) ⟨rfl,trivial,rfl,trivial,rfl,trivial,rfl,trivial,trivial⟩) ?_
 rintro ⟨m9,v6⟩ h
 replace h:qkb n vals_ m9 v6 = some r:=h
 rcases m9 with _ | m9
 ·rw [qkb] at h;cases h
 rw [qkb] at h
 refine qa8<|qa2<|qa1 hτ rfl rfl rfl<|qa5<|qa8 ?_
 refine qaq rfl (fun hc11=>?_) (fun hc11=>?_)
 ·have h:=if_t h hc11
  refine qat<|qa8<|qay<|qa8<|qa2 ?_
  refine qaf h fun x13 hx13 h=>?_
  refine qce hτ rfl rfl rfl (qb8 hx13).1 (qbm hx13) rfl ?_
  refine qa1 hτ rfl rfl rfl<|qa1 hτ rfl rfl rfl<|qa5<|qa8<|qa2 ?_
  refine qa1 hτ rfl rfl rfl<|qa1 hτ rfl rfl rfl ?_
  refine qa1 hτ (v:=.d (.bool (!(decide (x13 = (0:Int)))))) rfl rfl (qlw _ _) ?_
  refine qa5 ?_
  refine qaa (qa3 [] (l:=[(3,.d (.int .i64 (0:Int))),(5,.d (.int .i64 x13)),(6,.d (.sl false (vals_.map qa6))),(7,.d (.int .i64 (vals_.length:Int))),(8,.d (.int .i64 v6)),(14,.d (.bool (!(decide (x13 = (0:Int))))))]) (objs:=[]) rfl (by simp) rfl (by trivial) ⟨rfl,trivial,rfl,trivial,rfl,trivial,rfl,trivial,rfl,trivial,rfl,trivial,trivial⟩) ?_
  refine qaq rfl (fun hc14=>?_) (fun hc14=>?_)
  ·have hc14:=qjf hc14
   have h:=if_f h hc14
   refine qa8<|qa2<|qa1 hτ rfl rfl rfl<|qa1 hτ rfl rfl rfl<|qa5 ?_
   refine qaa (qa3 [] (l:=[(2,.d (.int .i64 x13))]) (objs:=[]) rfl (by simp) rfl (by trivial) ⟨rfl,trivial,trivial⟩) ?_
   refine qap ?_
   have hr:=Option.some.inj h
   subst hr
   exact qah (.inr rfl) [] (objs':=[]) (new:=[]) rfl (by simp) (by simp) rfl (by trivial) rfl rfl (by trivial) (fun _=>⟨by simp [V.flat,V.qbg,V.qbb,D.flat],qan⟩) ⟨rfl,rfl,rfl⟩
  ·have hc14:=qje hc14
   have h:=if_t h hc14
   refine qat<|qa2<|qa1 hτ rfl rfl rfl<|qa1 hτ rfl rfl rfl<|qa5 ?_
   exact ⟨(m9,(w64 (v6 + (1:Int)))),h,Nat.lt_succ_self m9,(qa3 [] (l:=[(3,.d (.int .i64 (0:Int))),(6,.d (.sl false (vals_.map qa6))),(7,.d (.int .i64 (vals_.length:Int))),(8,.d (.int .i64 (w64 (v6 + (1:Int)))))]) (objs:=[]) rfl (by simp) rfl (by trivial) ⟨rfl,trivial,rfl,trivial,rfl,trivial,rfl,trivial,trivial⟩)⟩
 ·have h:=if_f h hc11
  refine qd3<|qa8<|qa2<|qa1 hτ rfl rfl rfl<|qa1 hτ rfl rfl rfl ?_
  refine qa5 ?_
  refine qaa (qa3 [] (l:=[(2,.d (.int .i64 (0:Int)))]) (objs:=[]) rfl (by simp) rfl (by trivial) ⟨rfl,trivial,trivial⟩) ?_
  refine qap ?_
  have hr:=Option.some.inj h
  subst hr
  exact qah (.inr rfl) [] (objs':=[]) (new:=[]) rfl (by simp) (by simp) rfl (by trivial) rfl rfl (by trivial) (fun _=>⟨by simp [V.flat,V.qbg,V.qbb,D.flat],qan⟩) ⟨rfl,rfl,rfl⟩
theorem cmp_Or_ok_fr (n:Nat) (vals_:List Int) {r:Int} (h:qn7 n vals_ = some r):qb1 prog true 27 [.d (.sl false (vals_.map qa6))] [] (fun v o new=>v = .d (.int .i64 r)∧o = []∧new = []):=cmp_Or_ok_fr0 true n vals_ h
end Go.Proofs.YtiegopnofbgoaaaGreatDoor.AWN
