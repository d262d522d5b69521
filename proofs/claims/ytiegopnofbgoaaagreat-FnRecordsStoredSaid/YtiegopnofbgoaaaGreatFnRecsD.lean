/- Models and contracts, printed by program. -/
import Derived.Test.YtiegopnofbgoaaaGreatFnRecsC
set_option linter.unusedVariables false
set_option linter.unusedSimpArgs false
set_option linter.unusedSectionVars false
set_option maxHeartbeats 2000000
namespace Go.Proofs.YtiegopnofbgoaaaGreat.AWN
open Go Go.Proofs.Tryz
def qma (n:Nat) (x_:Cx) (y_:Cx):Option Cx :=
 (qd6 n x_).bind fun x8 =>
 (qi1 n y_).bind fun x9 =>
 (qd6 n x9).bind fun x10 =>
 (qfg n x8 x10).bind fun x11 =>
 (qd3 n y_).bind fun x12 =>
 (qbs n (qam .quo .f64 x11.re x12)).bind fun x13 =>
 (qbs n (qam .quo .f64 x11.im x12)).bind fun x14 =>
 some (Cx.mk x13 x14)
def qeb (n:Nat) (x_:Cx) (y_:Cx) (Q_:Cx→Prop):Prop :=
 bndP (qd6 n x_) fun x8 =>
 bndP (qi1 n y_) fun x9 =>
 bndP (qd6 n x9) fun x10 =>
 bndP (qfg n x8 x10) fun x11 =>
 bndP (qd3 n y_) fun x12 =>
 qd5 n (qam .quo .f64 x11.re x12) fun x13 =>
 qd5 n (qam .quo .f64 x11.im x12) fun x14 =>
 Q_ ((Cx.mk x13 x14))
theorem spec_l01Quotient_okP_fr0 (fr:Bool) (n:Nat) (x_:Cx) (y_:Cx) {Q_:Cx→Prop} (h:qeb n x_ y_ Q_):qax prog fr 116 [cxv x_,cxv y_] [] (fun v o new=>∃ r,Q_ r∧v = (cxv r)∧o = []∧new = []):=by
 refine qaj hτ func116 rfl (by simp) (by simp) ?_
 unfold qeb at h
 refine qa6<|qa2<|qa0 hτ rfl rfl rfl<|qa4<|qa6<|qa2<|qa0 hτ rfl rfl rfl ?_
 refine qbf h fun x8 hx8 h=>?_
 refine qac hτ false [] rfl rfl rfl (qai func99 rfl rfl) rfl rfl (by simp) ⟨trivial,trivial⟩ (by trivial) (qij n x_ hx8) ?_
 rintro r0 o0 n0 ⟨rfl,rfl,rfl⟩ -
 refine qa0 hτ rfl rfl rfl ?_
 refine qbf h fun x9 hx9 h=>?_
 refine qac hτ false [] rfl rfl rfl (qai func115 rfl rfl) rfl rfl (by simp) ⟨trivial,trivial⟩ (by trivial) (qnk n y_ hx9) ?_
 rintro r0 o0 n0 ⟨rfl,rfl,rfl⟩ -
 refine qbf h fun x10 hx10 h=>?_
 refine qac hτ false [] rfl rfl rfl (qai func99 rfl rfl) rfl rfl (by simp) ⟨trivial,trivial⟩ (by trivial) (qij n x9 hx10) ?_
 rintro r0 o0 n0 ⟨rfl,rfl,rfl⟩ -
 refine qbf h fun x11 hx11 h=>?_
 refine qac hτ false [] rfl rfl rfl (qai func98 rfl rfl) rfl rfl (by simp) ⟨trivial,trivial,trivial⟩ (by trivial) (qkz n x8 x10 hx11) ?_
 rintro r0 o0 n0 ⟨rfl,rfl,rfl⟩ -
 refine qa0 hτ rfl rfl rfl<|qa4<|qa6 ?_
 refine qa8 (wk [] (l:=[(1,cxv y_),(5,.d (.cx .f64 x11.re x11.im))]) (objs:=[])) ?_
 refine qa2<|qa0 hτ rfl rfl rfl ?_
 refine qbf h fun x12 hx12 h=>?_
 refine qac hτ false [] rfl rfl rfl (qai func113 rfl rfl) rfl rfl (by simp) ⟨trivial,trivial⟩ (by trivial) (qlp n y_ hx12) ?_
 rintro r0 o0 n0 ⟨rfl,rfl,rfl⟩ -
 refine qa0 hτ rfl rfl rfl<|qa4<|qa6<|qa2<|qa0 hτ rfl rfl rfl<|qa0 hτ rfl rfl rfl<|qa0 hτ rfl rfl rfl<|qa0 hτ rfl rfl rfl ?_
 refine qac hτ false [] rfl rfl rfl (qai func102 rfl rfl) rfl rfl (by simp) ⟨trivial,trivial⟩ (by trivial) (qhw n (qam .quo .f64 x11.re x12) h) ?_
 rintro r0 o0 n0 ⟨x13,h,rfl,rfl,rfl⟩ -
 refine qa0 hτ rfl rfl rfl<|qa0 hτ rfl rfl rfl<|qa0 hτ rfl rfl rfl<|qa0 hτ rfl rfl rfl ?_
 refine qar (wk [] (l:=[(19,.d (.fl .f32 x13)),(23,.d (.fl .f64 (qam .quo .f64 x11.im x12)))]) (objs:=[])) ?_
 refine qac hτ false [] rfl rfl rfl (qai func102 rfl rfl) rfl rfl (by simp) ⟨trivial,trivial⟩ (by trivial) (qhw n (qam .quo .f64 x11.im x12) h) ?_
 rintro r0 o0 n0 ⟨x14,h,rfl,rfl,rfl⟩ -
 refine qa0 hτ rfl rfl rfl<|qa0 hτ rfl rfl rfl<|qa4 ?_
 refine qa8 (wk [] (l:=[(4,.d (.cx .f32 x13 x14))]) (objs:=[])) ?_
 refine qaq ?_
 exact rt0 rfl rfl ⟨_,h,rfl,rfl,rfl⟩
theorem qlq (n:Nat) (x_:Cx) (y_:Cx) {Q_:Cx→Prop} (h:qeb n x_ y_ Q_):qax prog false 116 [cxv x_,cxv y_] [] (fun v o new=>∃ r,Q_ r∧v = (cxv r)∧o = []∧new = []):=spec_l01Quotient_okP_fr0 false n x_ y_ h
def qmx (n:Nat) (kind_:Int) (load_:Cx) (voltage_:Cx):Option Cx :=
 if (fcmp .eql .f32 load_.re (0:Nat) && fcmp .eql .f32 load_.im (0:Nat)) = true then
  some (Cx.mk (0:Nat) (0:Nat))
 else
  if kind_ = (0:Int) then
   (qma n load_ voltage_).bind fun x6 =>
   (qi1 n x6).bind fun x7 =>
   some x7
  else
   if kind_ = (1:Int) then
    some load_
   else
    if kind_ = (2:Int) then
     (qma n voltage_ load_).bind fun x10 =>
     some x10
    else
     some (Cx.mk (0:Nat) (0:Nat))
def qgn (n:Nat) (kind_:Int) (load_:Cx) (voltage_:Cx) (Q_:Cx→Prop):Prop :=
 if (fcmp .eql .f32 load_.re (0:Nat) && fcmp .eql .f32 load_.im (0:Nat)) = true then
  Q_ ((Cx.mk (0:Nat) (0:Nat)))
 else
  if kind_ = (0:Int) then
   qeb n load_ voltage_ fun x6 =>
   bndP (qi1 n x6) fun x7 =>
   Q_ (x7)
  else
   if kind_ = (1:Int) then
    Q_ (load_)
   else
    if kind_ = (2:Int) then
     qeb n voltage_ load_ fun x10 =>
     Q_ (x10)
    else
     Q_ ((Cx.mk (0:Nat) (0:Nat)))
theorem spec_l02One_okP_fr0 (fr:Bool) (n:Nat) (kind_:Int) (load_:Cx) (voltage_:Cx) {Q_:Cx→Prop} (h:qgn n kind_ load_ voltage_ Q_):qax prog fr 111 [iv kind_,cxv load_,cxv voltage_] [] (fun v o new=>∃ r,Q_ r∧v = (cxv r)∧o = []∧new = []):=by
 refine qaj hτ func111 rfl (by simp) (by simp) ?_
 unfold qgn at h
 refine qa6<|qa2<|qa0 hτ rfl rfl rfl<|qa4<|qa6<|qa6<|qa2<|qa0 hτ rfl rfl rfl ?_
 refine qa0 hτ rfl rfl rfl<|qa4 ?_
 refine qaw rfl (fun hc4=>?_) (fun hc4=>?_)
 ·have h:=qjf h hc4
  refine qa6<|qa2<|qa0 hτ rfl rfl rfl<|qa4 ?_
  refine qa8 (wk [] (l:=[(6,.d (.cx .f32 (0:Nat) (0:Nat)))]) (objs:=[])) ?_
  refine qaq ?_
  exact rt0 rfl rfl ⟨_,h,rfl,rfl,rfl⟩
 ·have h:=qje h hc4
  refine qb1<|qa6<|qa6<|qa2<|qa0 hτ rfl rfl rfl<|qa4<|qb9<|qa6 ?_
  refine qa2 ?_
  refine qa0 hτ (v:=bv (decide (kind_ = (0:Int)))) rfl rfl (qim _ _) ?_
  refine qa0 hτ rfl rfl rfl<|qa4 ?_
  refine qa8 (wk [] (l:=[(1,cxv load_),(2,cxv voltage_),(9,iv kind_),(10,bv (decide (kind_ = (0:Int))))]) (objs:=[])) ?_
  refine qaw rfl (fun hc5=>?_) (fun hc5=>?_)
  ·have h:=qnb h hc5
   refine qa6<|qa2<|qa0 hτ rfl rfl rfl<|qa0 hτ rfl rfl rfl ?_
   refine qac hτ false [] rfl rfl rfl (qai func116 rfl rfl) rfl rfl (by simp) ⟨trivial,trivial,trivial⟩ (by trivial) (qlq n load_ voltage_ h) ?_
   rintro r0 o0 n0 ⟨x6,h,rfl,rfl,rfl⟩ -
   refine qbf h fun x7 hx7 h=>?_
   refine qac hτ false [] rfl rfl rfl (qai func115 rfl rfl) rfl rfl (by simp) ⟨trivial,trivial⟩ (by trivial) (qnk n x6 hx7) ?_
   rintro r0 o0 n0 ⟨rfl,rfl,rfl⟩ -
   refine qa0 hτ rfl rfl rfl<|qa4 ?_
   refine qa8 (wk [] (l:=[(6,cxv x7)]) (objs:=[])) ?_
   refine qaq ?_
   exact rt0 rfl rfl ⟨_,h,rfl,rfl,rfl⟩
  ·have h:=qna h hc5
   refine qa6<|qa2 ?_
   refine qa0 hτ (v:=bv (decide (kind_ = (1:Int)))) rfl rfl (qim _ _) ?_
   refine qa0 hτ rfl rfl rfl<|qa4 ?_
   refine qaw rfl (fun hc8=>?_) (fun hc8=>?_)
   ·have h:=qnb h hc8
    refine qa6<|qa2<|qa0 hτ rfl rfl rfl<|qa0 hτ rfl rfl rfl<|qa4 ?_
    refine qa8 (wk [] (l:=[(6,cxv load_)]) (objs:=[])) ?_
    refine qaq ?_
    exact rt0 rfl rfl ⟨_,h,rfl,rfl,rfl⟩
   ·have h:=qna h hc8
    refine qa6<|qa2 ?_
    refine qa0 hτ (v:=bv (decide (kind_ = (2:Int)))) rfl rfl (qim _ _) ?_
    refine qa0 hτ rfl rfl rfl<|qa4 ?_
    refine qaw rfl (fun hc9=>?_) (fun hc9=>?_)
    ·have h:=qnb h hc9
     refine qa6<|qa2<|qa0 hτ rfl rfl rfl<|qa0 hτ rfl rfl rfl ?_
     refine qac hτ false [] rfl rfl rfl (qai func116 rfl rfl) rfl rfl (by simp) ⟨trivial,trivial,trivial⟩ (by trivial) (qlq n voltage_ load_ h) ?_
     rintro r0 o0 n0 ⟨x10,h,rfl,rfl,rfl⟩ -
     refine qa0 hτ rfl rfl rfl<|qa4 ?_
     refine qa8 (wk [] (l:=[(6,cxv x10)]) (objs:=[])) ?_
     refine qaq ?_
     exact rt0 rfl rfl ⟨_,h,rfl,rfl,rfl⟩
    ·have h:=qna h hc9
     refine qb1<|qa6<|qa2<|qa0 hτ rfl rfl rfl<|qa4 ?_
     refine qa8 (wk [] (l:=[(6,.d (.cx .f32 (0:Nat) (0:Nat)))]) (objs:=[])) ?_
     refine qaq ?_
     exact rt0 rfl rfl ⟨_,h,rfl,rfl,rfl⟩
theorem ql0 (n:Nat) (kind_:Int) (load_:Cx) (voltage_:Cx) {Q_:Cx→Prop} (h:qgn n kind_ load_ voltage_ Q_):qax prog false 111 [iv kind_,cxv load_,cxv voltage_] [] (fun v o new=>∃ r,Q_ r∧v = (cxv r)∧o = []∧new = []):=spec_l02One_okP_fr0 false n kind_ load_ voltage_ h
def m_spec_l02Takes_j1 (n:Nat) (b_:SBus) (v_:qaa) (v7:Cx):Option qaa :=
 (qmx n b_.Kind b_.Load.B v_.B).bind fun x8 =>
 (qmx n b_.Kind b_.Load.C v_.C).bind fun x9 =>
 some (qaa.mk v7 x8 x9)
def m_spec_l02Takes (n:Nat) (b_:SBus) (v_:qaa):Option qaa :=
 (qmx n b_.Kind b_.Load.A v_.A).bind fun x11 =>
 m_spec_l02Takes_j1 n b_ v_ x11
def qgz (n:Nat) (Q_:qaa→Prop) (b_:SBus) (v_:qaa) (v7:Cx):Prop :=
 qgn n b_.Kind b_.Load.B v_.B fun x8 =>
 qgn n b_.Kind b_.Load.C v_.C fun x9 =>
 Q_ ((qaa.mk v7 x8 x9))
def qha (n:Nat) (b_:SBus) (v_:qaa) (Q_:qaa→Prop):Prop :=
 qgn n b_.Kind b_.Load.A v_.A fun x11 =>
 qgz n Q_ b_ v_ x11
theorem spec_l02Takes_okP_fr0 (fr:Bool) (n:Nat) (b_:SBus) (v_:qaa) {Q_:qaa→Prop} (h:qha n b_ v_ Q_):qax prog fr 104 [.rop [.int .i64 b_.qb4,cd b_.Own,cd b_.Shared,.int .i64 b_.Kind,cd b_.Load.A,cd b_.Load.B,cd b_.Load.C,.int .i64 b_.qas] 0,.agg [cxv v_.A,cxv v_.B,cxv v_.C]] [] (fun v o new=>∃ r,Q_ r∧v = .agg [cxv r.A,cxv r.B,cxv r.C]∧o = []∧new = []):=by
 refine qaj hτ func104 rfl (by simp) (by simp) ?_
 unfold qha at h
 refine qa6<|qa2<|qaf hτ rfl rfl rfl<|qaf hτ rfl rfl rfl<|qa4 ?_
 refine qbn (ι:=Cx) (fun v7=>St.of [(0,.rop [.int .i64 b_.qb4,cd b_.Own,cd b_.Shared,.int .i64 b_.Kind,cd b_.Load.A,cd b_.Load.B,cd b_.Load.C,.int .i64 b_.qas] 0),(3,.ptr 0 0),(4,.ptr 1 0),(5,.ptr 2 0)] [.box [cxv v_.A,cxv v_.B,cxv v_.C],.box [.d (.cx .f32 (0:Nat) (0:Nat)),.d (.cx .f32 (0:Nat) (0:Nat)),.d (.cx .f32 (0:Nat) (0:Nat))],.box [cxv v7,.d (.cx .f32 (0:Nat) (0:Nat)),.d (.cx .f32 (0:Nat) (0:Nat))]] f104.ntmps 0) (fun v7=>qgz n Q_ b_ v_ v7) ?_ (fun hk10=>?_)
 ·rintro v7 h
  replace h:qgz n Q_ b_ v_ v7:=h
  unfold qgz at h
  refine qa6 ?_
  refine qi9 mixed ?_
  refine qab hτ [] 0 rfl rfl rfl rfl rfl ?_
  refine qab hτ [] 1 rfl rfl rfl rfl rfl ?_
  refine qab hτ [] 2 rfl rfl rfl rfl rfl ?_
  refine qab hτ [] 3 rfl rfl rfl rfl rfl ?_
  refine qab hτ [] 4 rfl rfl rfl rfl rfl ?_
  refine qab hτ [] 5 rfl rfl rfl rfl rfl ?_
  refine qab hτ [] 6 rfl rfl rfl rfl rfl ?_
  refine qab hτ [] 7 rfl rfl rfl rfl rfl ?_
  refine qab hτ [] 8 rfl rfl rfl rfl rfl ?_
  refine qab hτ [0] 9 rfl rfl rfl rfl rfl ?_
  refine qab hτ [0] 10 rfl rfl rfl rfl rfl ?_
  refine qg1 [11] (by kernel_rfl) fun _ hfs=>⟨?_,trivial⟩
  refine qdb hτ false [] [0,1,2] hfs (by kernel_rfl) rfl rfl rfl rfl (qai func111 rfl rfl) rfl rfl (by simp) ⟨trivial,trivial,trivial,trivial⟩ (by trivial) (ql0 n b_.Kind b_.Load.B v_.B h) (by rintro _ _ _ ⟨_,_,rfl,rfl,rfl⟩ _;exact ⟨rfl,rfl,rfl,trivial⟩) ?_
  rintro r0 o0 n0 ⟨x8,h,rfl,rfl,rfl⟩ - _
  refine qab hτ [2] 12 rfl rfl rfl rfl rfl ?_
  refine qbj hτ [0,1] 13 rfl rfl rfl rfl ⟨rfl,rfl,trivial⟩ ?_
  refine qhc (by kernel_rfl) ?_
  refine qa6 ?_
  refine qa8 (wk [0,1,2] (l:=[(0,.rop [.int .i64 b_.qb4,cd b_.Own,cd b_.Shared,.int .i64 b_.Kind,cd b_.Load.A,cd b_.Load.B,cd b_.Load.C,.int .i64 b_.qas] 0),(3,.ptr 0 0),(4,.ptr 1 0),(5,.ptr 2 0)]) (objs:=[.box [cxv v_.A,cxv v_.B,cxv v_.C],.box [.d (.cx .f32 (0:Nat) (0:Nat)),.d (.cx .f32 (0:Nat) (0:Nat)),.d (.cx .f32 (0:Nat) (0:Nat))],.box [cxv v7,cxv x8,.d (.cx .f32 (0:Nat) (0:Nat))]])) ?_
  refine qi9 mixed ?_
  refine qab hτ [] 0 rfl rfl rfl rfl rfl ?_
  refine qab hτ [] 1 rfl rfl rfl rfl rfl ?_
  refine qab hτ [] 2 rfl rfl rfl rfl rfl ?_
  refine qab hτ [] 3 rfl rfl rfl rfl rfl ?_
  refine qab hτ [] 4 rfl rfl rfl rfl rfl ?_
  refine qab hτ [] 5 rfl rfl rfl rfl rfl ?_
  refine qab hτ [] 6 rfl rfl rfl rfl rfl ?_
  refine qab hτ [] 7 rfl rfl rfl rfl rfl ?_
  refine qab hτ [] 8 rfl rfl rfl rfl rfl ?_
  refine qab hτ [0] 9 rfl rfl rfl rfl rfl ?_
  refine qab hτ [0] 10 rfl rfl rfl rfl rfl ?_
  refine qg1 [11] (by kernel_rfl) fun _ hfs=>⟨?_,trivial⟩
  refine qdb hτ false [] [0,1,2] hfs (by kernel_rfl) rfl rfl rfl rfl (qai func111 rfl rfl) rfl rfl (by simp) ⟨trivial,trivial,trivial,trivial⟩ (by trivial) (ql0 n b_.Kind b_.Load.C v_.C h) (by rintro _ _ _ ⟨_,_,rfl,rfl,rfl⟩ _;exact ⟨rfl,rfl,rfl,trivial⟩) ?_
  rintro r0 o0 n0 ⟨x9,h,rfl,rfl,rfl⟩ - _
  refine qab hτ [2] 12 rfl rfl rfl rfl rfl ?_
  refine qbj hτ [0,1] 13 rfl rfl rfl rfl ⟨rfl,rfl,trivial⟩ ?_
  refine qhc (by kernel_rfl) ?_
  refine qa6 ?_
  refine qa8 (wk [1,2] (l:=[(4,.ptr 0 0),(5,.ptr 1 0)]) (objs:=[.box [.d (.cx .f32 (0:Nat) (0:Nat)),.d (.cx .f32 (0:Nat) (0:Nat)),.d (.cx .f32 (0:Nat) (0:Nat))],.box [cxv v7,cxv x8,cxv x9]])) ?_
  refine qa2<|qa0 hτ rfl rfl rfl<|qaf hτ rfl rfl rfl<|qa4 ?_
  refine qa8 (wk [0] (l:=[(4,.ptr 0 0)]) (objs:=[.box [cxv v7,cxv x8,cxv x9]])) ?_
  refine qaq ?_
  exact rt0 rfl rfl ⟨_,h,rfl,rfl,rfl⟩
 ·refine qa6 ?_
  refine qi9 mixed ?_
  refine qab hτ [] 0 rfl rfl rfl rfl rfl ?_
  refine qab hτ [] 1 rfl rfl rfl rfl rfl ?_
  refine qab hτ [] 2 rfl rfl rfl rfl rfl ?_
  refine qab hτ [] 3 rfl rfl rfl rfl rfl ?_
  refine qab hτ [] 4 rfl rfl rfl rfl rfl ?_
  refine qab hτ [] 5 rfl rfl rfl rfl rfl ?_
  refine qab hτ [] 6 rfl rfl rfl rfl rfl ?_
  refine qab hτ [] 7 rfl rfl rfl rfl rfl ?_
  refine qab hτ [] 8 rfl rfl rfl rfl rfl ?_
  refine qab hτ [0] 9 rfl rfl rfl rfl rfl ?_
  refine qab hτ [0] 10 rfl rfl rfl rfl rfl ?_
  refine qg1 [11,13] (by kernel_rfl) fun _ hfs=>⟨?_,?_,trivial⟩
  ·refine qdb hτ false [] [0,1] hfs (by kernel_rfl) rfl rfl rfl rfl (qai func111 rfl rfl) rfl rfl (by simp) ⟨trivial,trivial,trivial,trivial⟩ (by trivial) (ql0 n b_.Kind b_.Load.A v_.A h) (by rintro _ _ _ ⟨_,_,rfl,rfl,rfl⟩ _;exact ⟨rfl,rfl,trivial⟩) ?_
   rintro r0 o0 n0 ⟨x11,h,rfl,rfl,rfl⟩ - _
   refine qab hτ [] 12 rfl rfl rfl rfl rfl ?_
   refine qbj hτ [0,1] 13 rfl rfl rfl rfl ⟨rfl,rfl,trivial⟩ ?_
   refine qbj hτ [0,1] 14 rfl rfl rfl rfl ⟨rfl,rfl,trivial⟩ ?_
   refine qhc (by kernel_rfl) ?_
   refine qa8 (wk [0,1,2] (l:=[(0,.rop [.int .i64 b_.qb4,cd b_.Own,cd b_.Shared,.int .i64 b_.Kind,cd b_.Load.A,cd b_.Load.B,cd b_.Load.C,.int .i64 b_.qas] 0),(3,.ptr 0 0),(4,.ptr 1 0),(5,.ptr 2 0)]) (objs:=[.box [cxv v_.A,cxv v_.B,cxv v_.C],.box [.d (.cx .f32 (0:Nat) (0:Nat)),.d (.cx .f32 (0:Nat) (0:Nat)),.d (.cx .f32 (0:Nat) (0:Nat))],.box [cxv x11,.d (.cx .f32 (0:Nat) (0:Nat)),.d (.cx .f32 (0:Nat) (0:Nat))]])) ?_
   exact hk10 x11 h
  ·refine qbj hτ [0,1] 13 rfl rfl rfl rfl ⟨rfl,rfl,trivial⟩ ?_
   refine qpz hfs (by kernel_rfl) fun _=>?_
   refine qg1 [11] (by kernel_rfl) fun _ hfs=>⟨?_,trivial⟩
   refine qdb hτ false [] [0,1,2] hfs (by kernel_rfl) rfl rfl rfl rfl (qai func111 rfl rfl) rfl rfl (by simp) ⟨trivial,trivial,trivial,trivial⟩ (by trivial) (ql0 n b_.Kind b_.Load.A v_.A h) (by rintro _ _ _ ⟨_,_,rfl,rfl,rfl⟩ _;exact ⟨rfl,rfl,rfl,trivial⟩) ?_
   rintro r0 o0 n0 ⟨x11,h,rfl,rfl,rfl⟩ - _
   refine qab hτ [] 12 rfl rfl rfl rfl rfl ?_
   refine qbj hτ [0,1] 14 rfl rfl rfl rfl ⟨rfl,rfl,trivial⟩ ?_
   refine qhc (by kernel_rfl) ?_
   refine qa8 (wk [0,1,2] (l:=[(0,.rop [.int .i64 b_.qb4,cd b_.Own,cd b_.Shared,.int .i64 b_.Kind,cd b_.Load.A,cd b_.Load.B,cd b_.Load.C,.int .i64 b_.qas] 0),(3,.ptr 0 0),(4,.ptr 1 0),(5,.ptr 2 0)]) (objs:=[.box [cxv v_.A,cxv v_.B,cxv v_.C],.box [.d (.cx .f32 (0:Nat) (0:Nat)),.d (.cx .f32 (0:Nat) (0:Nat)),.d (.cx .f32 (0:Nat) (0:Nat))],.box [cxv x11,.d (.cx .f32 (0:Nat) (0:Nat)),.d (.cx .f32 (0:Nat) (0:Nat))]])) ?_
   exact hk10 x11 h
theorem spec_l02Takes_okP (n:Nat) (b_:SBus) (v_:qaa) {Q_:qaa→Prop} (h:qha n b_ v_ Q_):qax prog false 104 [.rop [.int .i64 b_.qb4,cd b_.Own,cd b_.Shared,.int .i64 b_.Kind,cd b_.Load.A,cd b_.Load.B,cd b_.Load.C,.int .i64 b_.qas] 0,.agg [cxv v_.A,cxv v_.B,cxv v_.C]] [] (fun v o new=>∃ r,Q_ r∧v = .agg [cxv r.A,cxv r.B,cxv r.C]∧o = []∧new = []):=spec_l02Takes_okP_fr0 false n b_ v_ h
def qmc (n:Nat) (f_:qan) (voltages_:List qaa):Nat→List qaa→Int→Option (List qaa)
 | 0,_,_=>none
 | m25 + 1,v17,v18 =>
  if v18 < (f_.Grid.qa1.qa5.length:Int) then
   (getI f_.Grid.qa1.qa5 v18).bind fun x28 =>
   (getI voltages_ v18).bind fun x29 =>
   (m_spec_l02Takes n x28 x29).bind fun x30 =>
   grd (room (v17.length + 1) 24) <|
   (qmc n f_ voltages_ m25) (v17 ++ [x30]) (w64 (v18 + (1:Int)))
  else
   some v17
def m_spec_l03Loads (n:Nat) (f_:qan) (voltages_:List qaa):Option (List qaa) :=
 qmc n f_ voltages_ n ([]:List qaa) (0:Int)
def qdk (n:Nat) (Q_:List qaa→Prop) (f_:qan) (voltages_:List qaa):Nat→List qaa→Int→Prop
 | 0,_,_=>False
 | m25 + 1,v17,v18 =>
  if v18 < (f_.Grid.qa1.qa5.length:Int) then
   bndP (getI f_.Grid.qa1.qa5 v18) fun x28 =>
   bndP (getI voltages_ v18) fun x29 =>
   qha n x28 x29 fun x30 =>
   grdP (room (v17.length + 1) 24) <|
   (qdk n Q_ f_ voltages_ m25) (v17 ++ [x30]) (w64 (v18 + (1:Int)))
  else
   Q_ (v17)
def qkd (n:Nat) (f_:qan) (voltages_:List qaa) (Q_:List qaa→Prop):Prop :=
 qdk n Q_ f_ voltages_ n ([]:List qaa) (0:Int)
theorem spec_l03Loads_okP (n:Nat) (f_:qan) (voltages_:List qaa) {Q_:List qaa→Prop} (h:qkd n f_ voltages_ Q_):qax prog false 91 [.ptr 0 0,sv qa7 voltages_] [.box [cxv f_.Grid.qa1.Source.A,cxv f_.Grid.qa1.Source.B,cxv f_.Grid.qa1.Source.C,sv qae f_.Grid.qa1.qa5,.row 1 f_.Grid.Ties.length 0 f_.Grid.Ties.length,.row 2 f_.qa9.length 0 f_.qa9.length],.row 5 (f_.Grid.Ties.map qah),.row 4 (f_.qa9.map qad)] (fun v o new=>∃ r,Q_ r∧v = .row 3 r.length 0 r.length∧o = [.box [cxv f_.Grid.qa1.Source.A,cxv f_.Grid.qa1.Source.B,cxv f_.Grid.qa1.Source.C,sv qae f_.Grid.qa1.qa5,.row 1 f_.Grid.Ties.length 0 f_.Grid.Ties.length,.row 2 f_.qa9.length 0 f_.qa9.length],.row 5 (f_.Grid.Ties.map qah),.row 4 (f_.qa9.map qad)]∧new = [.row 3 (r.map qa7)]):=by
 refine qaj hτ func91 rfl (by simp) (by simp) ?_
 unfold qkd at h
 refine qa6<|qa2<|qa0 hτ rfl rfl rfl<|qa4<|qa6<|qa2<|qaf hτ rfl rfl rfl<|qa0 hτ rfl rfl rfl ?_
 refine qa4<|qa6<|qa6<|qa2<|qa0 hτ rfl rfl rfl<|qa0 hτ rfl rfl rfl<|qa0 hτ rfl rfl rfl<|qa0 hτ rfl rfl rfl ?_
 refine qa0 hτ (v:=iv (f_.Grid.qa1.qa5.length:Int)) rfl rfl (Eq.trans rfl (qf1 (f:=qae) f_.Grid.qa1.qa5)) ?_
 refine qa0 hτ rfl rfl rfl<|qa4<|qb9 ?_
 refine qev (ι:=Nat × List qaa × Int) (fun (m25,v17,v18)=>St.of [(0,.ptr 0 0),(1,sv qa7 voltages_),(5,.row 3 v17.length 0 v17.length),(12,iv (f_.Grid.qa1.qa5.length:Int)),(13,iv v18)] [.box [cxv f_.Grid.qa1.Source.A,cxv f_.Grid.qa1.Source.B,cxv f_.Grid.qa1.Source.C,sv qae f_.Grid.qa1.qa5,.row 1 f_.Grid.Ties.length 0 f_.Grid.Ties.length,.row 2 f_.qa9.length 0 f_.qa9.length],.row 5 (f_.Grid.Ties.map qah),.row 4 (f_.qa9.map qad),.row 3 (v17.map qa7)] f91.ntmps 3) (fun (m25,v17,v18)=>qdk n Q_ f_ voltages_ m25 v17 v18) (fun x=>x.1) (n,([]:List qaa),(0:Int)) h (wk [0,1,2,3] (l:=[(0,.ptr 0 0),(1,sv qa7 voltages_),(5,.row 3 (([]:List qaa).length) 0 (([]:List qaa).length)),(12,iv (f_.Grid.qa1.qa5.length:Int)),(13,iv (0:Int))]) (objs:=[.box [cxv f_.Grid.qa1.Source.A,cxv f_.Grid.qa1.Source.B,cxv f_.Grid.qa1.Source.C,sv qae f_.Grid.qa1.qa5,.row 1 f_.Grid.Ties.length 0 f_.Grid.Ties.length,.row 2 f_.qa9.length 0 f_.qa9.length],.row 5 (f_.Grid.Ties.map qah),.row 4 (f_.qa9.map qad),.row 3 (([]:List qaa).map qa7)])) ?_
 rintro ⟨m25,v17,v18⟩ h
 replace h:qdk n Q_ f_ voltages_ m25 v17 v18:=h
 rcases m25 with _ | m25
 ·rw [qdk] at h;cases h
 rw [qdk] at h
 refine qa6<|qa2<|qa0 hτ rfl rfl rfl<|qa4<|qa6 ?_
 refine qaw rfl (fun hc27=>?_) (fun hc27=>?_)
 ·have h:=qnb h hc27
  refine qb1<|qa6<|qb9<|qa6<|qa2<|qa0 hτ rfl rfl rfl<|qa0 hτ rfl rfl rfl<|qa4 ?_
  refine qi9 mixed ?_
  refine qab hτ [] 0 rfl rfl rfl rfl rfl ?_
  refine qab hτ [] 1 rfl rfl rfl rfl rfl ?_
  refine qab hτ [] 2 rfl rfl rfl rfl rfl ?_
  refine qab hτ [0] 3 rfl rfl rfl rfl rfl ?_
  refine qab hτ [0] 4 rfl rfl rfl rfl rfl ?_
  refine qab hτ [] 5 rfl rfl rfl rfl rfl ?_
  refine qbf h fun x28 hx28 h=>?_
  refine qka hτ [] 6 rfl rfl rfl rfl rfl (qcw hx28).1 (qe7 hx28) rfl ?_
  refine qab hτ [] 7 rfl rfl rfl rfl rfl ?_
  refine qab hτ [] 8 rfl rfl rfl rfl rfl ?_
  refine qbf h fun x29 hx29 h=>?_
  refine qka hτ [] 9 rfl rfl rfl rfl rfl (qcw hx29).1 (qe7 hx29) rfl ?_
  refine qab hτ [] 10 rfl rfl rfl rfl rfl ?_
  refine qg1 [11] (by kernel_rfl) fun _ hfs=>⟨?_,trivial⟩
  refine qdb hτ false [] [0,1,2,3] hfs (by kernel_rfl) rfl rfl rfl rfl (qai func104 rfl rfl) rfl rfl (by simp) ⟨trivial,(by trivial),trivial⟩ (by trivial) (spec_l02Takes_okP n x28 x29 h) (by rintro _ _ _ ⟨_,_,rfl,rfl,rfl⟩ _;exact ⟨rfl,rfl,rfl,rfl,trivial⟩) ?_
  rintro r0 o0 n0 ⟨x30,h,rfl,rfl,rfl⟩ - _
  refine qbj hτ [0,1,2,3] 12 rfl rfl rfl rfl ⟨rfl,rfl,rfl,rfl,trivial⟩ ?_
  refine qhf h fun hg31 h=>?_
  refine qjr hτ [0,1,2,4] 13 rfl rfl rfl (Eq.trans rfl (or_append (f:=qa7) v17 [x30] rfl)) ⟨⟨rfl,Nat.le_of_ble_eq_true rfl⟩,qco _,rfl,rfl,hg31,by decide,(all1 rfl)⟩ ⟨rfl,rfl,rfl,rfl,trivial⟩ ?_
  refine qab hτ [] 14 rfl rfl rfl rfl rfl ?_
  refine qhc (by kernel_rfl) ?_
  refine qa8 (wk [0,1,2,3] (l:=[(0,.ptr 0 0),(1,sv qa7 voltages_),(5,.row 3 ((v17 ++ [x30]).length) 0 ((v17 ++ [x30]).length)),(12,iv (f_.Grid.qa1.qa5.length:Int)),(13,iv v18)]) (objs:=[.box [cxv f_.Grid.qa1.Source.A,cxv f_.Grid.qa1.Source.B,cxv f_.Grid.qa1.Source.C,sv qae f_.Grid.qa1.qa5,.row 1 f_.Grid.Ties.length 0 f_.Grid.Ties.length,.row 2 f_.qa9.length 0 f_.qa9.length],.row 5 (f_.Grid.Ties.map qah),.row 4 (f_.qa9.map qad),.row 3 ((v17 ++ [x30]).map qa7)])) ?_
  refine qa2<|qa0 hτ rfl rfl rfl<|qa0 hτ rfl rfl rfl<|qa4 ?_
  exact ⟨(m25,(v17 ++ [x30]),(w64 (v18 + (1:Int)))),h,Nat.lt_succ_self m25,(wk [0,1,2,3] (l:=[(0,.ptr 0 0),(1,sv qa7 voltages_),(5,.row 3 ((v17 ++ [x30]).length) 0 ((v17 ++ [x30]).length)),(12,iv (f_.Grid.qa1.qa5.length:Int)),(13,iv (w64 (v18 + (1:Int))))]) (objs:=[.box [cxv f_.Grid.qa1.Source.A,cxv f_.Grid.qa1.Source.B,cxv f_.Grid.qa1.Source.C,sv qae f_.Grid.qa1.qa5,.row 1 f_.Grid.Ties.length 0 f_.Grid.Ties.length,.row 2 f_.qa9.length 0 f_.qa9.length],.row 5 (f_.Grid.Ties.map qah),.row 4 (f_.qa9.map qad),.row 3 ((v17 ++ [x30]).map qa7)]))⟩
 ·have h:=qna h hc27
  refine qe4<|qa6<|qa2<|qa0 hτ rfl rfl rfl<|qa0 hτ rfl rfl rfl<|qa4 ?_
  refine qa8 (wk [0,1,2,3] (l:=[(4,.row 3 v17.length 0 v17.length)]) (objs:=[.box [cxv f_.Grid.qa1.Source.A,cxv f_.Grid.qa1.Source.B,cxv f_.Grid.qa1.Source.C,sv qae f_.Grid.qa1.qa5,.row 1 f_.Grid.Ties.length 0 f_.Grid.Ties.length,.row 2 f_.qa9.length 0 f_.qa9.length],.row 5 (f_.Grid.Ties.map qah),.row 4 (f_.qa9.map qad),.row 3 (v17.map qa7)])) ?_
  refine qaq ?_
  exact qb0 (.inr rfl) [3] (objs':=[.box [cxv f_.Grid.qa1.Source.A,cxv f_.Grid.qa1.Source.B,cxv f_.Grid.qa1.Source.C,sv qae f_.Grid.qa1.qa5,.row 1 f_.Grid.Ties.length 0 f_.Grid.Ties.length,.row 2 f_.qa9.length 0 f_.qa9.length],.row 5 (f_.Grid.Ties.map qah),.row 4 (f_.qa9.map qad)]) (new:=[.row 3 (v17.map qa7)]) rfl (by simp) (by simp) rfl (by trivial) rfl rfl (by trivial) (fun h=>nomatch h) ⟨_,h,rfl,rfl,rfl⟩
def qku (n:Nat) (a_:qaa) (b_:qaa):Option qaa :=
 some (qaa.mk (Cx.mk (qam .add .f32 a_.A.re b_.A.re) (qam .add .f32 a_.A.im b_.A.im)) (Cx.mk (qam .add .f32 a_.B.re b_.B.re) (qam .add .f32 a_.B.im b_.B.im)) (Cx.mk (qam .add .f32 a_.C.re b_.C.re) (qam .add .f32 a_.C.im b_.C.im)))
theorem spec_l02Add_ok_fr0 (fr:Bool) (n:Nat) (a_:qaa) (b_:qaa) {r:qaa} (h:qku n a_ b_ = some r):qax prog fr 103 [.agg [cxv a_.A,cxv a_.B,cxv a_.C],.agg [cxv b_.A,cxv b_.B,cxv b_.C]] [] (fun v o new=>v = .agg [cxv r.A,cxv r.B,cxv r.C]∧o = []∧new = []):=by
 refine qaj hτ func103 rfl (by simp) (by simp) ?_
 unfold qku at h
 refine qa6<|qa2<|qaf hτ rfl rfl rfl<|qaf hτ rfl rfl rfl<|qaf hτ rfl rfl rfl<|qa4<|qa6<|qa2 ?_
 refine qa0 hτ rfl rfl rfl<|qa0 hτ rfl rfl rfl<|qa0 hτ rfl rfl rfl<|qa0 hτ rfl rfl rfl<|qa0 hτ rfl rfl rfl<|qa0 hτ rfl rfl rfl<|qa0 hτ rfl rfl rfl<|qa0 hτ rfl rfl rfl ?_
 refine qa0 hτ rfl rfl rfl ?_
 refine qar (wk [0,1,2] (l:=[(2,.ptr 0 0),(3,.ptr 1 0),(4,.ptr 2 0),(9,.d (.cx .f32 (qam .add .f32 a_.A.re b_.A.re) (qam .add .f32 a_.A.im b_.A.im))),(11,cxv a_.B),(13,cxv b_.B)]) (objs:=[.box [cxv a_.A,cxv a_.B,cxv a_.C],.box [cxv b_.A,cxv b_.B,cxv b_.C],.box [.d (.cx .f32 (0:Nat) (0:Nat)),.d (.cx .f32 (0:Nat) (0:Nat)),.d (.cx .f32 (0:Nat) (0:Nat))]])) ?_
 refine qa0 hτ rfl rfl rfl<|qa0 hτ rfl rfl rfl<|qa0 hτ rfl rfl rfl<|qa0 hτ rfl rfl rfl<|qa0 hτ rfl rfl rfl<|qa0 hτ rfl rfl rfl<|qa0 hτ rfl rfl rfl<|qaf hτ rfl rfl rfl ?_
 refine qa4 ?_
 refine qa8 (wk [2] (l:=[(4,.ptr 0 0)]) (objs:=[.box [.d (.cx .f32 (qam .add .f32 a_.A.re b_.A.re) (qam .add .f32 a_.A.im b_.A.im)),.d (.cx .f32 (qam .add .f32 a_.B.re b_.B.re) (qam .add .f32 a_.B.im b_.B.im)),.d (.cx .f32 (qam .add .f32 a_.C.re b_.C.re) (qam .add .f32 a_.C.im b_.C.im))]])) ?_
 refine qaq ?_
 have hr:=Option.some.inj h
 subst hr
 exact rt0 rfl rfl ⟨rfl,rfl,rfl⟩
theorem spec_l02Add_ok (n:Nat) (a_:qaa) (b_:qaa) {r:qaa} (h:qku n a_ b_ = some r):qax prog false 103 [.agg [cxv a_.A,cxv a_.B,cxv a_.C],.agg [cxv b_.A,cxv b_.B,cxv b_.C]] [] (fun v o new=>v = .agg [cxv r.A,cxv r.B,cxv r.C]∧o = []∧new = []):=spec_l02Add_ok_fr0 false n a_ b_ h
def qes (n:Nat) (f_:qan):Nat→List qaa→Int→Option (List qaa)
 | 0,_,_=>none
 | m27 + 1,v19,v20 =>
  if v20 > (0:Int) then
   (getI f_.Grid.qa1.qa5 v20).bind fun x30 =>
   (getI v19 x30.qb4).bind fun x31 =>
   (getI v19 v20).bind fun x32 =>
   (qku n x31 x32).bind fun x33 =>
   (qes n f_ m27) (v19.set x30.qb4.toNat x33) (w64 (v20 - (1:Int)))
  else
   some v19
def qjc (n:Nat) (f_:qan) (loads_:List qaa):Option (List qaa) :=
 grd (room (([]:List qaa).length + loads_.length) 24) <|
 qes n f_ n (([]:List qaa) ++ loads_) (w64 (((([]:List qaa) ++ loads_).length:Int) - (1:Int)))
theorem spec_l03Back_ok (n:Nat) (f_:qan) (loads_:List qaa) {r:List qaa} (h:qjc n f_ loads_ = some r):qax prog false 90 [.ptr 0 0,sv qa7 loads_] [.box [cxv f_.Grid.qa1.Source.A,cxv f_.Grid.qa1.Source.B,cxv f_.Grid.qa1.Source.C,sv qae f_.Grid.qa1.qa5,.row 1 f_.Grid.Ties.length 0 f_.Grid.Ties.length,.row 2 f_.qa9.length 0 f_.qa9.length],.row 5 (f_.Grid.Ties.map qah),.row 4 (f_.qa9.map qad)] (fun v o new=>v = .row 3 r.length 0 r.length∧o = [.box [cxv f_.Grid.qa1.Source.A,cxv f_.Grid.qa1.Source.B,cxv f_.Grid.qa1.Source.C,sv qae f_.Grid.qa1.qa5,.row 1 f_.Grid.Ties.length 0 f_.Grid.Ties.length,.row 2 f_.qa9.length 0 f_.qa9.length],.row 5 (f_.Grid.Ties.map qah),.row 4 (f_.qa9.map qad)]∧new = [.row 3 (r.map qa7)]):=by
 refine qaj hτ func90 rfl (by simp) (by simp) ?_
 unfold qjc at h
 refine qa6<|qa2<|qa0 hτ rfl rfl rfl<|qa4<|qa6<|qa2<|qaf hτ rfl rfl rfl<|qa0 hτ rfl rfl rfl ?_
 refine qcr h fun hg14 h=>?_
 refine qk4 hτ rfl rfl (Eq.trans rfl (or_append (f:=qa7) ([]:List qaa) loads_ rfl)) ⟨trivial,qco _,rfl,rfl,(qps (f:=qa7) hg14),by decide,(qon (f:=qa7) (fun _=>rfl) _)⟩ ?_
 refine qa0 hτ rfl rfl rfl<|qa4<|qa6<|qa6<|qa2<|qa0 hτ rfl rfl rfl ?_
 refine qdp hτ rfl rfl rfl (qco _) ?_
 refine qa0 hτ rfl rfl rfl<|qa0 hτ rfl rfl rfl<|qa4<|qb9 ?_
 refine qev (ι:=Nat × List qaa × Int) (fun (m27,v19,v20)=>St.of [(0,.ptr 0 0),(5,.row 3 v19.length 0 v19.length),(6,iv v20)] [.box [cxv f_.Grid.qa1.Source.A,cxv f_.Grid.qa1.Source.B,cxv f_.Grid.qa1.Source.C,sv qae f_.Grid.qa1.qa5,.row 1 f_.Grid.Ties.length 0 f_.Grid.Ties.length,.row 2 f_.qa9.length 0 f_.qa9.length],.row 5 (f_.Grid.Ties.map qah),.row 4 (f_.qa9.map qad),.row 3 (v19.map qa7)] f90.ntmps 3) (fun (m27,v19,v20)=>qes n f_ m27 v19 v20 = some r) (fun x=>x.1) (n,(([]:List qaa) ++ loads_),(w64 (((([]:List qaa) ++ loads_).length:Int) - (1:Int)))) h (wk [0,1,2,3] (l:=[(0,.ptr 0 0),(5,.row 3 ((([]:List qaa) ++ loads_).length) 0 ((([]:List qaa) ++ loads_).length)),(6,iv (w64 (((([]:List qaa) ++ loads_).length:Int) - (1:Int))))]) (objs:=[.box [cxv f_.Grid.qa1.Source.A,cxv f_.Grid.qa1.Source.B,cxv f_.Grid.qa1.Source.C,sv qae f_.Grid.qa1.qa5,.row 1 f_.Grid.Ties.length 0 f_.Grid.Ties.length,.row 2 f_.qa9.length 0 f_.qa9.length],.row 5 (f_.Grid.Ties.map qah),.row 4 (f_.qa9.map qad),.row 3 ((([]:List qaa) ++ loads_).map qa7)])) ?_
 rintro ⟨m27,v19,v20⟩ h
 replace h:qes n f_ m27 v19 v20 = some r:=h
 rcases m27 with _ | m27
 ·rw [qes] at h;cases h
 rw [qes] at h
 refine qa6<|qa6<|qa2<|qa0 hτ rfl rfl rfl<|qa0 hτ rfl rfl rfl<|qa4 ?_
 refine qaw rfl (fun hc29=>?_) (fun hc29=>?_)
 ·have h:=if_t h hc29
  refine qb1<|qa6<|qb9<|qa6<|qa2<|qa0 hτ rfl rfl rfl<|qa0 hτ rfl rfl rfl<|qa0 hτ rfl rfl rfl ?_
  refine qa0 hτ rfl rfl rfl<|qa0 hτ rfl rfl rfl ?_
  refine qag h fun x30 hx30 h=>?_
  refine qgh hτ rfl rfl rfl (qcw hx30).1 (qe7 hx30) rfl ?_
  refine qa0 hτ rfl rfl rfl<|qa0 hτ rfl rfl rfl<|qa0 hτ rfl rfl rfl<|qa4 ?_
  refine qa8 (wk [0,1,2,3] (l:=[(0,.ptr 0 0),(5,.row 3 v19.length 0 v19.length),(6,iv v20),(7,iv x30.qb4)]) (objs:=[.box [cxv f_.Grid.qa1.Source.A,cxv f_.Grid.qa1.Source.B,cxv f_.Grid.qa1.Source.C,sv qae f_.Grid.qa1.qa5,.row 1 f_.Grid.Ties.length 0 f_.Grid.Ties.length,.row 2 f_.qa9.length 0 f_.qa9.length],.row 5 (f_.Grid.Ties.map qah),.row 4 (f_.qa9.map qad),.row 3 (v19.map qa7)])) ?_
  refine qd4 ?_
  refine qab hτ [] 0 rfl rfl rfl rfl rfl ?_
  refine qab hτ [] 1 rfl rfl rfl rfl rfl ?_
  refine qab hτ [] 2 rfl rfl rfl rfl rfl ?_
  refine qab hτ [] 3 rfl rfl rfl rfl rfl ?_
  refine qag h fun x31 hx31 h=>?_
  refine qfj hτ [3] 4 rfl rfl rfl rfl rfl (qlt hx31) ?_
  refine qka hτ [3] 5 rfl rfl rfl rfl rfl (qco _) (qnh hx31) rfl ?_
  refine qab hτ [] 6 rfl rfl rfl rfl rfl ?_
  refine qab hτ [] 7 rfl rfl rfl rfl rfl ?_
  refine qag h fun x32 hx32 h=>?_
  refine qfj hτ [3] 8 rfl rfl rfl rfl rfl (qlt hx32) ?_
  refine qka hτ [3] 9 rfl rfl rfl rfl rfl (qco _) (qnh hx32) rfl ?_
  refine qag h fun x33 hx33 h=>?_
  refine qcy hτ false [] [0,1,2,3] 10 rfl rfl rfl rfl (qai func103 rfl rfl) rfl rfl (by simp) ⟨(by trivial),(by trivial),trivial⟩ (by trivial) (spec_l02Add_ok n x31 x32 hx33) ⟨rfl,rfl,rfl,rfl,trivial⟩ ?_
  refine qfj hτ [3] 11 rfl rfl rfl rfl rfl (qlt hx31) ?_
  refine any_elemHP hτ [0,1,2] 12 rfl rfl rfl rfl (qco _) (qnh hx31) (set_val (f:=qa7) (l:=v19) (i:=x30.qb4) (y:=x33) rfl) ⟨rfl,rfl,rfl,trivial⟩ ?_
  refine qcs mixed (by kernel_rfl) ?_
  refine qa8 (qbk [0,1,2,3] (l:=[(0,.ptr 0 0),(5,.row 3 ((v19.set x30.qb4.toNat x33).length) 0 ((v19.set x30.qb4.toNat x33).length)),(6,iv v20)]) (objs:=[.box [cxv f_.Grid.qa1.Source.A,cxv f_.Grid.qa1.Source.B,cxv f_.Grid.qa1.Source.C,sv qae f_.Grid.qa1.qa5,.row 1 f_.Grid.Ties.length 0 f_.Grid.Ties.length,.row 2 f_.qa9.length 0 f_.qa9.length],.row 5 (f_.Grid.Ties.map qah),.row 4 (f_.qa9.map qad),.row 3 ((v19.set x30.qb4.toNat x33).map qa7)]) rfl (by simp) rfl (by trivial) ⟨rfl,trivial,(exV_rowL rfl (by simp)),trivial,rfl,trivial,trivial⟩) ?_
  refine qa2<|qa0 hτ rfl rfl rfl<|qa0 hτ rfl rfl rfl<|qa0 hτ rfl rfl rfl<|qa4 ?_
  exact ⟨(m27,(v19.set x30.qb4.toNat x33),(w64 (v20 - (1:Int)))),h,Nat.lt_succ_self m27,(wk [0,1,2,3] (l:=[(0,.ptr 0 0),(5,.row 3 ((v19.set x30.qb4.toNat x33).length) 0 ((v19.set x30.qb4.toNat x33).length)),(6,iv (w64 (v20 - (1:Int))))]) (objs:=[.box [cxv f_.Grid.qa1.Source.A,cxv f_.Grid.qa1.Source.B,cxv f_.Grid.qa1.Source.C,sv qae f_.Grid.qa1.qa5,.row 1 f_.Grid.Ties.length 0 f_.Grid.Ties.length,.row 2 f_.qa9.length 0 f_.qa9.length],.row 5 (f_.Grid.Ties.map qah),.row 4 (f_.qa9.map qad),.row 3 ((v19.set x30.qb4.toNat x33).map qa7)]))⟩
 ·have h:=if_f h hc29
  refine qe4<|qa6<|qa2<|qa0 hτ rfl rfl rfl<|qa0 hτ rfl rfl rfl<|qa4 ?_
  refine qa8 (wk [0,1,2,3] (l:=[(4,.row 3 v19.length 0 v19.length)]) (objs:=[.box [cxv f_.Grid.qa1.Source.A,cxv f_.Grid.qa1.Source.B,cxv f_.Grid.qa1.Source.C,sv qae f_.Grid.qa1.qa5,.row 1 f_.Grid.Ties.length 0 f_.Grid.Ties.length,.row 2 f_.qa9.length 0 f_.qa9.length],.row 5 (f_.Grid.Ties.map qah),.row 4 (f_.qa9.map qad),.row 3 (v19.map qa7)])) ?_
  refine qaq ?_
  have hr:=Option.some.inj h
  subst hr
  exact qb0 (.inr rfl) [3] (objs':=[.box [cxv f_.Grid.qa1.Source.A,cxv f_.Grid.qa1.Source.B,cxv f_.Grid.qa1.Source.C,sv qae f_.Grid.qa1.qa5,.row 1 f_.Grid.Ties.length 0 f_.Grid.Ties.length,.row 2 f_.qa9.length 0 f_.qa9.length],.row 5 (f_.Grid.Ties.map qah),.row 4 (f_.qa9.map qad)]) (new:=[.row 3 (v19.map qa7)]) rfl (by simp) (by simp) rfl (by trivial) rfl rfl (by trivial) (fun h=>nomatch h) ⟨rfl,rfl,rfl⟩
def m_spec_l02Drop_j1 (n:Nat) (b_:SBus) (current_:qaa) (v13:Cx):Option qaa :=
 (qez n b_.Own current_.B).bind fun x14 =>
 (qez n b_.Shared (Cx.mk (qam .add .f32 current_.C.re current_.A.re) (qam .add .f32 current_.C.im current_.A.im))).bind fun x15 =>
 (qez n b_.Own current_.C).bind fun x16 =>
 (qez n b_.Shared (Cx.mk (qam .add .f32 current_.A.re current_.B.re) (qam .add .f32 current_.A.im current_.B.im))).bind fun x17 =>
 some (qaa.mk v13 (Cx.mk (qam .add .f32 x14.re x15.re) (qam .add .f32 x14.im x15.im)) (Cx.mk (qam .add .f32 x16.re x17.re) (qam .add .f32 x16.im x17.im)))
def m_spec_l02Drop (n:Nat) (b_:SBus) (current_:qaa):Option qaa :=
 (qez n b_.Own current_.A).bind fun x19 =>
 (qez n b_.Shared (Cx.mk (qam .add .f32 current_.B.re current_.C.re) (qam .add .f32 current_.B.im current_.C.im))).bind fun x20 =>
 m_spec_l02Drop_j1 n b_ current_ (Cx.mk (qam .add .f32 x19.re x20.re) (qam .add .f32 x19.im x20.im))
def qhu (n:Nat) (Q_:qaa→Prop) (b_:SBus) (current_:qaa) (v13:Cx):Prop :=
 qe6 n b_.Own current_.B fun x14 =>
 qe6 n b_.Shared (Cx.mk (qam .add .f32 current_.C.re current_.A.re) (qam .add .f32 current_.C.im current_.A.im)) fun x15 =>
 qe6 n b_.Own current_.C fun x16 =>
 qe6 n b_.Shared (Cx.mk (qam .add .f32 current_.A.re current_.B.re) (qam .add .f32 current_.A.im current_.B.im)) fun x17 =>
 Q_ ((qaa.mk v13 (Cx.mk (qam .add .f32 x14.re x15.re) (qam .add .f32 x14.im x15.im)) (Cx.mk (qam .add .f32 x16.re x17.re) (qam .add .f32 x16.im x17.im))))
def qig (n:Nat) (b_:SBus) (current_:qaa) (Q_:qaa→Prop):Prop :=
 qe6 n b_.Own current_.A fun x19 =>
 qe6 n b_.Shared (Cx.mk (qam .add .f32 current_.B.re current_.C.re) (qam .add .f32 current_.B.im current_.C.im)) fun x20 =>
 qhu n Q_ b_ current_ (Cx.mk (qam .add .f32 x19.re x20.re) (qam .add .f32 x19.im x20.im))
theorem spec_l02Drop_okP_fr0 (fr:Bool) (n:Nat) (b_:SBus) (current_:qaa) {Q_:qaa→Prop} (h:qig n b_ current_ Q_):qax prog fr 105 [.rop [.int .i64 b_.qb4,cd b_.Own,cd b_.Shared,.int .i64 b_.Kind,cd b_.Load.A,cd b_.Load.B,cd b_.Load.C,.int .i64 b_.qas] 0,.agg [cxv current_.A,cxv current_.B,cxv current_.C]] [] (fun v o new=>∃ r,Q_ r∧v = .agg [cxv r.A,cxv r.B,cxv r.C]∧o = []∧new = []):=by
 refine qaj hτ func105 rfl (by simp) (by simp) ?_
 unfold qig at h
 refine qa6<|qa2<|qaf hτ rfl rfl rfl<|qaf hτ rfl rfl rfl<|qa4 ?_
 refine qbn (ι:=Cx) (fun v13=>St.of [(0,.rop [.int .i64 b_.qb4,cd b_.Own,cd b_.Shared,.int .i64 b_.Kind,cd b_.Load.A,cd b_.Load.B,cd b_.Load.C,.int .i64 b_.qas] 0),(3,.ptr 0 0),(4,.ptr 1 0),(5,.ptr 2 0)] [.box [cxv current_.A,cxv current_.B,cxv current_.C],.box [.d (.cx .f32 (0:Nat) (0:Nat)),.d (.cx .f32 (0:Nat) (0:Nat)),.d (.cx .f32 (0:Nat) (0:Nat))],.box [cxv v13,.d (.cx .f32 (0:Nat) (0:Nat)),.d (.cx .f32 (0:Nat) (0:Nat))]] f105.ntmps 0) (fun v13=>qhu n Q_ b_ current_ v13) ?_ (fun hk18=>?_)
 ·rintro v13 h
  replace h:qhu n Q_ b_ current_ v13:=h
  unfold qhu at h
  refine qa6 ?_
  refine qi9 mixed ?_
  refine qab hτ [] 0 rfl rfl rfl rfl rfl ?_
  refine qab hτ [] 1 rfl rfl rfl rfl rfl ?_
  refine qab hτ [] 2 rfl rfl rfl rfl rfl ?_
  refine qab hτ [] 3 rfl rfl rfl rfl rfl ?_
  refine qab hτ [0] 4 rfl rfl rfl rfl rfl ?_
  refine qab hτ [0] 5 rfl rfl rfl rfl rfl ?_
  refine qab hτ [] 7 rfl rfl rfl rfl rfl ?_
  refine qab hτ [] 8 rfl rfl rfl rfl rfl ?_
  refine qab hτ [] 9 rfl rfl rfl rfl rfl ?_
  refine qab hτ [] 10 rfl rfl rfl rfl rfl ?_
  refine qab hτ [0] 11 rfl rfl rfl rfl rfl ?_
  refine qab hτ [0] 12 rfl rfl rfl rfl rfl ?_
  refine qab hτ [0] 13 rfl rfl rfl rfl rfl ?_
  refine qab hτ [0] 14 rfl rfl rfl rfl rfl ?_
  refine qab hτ [] 15 rfl rfl rfl rfl rfl ?_
  refine qg1 [6] (by kernel_rfl) fun _ hfs=>⟨?_,trivial⟩
  refine qdb hτ false [] [0,1,2] hfs (by kernel_rfl) rfl rfl rfl rfl (qai func87 rfl rfl) rfl rfl (by simp) ⟨trivial,trivial,trivial⟩ (by trivial) (qf2 n b_.Own current_.B h) (by rintro _ _ _ ⟨_,_,rfl,rfl,rfl⟩ _;exact ⟨rfl,rfl,rfl,trivial⟩) ?_
  rintro r0 o0 n0 ⟨x14,h,rfl,rfl,rfl⟩ - _
  refine qg1 [16] (by kernel_rfl) fun _ hfs=>⟨?_,trivial⟩
  refine qdb hτ false [] [0,1,2] hfs (by kernel_rfl) rfl rfl rfl rfl (qai func87 rfl rfl) rfl rfl (by simp) ⟨trivial,trivial,trivial⟩ (by trivial) (qf2 n b_.Shared (Cx.mk (qam .add .f32 current_.C.re current_.A.re) (qam .add .f32 current_.C.im current_.A.im)) h) (by rintro _ _ _ ⟨_,_,rfl,rfl,rfl⟩ _;exact ⟨rfl,rfl,rfl,trivial⟩) ?_
  rintro r0 o0 n0 ⟨x15,h,rfl,rfl,rfl⟩ - _
  refine qab hτ [] 17 rfl rfl rfl rfl rfl ?_
  refine qab hτ [2] 18 rfl rfl rfl rfl rfl ?_
  refine qbj hτ [0,1] 19 rfl rfl rfl rfl ⟨rfl,rfl,trivial⟩ ?_
  refine qhc (by kernel_rfl) ?_
  refine qa6 ?_
  refine qa8 (wk [0,1,2] (l:=[(0,.rop [.int .i64 b_.qb4,cd b_.Own,cd b_.Shared,.int .i64 b_.Kind,cd b_.Load.A,cd b_.Load.B,cd b_.Load.C,.int .i64 b_.qas] 0),(3,.ptr 0 0),(4,.ptr 1 0),(5,.ptr 2 0)]) (objs:=[.box [cxv current_.A,cxv current_.B,cxv current_.C],.box [.d (.cx .f32 (0:Nat) (0:Nat)),.d (.cx .f32 (0:Nat) (0:Nat)),.d (.cx .f32 (0:Nat) (0:Nat))],.box [cxv v13,.d (.cx .f32 (qam .add .f32 x14.re x15.re) (qam .add .f32 x14.im x15.im)),.d (.cx .f32 (0:Nat) (0:Nat))]])) ?_
  refine qi9 mixed ?_
  refine qab hτ [] 0 rfl rfl rfl rfl rfl ?_
  refine qab hτ [] 1 rfl rfl rfl rfl rfl ?_
  refine qab hτ [] 2 rfl rfl rfl rfl rfl ?_
  refine qab hτ [] 3 rfl rfl rfl rfl rfl ?_
  refine qab hτ [0] 4 rfl rfl rfl rfl rfl ?_
  refine qab hτ [0] 5 rfl rfl rfl rfl rfl ?_
  refine qab hτ [] 7 rfl rfl rfl rfl rfl ?_
  refine qab hτ [] 8 rfl rfl rfl rfl rfl ?_
  refine qab hτ [] 9 rfl rfl rfl rfl rfl ?_
  refine qab hτ [] 10 rfl rfl rfl rfl rfl ?_
  refine qab hτ [0] 11 rfl rfl rfl rfl rfl ?_
  refine qab hτ [0] 12 rfl rfl rfl rfl rfl ?_
  refine qab hτ [0] 13 rfl rfl rfl rfl rfl ?_
  refine qab hτ [0] 14 rfl rfl rfl rfl rfl ?_
  refine qab hτ [] 15 rfl rfl rfl rfl rfl ?_
  refine qg1 [6] (by kernel_rfl) fun _ hfs=>⟨?_,trivial⟩
  refine qdb hτ false [] [0,1,2] hfs (by kernel_rfl) rfl rfl rfl rfl (qai func87 rfl rfl) rfl rfl (by simp) ⟨trivial,trivial,trivial⟩ (by trivial) (qf2 n b_.Own current_.C h) (by rintro _ _ _ ⟨_,_,rfl,rfl,rfl⟩ _;exact ⟨rfl,rfl,rfl,trivial⟩) ?_
  rintro r0 o0 n0 ⟨x16,h,rfl,rfl,rfl⟩ - _
  refine qg1 [16] (by kernel_rfl) fun _ hfs=>⟨?_,trivial⟩
  refine qdb hτ false [] [0,1,2] hfs (by kernel_rfl) rfl rfl rfl rfl (qai func87 rfl rfl) rfl rfl (by simp) ⟨trivial,trivial,trivial⟩ (by trivial) (qf2 n b_.Shared (Cx.mk (qam .add .f32 current_.A.re current_.B.re) (qam .add .f32 current_.A.im current_.B.im)) h) (by rintro _ _ _ ⟨_,_,rfl,rfl,rfl⟩ _;exact ⟨rfl,rfl,rfl,trivial⟩) ?_
  rintro r0 o0 n0 ⟨x17,h,rfl,rfl,rfl⟩ - _
  refine qab hτ [] 17 rfl rfl rfl rfl rfl ?_
  refine qab hτ [2] 18 rfl rfl rfl rfl rfl ?_
  refine qbj hτ [0,1] 19 rfl rfl rfl rfl ⟨rfl,rfl,trivial⟩ ?_
  refine qhc (by kernel_rfl) ?_
  refine qa6 ?_
  refine qa8 (wk [1,2] (l:=[(4,.ptr 0 0),(5,.ptr 1 0)]) (objs:=[.box [.d (.cx .f32 (0:Nat) (0:Nat)),.d (.cx .f32 (0:Nat) (0:Nat)),.d (.cx .f32 (0:Nat) (0:Nat))],.box [cxv v13,.d (.cx .f32 (qam .add .f32 x14.re x15.re) (qam .add .f32 x14.im x15.im)),.d (.cx .f32 (qam .add .f32 x16.re x17.re) (qam .add .f32 x16.im x17.im))]])) ?_
  refine qa2<|qa0 hτ rfl rfl rfl<|qaf hτ rfl rfl rfl<|qa4 ?_
  refine qa8 (wk [0] (l:=[(4,.ptr 0 0)]) (objs:=[.box [cxv v13,.d (.cx .f32 (qam .add .f32 x14.re x15.re) (qam .add .f32 x14.im x15.im)),.d (.cx .f32 (qam .add .f32 x16.re x17.re) (qam .add .f32 x16.im x17.im))]])) ?_
  refine qaq ?_
  exact rt0 rfl rfl ⟨_,h,rfl,rfl,rfl⟩
 ·refine qa6 ?_
  refine qi9 mixed ?_
  refine qab hτ [] 0 rfl rfl rfl rfl rfl ?_
  refine qab hτ [] 1 rfl rfl rfl rfl rfl ?_
  refine qab hτ [] 2 rfl rfl rfl rfl rfl ?_
  refine qab hτ [] 3 rfl rfl rfl rfl rfl ?_
  refine qab hτ [0] 4 rfl rfl rfl rfl rfl ?_
  refine qab hτ [0] 5 rfl rfl rfl rfl rfl ?_
  refine qab hτ [] 7 rfl rfl rfl rfl rfl ?_
  refine qab hτ [] 8 rfl rfl rfl rfl rfl ?_
  refine qab hτ [] 9 rfl rfl rfl rfl rfl ?_
  refine qab hτ [] 10 rfl rfl rfl rfl rfl ?_
  refine qab hτ [0] 11 rfl rfl rfl rfl rfl ?_
  refine qab hτ [0] 12 rfl rfl rfl rfl rfl ?_
  refine qab hτ [0] 13 rfl rfl rfl rfl rfl ?_
  refine qab hτ [0] 14 rfl rfl rfl rfl rfl ?_
  refine qab hτ [] 15 rfl rfl rfl rfl rfl ?_
  refine qg1 [6,19] (by kernel_rfl) fun _ hfs=>⟨?_,?_,trivial⟩
  ·refine qdb hτ false [] [0,1] hfs (by kernel_rfl) rfl rfl rfl rfl (qai func87 rfl rfl) rfl rfl (by simp) ⟨trivial,trivial,trivial⟩ (by trivial) (qf2 n b_.Own current_.A h) (by rintro _ _ _ ⟨_,_,rfl,rfl,rfl⟩ _;exact ⟨rfl,rfl,trivial⟩) ?_
   rintro r0 o0 n0 ⟨x19,h,rfl,rfl,rfl⟩ - _
   refine qg1 [16,19] (by kernel_rfl) fun _ hfs=>⟨?_,?_,trivial⟩
   ·refine qdb hτ false [] [0,1] hfs (by kernel_rfl) rfl rfl rfl rfl (qai func87 rfl rfl) rfl rfl (by simp) ⟨trivial,trivial,trivial⟩ (by trivial) (qf2 n b_.Shared (Cx.mk (qam .add .f32 current_.B.re current_.C.re) (qam .add .f32 current_.B.im current_.C.im)) h) (by rintro _ _ _ ⟨_,_,rfl,rfl,rfl⟩ _;exact ⟨rfl,rfl,trivial⟩) ?_
    rintro r0 o0 n0 ⟨x20,h,rfl,rfl,rfl⟩ - _
    refine qab hτ [] 17 rfl rfl rfl rfl rfl ?_
    refine qab hτ [] 18 rfl rfl rfl rfl rfl ?_
    refine qbj hτ [0,1] 19 rfl rfl rfl rfl ⟨rfl,rfl,trivial⟩ ?_
    refine qbj hτ [0,1] 20 rfl rfl rfl rfl ⟨rfl,rfl,trivial⟩ ?_
    refine qhc (by kernel_rfl) ?_
    refine qa8 (wk [0,1,2] (l:=[(0,.rop [.int .i64 b_.qb4,cd b_.Own,cd b_.Shared,.int .i64 b_.Kind,cd b_.Load.A,cd b_.Load.B,cd b_.Load.C,.int .i64 b_.qas] 0),(3,.ptr 0 0),(4,.ptr 1 0),(5,.ptr 2 0)]) (objs:=[.box [cxv current_.A,cxv current_.B,cxv current_.C],.box [.d (.cx .f32 (0:Nat) (0:Nat)),.d (.cx .f32 (0:Nat) (0:Nat)),.d (.cx .f32 (0:Nat) (0:Nat))],.box [.d (.cx .f32 (qam .add .f32 x19.re x20.re) (qam .add .f32 x19.im x20.im)),.d (.cx .f32 (0:Nat) (0:Nat)),.d (.cx .f32 (0:Nat) (0:Nat))]])) ?_
    exact hk18 (Cx.mk (qam .add .f32 x19.re x20.re) (qam .add .f32 x19.im x20.im)) h
   ·refine qbj hτ [0,1] 19 rfl rfl rfl rfl ⟨rfl,rfl,trivial⟩ ?_
    refine qpz hfs (by kernel_rfl) fun _=>?_
    refine qg1 [16] (by kernel_rfl) fun _ hfs=>⟨?_,trivial⟩
    refine qdb hτ false [] [0,1,2] hfs (by kernel_rfl) rfl rfl rfl rfl (qai func87 rfl rfl) rfl rfl (by simp) ⟨trivial,trivial,trivial⟩ (by trivial) (qf2 n b_.Shared (Cx.mk (qam .add .f32 current_.B.re current_.C.re) (qam .add .f32 current_.B.im current_.C.im)) h) (by rintro _ _ _ ⟨_,_,rfl,rfl,rfl⟩ _;exact ⟨rfl,rfl,rfl,trivial⟩) ?_
    rintro r0 o0 n0 ⟨x20,h,rfl,rfl,rfl⟩ - _
    refine qab hτ [] 17 rfl rfl rfl rfl rfl ?_
    refine qab hτ [] 18 rfl rfl rfl rfl rfl ?_
    refine qbj hτ [0,1] 20 rfl rfl rfl rfl ⟨rfl,rfl,trivial⟩ ?_
    refine qhc (by kernel_rfl) ?_
    refine qa8 (wk [0,1,2] (l:=[(0,.rop [.int .i64 b_.qb4,cd b_.Own,cd b_.Shared,.int .i64 b_.Kind,cd b_.Load.A,cd b_.Load.B,cd b_.Load.C,.int .i64 b_.qas] 0),(3,.ptr 0 0),(4,.ptr 1 0),(5,.ptr 2 0)]) (objs:=[.box [cxv current_.A,cxv current_.B,cxv current_.C],.box [.d (.cx .f32 (0:Nat) (0:Nat)),.d (.cx .f32 (0:Nat) (0:Nat)),.d (.cx .f32 (0:Nat) (0:Nat))],.box [.d (.cx .f32 (qam .add .f32 x19.re x20.re) (qam .add .f32 x19.im x20.im)),.d (.cx .f32 (0:Nat) (0:Nat)),.d (.cx .f32 (0:Nat) (0:Nat))]])) ?_
    exact hk18 (Cx.mk (qam .add .f32 x19.re x20.re) (qam .add .f32 x19.im x20.im)) h
  ·refine qbj hτ [0,1] 19 rfl rfl rfl rfl ⟨rfl,rfl,trivial⟩ ?_
   refine qpz hfs (by kernel_rfl) fun _=>?_
   refine qg1 [6] (by kernel_rfl) fun _ hfs=>⟨?_,trivial⟩
   refine qdb hτ false [] [0,1,2] hfs (by kernel_rfl) rfl rfl rfl rfl (qai func87 rfl rfl) rfl rfl (by simp) ⟨trivial,trivial,trivial⟩ (by trivial) (qf2 n b_.Own current_.A h) (by rintro _ _ _ ⟨_,_,rfl,rfl,rfl⟩ _;exact ⟨rfl,rfl,rfl,trivial⟩) ?_
   rintro r0 o0 n0 ⟨x19,h,rfl,rfl,rfl⟩ - _
   refine qg1 [16] (by kernel_rfl) fun _ hfs=>⟨?_,trivial⟩
   refine qdb hτ false [] [0,1,2] hfs (by kernel_rfl) rfl rfl rfl rfl (qai func87 rfl rfl) rfl rfl (by simp) ⟨trivial,trivial,trivial⟩ (by trivial) (qf2 n b_.Shared (Cx.mk (qam .add .f32 current_.B.re current_.C.re) (qam .add .f32 current_.B.im current_.C.im)) h) (by rintro _ _ _ ⟨_,_,rfl,rfl,rfl⟩ _;exact ⟨rfl,rfl,rfl,trivial⟩) ?_
   rintro r0 o0 n0 ⟨x20,h,rfl,rfl,rfl⟩ - _
   refine qab hτ [] 17 rfl rfl rfl rfl rfl ?_
   refine qab hτ [] 18 rfl rfl rfl rfl rfl ?_
   refine qbj hτ [0,1] 20 rfl rfl rfl rfl ⟨rfl,rfl,trivial⟩ ?_
   refine qhc (by kernel_rfl) ?_
   refine qa8 (wk [0,1,2] (l:=[(0,.rop [.int .i64 b_.qb4,cd b_.Own,cd b_.Shared,.int .i64 b_.Kind,cd b_.Load.A,cd b_.Load.B,cd b_.Load.C,.int .i64 b_.qas] 0),(3,.ptr 0 0),(4,.ptr 1 0),(5,.ptr 2 0)]) (objs:=[.box [cxv current_.A,cxv current_.B,cxv current_.C],.box [.d (.cx .f32 (0:Nat) (0:Nat)),.d (.cx .f32 (0:Nat) (0:Nat)),.d (.cx .f32 (0:Nat) (0:Nat))],.box [.d (.cx .f32 (qam .add .f32 x19.re x20.re) (qam .add .f32 x19.im x20.im)),.d (.cx .f32 (0:Nat) (0:Nat)),.d (.cx .f32 (0:Nat) (0:Nat))]])) ?_
   exact hk18 (Cx.mk (qam .add .f32 x19.re x20.re) (qam .add .f32 x19.im x20.im)) h
theorem spec_l02Drop_okP (n:Nat) (b_:SBus) (current_:qaa) {Q_:qaa→Prop} (h:qig n b_ current_ Q_):qax prog false 105 [.rop [.int .i64 b_.qb4,cd b_.Own,cd b_.Shared,.int .i64 b_.Kind,cd b_.Load.A,cd b_.Load.B,cd b_.Load.C,.int .i64 b_.qas] 0,.agg [cxv current_.A,cxv current_.B,cxv current_.C]] [] (fun v o new=>∃ r,Q_ r∧v = .agg [cxv r.A,cxv r.B,cxv r.C]∧o = []∧new = []):=spec_l02Drop_okP_fr0 false n b_ current_ h
def qgm (n:Nat) (a_:qaa) (b_:qaa):Option qaa :=
 some (qaa.mk (Cx.mk (qam .sub .f32 a_.A.re b_.A.re) (qam .sub .f32 a_.A.im b_.A.im)) (Cx.mk (qam .sub .f32 a_.B.re b_.B.re) (qam .sub .f32 a_.B.im b_.B.im)) (Cx.mk (qam .sub .f32 a_.C.re b_.C.re) (qam .sub .f32 a_.C.im b_.C.im)))
theorem spec_l02Less_ok_fr0 (fr:Bool) (n:Nat) (a_:qaa) (b_:qaa) {r:qaa} (h:qgm n a_ b_ = some r):qax prog fr 94 [.agg [cxv a_.A,cxv a_.B,cxv a_.C],.agg [cxv b_.A,cxv b_.B,cxv b_.C]] [] (fun v o new=>v = .agg [cxv r.A,cxv r.B,cxv r.C]∧o = []∧new = []):=by
 refine qaj hτ func94 rfl (by simp) (by simp) ?_
 unfold qgm at h
 refine qa6<|qa2<|qaf hτ rfl rfl rfl<|qaf hτ rfl rfl rfl<|qaf hτ rfl rfl rfl<|qa4<|qa6<|qa2 ?_
 refine qa0 hτ rfl rfl rfl<|qa0 hτ rfl rfl rfl<|qa0 hτ rfl rfl rfl<|qa0 hτ rfl rfl rfl<|qa0 hτ rfl rfl rfl<|qa0 hτ rfl rfl rfl<|qa0 hτ rfl rfl rfl<|qa0 hτ rfl rfl rfl ?_
 refine qa0 hτ rfl rfl rfl ?_
 refine qar (wk [0,1,2] (l:=[(2,.ptr 0 0),(3,.ptr 1 0),(4,.ptr 2 0),(9,.d (.cx .f32 (qam .sub .f32 a_.A.re b_.A.re) (qam .sub .f32 a_.A.im b_.A.im))),(11,cxv a_.B),(13,cxv b_.B)]) (objs:=[.box [cxv a_.A,cxv a_.B,cxv a_.C],.box [cxv b_.A,cxv b_.B,cxv b_.C],.box [.d (.cx .f32 (0:Nat) (0:Nat)),.d (.cx .f32 (0:Nat) (0:Nat)),.d (.cx .f32 (0:Nat) (0:Nat))]])) ?_
 refine qa0 hτ rfl rfl rfl<|qa0 hτ rfl rfl rfl<|qa0 hτ rfl rfl rfl<|qa0 hτ rfl rfl rfl<|qa0 hτ rfl rfl rfl<|qa0 hτ rfl rfl rfl<|qa0 hτ rfl rfl rfl<|qaf hτ rfl rfl rfl ?_
 refine qa4 ?_
 refine qa8 (wk [2] (l:=[(4,.ptr 0 0)]) (objs:=[.box [.d (.cx .f32 (qam .sub .f32 a_.A.re b_.A.re) (qam .sub .f32 a_.A.im b_.A.im)),.d (.cx .f32 (qam .sub .f32 a_.B.re b_.B.re) (qam .sub .f32 a_.B.im b_.B.im)),.d (.cx .f32 (qam .sub .f32 a_.C.re b_.C.re) (qam .sub .f32 a_.C.im b_.C.im))]])) ?_
 refine qaq ?_
 have hr:=Option.some.inj h
 subst hr
 exact rt0 rfl rfl ⟨rfl,rfl,rfl⟩
theorem qnl (n:Nat) (a_:qaa) (b_:qaa) {r:qaa} (h:qgm n a_ b_ = some r):qax prog false 94 [.agg [cxv a_.A,cxv a_.B,cxv a_.C],.agg [cxv b_.A,cxv b_.B,cxv b_.C]] [] (fun v o new=>v = .agg [cxv r.A,cxv r.B,cxv r.C]∧o = []∧new = []):=spec_l02Less_ok_fr0 false n a_ b_ h
def qmb (n:Nat) (f_:qan) (currents_:List qaa):Nat→List qaa→Int→Option (List qaa)
 | 0,_,_=>none
 | m33 + 1,v23,v24 =>
  if v24 < (f_.Grid.qa1.qa5.length:Int) then
   (getI f_.Grid.qa1.qa5 v24).bind fun x36 =>
   (getI v23 x36.qb4).bind fun x37 =>
   (getI currents_ v24).bind fun x38 =>
   (m_spec_l02Drop n x36 x38).bind fun x39 =>
   (qgm n x37 x39).bind fun x40 =>
   grd (room (v23.length + 1) 24) <|
   (qmb n f_ currents_ m33) (v23 ++ [x40]) (w64 (v24 + (1:Int)))
  else
   some v23
def m_spec_l03Forth (n:Nat) (f_:qan) (currents_:List qaa):Option (List qaa) :=
 qmb n f_ currents_ n [f_.Grid.qa1.Source] (1:Int)
def qdj (n:Nat) (Q_:List qaa→Prop) (f_:qan) (currents_:List qaa):Nat→List qaa→Int→Prop
 | 0,_,_=>False
 | m33 + 1,v23,v24 =>
  if v24 < (f_.Grid.qa1.qa5.length:Int) then
   bndP (getI f_.Grid.qa1.qa5 v24) fun x36 =>
   bndP (getI v23 x36.qb4) fun x37 =>
   bndP (getI currents_ v24) fun x38 =>
   qig n x36 x38 fun x39 =>
   bndP (qgm n x37 x39) fun x40 =>
   grdP (room (v23.length + 1) 24) <|
   (qdj n Q_ f_ currents_ m33) (v23 ++ [x40]) (w64 (v24 + (1:Int)))
  else
   Q_ (v23)
def qkc (n:Nat) (f_:qan) (currents_:List qaa) (Q_:List qaa→Prop):Prop :=
 qdj n Q_ f_ currents_ n [f_.Grid.qa1.Source] (1:Int)
theorem spec_l03Forth_okP (n:Nat) (f_:qan) (currents_:List qaa) {Q_:List qaa→Prop} (h:qkc n f_ currents_ Q_):qax prog false 92 [.ptr 0 0,sv qa7 currents_] [.box [cxv f_.Grid.qa1.Source.A,cxv f_.Grid.qa1.Source.B,cxv f_.Grid.qa1.Source.C,sv qae f_.Grid.qa1.qa5,.row 1 f_.Grid.Ties.length 0 f_.Grid.Ties.length,.row 2 f_.qa9.length 0 f_.qa9.length],.row 5 (f_.Grid.Ties.map qah),.row 4 (f_.qa9.map qad)] (fun v o new=>∃ r,Q_ r∧v = .row 3 r.length 0 r.length∧o = [.box [cxv f_.Grid.qa1.Source.A,cxv f_.Grid.qa1.Source.B,cxv f_.Grid.qa1.Source.C,sv qae f_.Grid.qa1.qa5,.row 1 f_.Grid.Ties.length 0 f_.Grid.Ties.length,.row 2 f_.qa9.length 0 f_.qa9.length],.row 5 (f_.Grid.Ties.map qah),.row 4 (f_.qa9.map qad)]∧new = [.row 3 (r.map qa7)]):=by
 refine qaj hτ func92 rfl (by simp) (by simp) ?_
 unfold qkc at h
 refine qa6<|qa2<|qa0 hτ rfl rfl rfl<|qa4<|qa6<|qa2<|qa0 hτ rfl rfl rfl<|qa0 hτ rfl rfl rfl ?_
 refine qa0 hτ rfl rfl rfl<|qa0 hτ rfl rfl rfl<|qaf hτ rfl rfl rfl<|qa0 hτ rfl rfl rfl<|qa4<|qa6<|qa6 ?_
 refine qa8 (wk [0,1,2,3] (l:=[(0,.ptr 0 0),(1,sv qa7 currents_),(5,.row 3 ([f_.Grid.qa1.Source].length) 0 ([f_.Grid.qa1.Source].length))]) (objs:=[.box [cxv f_.Grid.qa1.Source.A,cxv f_.Grid.qa1.Source.B,cxv f_.Grid.qa1.Source.C,sv qae f_.Grid.qa1.qa5,.row 1 f_.Grid.Ties.length 0 f_.Grid.Ties.length,.row 2 f_.qa9.length 0 f_.qa9.length],.row 5 (f_.Grid.Ties.map qah),.row 4 (f_.qa9.map qad),.row 3 ([f_.Grid.qa1.Source].map qa7)])) ?_
 refine qa2<|qa0 hτ rfl rfl rfl<|qa4<|qb9 ?_
 refine qev (ι:=Nat × List qaa × Int) (fun (m33,v23,v24)=>St.of [(0,.ptr 0 0),(1,sv qa7 currents_),(5,.row 3 v23.length 0 v23.length),(6,iv v24)] [.box [cxv f_.Grid.qa1.Source.A,cxv f_.Grid.qa1.Source.B,cxv f_.Grid.qa1.Source.C,sv qae f_.Grid.qa1.qa5,.row 1 f_.Grid.Ties.length 0 f_.Grid.Ties.length,.row 2 f_.qa9.length 0 f_.qa9.length],.row 5 (f_.Grid.Ties.map qah),.row 4 (f_.qa9.map qad),.row 3 (v23.map qa7)] f92.ntmps 3) (fun (m33,v23,v24)=>qdj n Q_ f_ currents_ m33 v23 v24) (fun x=>x.1) (n,[f_.Grid.qa1.Source],(1:Int)) h (wk [0,1,2,3] (l:=[(0,.ptr 0 0),(1,sv qa7 currents_),(5,.row 3 ([f_.Grid.qa1.Source].length) 0 ([f_.Grid.qa1.Source].length)),(6,iv (1:Int))]) (objs:=[.box [cxv f_.Grid.qa1.Source.A,cxv f_.Grid.qa1.Source.B,cxv f_.Grid.qa1.Source.C,sv qae f_.Grid.qa1.qa5,.row 1 f_.Grid.Ties.length 0 f_.Grid.Ties.length,.row 2 f_.qa9.length 0 f_.qa9.length],.row 5 (f_.Grid.Ties.map qah),.row 4 (f_.qa9.map qad),.row 3 ([f_.Grid.qa1.Source].map qa7)])) ?_
 rintro ⟨m33,v23,v24⟩ h
 replace h:qdj n Q_ f_ currents_ m33 v23 v24:=h
 rcases m33 with _ | m33
 ·rw [qdj] at h;cases h
 rw [qdj] at h
 refine qa6<|qa6<|qa2<|qa0 hτ rfl rfl rfl<|qa0 hτ rfl rfl rfl<|qa0 hτ rfl rfl rfl<|qa0 hτ rfl rfl rfl<|qa0 hτ rfl rfl rfl ?_
 refine qa0 hτ (v:=iv (f_.Grid.qa1.qa5.length:Int)) rfl rfl (Eq.trans rfl (qf1 (f:=qae) f_.Grid.qa1.qa5)) ?_
 refine qa0 hτ rfl rfl rfl<|qa4 ?_
 refine qa8 (wk [0,1,2,3] (l:=[(0,.ptr 0 0),(1,sv qa7 currents_),(5,.row 3 v23.length 0 v23.length),(6,iv v24),(19,bv (decide (v24 < (f_.Grid.qa1.qa5.length:Int))))]) (objs:=[.box [cxv f_.Grid.qa1.Source.A,cxv f_.Grid.qa1.Source.B,cxv f_.Grid.qa1.Source.C,sv qae f_.Grid.qa1.qa5,.row 1 f_.Grid.Ties.length 0 f_.Grid.Ties.length,.row 2 f_.qa9.length 0 f_.qa9.length],.row 5 (f_.Grid.Ties.map qah),.row 4 (f_.qa9.map qad),.row 3 (v23.map qa7)])) ?_
 refine qaw rfl (fun hc35=>?_) (fun hc35=>?_)
 ·have h:=qnb h hc35
  refine qb1<|qa6<|qb9<|qa6<|qa2<|qa0 hτ rfl rfl rfl<|qa0 hτ rfl rfl rfl<|qa0 hτ rfl rfl rfl ?_
  refine qa0 hτ rfl rfl rfl<|qa0 hτ rfl rfl rfl ?_
  refine qbf h fun x36 hx36 h=>?_
  refine qgh hτ rfl rfl rfl (qcw hx36).1 (qe7 hx36) rfl ?_
  refine qa0 hτ rfl rfl rfl<|qa4 ?_
  refine qa8 (wk [0,1,2,3] (l:=[(0,.ptr 0 0),(1,sv qa7 currents_),(5,.row 3 v23.length 0 v23.length),(6,iv v24),(7,.rop [.int .i64 x36.qb4,cd x36.Own,cd x36.Shared,.int .i64 x36.Kind,cd x36.Load.A,cd x36.Load.B,cd x36.Load.C,.int .i64 x36.qas] 0)]) (objs:=[.box [cxv f_.Grid.qa1.Source.A,cxv f_.Grid.qa1.Source.B,cxv f_.Grid.qa1.Source.C,sv qae f_.Grid.qa1.qa5,.row 1 f_.Grid.Ties.length 0 f_.Grid.Ties.length,.row 2 f_.qa9.length 0 f_.qa9.length],.row 5 (f_.Grid.Ties.map qah),.row 4 (f_.qa9.map qad),.row 3 (v23.map qa7)])) ?_
  refine qi9 mixed ?_
  refine qab hτ [] 0 rfl rfl rfl rfl rfl ?_
  refine qab hτ [] 1 rfl rfl rfl rfl rfl ?_
  refine qab hτ [] 2 rfl rfl rfl rfl rfl ?_
  refine qab hτ [] 3 rfl rfl rfl rfl rfl ?_
  refine qab hτ [] 4 rfl rfl rfl rfl rfl ?_
  refine qab hτ [] 5 rfl rfl rfl rfl rfl ?_
  refine qbf h fun x37 hx37 h=>?_
  refine qfj hτ [3] 6 rfl rfl rfl rfl rfl (qlt hx37) ?_
  refine qka hτ [3] 7 rfl rfl rfl rfl rfl (qco _) (qnh hx37) rfl ?_
  refine qab hτ [] 8 rfl rfl rfl rfl rfl ?_
  refine qab hτ [] 9 rfl rfl rfl rfl rfl ?_
  refine qab hτ [] 10 rfl rfl rfl rfl rfl ?_
  refine qbf h fun x38 hx38 h=>?_
  refine qka hτ [] 11 rfl rfl rfl rfl rfl (qcw hx38).1 (qe7 hx38) rfl ?_
  refine qab hτ [] 12 rfl rfl rfl rfl rfl ?_
  refine qg1 [13] (by kernel_rfl) fun _ hfs=>⟨?_,trivial⟩
  refine qdb hτ false [] [0,1,2,3] hfs (by kernel_rfl) rfl rfl rfl rfl (qai func105 rfl rfl) rfl rfl (by simp) ⟨trivial,(by trivial),trivial⟩ (by trivial) (spec_l02Drop_okP n x36 x38 h) (by rintro _ _ _ ⟨_,_,rfl,rfl,rfl⟩ _;exact ⟨rfl,rfl,rfl,rfl,trivial⟩) ?_
  rintro r0 o0 n0 ⟨x39,h,rfl,rfl,rfl⟩ - _
  refine qbf h fun x40 hx40 h=>?_
  refine qcy hτ false [] [0,1,2,3] 14 rfl rfl rfl rfl (qai func94 rfl rfl) rfl rfl (by simp) ⟨(by trivial),(by trivial),trivial⟩ (by trivial) (qnl n x37 x39 hx40) ⟨rfl,rfl,rfl,rfl,trivial⟩ ?_
  refine qbj hτ [0,1,2,3] 15 rfl rfl rfl rfl ⟨rfl,rfl,rfl,rfl,trivial⟩ ?_
  refine qhf h fun hg41 h=>?_
  refine qjr hτ [0,1,2,4] 16 rfl rfl rfl (Eq.trans rfl (or_append (f:=qa7) v23 [x40] rfl)) ⟨⟨rfl,Nat.le_of_ble_eq_true rfl⟩,qco _,rfl,rfl,hg41,by decide,(all1 rfl)⟩ ⟨rfl,rfl,rfl,rfl,trivial⟩ ?_
  refine qab hτ [] 17 rfl rfl rfl rfl rfl ?_
  refine qhc (by kernel_rfl) ?_
  refine qa8 (wk [0,1,2,3] (l:=[(0,.ptr 0 0),(1,sv qa7 currents_),(5,.row 3 ((v23 ++ [x40]).length) 0 ((v23 ++ [x40]).length)),(6,iv v24)]) (objs:=[.box [cxv f_.Grid.qa1.Source.A,cxv f_.Grid.qa1.Source.B,cxv f_.Grid.qa1.Source.C,sv qae f_.Grid.qa1.qa5,.row 1 f_.Grid.Ties.length 0 f_.Grid.Ties.length,.row 2 f_.qa9.length 0 f_.qa9.length],.row 5 (f_.Grid.Ties.map qah),.row 4 (f_.qa9.map qad),.row 3 ((v23 ++ [x40]).map qa7)])) ?_
  refine qa2<|qa0 hτ rfl rfl rfl<|qa0 hτ rfl rfl rfl<|qa0 hτ rfl rfl rfl<|qa4 ?_
  exact ⟨(m33,(v23 ++ [x40]),(w64 (v24 + (1:Int)))),h,Nat.lt_succ_self m33,(wk [0,1,2,3] (l:=[(0,.ptr 0 0),(1,sv qa7 currents_),(5,.row 3 ((v23 ++ [x40]).length) 0 ((v23 ++ [x40]).length)),(6,iv (w64 (v24 + (1:Int))))]) (objs:=[.box [cxv f_.Grid.qa1.Source.A,cxv f_.Grid.qa1.Source.B,cxv f_.Grid.qa1.Source.C,sv qae f_.Grid.qa1.qa5,.row 1 f_.Grid.Ties.length 0 f_.Grid.Ties.length,.row 2 f_.qa9.length 0 f_.qa9.length],.row 5 (f_.Grid.Ties.map qah),.row 4 (f_.qa9.map qad),.row 3 ((v23 ++ [x40]).map qa7)]))⟩
 ·have h:=qna h hc35
  refine qe4<|qa6<|qa2<|qa0 hτ rfl rfl rfl<|qa0 hτ rfl rfl rfl<|qa4 ?_
  refine qa8 (wk [0,1,2,3] (l:=[(4,.row 3 v23.length 0 v23.length)]) (objs:=[.box [cxv f_.Grid.qa1.Source.A,cxv f_.Grid.qa1.Source.B,cxv f_.Grid.qa1.Source.C,sv qae f_.Grid.qa1.qa5,.row 1 f_.Grid.Ties.length 0 f_.Grid.Ties.length,.row 2 f_.qa9.length 0 f_.qa9.length],.row 5 (f_.Grid.Ties.map qah),.row 4 (f_.qa9.map qad),.row 3 (v23.map qa7)])) ?_
  refine qaq ?_
  exact qb0 (.inr rfl) [3] (objs':=[.box [cxv f_.Grid.qa1.Source.A,cxv f_.Grid.qa1.Source.B,cxv f_.Grid.qa1.Source.C,sv qae f_.Grid.qa1.qa5,.row 1 f_.Grid.Ties.length 0 f_.Grid.Ties.length,.row 2 f_.qa9.length 0 f_.qa9.length],.row 5 (f_.Grid.Ties.map qah),.row 4 (f_.qa9.map qad)]) (new:=[.row 3 (v23.map qa7)]) rfl (by simp) (by simp) rfl (by trivial) rfl rfl (by trivial) (fun h=>nomatch h) ⟨_,h,rfl,rfl,rfl⟩
def m_spec_l03Once (n:Nat) (f_:qan) (voltages_:List qaa):Option qav :=
 (m_spec_l03Loads n (qan.mk (qbg.mk f_.Grid.qa1 f_.Grid.Ties) f_.qa9) voltages_).bind fun x4 =>
 (qjc n (qan.mk (qbg.mk f_.Grid.qa1 f_.Grid.Ties) f_.qa9) x4).bind fun x5 =>
 (m_spec_l03Forth n (qan.mk (qbg.mk f_.Grid.qa1 f_.Grid.Ties) f_.qa9) x5).bind fun x6 =>
 some (qav.mk x6 x5 (1:Int) false)
def qjn (n:Nat) (f_:qan) (voltages_:List qaa) (Q_:qav→Prop):Prop :=
 qkd n (qan.mk (qbg.mk f_.Grid.qa1 f_.Grid.Ties) f_.qa9) voltages_ fun x4 =>
 bndP (qjc n (qan.mk (qbg.mk f_.Grid.qa1 f_.Grid.Ties) f_.qa9) x4) fun x5 =>
 qkc n (qan.mk (qbg.mk f_.Grid.qa1 f_.Grid.Ties) f_.qa9) x5 fun x6 =>
 Q_ ((qav.mk x6 x5 (1:Int) false))
theorem spec_l03Once_okP (n:Nat) (f_:qan) (voltages_:List qaa) {Q_:qav→Prop} (h:qjn n f_ voltages_ Q_):qax prog false 79 [.ptr 0 0,sv qa7 voltages_] [.box [cxv f_.Grid.qa1.Source.A,cxv f_.Grid.qa1.Source.B,cxv f_.Grid.qa1.Source.C,sv qae f_.Grid.qa1.qa5,.row 1 f_.Grid.Ties.length 0 f_.Grid.Ties.length,.row 2 f_.qa9.length 0 f_.qa9.length],.row 5 (f_.Grid.Ties.map qah),.row 4 (f_.qa9.map qad)] (fun v o new=>∃ r,Q_ r∧v = .agg [.row 3 r.qap.length 0 r.qap.length,sv qa7 r.qau,iv r.Rounds,bv r.qdo]∧o = [.box [cxv f_.Grid.qa1.Source.A,cxv f_.Grid.qa1.Source.B,cxv f_.Grid.qa1.Source.C,sv qae f_.Grid.qa1.qa5,.row 1 f_.Grid.Ties.length 0 f_.Grid.Ties.length,.row 2 f_.qa9.length 0 f_.qa9.length],.row 5 (f_.Grid.Ties.map qah),.row 4 (f_.qa9.map qad)]∧new = [.row 3 (r.qap.map qa7)]):=by
 refine qaj hτ func79 rfl (by simp) (by simp) ?_
 unfold qjn at h
 refine qa6<|qa2<|qaf hτ rfl rfl rfl<|qa4<|qa6<|qa2<|qa0 hτ rfl rfl rfl<|qa0 hτ rfl rfl rfl ?_
 refine qa0 hτ rfl rfl rfl ?_
 refine qac hτ false [0,1,2] rfl rfl rfl (qai func91 rfl rfl) rfl rfl (by simp) ⟨trivial,trivial,trivial⟩ (by trivial) (spec_l03Loads_okP n (qan.mk (qbg.mk f_.Grid.qa1 f_.Grid.Ties) f_.qa9) voltages_ h) ?_
 rintro r0 o0 n0 ⟨x4,h,rfl,rfl,rfl⟩ -
 refine qar (qbk [0,1,2,3] (l:=[(0,.ptr 0 0),(4,.ptr 3 0),(6,.ptr 0 0),(9,sv qa7 x4)]) (objs:=[.box [cxv f_.Grid.qa1.Source.A,cxv f_.Grid.qa1.Source.B,cxv f_.Grid.qa1.Source.C,sv qae f_.Grid.qa1.qa5,.row 1 f_.Grid.Ties.length 0 f_.Grid.Ties.length,.row 2 f_.qa9.length 0 f_.qa9.length],.row 5 (f_.Grid.Ties.map qah),.row 4 (f_.qa9.map qad),.box [.d (.nils),.d (.nils),iv (0:Int),bv false]]) rfl (by simp) rfl (by trivial) ⟨rfl,trivial,rfl,trivial,rfl,trivial,(qm8 (f:=qa7) (j:=4) (sz:=3) x4 rfl rfl rfl),(qld (f:=qa7) (j:=4) (sz:=3) x4 rfl rfl rfl),trivial⟩) ?_
 refine qbf h fun x5 hx5 h=>?_
 refine qac hτ false [0,1,2] rfl rfl rfl (qai func90 rfl rfl) rfl rfl (by simp) ⟨trivial,trivial,trivial⟩ (by trivial) (spec_l03Back_ok n (qan.mk (qbg.mk f_.Grid.qa1 f_.Grid.Ties) f_.qa9) x4 hx5) ?_
 rintro r0 o0 n0 ⟨rfl,rfl,rfl⟩ -
 refine qa0 hτ rfl rfl rfl<|qa4<|qa6<|qa2<|qa0 hτ rfl rfl rfl<|qa0 hτ rfl rfl rfl ?_
 refine qar (qbk [0,1,2,3] (l:=[(4,.ptr 3 0),(5,sv qa7 x5),(11,.ptr 0 0),(12,sv qa7 x5)]) (objs:=[.box [cxv f_.Grid.qa1.Source.A,cxv f_.Grid.qa1.Source.B,cxv f_.Grid.qa1.Source.C,sv qae f_.Grid.qa1.qa5,.row 1 f_.Grid.Ties.length 0 f_.Grid.Ties.length,.row 2 f_.qa9.length 0 f_.qa9.length],.row 5 (f_.Grid.Ties.map qah),.row 4 (f_.qa9.map qad),.box [.d (.nils),.d (.nils),iv (0:Int),bv false]]) rfl (by simp) rfl (by trivial) ⟨rfl,trivial,(qm8 (f:=qa7) (j:=4) (sz:=3) x5 rfl rfl rfl),(qld (f:=qa7) (j:=4) (sz:=3) x5 rfl rfl rfl),rfl,trivial,(qm8 (f:=qa7) (j:=4) (sz:=3) x5 rfl rfl rfl),(qld (f:=qa7) (j:=4) (sz:=3) x5 rfl rfl rfl),trivial⟩) ?_
 refine qac hτ false [0,1,2] rfl rfl rfl (qai func92 rfl rfl) rfl rfl (by simp) ⟨trivial,trivial,trivial⟩ (by trivial) (spec_l03Forth_okP n (qan.mk (qbg.mk f_.Grid.qa1 f_.Grid.Ties) f_.qa9) x5 h) ?_
 rintro r0 o0 n0 ⟨x6,h,rfl,rfl,rfl⟩ -
 refine qa0 hτ rfl rfl rfl<|qa0 hτ rfl rfl rfl<|qaf hτ rfl rfl rfl<|qa4 ?_
 refine qa8 (wk [0,1,2,3,4] (l:=[(4,.ptr 3 0)]) (objs:=[.box [cxv f_.Grid.qa1.Source.A,cxv f_.Grid.qa1.Source.B,cxv f_.Grid.qa1.Source.C,sv qae f_.Grid.qa1.qa5,.row 1 f_.Grid.Ties.length 0 f_.Grid.Ties.length,.row 2 f_.qa9.length 0 f_.qa9.length],.row 5 (f_.Grid.Ties.map qah),.row 4 (f_.qa9.map qad),.box [.row 4 x6.length 0 x6.length,sv qa7 x5,iv (1:Int),bv false],.row 3 (x6.map qa7)])) ?_
 refine qaq ?_
 exact qb0 (.inr rfl) [4] (objs':=[.box [cxv f_.Grid.qa1.Source.A,cxv f_.Grid.qa1.Source.B,cxv f_.Grid.qa1.Source.C,sv qae f_.Grid.qa1.qa5,.row 1 f_.Grid.Ties.length 0 f_.Grid.Ties.length,.row 2 f_.qa9.length 0 f_.qa9.length],.row 5 (f_.Grid.Ties.map qah),.row 4 (f_.qa9.map qad)]) (new:=[.row 3 (x6.map qa7)]) rfl (by simp) (by simp) rfl (by trivial) rfl rfl (by trivial) (fun h=>nomatch h) ⟨_,h,rfl,rfl,rfl⟩
def qm0 (n:Nat) (x_:Nat):Option Nat :=
 some (qwp x_)
theorem math_Sqrt_ok_fr0 (fr:Bool) (n:Nat) (x_:Nat) {r:Nat} (h:qm0 n x_ = some r):qax prog fr 112 [.d (.fl .f64 x_)] [] (fun v o new=>v = .d (.fl .f64 r)∧o = []∧new = []):=by
 refine qaj hτ func112 rfl (by simp) (by simp) ?_
 unfold qm0 at h
 refine qa6<|qa2<|qa0 hτ rfl rfl rfl<|qa4<|qa6<|qa2<|qa0 hτ rfl rfl rfl ?_
 refine qo7 hτ rfl rfl rfl ext117 ?_
 refine qa0 hτ rfl rfl rfl<|qa4 ?_
 refine qa8 (wk [] (l:=[(2,.d (.fl .f64 (qwp x_)))]) (objs:=[])) ?_
 refine qaq ?_
 have hr:=Option.some.inj h
 subst hr
 exact rt0 rfl rfl ⟨rfl,rfl,rfl⟩
theorem math_Sqrt_ok (n:Nat) (x_:Nat) {r:Nat} (h:qm0 n x_ = some r):qax prog false 112 [.d (.fl .f64 x_)] [] (fun v o new=>v = .d (.fl .f64 r)∧o = []∧new = []):=math_Sqrt_ok_fr0 false n x_ h
def qmi (n:Nat) (x_:Cx):Option Nat :=
 (qd3 n x_).bind fun x4 =>
 (qm0 n x4).bind fun x5 =>
 (qbs n x5).bind fun x6 =>
 some x6
def qfu (n:Nat) (x_:Cx) (Q_:Nat→Prop):Prop :=
 bndP (qd3 n x_) fun x4 =>
 bndP (qm0 n x4) fun x5 =>
 qd5 n x5 fun x6 =>
 Q_ (x6)
theorem spec_l01Long_okP_fr0 (fr:Bool) (n:Nat) (x_:Cx) {Q_:Nat→Prop} (h:qfu n x_ Q_):qax prog fr 106 [cxv x_] [] (fun v o new=>∃ r,Q_ r∧v = .d (.fl .f32 r)∧o = []∧new = []):=by
 refine qaj hτ func106 rfl (by simp) (by simp) ?_
 unfold qfu at h
 refine qa6<|qa2<|qa0 hτ rfl rfl rfl<|qa4<|qa6<|qa2<|qa0 hτ rfl rfl rfl ?_
 refine qbf h fun x4 hx4 h=>?_
 refine qac hτ false [] rfl rfl rfl (qai func113 rfl rfl) rfl rfl (by simp) ⟨trivial,trivial⟩ (by trivial) (qlp n x_ hx4) ?_
 rintro r0 o0 n0 ⟨rfl,rfl,rfl⟩ -
 refine qbf h fun x5 hx5 h=>?_
 refine qac hτ false [] rfl rfl rfl (qai func112 rfl rfl) rfl rfl (by simp) ⟨trivial,trivial⟩ (by trivial) (math_Sqrt_ok n x4 hx5) ?_
 rintro r0 o0 n0 ⟨rfl,rfl,rfl⟩ -
 refine qac hτ false [] rfl rfl rfl (qai func102 rfl rfl) rfl rfl (by simp) ⟨trivial,trivial⟩ (by trivial) (qhw n x5 h) ?_
 rintro r0 o0 n0 ⟨x6,h,rfl,rfl,rfl⟩ -
 refine qa0 hτ rfl rfl rfl<|qa4 ?_
 refine qa8 (wk [] (l:=[(2,.d (.fl .f32 x6))]) (objs:=[])) ?_
 refine qaq ?_
 exact rt0 rfl rfl ⟨_,h,rfl,rfl,rfl⟩
theorem qli (n:Nat) (x_:Cx) {Q_:Nat→Prop} (h:qfu n x_ Q_):qax prog false 106 [cxv x_] [] (fun v o new=>∃ r,Q_ r∧v = .d (.fl .f32 r)∧o = []∧new = []):=spec_l01Long_okP_fr0 false n x_ h
def m_spec_l03Three (n:Nat) (p_:qaa):Option (List Nat) :=
 (qmi n p_.A).bind fun x4 =>
 (qmi n p_.B).bind fun x5 =>
 (qmi n p_.C).bind fun x6 =>
 some [x4,x5,x6]
def qhb (n:Nat) (p_:qaa) (Q_:List Nat→Prop):Prop :=
 qfu n p_.A fun x4 =>
 qfu n p_.B fun x5 =>
 qfu n p_.C fun x6 =>
 Q_ ([x4,x5,x6])
theorem spec_l03Three_okP_fr0 (fr:Bool) (n:Nat) (p_:qaa) {Q_:List Nat→Prop} (h:qhb n p_ Q_):qax prog fr 93 [.agg [cxv p_.A,cxv p_.B,cxv p_.C]] [] (fun v o new=>∃ r,Q_ r∧v = .row 0 r.length 0 r.length∧o = []∧new = [.row 1 (r.map qip)]):=by
 refine qaj hτ func93 rfl (by simp) (by simp) ?_
 unfold qhb at h
 refine qa6<|qa2<|qaf hτ rfl rfl rfl<|qa0 hτ rfl rfl rfl<|qa4<|qa6 ?_
 refine qi9 mixed ?_
 refine qab hτ [0] 0 rfl rfl rfl rfl rfl ?_
 refine qab hτ [0] 1 rfl rfl rfl rfl rfl ?_
 refine qab hτ [0] 3 rfl rfl rfl rfl rfl ?_
 refine qab hτ [0] 4 rfl rfl rfl rfl rfl ?_
 refine qab hτ [0] 6 rfl rfl rfl rfl rfl ?_
 refine qab hτ [0] 7 rfl rfl rfl rfl rfl ?_
 refine qg1 [2] (by kernel_rfl) fun _ hfs=>⟨?_,trivial⟩
 refine qdb hτ false [] [0] hfs (by kernel_rfl) rfl rfl rfl rfl (qai func106 rfl rfl) rfl rfl (by simp) ⟨trivial,trivial⟩ (by trivial) (qli n p_.A h) (by rintro _ _ _ ⟨_,_,rfl,rfl,rfl⟩ _;exact ⟨rfl,trivial⟩) ?_
 rintro r0 o0 n0 ⟨x4,h,rfl,rfl,rfl⟩ - _
 refine qg1 [5] (by kernel_rfl) fun _ hfs=>⟨?_,trivial⟩
 refine qdb hτ false [] [0] hfs (by kernel_rfl) rfl rfl rfl rfl (qai func106 rfl rfl) rfl rfl (by simp) ⟨trivial,trivial⟩ (by trivial) (qli n p_.B h) (by rintro _ _ _ ⟨_,_,rfl,rfl,rfl⟩ _;exact ⟨rfl,trivial⟩) ?_
 rintro r0 o0 n0 ⟨x5,h,rfl,rfl,rfl⟩ - _
 refine qg1 [8] (by kernel_rfl) fun _ hfs=>⟨?_,trivial⟩
 refine qdb hτ false [] [0] hfs (by kernel_rfl) rfl rfl rfl rfl (qai func106 rfl rfl) rfl rfl (by simp) ⟨trivial,trivial⟩ (by trivial) (qli n p_.C h) (by rintro _ _ _ ⟨_,_,rfl,rfl,rfl⟩ _;exact ⟨rfl,trivial⟩) ?_
 rintro r0 o0 n0 ⟨x6,h,rfl,rfl,rfl⟩ - _
 refine qbj hτ [0] 9 rfl rfl rfl rfl ⟨rfl,trivial⟩ ?_
 refine qab hτ [] 10 rfl rfl rfl rfl rfl ?_
 refine qhc (by kernel_rfl) ?_
 refine qa8 (wk [1] (l:=[(2,.row 0 ([x4,x5,x6].length) 0 ([x4,x5,x6].length))]) (objs:=[.row 1 ([x4,x5,x6].map qip)])) ?_
 refine qaq ?_
 exact qb0 (.inr rfl) [0] (objs':=[]) (new:=[.row 1 ([x4,x5,x6].map qip)]) rfl (by simp) (by simp) rfl (by trivial) rfl rfl (by trivial) (fun _=>⟨by simp [V.flat,V.qiq,V.qf9,D.flat],(qbl (qdy eNatf32_flat _) qct)⟩) ⟨_,h,rfl,rfl,rfl⟩
theorem spec_l03Three_okP (n:Nat) (p_:qaa) {Q_:List Nat→Prop} (h:qhb n p_ Q_):qax prog false 93 [.agg [cxv p_.A,cxv p_.B,cxv p_.C]] [] (fun v o new=>∃ r,Q_ r∧v = .row 0 r.length 0 r.length∧o = []∧new = [.row 1 (r.map qip)]):=spec_l03Three_okP_fr0 false n p_ h
def m_spec_l03Change_j2 (n:Nat) (k82:Nat→Int→Option Nat) (v60:Int) (v102:Nat):Option Nat :=
 k82 v102 (w64 (v60 + (1:Int)))
def m_spec_l03Change_j4 (n:Nat) (k123:Nat→Int→Option Nat) (v114:Int) (v130:Nat):Option Nat :=
 k123 v130 (w64 (v114 + (1:Int)))
def qm1 (n:Nat) (k123:Nat→Int→Option Nat) (v114:Int) (v137:Nat):Option Nat :=
 if (fcmp .neq .f32 v137 v137) = true then
  some v137
 else
  m_spec_l03Change_j4 n k123 v114 v137
def qm2 (n:Nat) (x107:List Nat) (k123:Nat→Int→Option Nat) (v113:Nat) (v114:Int) (v143:Bool):Option Nat :=
 if v143 = true then
  (getI x107 v114).bind fun x145 =>
  qm1 n k123 v114 x145
 else
  qm1 n k123 v114 v113
def qkf (n:Nat) (k82:Nat→Int→Option Nat) (v60:Int) (x107:List Nat):Nat→Nat→Int→Option Nat
 | 0,_,_=>none
 | m122 + 1,v113,v114 =>
  if v114 < (x107.length:Int) then
   (getI x107 v114).bind fun x147 =>
   if (fcmp .gtr .f32 x147 v113) = true then
    qm2 n x107 (qkf n k82 v60 x107 m122) v113 v114 true
   else
    qm2 n x107 (qkf n k82 v60 x107 m122) v113 v114 (fcmp .neq .f32 x147 x147)
  else
   m_spec_l03Change_j2 n k82 v60 v113
def qm3 (n:Nat) (a_:List qaa) (b_:List qaa):Nat→Nat→Int→Option Nat
 | 0,_,_=>none
 | m81 + 1,v59,v60 =>
  if v60 < (a_.length:Int) then
   (getI a_ v60).bind fun x104 =>
   (getI b_ v60).bind fun x105 =>
   (qgm n x104 x105).bind fun x106 =>
   (m_spec_l03Three n x106).bind fun x107 =>
   qkf n (qm3 n a_ b_ m81) v60 x107 n v59 (0:Int)
  else
   some v59
def m_spec_l03Change (n:Nat) (a_:List qaa) (b_:List qaa):Option Nat :=
 qm3 n a_ b_ n (0:Nat) (0:Int)
def qi7 (n:Nat) (Q_:Nat→Prop) (k82:Nat→Int→Prop) (v60:Int) (v102:Nat):Prop :=
 k82 v102 (w64 (v60 + (1:Int)))
def qgg (n:Nat) (Q_:Nat→Prop) (k123:Nat→Int→Prop) (v114:Int) (v130:Nat):Prop :=
 k123 v130 (w64 (v114 + (1:Int)))
def qdv (n:Nat) (Q_:Nat→Prop) (k123:Nat→Int→Prop) (v114:Int) (v137:Nat):Prop :=
 if (fcmp .neq .f32 v137 v137) = true then
  Q_ (v137)
 else
  qgg n Q_ k123 v114 v137
def qdw (n:Nat) (Q_:Nat→Prop) (x107:List Nat) (k123:Nat→Int→Prop) (v113:Nat) (v114:Int) (v143:Bool):Prop :=
 if v143 = true then
  bndP (getI x107 v114) fun x145 =>
  qdv n Q_ k123 v114 x145
 else
  qdv n Q_ k123 v114 v113
def qbh (n:Nat) (Q_:Nat→Prop) (k82:Nat→Int→Prop) (v60:Int) (x107:List Nat):Nat→Nat→Int→Prop
 | 0,_,_=>False
 | m122 + 1,v113,v114 =>
  if v114 < (x107.length:Int) then
   bndP (getI x107 v114) fun x147 =>
   if (fcmp .gtr .f32 x147 v113) = true then
    qdw n Q_ x107 (qbh n Q_ k82 v60 x107 m122) v113 v114 true
   else
    qdw n Q_ x107 (qbh n Q_ k82 v60 x107 m122) v113 v114 (fcmp .neq .f32 x147 x147)
  else
   qi7 n Q_ k82 v60 v113
def qbb (n:Nat) (Q_:Nat→Prop) (a_:List qaa) (b_:List qaa):Nat→Nat→Int→Prop
 | 0,_,_=>False
 | m81 + 1,v59,v60 =>
  if v60 < (a_.length:Int) then
   bndP (getI a_ v60) fun x104 =>
   bndP (getI b_ v60) fun x105 =>
   bndP (qgm n x104 x105) fun x106 =>
   qhb n x106 fun x107 =>
   qbh n Q_ (qbb n Q_ a_ b_ m81) v60 x107 n v59 (0:Int)
  else
   Q_ (v59)
def qjy (n:Nat) (a_:List qaa) (b_:List qaa) (Q_:Nat→Prop):Prop :=
 qbb n Q_ a_ b_ n (0:Nat) (0:Int)
theorem spec_l03Change_okP_fr0 (fr:Bool) (n:Nat) (a_:List qaa) (b_:List qaa) {Q_:Nat→Prop} (h:qjy n a_ b_ Q_):qax prog fr 80 [sv qa7 a_,sv qa7 b_] [] (fun v o new=>∃ r,Q_ r∧v = .d (.fl .f32 r)∧o = []∧new = []):=by
 refine qaj hτ func80 rfl (by simp) (by simp) ?_
 unfold qjy at h
 refine qa6<|qa2<|qa0 hτ rfl rfl rfl<|qa4<|qa6<|qa2<|qa0 hτ rfl rfl rfl<|qa4 ?_
 refine qa6<|qa6<|qa2<|qa0 hτ rfl rfl rfl ?_
 refine qa0 hτ (v:=iv (a_.length:Int)) rfl rfl (Eq.trans rfl (qf1 (f:=qa7) a_)) ?_
 refine qa0 hτ rfl rfl rfl<|qa4<|qb9 ?_
 refine qev (ι:=Nat × Nat × Int) (fun (m81,v59,v60)=>St.of [(0,sv qa7 a_),(1,sv qa7 b_),(5,.d (.fl .f32 v59)),(10,iv (a_.length:Int)),(11,iv v60)] [] f80.ntmps 0) (fun (m81,v59,v60)=>qbb n Q_ a_ b_ m81 v59 v60) (fun x=>x.1) (n,(0:Nat),(0:Int)) h (wk [] (l:=[(0,sv qa7 a_),(1,sv qa7 b_),(5,.d (.fl .f32 (0:Nat))),(10,iv (a_.length:Int)),(11,iv (0:Int))]) (objs:=[])) ?_
 rintro ⟨m81,v59,v60⟩ h
 replace h:qbb n Q_ a_ b_ m81 v59 v60:=h
 rcases m81 with _ | m81
 ·rw [qbb] at h;cases h
 rw [qbb] at h
 refine qa6<|qa2<|qa0 hτ rfl rfl rfl<|qa4<|qa6 ?_
 refine qaw rfl (fun hc83=>?_) (fun hc83=>?_)
 ·have h:=qnb h hc83
  refine qb1 ?_
  refine qbn (ι:=Nat) (fun v102=>St.of [(0,sv qa7 a_),(1,sv qa7 b_),(5,.d (.fl .f32 v102)),(10,iv (a_.length:Int)),(11,iv v60)] [] f80.ntmps 0) (fun v102=>qi7 n Q_ (qbb n Q_ a_ b_ m81) v60 v102) ?_ (fun hk103=>?_)
  ·rintro v102 h
   replace h:qi7 n Q_ (qbb n Q_ a_ b_ m81) v60 v102:=h
   unfold qi7 at h
   refine qa2<|qa0 hτ rfl rfl rfl<|qa0 hτ rfl rfl rfl<|qa4 ?_
   exact ⟨(m81,v102,(w64 (v60 + (1:Int)))),h,Nat.lt_succ_self m81,(wk [] (l:=[(0,sv qa7 a_),(1,sv qa7 b_),(5,.d (.fl .f32 v102)),(10,iv (a_.length:Int)),(11,iv (w64 (v60 + (1:Int))))]) (objs:=[]))⟩
  ·refine qa6<|qb9<|qa6<|qa2<|qa0 hτ rfl rfl rfl<|qa0 hτ rfl rfl rfl<|qa4<|qa6 ?_
   refine qi9 mixed ?_
   refine qab hτ [] 0 rfl rfl rfl rfl rfl ?_
   refine qab hτ [] 1 rfl rfl rfl rfl rfl ?_
   refine qbf h fun x104 hx104 h=>?_
   refine qka hτ [] 2 rfl rfl rfl rfl rfl (qcw hx104).1 (qe7 hx104) rfl ?_
   refine qab hτ [] 3 rfl rfl rfl rfl rfl ?_
   refine qab hτ [] 4 rfl rfl rfl rfl rfl ?_
   refine qab hτ [] 5 rfl rfl rfl rfl rfl ?_
   refine qbf h fun x105 hx105 h=>?_
   refine qka hτ [] 6 rfl rfl rfl rfl rfl (qcw hx105).1 (qe7 hx105) rfl ?_
   refine qab hτ [] 7 rfl rfl rfl rfl rfl ?_
   refine qbf h fun x106 hx106 h=>?_
   refine qcy hτ false [] [] 8 rfl rfl rfl rfl (qai func94 rfl rfl) rfl rfl (by simp) ⟨(by trivial),(by trivial),trivial⟩ (by trivial) (qnl n x104 x105 hx106) trivial ?_
   refine qg1 [9] (by kernel_rfl) fun _ hfs=>⟨?_,trivial⟩
   refine qdb hτ false [] [] hfs (by kernel_rfl) rfl rfl rfl rfl (qai func93 rfl rfl) rfl rfl (by simp) ⟨(by trivial),trivial⟩ (by trivial) (spec_l03Three_okP n x106 h) (by rintro _ _ _ ⟨_,_,rfl,rfl,rfl⟩ _;exact trivial) ?_
   rintro r0 o0 n0 ⟨x107,h,rfl,rfl,rfl⟩ - _
   refine qab hτ [] 10 rfl rfl rfl rfl rfl ?_
   refine qhc (by kernel_rfl) ?_
   refine qa6 ?_
   refine qa8 (wk [0] (l:=[(0,sv qa7 a_),(1,sv qa7 b_),(5,.d (.fl .f32 v59)),(7,.row 0 x107.length 0 x107.length),(10,iv (a_.length:Int)),(11,iv v60)]) (objs:=[.row 1 (x107.map qip)])) ?_
   refine qa2<|qa0 hτ rfl rfl rfl ?_
   refine qdp hτ rfl rfl rfl (qco _) ?_
   refine qa0 hτ rfl rfl rfl<|qa4<|qb9 ?_
   refine qev (ι:=Nat × Nat × Int) (fun (m122,v113,v114)=>St.of [(0,sv qa7 a_),(1,sv qa7 b_),(5,.d (.fl .f32 v113)),(7,.row 0 x107.length 0 x107.length),(10,iv (a_.length:Int)),(11,iv v60),(25,iv (x107.length:Int)),(26,iv v114)] [.row 1 (x107.map qip)] f80.ntmps 0) (fun (m122,v113,v114)=>qbh n Q_ (qbb n Q_ a_ b_ m81) v60 x107 m122 v113 v114) (fun x=>x.1) (n,v59,(0:Int)) h (wk [0] (l:=[(0,sv qa7 a_),(1,sv qa7 b_),(5,.d (.fl .f32 v59)),(7,.row 0 x107.length 0 x107.length),(10,iv (a_.length:Int)),(11,iv v60),(25,iv (x107.length:Int)),(26,iv (0:Int))]) (objs:=[.row 1 (x107.map qip)])) ?_
   rintro ⟨m122,v113,v114⟩ h
   replace h:qbh n Q_ (qbb n Q_ a_ b_ m81) v60 x107 m122 v113 v114:=h
   rcases m122 with _ | m122
   ·rw [qbh] at h;cases h
   rw [qbh] at h
   refine qa6<|qa2<|qa0 hτ rfl rfl rfl<|qa4<|qa6 ?_
   refine qaw rfl (fun hc124=>?_) (fun hc124=>?_)
   ·have h:=qnb h hc124
    refine qb1 ?_
    refine qbn (ι:=Nat) (fun v130=>St.of [(0,sv qa7 a_),(1,sv qa7 b_),(5,.d (.fl .f32 v130)),(7,.row 0 x107.length 0 x107.length),(10,iv (a_.length:Int)),(11,iv v60),(25,iv (x107.length:Int)),(26,iv v114)] [.row 1 (x107.map qip)] f80.ntmps 0) (fun v130=>qgg n Q_ (qbh n Q_ (qbb n Q_ a_ b_ m81) v60 x107 m122) v114 v130) ?_ (fun hk131=>?_)
    ·rintro v130 h
     replace h:qgg n Q_ (qbh n Q_ (qbb n Q_ a_ b_ m81) v60 x107 m122) v114 v130:=h
     unfold qgg at h
     refine qa2<|qa0 hτ rfl rfl rfl<|qa0 hτ rfl rfl rfl<|qa4 ?_
     exact ⟨(m122,v130,(w64 (v114 + (1:Int)))),h,Nat.lt_succ_self m122,(wk [0] (l:=[(0,sv qa7 a_),(1,sv qa7 b_),(5,.d (.fl .f32 v130)),(7,.row 0 x107.length 0 x107.length),(10,iv (a_.length:Int)),(11,iv v60),(25,iv (x107.length:Int)),(26,iv (w64 (v114 + (1:Int))))]) (objs:=[.row 1 (x107.map qip)]))⟩
    ·refine qa6<|qb9<|qa6<|qa2<|qa0 hτ rfl rfl rfl<|qa0 hτ rfl rfl rfl<|qa4 ?_
     refine qbn (ι:=Nat) (fun v137=>St.of [(0,sv qa7 a_),(1,sv qa7 b_),(5,.d (.fl .f32 v137)),(7,.row 0 x107.length 0 x107.length),(10,iv (a_.length:Int)),(11,iv v60),(25,iv (x107.length:Int)),(26,iv v114)] [.row 1 (x107.map qip)] f80.ntmps 0) (fun v137=>qdv n Q_ (qbh n Q_ (qbb n Q_ a_ b_ m81) v60 x107 m122) v114 v137) ?_ (fun hk139=>?_)
     ·rintro v137 h
      replace h:qdv n Q_ (qbh n Q_ (qbb n Q_ a_ b_ m81) v60 x107 m122) v114 v137:=h
      unfold qdv at h
      refine qa6<|qa2<|qa0 hτ rfl rfl rfl<|qa0 hτ rfl rfl rfl<|qa0 hτ rfl rfl rfl<|qa4 ?_
      refine qaw rfl (fun hc138=>?_) (fun hc138=>?_)
      ·have h:=qjf h hc138
       refine qa6<|qa2<|qa0 hτ rfl rfl rfl<|qa0 hτ rfl rfl rfl<|qa4 ?_
       refine qa8 (wk [] (l:=[(4,.d (.fl .f32 v137))]) (objs:=[])) ?_
       refine qaq ?_
       exact rt0 rfl rfl ⟨_,h,rfl,rfl,rfl⟩
      ·have h:=qje h hc138
       refine qb1 ?_
       refine qa8 (wk [0] (l:=[(0,sv qa7 a_),(1,sv qa7 b_),(5,.d (.fl .f32 v137)),(7,.row 0 x107.length 0 x107.length),(10,iv (a_.length:Int)),(11,iv v60),(25,iv (x107.length:Int)),(26,iv v114)]) (objs:=[.row 1 (x107.map qip)])) ?_
       exact hk131 v137 h
     ·refine qa6 ?_
      refine qbn (ι:=Bool) (fun v143=>St.of [(0,sv qa7 a_),(1,sv qa7 b_),(5,.d (.fl .f32 v113)),(7,.row 0 x107.length 0 x107.length),(8,iv v114),(10,iv (a_.length:Int)),(11,iv v60),(25,iv (x107.length:Int)),(26,iv v114),(45,bv v143)] [.row 1 (x107.map qip)] f80.ntmps 0) (fun v143=>qdw n Q_ x107 (qbh n Q_ (qbb n Q_ a_ b_ m81) v60 x107 m122) v113 v114 v143) ?_ (fun hk146=>?_)
      ·rintro v143 h
       replace h:qdw n Q_ x107 (qbh n Q_ (qbb n Q_ a_ b_ m81) v60 x107 m122) v113 v114 v143:=h
       unfold qdw at h
       refine qaw rfl (fun hc144=>?_) (fun hc144=>?_)
       ·have h:=qjf h hc144
        refine qa2<|qa0 hτ rfl rfl rfl<|qa0 hτ rfl rfl rfl ?_
        refine qbf h fun x145 hx145 h=>?_
        refine qdp hτ rfl rfl rfl (qlt hx145) ?_
        refine qgh hτ rfl rfl rfl (qco _) (qnh hx145) rfl ?_
        refine qa0 hτ rfl rfl rfl<|qa4 ?_
        refine qa8 (wk [0] (l:=[(0,sv qa7 a_),(1,sv qa7 b_),(5,.d (.fl .f32 x145)),(7,.row 0 x107.length 0 x107.length),(10,iv (a_.length:Int)),(11,iv v60),(25,iv (x107.length:Int)),(26,iv v114)]) (objs:=[.row 1 (x107.map qip)])) ?_
        exact hk139 x145 h
       ·have h:=qje h hc144
        refine qb1 ?_
        refine qa8 (wk [0] (l:=[(0,sv qa7 a_),(1,sv qa7 b_),(5,.d (.fl .f32 v113)),(7,.row 0 x107.length 0 x107.length),(10,iv (a_.length:Int)),(11,iv v60),(25,iv (x107.length:Int)),(26,iv v114)]) (objs:=[.row 1 (x107.map qip)])) ?_
        exact hk139 v113 h
      ·refine qa6<|qd4 ?_
       refine qab hτ [] 0 rfl rfl rfl rfl rfl ?_
       refine qab hτ [] 1 rfl rfl rfl rfl rfl ?_
       refine qbf h fun x147 hx147 h=>?_
       refine qfj hτ [0] 2 rfl rfl rfl rfl rfl (qlt hx147) ?_
       refine qka hτ [0] 3 rfl rfl rfl rfl rfl (qco _) (qnh hx147) rfl ?_
       refine qab hτ [] 4 rfl rfl rfl rfl rfl ?_
       refine qab hτ [] 5 rfl rfl rfl rfl rfl ?_
       refine qab hτ [] 6 rfl rfl rfl rfl rfl ?_
       refine qlc 35 rfl (fun hb148=>?_) (fun hb148=>?_)
       ·have h:=qjf h hb148
        refine qaz 7 rfl rfl rfl ?_
        refine qaz 8 rfl rfl rfl ?_
        refine qaz 9 rfl rfl rfl ?_
        refine qaz 10 rfl rfl rfl ?_
        refine qaz 11 rfl rfl rfl ?_
        refine qaz 12 rfl rfl rfl ?_
        refine qaz 13 rfl rfl rfl ?_
        refine qaz 14 rfl rfl rfl ?_
        refine qaz 15 rfl rfl rfl ?_
        refine qab hτ [] 16 rfl rfl rfl rfl rfl ?_
        refine qcs mixed (by kernel_rfl) ?_
        refine qa8 (wk [0] (l:=[(0,sv qa7 a_),(1,sv qa7 b_),(5,.d (.fl .f32 v113)),(7,.row 0 x107.length 0 x107.length),(8,iv v114),(10,iv (a_.length:Int)),(11,iv v60),(25,iv (x107.length:Int)),(26,iv v114),(45,bv true)]) (objs:=[.row 1 (x107.map qip)])) ?_
        exact hk146 true h
       ·have h:=qje h hb148
        refine qab hτ [] 7 rfl rfl rfl rfl rfl ?_
        refine qab hτ [] 8 rfl rfl rfl rfl rfl ?_
        refine qfj hτ [0] 9 rfl rfl rfl rfl rfl (qlt hx147) ?_
        refine qka hτ [0] 10 rfl rfl rfl rfl rfl (qco _) (qnh hx147) rfl ?_
        refine qab hτ [] 11 rfl rfl rfl rfl rfl ?_
        refine qab hτ [] 12 rfl rfl rfl rfl rfl ?_
        refine qfj hτ [0] 13 rfl rfl rfl rfl rfl (qlt hx147) ?_
        refine qka hτ [0] 14 rfl rfl rfl rfl rfl (qco _) (qnh hx147) rfl ?_
        refine qab hτ [] 15 rfl rfl rfl rfl rfl ?_
        refine qab hτ [] 16 rfl rfl rfl rfl rfl ?_
        refine qcs mixed (by kernel_rfl) ?_
        refine qa8 (wk [0] (l:=[(0,sv qa7 a_),(1,sv qa7 b_),(5,.d (.fl .f32 v113)),(7,.row 0 x107.length 0 x107.length),(8,iv v114),(10,iv (a_.length:Int)),(11,iv v60),(25,iv (x107.length:Int)),(26,iv v114),(45,bv (fcmp .neq .f32 x147 x147))]) (objs:=[.row 1 (x107.map qip)])) ?_
        exact hk146 (fcmp .neq .f32 x147 x147) h
   ·have h:=qna h hc124
    refine qe4 ?_
    refine qa8 (wk [] (l:=[(0,sv qa7 a_),(1,sv qa7 b_),(5,.d (.fl .f32 v113)),(10,iv (a_.length:Int)),(11,iv v60)]) (objs:=[])) ?_
    exact hk103 v113 h
 ·have h:=qna h hc83
  refine qe4<|qa6<|qa2<|qa0 hτ rfl rfl rfl<|qa0 hτ rfl rfl rfl<|qa4 ?_
  refine qa8 (wk [] (l:=[(4,.d (.fl .f32 v59))]) (objs:=[])) ?_
  refine qaq ?_
  exact rt0 rfl rfl ⟨_,h,rfl,rfl,rfl⟩
theorem spec_l03Change_okP_fr (n:Nat) (a_:List qaa) (b_:List qaa) {Q_:Nat→Prop} (h:qjy n a_ b_ Q_):qax prog true 80 [sv qa7 a_,sv qa7 b_] [] (fun v o new=>∃ r,Q_ r∧v = .d (.fl .f32 r)∧o = []∧new = []):=spec_l03Change_okP_fr0 true n a_ b_ h
end Go.Proofs.YtiegopnofbgoaaaGreat.AWN

set_option maxHeartbeats 2000000
namespace Go.Proofs.YtiegopnofbgoaaaGreat.AWN
open Go Go.Proofs.Tryz
def m_spec_l03Solve_j1 (n:Nat) (v39:qav):Option qav :=
 some v39
def qmd (n:Nat) (f_:qan) (rounds_:Int) (near_:Nat):Nat→List qaa→qav→Int→Option qav
 | 0,_,_,_=>none
 | m59 + 1,v51,v52,v53 =>
  if v53 ≤ rounds_ then
   (m_spec_l03Once n (qan.mk (qbg.mk f_.Grid.qa1 f_.Grid.Ties) f_.qa9) v51).bind fun x64 =>
   (m_spec_l03Change n v51 x64.qap).bind fun x66 =>
   if (fcmp .leq .f32 x66 near_) = true then
    some (qav.mk x64.qap x64.qau v53 true)
   else
    (qmd n f_ rounds_ near_ m59) x64.qap (qav.mk x64.qap x64.qau v53 x64.qdo) (w64 (v53 + (1:Int)))
  else
   m_spec_l03Solve_j1 n v52
def m_spec_l03Solve (n:Nat) (f_:qan) (rounds_:Int) (near_:Nat):Option qav :=
 (qk9 n (qan.mk (qbg.mk f_.Grid.qa1 f_.Grid.Ties) f_.qa9)).bind fun x20 =>
 qmd n f_ rounds_ near_ n x20 (qav.mk ([]:List qaa) ([]:List qaa) (0:Int) false) (1:Int)
def qiy (n:Nat) (Q_:qav→Prop) (v39:qav):Prop :=
 Q_ (v39)
def qdl (n:Nat) (Q_:qav→Prop) (f_:qan) (rounds_:Int) (near_:Nat):Nat→List qaa→qav→Int→Prop
 | 0,_,_,_=>False
 | m59 + 1,v51,v52,v53 =>
  if v53 ≤ rounds_ then
   qjn n (qan.mk (qbg.mk f_.Grid.qa1 f_.Grid.Ties) f_.qa9) v51 fun x64 =>
   qjy n v51 x64.qap fun x66 =>
   if (fcmp .leq .f32 x66 near_) = true then
    Q_ ((qav.mk x64.qap x64.qau v53 true))
   else
    (qdl n Q_ f_ rounds_ near_ m59) x64.qap (qav.mk x64.qap x64.qau v53 x64.qdo) (w64 (v53 + (1:Int)))
  else
   qiy n Q_ v52
def qj6 (n:Nat) (f_:qan) (rounds_:Int) (near_:Nat) (Q_:qav→Prop):Prop :=
 bndP (qk9 n (qan.mk (qbg.mk f_.Grid.qa1 f_.Grid.Ties) f_.qa9)) fun x20 =>
 qdl n Q_ f_ rounds_ near_ n x20 (qav.mk ([]:List qaa) ([]:List qaa) (0:Int) false) (1:Int)
theorem spec_l03Solve_okP (n:Nat) (f_:qan) (rounds_:Int) (near_:Nat) {Q_:qav→Prop} (h:qj6 n f_ rounds_ near_ Q_):qax prog false 64 [.ptr 0 0,iv rounds_,.d (.fl .f32 near_)] [.box [cxv f_.Grid.qa1.Source.A,cxv f_.Grid.qa1.Source.B,cxv f_.Grid.qa1.Source.C,sv qae f_.Grid.qa1.qa5,.row 1 f_.Grid.Ties.length 0 f_.Grid.Ties.length,.row 2 f_.qa9.length 0 f_.qa9.length],.row 5 (f_.Grid.Ties.map qah),.row 4 (f_.qa9.map qad)] (fun v o new=>∃ r,Q_ r∧v = .agg [sv qa7 r.qap,sv qa7 r.qau,iv r.Rounds,bv r.qdo]∧o = [.box [cxv f_.Grid.qa1.Source.A,cxv f_.Grid.qa1.Source.B,cxv f_.Grid.qa1.Source.C,sv qae f_.Grid.qa1.qa5,.row 1 f_.Grid.Ties.length 0 f_.Grid.Ties.length,.row 2 f_.qa9.length 0 f_.qa9.length],.row 5 (f_.Grid.Ties.map qah),.row 4 (f_.qa9.map qad)]∧new = []):=by
 refine qaj hτ func64 rfl (by simp) (by simp) ?_
 unfold qj6 at h
 refine qa6<|qa2<|qaf hτ rfl rfl rfl<|qa4<|qa6<|qa2<|qa0 hτ rfl rfl rfl ?_
 refine qbf h fun x20 hx20 h=>?_
 refine qac hτ false [0,1,2] rfl rfl rfl (qai func78 rfl rfl) rfl rfl (by simp) ⟨trivial,trivial⟩ (by trivial) (spec_l03Flat_ok n (qan.mk (qbg.mk f_.Grid.qa1 f_.Grid.Ties) f_.qa9) hx20) ?_
 rintro r0 o0 n0 ⟨rfl,rfl,rfl⟩ -
 refine qa0 hτ rfl rfl rfl<|qa4<|qa6<|qa2<|qa0 hτ rfl rfl rfl<|qaf hτ rfl rfl rfl<|qaf hτ rfl rfl rfl<|qa4 ?_
 refine qbn (ι:=qav) (fun v39=>St.of [(6,.ptr 3 0),(8,.ptr 4 0)] [.box [cxv f_.Grid.qa1.Source.A,cxv f_.Grid.qa1.Source.B,cxv f_.Grid.qa1.Source.C,sv qae f_.Grid.qa1.qa5,.row 1 f_.Grid.Ties.length 0 f_.Grid.Ties.length,.row 2 f_.qa9.length 0 f_.qa9.length],.row 5 (f_.Grid.Ties.map qah),.row 4 (f_.qa9.map qad),.box [.d (.nils),.d (.nils),iv (0:Int),bv false],.box [sv qa7 v39.qap,sv qa7 v39.qau,iv v39.Rounds,bv v39.qdo]] f64.ntmps 3) (fun v39=>qiy n Q_ v39) ?_ (fun hk40=>?_)
 ·rintro v39 h
  replace h:qiy n Q_ v39:=h
  unfold qiy at h
  refine qa6<|qa2<|qa0 hτ rfl rfl rfl<|qaf hτ rfl rfl rfl<|qa4 ?_
  refine qa8 (wk [0,1,2,3] (l:=[(6,.ptr 3 0)]) (objs:=[.box [cxv f_.Grid.qa1.Source.A,cxv f_.Grid.qa1.Source.B,cxv f_.Grid.qa1.Source.C,sv qae f_.Grid.qa1.qa5,.row 1 f_.Grid.Ties.length 0 f_.Grid.Ties.length,.row 2 f_.qa9.length 0 f_.qa9.length],.row 5 (f_.Grid.Ties.map qah),.row 4 (f_.qa9.map qad),.box [sv qa7 v39.qap,sv qa7 v39.qau,iv v39.Rounds,bv v39.qdo]])) ?_
  refine qaq ?_
  exact qb0 (.inr rfl) [] (objs':=[.box [cxv f_.Grid.qa1.Source.A,cxv f_.Grid.qa1.Source.B,cxv f_.Grid.qa1.Source.C,sv qae f_.Grid.qa1.qa5,.row 1 f_.Grid.Ties.length 0 f_.Grid.Ties.length,.row 2 f_.qa9.length 0 f_.qa9.length],.row 5 (f_.Grid.Ties.map qah),.row 4 (f_.qa9.map qad)]) (new:=[]) rfl (by simp) (by simp) rfl (by trivial) rfl rfl (by trivial) (fun h=>nomatch h) ⟨_,h,rfl,rfl,rfl⟩
 ·refine qa6<|qa6 ?_
  refine qa8 (wk [0,1,2,3,4,5] (l:=[(0,.ptr 0 0),(1,iv rounds_),(2,.d (.fl .f32 near_)),(6,.ptr 3 0),(7,.row 4 x20.length 0 x20.length),(8,.ptr 5 0)]) (objs:=[.box [cxv f_.Grid.qa1.Source.A,cxv f_.Grid.qa1.Source.B,cxv f_.Grid.qa1.Source.C,sv qae f_.Grid.qa1.qa5,.row 1 f_.Grid.Ties.length 0 f_.Grid.Ties.length,.row 2 f_.qa9.length 0 f_.qa9.length],.row 5 (f_.Grid.Ties.map qah),.row 4 (f_.qa9.map qad),.box [.d (.nils),.d (.nils),iv (0:Int),bv false],.row 3 (x20.map qa7),.box [.d (.nils),.d (.nils),iv (0:Int),bv false]])) ?_
  refine qa2<|qa0 hτ rfl rfl rfl<|qa4<|qb9 ?_
  refine qev (ι:=Nat × List qaa × qav × Int) (fun (m59,v51,v52,v53)=>St.of [(0,.ptr 0 0),(1,iv rounds_),(2,.d (.fl .f32 near_)),(6,.ptr 3 0),(7,sv qa7 v51),(8,.ptr 4 0),(9,iv v53)] [.box [cxv f_.Grid.qa1.Source.A,cxv f_.Grid.qa1.Source.B,cxv f_.Grid.qa1.Source.C,sv qae f_.Grid.qa1.qa5,.row 1 f_.Grid.Ties.length 0 f_.Grid.Ties.length,.row 2 f_.qa9.length 0 f_.qa9.length],.row 5 (f_.Grid.Ties.map qah),.row 4 (f_.qa9.map qad),.box [.d (.nils),.d (.nils),iv (0:Int),bv false],.box [sv qa7 v52.qap,sv qa7 v52.qau,iv v52.Rounds,bv v52.qdo]] f64.ntmps 3) (fun (m59,v51,v52,v53)=>qdl n Q_ f_ rounds_ near_ m59 v51 v52 v53) (fun x=>x.1) (n,x20,(qav.mk ([]:List qaa) ([]:List qaa) (0:Int) false),(1:Int)) h (Weak.trans (qbk [0,1,2,3,5] (l:=[(0,.ptr 0 0),(1,iv rounds_),(2,.d (.fl .f32 near_)),(6,.ptr 3 0),(7,sv qa7 x20),(8,.ptr 4 0),(9,iv (1:Int))]) (objs:=[.box [cxv f_.Grid.qa1.Source.A,cxv f_.Grid.qa1.Source.B,cxv f_.Grid.qa1.Source.C,sv qae f_.Grid.qa1.qa5,.row 1 f_.Grid.Ties.length 0 f_.Grid.Ties.length,.row 2 f_.qa9.length 0 f_.qa9.length],.row 5 (f_.Grid.Ties.map qah),.row 4 (f_.qa9.map qad),.box [.d (.nils),.d (.nils),iv (0:Int),bv false],.box [.d (.nils),.d (.nils),iv (0:Int),bv false]]) rfl (by simp) rfl (by trivial) ⟨rfl,trivial,rfl,trivial,rfl,trivial,rfl,trivial,(qm8 (f:=qa7) (j:=4) (sz:=3) x20 rfl rfl rfl),(qld (f:=qa7) (j:=4) (sz:=3) x20 rfl rfl rfl),rfl,trivial,rfl,trivial,trivial⟩) (qe3 [] (l':=[(0,.ptr 0 0),(1,iv rounds_),(2,.d (.fl .f32 near_)),(6,.ptr 3 0),(7,sv qa7 x20),(8,.ptr 4 0),(9,iv (1:Int))]) (objs':=[.box [cxv f_.Grid.qa1.Source.A,cxv f_.Grid.qa1.Source.B,cxv f_.Grid.qa1.Source.C,sv qae f_.Grid.qa1.qa5,.row 1 f_.Grid.Ties.length 0 f_.Grid.Ties.length,.row 2 f_.qa9.length 0 f_.qa9.length],.row 5 (f_.Grid.Ties.map qah),.row 4 (f_.qa9.map qad),.box [.d (.nils),.d (.nils),iv (0:Int),bv false],.box [.d (.sl false (([]:List qaa).map qa7)),.d (.sl false (([]:List qaa).map qa7)),iv (0:Int),bv false]]) (.cons (.c (.refl _)) (.cons (.c (.refl _)) (.cons (.c (.refl _)) (.cons (.c (.refl _)) (.cons (.c (.refl _)) (.cons (.c (.refl _)) (.cons (.c (.refl _)) .nil))))))) (.cons (.refl _) (.cons (.refl _) (.cons (.refl _) (.cons (.refl _) (.cons (.box (.cons (.d .nil) (.cons (.d .nil) (.cons (.refl _) (.cons (.refl _) .nil))))) .nil))))))) ?_
  rintro ⟨m59,v51,v52,v53⟩ h
  replace h:qdl n Q_ f_ rounds_ near_ m59 v51 v52 v53:=h
  rcases m59 with _ | m59
  ·rw [qdl] at h;cases h
  rw [qdl] at h
  refine qa6<|qa6<|qa2<|qa0 hτ rfl rfl rfl<|qa0 hτ rfl rfl rfl<|qa0 hτ rfl rfl rfl<|qa4 ?_
  refine qaw rfl (fun hc61=>?_) (fun hc61=>?_)
  ·have h:=qnb h hc61
   refine qb1<|qa6<|qb9<|qa6<|qa2<|qa0 hτ rfl rfl rfl<|qa0 hτ rfl rfl rfl ?_
   refine qac hτ false [0,1,2] rfl rfl rfl (qai func79 rfl rfl) rfl rfl (by simp) ⟨trivial,trivial,trivial⟩ (by trivial) (spec_l03Once_okP n (qan.mk (qbg.mk f_.Grid.qa1 f_.Grid.Ties) f_.qa9) v51 h) ?_
   rintro r0 o0 n0 ⟨x64,h,rfl,rfl,rfl⟩ -
   refine qaf hτ rfl rfl rfl<|qa4<|qa6 ?_
   refine qa8 (wk [0,1,2,3,4,5] (l:=[(0,.ptr 0 0),(1,iv rounds_),(2,.d (.fl .f32 near_)),(6,.ptr 3 0),(7,sv qa7 v51),(8,.ptr 4 0),(9,iv v53)]) (objs:=[.box [cxv f_.Grid.qa1.Source.A,cxv f_.Grid.qa1.Source.B,cxv f_.Grid.qa1.Source.C,sv qae f_.Grid.qa1.qa5,.row 1 f_.Grid.Ties.length 0 f_.Grid.Ties.length,.row 2 f_.qa9.length 0 f_.qa9.length],.row 5 (f_.Grid.Ties.map qah),.row 4 (f_.qa9.map qad),.box [.d (.nils),.d (.nils),iv (0:Int),bv false],.box [.row 5 x64.qap.length 0 x64.qap.length,sv qa7 x64.qau,iv x64.Rounds,bv x64.qdo],.row 3 (x64.qap.map qa7)])) ?_
   refine qa2<|qa0 hτ rfl rfl rfl<|qa0 hτ rfl rfl rfl<|qaf hτ rfl rfl rfl<|qa4<|qa6<|qa6<|qa2 ?_
   refine qa0 hτ rfl rfl rfl<|qa0 hτ rfl rfl rfl<|qa0 hτ rfl rfl rfl ?_
   refine qar (wk [0,1,2,3,4,5] (l:=[(0,.ptr 0 0),(1,iv rounds_),(2,.d (.fl .f32 near_)),(6,.ptr 3 0),(8,.ptr 4 0),(9,iv v53),(23,sv qa7 v51),(25,.row 5 x64.qap.length 0 x64.qap.length)]) (objs:=[.box [cxv f_.Grid.qa1.Source.A,cxv f_.Grid.qa1.Source.B,cxv f_.Grid.qa1.Source.C,sv qae f_.Grid.qa1.qa5,.row 1 f_.Grid.Ties.length 0 f_.Grid.Ties.length,.row 2 f_.qa9.length 0 f_.qa9.length],.row 5 (f_.Grid.Ties.map qah),.row 4 (f_.qa9.map qad),.box [.d (.nils),.d (.nils),iv (0:Int),bv false],.box [.row 5 x64.qap.length 0 x64.qap.length,sv qa7 x64.qau,iv v53,bv x64.qdo],.row 3 (x64.qap.map qa7)])) ?_
   refine qac hτ true [] rfl rfl rfl (qai func80 rfl rfl) (qak rfl (qak (qm8 (f:=qa7) (j:=5) (sz:=3) x64.qap rfl rfl rfl) qc9)) rfl (by simp) ⟨trivial,(qld (f:=qa7) (j:=5) (sz:=3) x64.qap rfl rfl rfl),trivial⟩ (by trivial) (spec_l03Change_okP_fr n v51 x64.qap h) ?_
   rintro r0 o0 n0 ⟨x66,h,rfl,rfl,rfl⟩ -
   refine qa0 hτ rfl rfl rfl<|qa0 hτ rfl rfl rfl<|qa4 ?_
   refine qaw rfl (fun hc67=>?_) (fun hc67=>?_)
   ·have h:=qjf h hc67
    refine qa6<|qa2<|qa0 hτ rfl rfl rfl<|qaf hτ rfl rfl rfl<|qa4<|qa6<|qa2<|qa0 hτ rfl rfl rfl ?_
    refine qaf hτ rfl rfl rfl<|qa4 ?_
    refine qa8 (qbk [0,1,2,3] (l:=[(6,.ptr 3 0)]) (objs:=[.box [cxv f_.Grid.qa1.Source.A,cxv f_.Grid.qa1.Source.B,cxv f_.Grid.qa1.Source.C,sv qae f_.Grid.qa1.qa5,.row 1 f_.Grid.Ties.length 0 f_.Grid.Ties.length,.row 2 f_.qa9.length 0 f_.qa9.length],.row 5 (f_.Grid.Ties.map qah),.row 4 (f_.qa9.map qad),.box [sv qa7 x64.qap,sv qa7 x64.qau,iv v53,bv true]]) rfl (by simp) (qak rfl (qak rfl (qak rfl (qak (qqa (qak (qbx (f:=qa7) (j:=5) (sz:=3) x64.qap rfl rfl rfl) (qak rfl (qak rfl (qak rfl qc9))))) qc9)))) ⟨(by trivial),trivial,trivial,⟨(qby (f:=qa7) (j:=5) (sz:=3) x64.qap rfl rfl rfl),trivial,trivial,trivial⟩,trivial⟩ ⟨rfl,trivial,trivial⟩) ?_
    refine qaq ?_
    exact qb0 (.inr rfl) [] (objs':=[.box [cxv f_.Grid.qa1.Source.A,cxv f_.Grid.qa1.Source.B,cxv f_.Grid.qa1.Source.C,sv qae f_.Grid.qa1.qa5,.row 1 f_.Grid.Ties.length 0 f_.Grid.Ties.length,.row 2 f_.qa9.length 0 f_.qa9.length],.row 5 (f_.Grid.Ties.map qah),.row 4 (f_.qa9.map qad)]) (new:=[]) rfl (by simp) (by simp) rfl (by trivial) rfl rfl (by trivial) (fun h=>nomatch h) ⟨_,h,rfl,rfl,rfl⟩
   ·have h:=qje h hc67
    refine qb1<|qa2<|qa0 hτ rfl rfl rfl<|qa0 hτ rfl rfl rfl<|qa0 hτ rfl rfl rfl<|qa4 ?_
    refine qa8 (wk [0,1,2,3,5,4] (l:=[(0,.ptr 0 0),(1,iv rounds_),(2,.d (.fl .f32 near_)),(6,.ptr 3 0),(7,.row 4 x64.qap.length 0 x64.qap.length),(8,.ptr 5 0),(9,iv v53)]) (objs:=[.box [cxv f_.Grid.qa1.Source.A,cxv f_.Grid.qa1.Source.B,cxv f_.Grid.qa1.Source.C,sv qae f_.Grid.qa1.qa5,.row 1 f_.Grid.Ties.length 0 f_.Grid.Ties.length,.row 2 f_.qa9.length 0 f_.qa9.length],.row 5 (f_.Grid.Ties.map qah),.row 4 (f_.qa9.map qad),.box [.d (.nils),.d (.nils),iv (0:Int),bv false],.row 3 (x64.qap.map qa7),.box [.row 4 x64.qap.length 0 x64.qap.length,sv qa7 x64.qau,iv v53,bv x64.qdo]])) ?_
    refine qa2<|qa0 hτ rfl rfl rfl<|qa0 hτ rfl rfl rfl<|qa0 hτ rfl rfl rfl<|qa4 ?_
    exact ⟨(m59,x64.qap,(qav.mk x64.qap x64.qau v53 x64.qdo),(w64 (v53 + (1:Int)))),h,Nat.lt_succ_self m59,(qbk [0,1,2,3,5] (l:=[(0,.ptr 0 0),(1,iv rounds_),(2,.d (.fl .f32 near_)),(6,.ptr 3 0),(7,sv qa7 x64.qap),(8,.ptr 4 0),(9,iv (w64 (v53 + (1:Int))))]) (objs:=[.box [cxv f_.Grid.qa1.Source.A,cxv f_.Grid.qa1.Source.B,cxv f_.Grid.qa1.Source.C,sv qae f_.Grid.qa1.qa5,.row 1 f_.Grid.Ties.length 0 f_.Grid.Ties.length,.row 2 f_.qa9.length 0 f_.qa9.length],.row 5 (f_.Grid.Ties.map qah),.row 4 (f_.qa9.map qad),.box [.d (.nils),.d (.nils),iv (0:Int),bv false],.box [sv qa7 x64.qap,sv qa7 x64.qau,iv v53,bv x64.qdo]]) rfl (by simp) (qak rfl (qak rfl (qak rfl (qak rfl (qak (qqa (qak (qbx (f:=qa7) (j:=4) (sz:=3) x64.qap rfl rfl rfl) (qak rfl (qak rfl (qak rfl qc9))))) qc9))))) ⟨(by trivial),trivial,trivial,(by trivial),⟨(qby (f:=qa7) (j:=4) (sz:=3) x64.qap rfl rfl rfl),trivial,trivial,trivial⟩,trivial⟩ ⟨rfl,trivial,rfl,trivial,rfl,trivial,rfl,trivial,(qm8 (f:=qa7) (j:=4) (sz:=3) x64.qap rfl rfl rfl),(qld (f:=qa7) (j:=4) (sz:=3) x64.qap rfl rfl rfl),rfl,trivial,rfl,trivial,trivial⟩)⟩
  ·have h:=qna h hc61
   refine qe4 ?_
   refine qa8 (wk [0,1,2,3,4] (l:=[(6,.ptr 3 0),(8,.ptr 4 0)]) (objs:=[.box [cxv f_.Grid.qa1.Source.A,cxv f_.Grid.qa1.Source.B,cxv f_.Grid.qa1.Source.C,sv qae f_.Grid.qa1.qa5,.row 1 f_.Grid.Ties.length 0 f_.Grid.Ties.length,.row 2 f_.qa9.length 0 f_.qa9.length],.row 5 (f_.Grid.Ties.map qah),.row 4 (f_.qa9.map qad),.box [.d (.nils),.d (.nils),iv (0:Int),bv false],.box [sv qa7 v52.qap,sv qa7 v52.qau,iv v52.Rounds,bv v52.qdo]])) ?_
   exact hk40 v52 h
def m_spec_l10DrawFlow_2_j2 (n:Nat) (x48:Int × qao) (x49:Bool × qao) (v74:List Int) (v75:Int) (v76:Int) (v77:List qaa) (v78:List qaa) (v79:List qaa) (v80:List qaa):Option (qav × qao) :=
 some ((qav.mk v79 v80 x48.1 x49.1),(qao.mk v74 v75 v76))
def qkw (n:Nat) (f_:qan) (x48:Int × qao) (x49:Bool × qao):Nat→List Int→Int→Int→List qaa→List qaa→List qaa→List qaa→Int→Option (qav × qao)
 | 0,_,_,_,_,_,_,_,_=>none
 | m106 + 1,v86,v87,v88,v89,v90,v91,v92,v93 =>
  if v93 < (f_.Grid.qa1.qa5.length:Int) then
   (qcc n (qao.mk v86 v87 v88) (40:Int)).bind fun x109 =>
   grd (room (v91.length + 1) 24) <|
   (qcc n x109.2 (20:Int)).bind fun x111 =>
   grd (room (v92.length + 1) 24) <|
   (qkw n f_ x48 x49 m106) x111.2.code x111.2.at_ x111.2.seed v89 v90 (v91 ++ [x109.1]) (v92 ++ [x111.1]) (w64 (v93 + (1:Int)))
  else
   m_spec_l10DrawFlow_2_j2 n x48 x49 v86 v87 v88 v89 v90 v91 v92
def m_spec_l10DrawFlow_2_j1 (n:Nat) (f_:qan) (v45:List Int) (v46:Int) (v47:Int):Option (qav × qao) :=
 (qat n (qao.mk v45 v46 v47) (51:Int)).bind fun x48 =>
 (qbq n x48.2 (2:Int)).bind fun x49 =>
 qkw n f_ x48 x49 n x49.2.code x49.2.at_ x49.2.seed ([]:List qaa) ([]:List qaa) ([]:List qaa) ([]:List qaa) (0:Int)
def qkv (n:Nat) (f_:qan) (v121:List Int) (v122:Int) (v123:Int) (v124:Bool):Option (qav × qao) :=
 if v124 = true then
  (qat n (qao.mk v121 v122 v123) (4:Int)).bind fun x126 =>
  (m_spec_l03Solve n (qan.mk (qbg.mk f_.Grid.qa1 f_.Grid.Ties) f_.qa9) (w64 ((1:Int) + x126.1)) (1031798784:Nat)).bind fun x127 =>
  some (x127,x126.2)
 else
  m_spec_l10DrawFlow_2_j1 n f_ v121 v122 v123
def m_spec_l10DrawFlow_2 (n:Nat) (s_:qao) (f_:qan):Option (qav × qao) :=
 (qbq n s_ (2:Int)).bind fun x129 =>
 if x129.1 = true then
  (qjb n (qan.mk (qbg.mk f_.Grid.qa1 f_.Grid.Ties) f_.qa9)).bind fun x131 =>
  qkv n f_ x129.2.code x129.2.at_ x129.2.seed x131
 else
  qkv n f_ x129.2.code x129.2.at_ x129.2.seed false
def qg7 (n:Nat) (Q_:qav × qao→Prop) (x48:Int × qao) (x49:Bool × qao) (v74:List Int) (v75:Int) (v76:Int) (v77:List qaa) (v78:List qaa) (v79:List qaa) (v80:List qaa):Prop :=
 Q_ (((qav.mk v79 v80 x48.1 x49.1),(qao.mk v74 v75 v76)))
def qca (n:Nat) (Q_:qav × qao→Prop) (f_:qan) (x48:Int × qao) (x49:Bool × qao):Nat→List Int→Int→Int→List qaa→List qaa→List qaa→List qaa→Int→Prop
 | 0,_,_,_,_,_,_,_,_=>False
 | m106 + 1,v86,v87,v88,v89,v90,v91,v92,v93 =>
  if v93 < (f_.Grid.qa1.qa5.length:Int) then
   bndP (qcc n (qao.mk v86 v87 v88) (40:Int)) fun x109 =>
   grdP (room (v91.length + 1) 24) <|
   bndP (qcc n x109.2 (20:Int)) fun x111 =>
   grdP (room (v92.length + 1) 24) <|
   (qca n Q_ f_ x48 x49 m106) x111.2.code x111.2.at_ x111.2.seed v89 v90 (v91 ++ [x109.1]) (v92 ++ [x111.1]) (w64 (v93 + (1:Int)))
  else
   qg7 n Q_ x48 x49 v86 v87 v88 v89 v90 v91 v92
def qeu (n:Nat) (Q_:qav × qao→Prop) (f_:qan) (v45:List Int) (v46:Int) (v47:Int):Prop :=
 bndP (qat n (qao.mk v45 v46 v47) (51:Int)) fun x48 =>
 bndP (qbq n x48.2 (2:Int)) fun x49 =>
 qca n Q_ f_ x48 x49 n x49.2.code x49.2.at_ x49.2.seed ([]:List qaa) ([]:List qaa) ([]:List qaa) ([]:List qaa) (0:Int)
def qcx (n:Nat) (Q_:qav × qao→Prop) (f_:qan) (v121:List Int) (v122:Int) (v123:Int) (v124:Bool):Prop :=
 if v124 = true then
  bndP (qat n (qao.mk v121 v122 v123) (4:Int)) fun x126 =>
  qj6 n (qan.mk (qbg.mk f_.Grid.qa1 f_.Grid.Ties) f_.qa9) (w64 ((1:Int) + x126.1)) (1031798784:Nat) fun x127 =>
  Q_ ((x127,x126.2))
 else
  qeu n Q_ f_ v121 v122 v123
def qfz (n:Nat) (s_:qao) (f_:qan) (Q_:qav × qao→Prop):Prop :=
 bndP (qbq n s_ (2:Int)) fun x129 =>
 if x129.1 = true then
  bndP (qjb n (qan.mk (qbg.mk f_.Grid.qa1 f_.Grid.Ties) f_.qa9)) fun x131 =>
  qcx n Q_ f_ x129.2.code x129.2.at_ x129.2.seed x131
 else
  qcx n Q_ f_ x129.2.code x129.2.at_ x129.2.seed false
theorem spec_l10DrawFlow_2_okP (n:Nat) (s_:qao) (f_:qan) {Q_:qav × qao→Prop} (h:qfz n s_ f_ Q_):qax prog false 37 [.ptr 0 0,.ptr 1 0] [.box [sv qal s_.code,iv s_.at_,.d (.int .u64 s_.seed)],.box [cxv f_.Grid.qa1.Source.A,cxv f_.Grid.qa1.Source.B,cxv f_.Grid.qa1.Source.C,sv qae f_.Grid.qa1.qa5,.row 2 f_.Grid.Ties.length 0 f_.Grid.Ties.length,.row 3 f_.qa9.length 0 f_.qa9.length],.row 5 (f_.Grid.Ties.map qah),.row 4 (f_.qa9.map qad)] (fun v o new=>∃ r,Q_ r∧v = .agg [sv qa7 r.1.qap,sv qa7 r.1.qau,iv r.1.Rounds,bv r.1.qdo]∧o = [.box [sv qal r.2.code,iv r.2.at_,.d (.int .u64 r.2.seed)],.box [cxv f_.Grid.qa1.Source.A,cxv f_.Grid.qa1.Source.B,cxv f_.Grid.qa1.Source.C,sv qae f_.Grid.qa1.qa5,.row 2 f_.Grid.Ties.length 0 f_.Grid.Ties.length,.row 3 f_.qa9.length 0 f_.qa9.length],.row 5 (f_.Grid.Ties.map qah),.row 4 (f_.qa9.map qad)]∧new = []):=by
 refine qaj hτ func37 rfl (by simp) (by simp) ?_
 unfold qfz at h
 refine qa6<|qa2<|qaf hτ rfl rfl rfl<|qa4 ?_
 refine qbn (ι:=List Int × Int × Int) (fun (v45,v46,v47)=>St.of [(0,.ptr 0 0),(1,.ptr 1 0),(4,.ptr 4 0)] [.box [sv qal v45,iv v46,.d (.int .u64 v47)],.box [cxv f_.Grid.qa1.Source.A,cxv f_.Grid.qa1.Source.B,cxv f_.Grid.qa1.Source.C,sv qae f_.Grid.qa1.qa5,.row 2 f_.Grid.Ties.length 0 f_.Grid.Ties.length,.row 3 f_.qa9.length 0 f_.qa9.length],.row 5 (f_.Grid.Ties.map qah),.row 4 (f_.qa9.map qad),.box [.d (.nils),.d (.nils),iv (0:Int),bv false]] f37.ntmps 4) (fun (v45,v46,v47)=>qeu n Q_ f_ v45 v46 v47) ?_ (fun hk113=>?_)
 ·rintro ⟨v45,v46,v47⟩ h
  replace h:qeu n Q_ f_ v45 v46 v47:=h
  unfold qeu at h
  refine qa6<|qa2<|qa0 hτ rfl rfl rfl ?_
  refine qbf h fun x48 hx48 h=>?_
  refine qac hτ false [0] rfl rfl rfl (qai func36 rfl rfl) rfl rfl (by simp) ⟨trivial,trivial,trivial⟩ (by trivial) (qb2 n (qao.mk v45 v46 v47) (51:Int) hx48) ?_
  rintro r0 o0 n0 ⟨rfl,rfl,rfl⟩ -
  refine qa0 hτ rfl rfl rfl<|qaf hτ rfl rfl rfl<|qaf hτ rfl rfl rfl<|qa4<|qa6<|qa2<|qa0 hτ rfl rfl rfl ?_
  refine qbf h fun x49 hx49 h=>?_
  refine qac hτ false [0] rfl rfl rfl (qai func62 rfl rfl) rfl rfl (by simp) ⟨trivial,trivial,trivial⟩ (by trivial) (qe2 n x48.2 (2:Int) hx49) ?_
  rintro r0 o0 n0 ⟨rfl,rfl,rfl⟩ -
  refine qa0 hτ rfl rfl rfl<|qaf hτ rfl rfl rfl<|qa4 ?_
  refine qbn (ι:=List Int × Int × Int × List qaa × List qaa × List qaa × List qaa) (fun (v74,v75,v76,v77,v78,v79,v80)=>St.of [(4,.ptr 4 0),(6,.ptr 7 0)] [.box [sv qal v74,iv v75,.d (.int .u64 v76)],.box [cxv f_.Grid.qa1.Source.A,cxv f_.Grid.qa1.Source.B,cxv f_.Grid.qa1.Source.C,sv qae f_.Grid.qa1.qa5,.row 2 f_.Grid.Ties.length 0 f_.Grid.Ties.length,.row 3 f_.qa9.length 0 f_.qa9.length],.row 5 (f_.Grid.Ties.map qah),.row 4 (f_.qa9.map qad),.box [.row 5 v77.length 0 v77.length,.row 6 v78.length 0 v78.length,iv (0:Int),bv false],.row 3 (v77.map qa7),.row 3 (v78.map qa7),.box [.row 8 v79.length 0 v79.length,.row 9 v80.length 0 v80.length,iv x48.1,bv x49.1],.row 3 (v79.map qa7),.row 3 (v80.map qa7)] f37.ntmps 4) (fun (v74,v75,v76,v77,v78,v79,v80)=>qg7 n Q_ x48 x49 v74 v75 v76 v77 v78 v79 v80) ?_ (fun hk81=>?_)
  ·rintro ⟨v74,v75,v76,v77,v78,v79,v80⟩ h
   replace h:qg7 n Q_ x48 x49 v74 v75 v76 v77 v78 v79 v80:=h
   unfold qg7 at h
   refine qa6<|qa2<|qa0 hτ rfl rfl rfl<|qaf hτ rfl rfl rfl<|qa4 ?_
   refine qa8 (qbk [0,1,2,3,4] (l:=[(4,.ptr 4 0)]) (objs:=[.box [sv qal v74,iv v75,.d (.int .u64 v76)],.box [cxv f_.Grid.qa1.Source.A,cxv f_.Grid.qa1.Source.B,cxv f_.Grid.qa1.Source.C,sv qae f_.Grid.qa1.qa5,.row 2 f_.Grid.Ties.length 0 f_.Grid.Ties.length,.row 3 f_.qa9.length 0 f_.qa9.length],.row 5 (f_.Grid.Ties.map qah),.row 4 (f_.qa9.map qad),.box [sv qa7 v79,sv qa7 v80,iv x48.1,bv x49.1]]) rfl (by simp) (qak rfl (qak rfl (qak rfl (qak rfl (qak (qqa (qak (qbx (f:=qa7) (j:=8) (sz:=3) v79 rfl rfl rfl) (qak (qbx (f:=qa7) (j:=9) (sz:=3) v80 rfl rfl rfl) (qak rfl (qak rfl qc9))))) qc9))))) ⟨(by trivial),(by trivial),trivial,trivial,⟨(qby (f:=qa7) (j:=8) (sz:=3) v79 rfl rfl rfl),(qby (f:=qa7) (j:=9) (sz:=3) v80 rfl rfl rfl),trivial,trivial⟩,trivial⟩ ⟨rfl,trivial,trivial⟩) ?_
   refine qaq ?_
   exact qb0 (.inr rfl) [] (objs':=[.box [sv qal v74,iv v75,.d (.int .u64 v76)],.box [cxv f_.Grid.qa1.Source.A,cxv f_.Grid.qa1.Source.B,cxv f_.Grid.qa1.Source.C,sv qae f_.Grid.qa1.qa5,.row 2 f_.Grid.Ties.length 0 f_.Grid.Ties.length,.row 3 f_.qa9.length 0 f_.qa9.length],.row 5 (f_.Grid.Ties.map qah),.row 4 (f_.qa9.map qad)]) (new:=[]) rfl (by simp) (by simp) rfl (by trivial) rfl rfl (by trivial) (fun h=>nomatch h) ⟨_,h,rfl,rfl,rfl⟩
  ·refine qa6<|qa6 ?_
   refine qa8 (wk [0,1,2,3,4,5] (l:=[(0,.ptr 0 0),(1,.ptr 1 0),(4,.ptr 4 0),(6,.ptr 5 0)]) (objs:=[.box [sv qal x49.2.code,iv x49.2.at_,.d (.int .u64 x49.2.seed)],.box [cxv f_.Grid.qa1.Source.A,cxv f_.Grid.qa1.Source.B,cxv f_.Grid.qa1.Source.C,sv qae f_.Grid.qa1.qa5,.row 2 f_.Grid.Ties.length 0 f_.Grid.Ties.length,.row 3 f_.qa9.length 0 f_.qa9.length],.row 5 (f_.Grid.Ties.map qah),.row 4 (f_.qa9.map qad),.box [.d (.nils),.d (.nils),iv (0:Int),bv false],.box [.d (.nils),.d (.nils),iv x48.1,bv x49.1]])) ?_
   refine qa2<|qa0 hτ rfl rfl rfl<|qa4<|qb9 ?_
   refine qev (ι:=Nat × List Int × Int × Int × List qaa × List qaa × List qaa × List qaa × Int) (fun (m106,v86,v87,v88,v89,v90,v91,v92,v93)=>St.of [(0,.ptr 0 0),(1,.ptr 1 0),(4,.ptr 4 0),(6,.ptr 7 0),(7,iv v93)] [.box [sv qal v86,iv v87,.d (.int .u64 v88)],.box [cxv f_.Grid.qa1.Source.A,cxv f_.Grid.qa1.Source.B,cxv f_.Grid.qa1.Source.C,sv qae f_.Grid.qa1.qa5,.row 2 f_.Grid.Ties.length 0 f_.Grid.Ties.length,.row 3 f_.qa9.length 0 f_.qa9.length],.row 5 (f_.Grid.Ties.map qah),.row 4 (f_.qa9.map qad),.box [.row 5 v89.length 0 v89.length,.row 6 v90.length 0 v90.length,iv (0:Int),bv false],.row 3 (v89.map qa7),.row 3 (v90.map qa7),.box [.row 8 v91.length 0 v91.length,.row 9 v92.length 0 v92.length,iv x48.1,bv x49.1],.row 3 (v91.map qa7),.row 3 (v92.map qa7)] f37.ntmps 4) (fun (m106,v86,v87,v88,v89,v90,v91,v92,v93)=>qca n Q_ f_ x48 x49 m106 v86 v87 v88 v89 v90 v91 v92 v93) (fun x=>x.1) (n,x49.2.code,x49.2.at_,x49.2.seed,([]:List qaa),([]:List qaa),([]:List qaa),([]:List qaa),(0:Int)) h (Weak.trans (Weak.trans (wk [0,1,2,3,4,5] (l:=[(0,.ptr 0 0),(1,.ptr 1 0),(4,.ptr 4 0),(6,.ptr 5 0),(7,iv (0:Int))]) (objs:=[.box [sv qal x49.2.code,iv x49.2.at_,.d (.int .u64 x49.2.seed)],.box [cxv f_.Grid.qa1.Source.A,cxv f_.Grid.qa1.Source.B,cxv f_.Grid.qa1.Source.C,sv qae f_.Grid.qa1.qa5,.row 2 f_.Grid.Ties.length 0 f_.Grid.Ties.length,.row 3 f_.qa9.length 0 f_.qa9.length],.row 5 (f_.Grid.Ties.map qah),.row 4 (f_.qa9.map qad),.box [.d (.nils),.d (.nils),iv (0:Int),bv false],.box [.d (.nils),.d (.nils),iv x48.1,bv x49.1]])) (qe3 [3,3,3,3] (l':=[(0,.ptr 0 0),(1,.ptr 1 0),(4,.ptr 4 0),(6,.ptr 5 0),(7,iv (0:Int))]) (objs':=[.box [sv qal x49.2.code,iv x49.2.at_,.d (.int .u64 x49.2.seed)],.box [cxv f_.Grid.qa1.Source.A,cxv f_.Grid.qa1.Source.B,cxv f_.Grid.qa1.Source.C,sv qae f_.Grid.qa1.qa5,.row 2 f_.Grid.Ties.length 0 f_.Grid.Ties.length,.row 3 f_.qa9.length 0 f_.qa9.length],.row 5 (f_.Grid.Ties.map qah),.row 4 (f_.qa9.map qad),.box [.row 6 (([]:List qaa).length) 0 (([]:List qaa).length),.row 7 (([]:List qaa).length) 0 (([]:List qaa).length),iv (0:Int),bv false],.box [.row 8 (([]:List qaa).length) 0 (([]:List qaa).length),.row 9 (([]:List qaa).length) 0 (([]:List qaa).length),iv x48.1,bv x49.1]]) (.cons (.c (.refl _)) (.cons (.c (.refl _)) (.cons (.c (.refl _)) (.cons (.c (.refl _)) (.cons (.c (.refl _)) .nil))))) (.cons (.refl _) (.cons (.refl _) (.cons (.refl _) (.cons (.refl _) (.cons (.box (.cons (.ghost ⟨Nat.le_of_ble_eq_true rfl,Nat.le_of_ble_eq_true rfl⟩) (.cons (.ghost ⟨Nat.le_of_ble_eq_true rfl,Nat.le_of_ble_eq_true rfl⟩) (.cons (.refl _) (.cons (.refl _) .nil))))) (.cons (.box (.cons (.ghost ⟨Nat.le_of_ble_eq_true rfl,Nat.le_of_ble_eq_true rfl⟩) (.cons (.ghost ⟨Nat.le_of_ble_eq_true rfl,Nat.le_of_ble_eq_true rfl⟩) (.cons (.refl _) (.cons (.refl _) .nil))))) .nil)))))))) (wk [0,1,2,3,4,6,7,5,8,9] (l:=[(0,.ptr 0 0),(1,.ptr 1 0),(4,.ptr 4 0),(6,.ptr 7 0),(7,iv (0:Int))]) (objs:=[.box [sv qal x49.2.code,iv x49.2.at_,.d (.int .u64 x49.2.seed)],.box [cxv f_.Grid.qa1.Source.A,cxv f_.Grid.qa1.Source.B,cxv f_.Grid.qa1.Source.C,sv qae f_.Grid.qa1.qa5,.row 2 f_.Grid.Ties.length 0 f_.Grid.Ties.length,.row 3 f_.qa9.length 0 f_.qa9.length],.row 5 (f_.Grid.Ties.map qah),.row 4 (f_.qa9.map qad),.box [.row 5 (([]:List qaa).length) 0 (([]:List qaa).length),.row 6 (([]:List qaa).length) 0 (([]:List qaa).length),iv (0:Int),bv false],.row 3 (([]:List qaa).map qa7),.row 3 (([]:List qaa).map qa7),.box [.row 8 (([]:List qaa).length) 0 (([]:List qaa).length),.row 9 (([]:List qaa).length) 0 (([]:List qaa).length),iv x48.1,bv x49.1],.row 3 (([]:List qaa).map qa7),.row 3 (([]:List qaa).map qa7)]))) ?_
   rintro ⟨m106,v86,v87,v88,v89,v90,v91,v92,v93⟩ h
   replace h:qca n Q_ f_ x48 x49 m106 v86 v87 v88 v89 v90 v91 v92 v93:=h
   rcases m106 with _ | m106
   ·rw [qca] at h;cases h
   rw [qca] at h
   refine qa6<|qa6<|qa2<|qa0 hτ rfl rfl rfl<|qa0 hτ rfl rfl rfl<|qa0 hτ rfl rfl rfl<|qa0 hτ rfl rfl rfl<|qa0 hτ rfl rfl rfl ?_
   refine qa0 hτ (v:=iv (f_.Grid.qa1.qa5.length:Int)) rfl rfl (Eq.trans rfl (qf1 (f:=qae) f_.Grid.qa1.qa5)) ?_
   refine qa0 hτ rfl rfl rfl<|qa4 ?_
   refine qa8 (wk [0,1,2,3,4,5,6,7,8,9] (l:=[(0,.ptr 0 0),(1,.ptr 1 0),(4,.ptr 4 0),(6,.ptr 7 0),(7,iv v93),(33,bv (decide (v93 < (f_.Grid.qa1.qa5.length:Int))))]) (objs:=[.box [sv qal v86,iv v87,.d (.int .u64 v88)],.box [cxv f_.Grid.qa1.Source.A,cxv f_.Grid.qa1.Source.B,cxv f_.Grid.qa1.Source.C,sv qae f_.Grid.qa1.qa5,.row 2 f_.Grid.Ties.length 0 f_.Grid.Ties.length,.row 3 f_.qa9.length 0 f_.qa9.length],.row 5 (f_.Grid.Ties.map qah),.row 4 (f_.qa9.map qad),.box [.row 5 v89.length 0 v89.length,.row 6 v90.length 0 v90.length,iv (0:Int),bv false],.row 3 (v89.map qa7),.row 3 (v90.map qa7),.box [.row 8 v91.length 0 v91.length,.row 9 v92.length 0 v92.length,iv x48.1,bv x49.1],.row 3 (v91.map qa7),.row 3 (v92.map qa7)])) ?_
   refine qaw rfl (fun hc108=>?_) (fun hc108=>?_)
   ·have h:=qnb h hc108
    refine qb1<|qa6<|qb9<|qa6<|qa2<|qa0 hτ rfl rfl rfl ?_
    refine qbf h fun x109 hx109 h=>?_
    refine qac hτ false [0] rfl rfl rfl (qai func65 rfl rfl) rfl rfl (by simp) ⟨trivial,trivial,trivial⟩ (by trivial) (qhx n (qao.mk v86 v87 v88) (40:Int) hx109) ?_
    rintro r0 o0 n0 ⟨rfl,rfl,rfl⟩ -
    refine qaf hτ rfl rfl rfl<|qaf hτ rfl rfl rfl<|qa4<|qa6<|qa2<|qa0 hτ rfl rfl rfl<|qa0 hτ rfl rfl rfl<|qa0 hτ rfl rfl rfl ?_
    refine qaf hτ rfl rfl rfl ?_
    refine qhf h fun hg110 h=>?_
    refine qk4 hτ rfl rfl (Eq.trans rfl (or_append (f:=qa7) v91 [x109.1] rfl)) ⟨⟨rfl,Nat.le_of_ble_eq_true rfl⟩,qco _,rfl,rfl,hg110,by decide,(all1 rfl)⟩ ?_
    refine qa0 hτ rfl rfl rfl<|qaf hτ rfl rfl rfl<|qa4 ?_
    refine qa8 (wk [0,1,2,3,4,5,6,7,8,9] (l:=[(0,.ptr 0 0),(1,.ptr 1 0),(4,.ptr 4 0),(6,.ptr 7 0),(7,iv v93)]) (objs:=[.box [sv qal x109.2.code,iv x109.2.at_,.d (.int .u64 x109.2.seed)],.box [cxv f_.Grid.qa1.Source.A,cxv f_.Grid.qa1.Source.B,cxv f_.Grid.qa1.Source.C,sv qae f_.Grid.qa1.qa5,.row 2 f_.Grid.Ties.length 0 f_.Grid.Ties.length,.row 3 f_.qa9.length 0 f_.qa9.length],.row 5 (f_.Grid.Ties.map qah),.row 4 (f_.qa9.map qad),.box [.row 5 v89.length 0 v89.length,.row 6 v90.length 0 v90.length,iv (0:Int),bv false],.row 3 (v89.map qa7),.row 3 (v90.map qa7),.box [.row 8 ((v91 ++ [x109.1]).length) 0 ((v91 ++ [x109.1]).length),.row 9 v92.length 0 v92.length,iv x48.1,bv x49.1],.row 3 ((v91 ++ [x109.1]).map qa7),.row 3 (v92.map qa7)])) ?_
    refine qd4 ?_
    refine qab hτ [7] 0 rfl rfl rfl rfl rfl ?_
    refine qab hτ [7] 1 rfl rfl rfl rfl rfl ?_
    refine qab hτ [] 2 rfl rfl rfl rfl rfl ?_
    refine qbf h fun x111 hx111 h=>?_
    refine qcy hτ false [0] [1,2,3,4,5,6,7,8,9] 3 rfl rfl rfl rfl (qai func65 rfl rfl) rfl rfl (by simp) ⟨trivial,trivial,trivial⟩ (by trivial) (qhx n x109.2 (20:Int) hx111) ⟨rfl,rfl,rfl,rfl,rfl,rfl,rfl,rfl,rfl,trivial⟩ ?_
    refine qbj hτ [0,1,2,3,4,5,6,7,8,9] 4 rfl rfl rfl rfl ⟨rfl,rfl,rfl,rfl,rfl,rfl,rfl,rfl,rfl,rfl,trivial⟩ ?_
    refine qhf h fun hg112 h=>?_
    refine qjr hτ [0,1,2,3,4,5,6,7,8,10] 5 rfl rfl rfl (Eq.trans rfl (or_append (f:=qa7) v92 [x111.1] rfl)) ⟨⟨rfl,Nat.le_of_ble_eq_true rfl⟩,qco _,rfl,rfl,hg112,by decide,(all1 rfl)⟩ ⟨rfl,rfl,rfl,rfl,rfl,rfl,rfl,rfl,rfl,rfl,trivial⟩ ?_
    refine qab hτ [7] 6 rfl rfl rfl rfl rfl ?_
    refine qbj hτ [0,1,2,3,4,5,6,8,9,10] 7 rfl rfl rfl rfl ⟨rfl,rfl,rfl,rfl,rfl,rfl,rfl,rfl,rfl,rfl,trivial⟩ ?_
    refine qcs mixed (by kernel_rfl) ?_
    refine qa8 (wk [0,1,2,3,4,5,6,7,8,9] (l:=[(0,.ptr 0 0),(1,.ptr 1 0),(4,.ptr 4 0),(6,.ptr 7 0),(7,iv v93)]) (objs:=[.box [sv qal x111.2.code,iv x111.2.at_,.d (.int .u64 x111.2.seed)],.box [cxv f_.Grid.qa1.Source.A,cxv f_.Grid.qa1.Source.B,cxv f_.Grid.qa1.Source.C,sv qae f_.Grid.qa1.qa5,.row 2 f_.Grid.Ties.length 0 f_.Grid.Ties.length,.row 3 f_.qa9.length 0 f_.qa9.length],.row 5 (f_.Grid.Ties.map qah),.row 4 (f_.qa9.map qad),.box [.row 5 v89.length 0 v89.length,.row 6 v90.length 0 v90.length,iv (0:Int),bv false],.row 3 (v89.map qa7),.row 3 (v90.map qa7),.box [.row 8 ((v91 ++ [x109.1]).length) 0 ((v91 ++ [x109.1]).length),.row 9 ((v92 ++ [x111.1]).length) 0 ((v92 ++ [x111.1]).length),iv x48.1,bv x49.1],.row 3 ((v91 ++ [x109.1]).map qa7),.row 3 ((v92 ++ [x111.1]).map qa7)])) ?_
    refine qa2<|qa0 hτ rfl rfl rfl<|qa0 hτ rfl rfl rfl<|qa0 hτ rfl rfl rfl<|qa4 ?_
    exact ⟨(m106,x111.2.code,x111.2.at_,x111.2.seed,v89,v90,(v91 ++ [x109.1]),(v92 ++ [x111.1]),(w64 (v93 + (1:Int)))),h,Nat.lt_succ_self m106,(wk [0,1,2,3,4,5,6,7,8,9] (l:=[(0,.ptr 0 0),(1,.ptr 1 0),(4,.ptr 4 0),(6,.ptr 7 0),(7,iv (w64 (v93 + (1:Int))))]) (objs:=[.box [sv qal x111.2.code,iv x111.2.at_,.d (.int .u64 x111.2.seed)],.box [cxv f_.Grid.qa1.Source.A,cxv f_.Grid.qa1.Source.B,cxv f_.Grid.qa1.Source.C,sv qae f_.Grid.qa1.qa5,.row 2 f_.Grid.Ties.length 0 f_.Grid.Ties.length,.row 3 f_.qa9.length 0 f_.qa9.length],.row 5 (f_.Grid.Ties.map qah),.row 4 (f_.qa9.map qad),.box [.row 5 v89.length 0 v89.length,.row 6 v90.length 0 v90.length,iv (0:Int),bv false],.row 3 (v89.map qa7),.row 3 (v90.map qa7),.box [.row 8 ((v91 ++ [x109.1]).length) 0 ((v91 ++ [x109.1]).length),.row 9 ((v92 ++ [x111.1]).length) 0 ((v92 ++ [x111.1]).length),iv x48.1,bv x49.1],.row 3 ((v91 ++ [x109.1]).map qa7),.row 3 ((v92 ++ [x111.1]).map qa7)]))⟩
   ·have h:=qna h hc108
    refine qe4 ?_
    refine qa8 (wk [0,1,2,3,4,5,6,7,8,9] (l:=[(4,.ptr 4 0),(6,.ptr 7 0)]) (objs:=[.box [sv qal v86,iv v87,.d (.int .u64 v88)],.box [cxv f_.Grid.qa1.Source.A,cxv f_.Grid.qa1.Source.B,cxv f_.Grid.qa1.Source.C,sv qae f_.Grid.qa1.qa5,.row 2 f_.Grid.Ties.length 0 f_.Grid.Ties.length,.row 3 f_.qa9.length 0 f_.qa9.length],.row 5 (f_.Grid.Ties.map qah),.row 4 (f_.qa9.map qad),.box [.row 5 v89.length 0 v89.length,.row 6 v90.length 0 v90.length,iv (0:Int),bv false],.row 3 (v89.map qa7),.row 3 (v90.map qa7),.box [.row 8 v91.length 0 v91.length,.row 9 v92.length 0 v92.length,iv x48.1,bv x49.1],.row 3 (v91.map qa7),.row 3 (v92.map qa7)])) ?_
    exact hk81 (v86,v87,v88,v89,v90,v91,v92) h
 ·refine qa6 ?_
  refine qbn (ι:=List Int × Int × Int × Bool) (fun (v121,v122,v123,v124)=>St.of [(0,.ptr 0 0),(1,.ptr 1 0),(4,.ptr 4 0),(14,bv v124)] [.box [sv qal v121,iv v122,.d (.int .u64 v123)],.box [cxv f_.Grid.qa1.Source.A,cxv f_.Grid.qa1.Source.B,cxv f_.Grid.qa1.Source.C,sv qae f_.Grid.qa1.qa5,.row 2 f_.Grid.Ties.length 0 f_.Grid.Ties.length,.row 3 f_.qa9.length 0 f_.qa9.length],.row 5 (f_.Grid.Ties.map qah),.row 4 (f_.qa9.map qad),.box [.d (.nils),.d (.nils),iv (0:Int),bv false]] f37.ntmps 4) (fun (v121,v122,v123,v124)=>qcx n Q_ f_ v121 v122 v123 v124) ?_ (fun hk128=>?_)
  ·rintro ⟨v121,v122,v123,v124⟩ h
   replace h:qcx n Q_ f_ v121 v122 v123 v124:=h
   unfold qcx at h
   refine qaw rfl (fun hc125=>?_) (fun hc125=>?_)
   ·have h:=qjf h hc125
    refine qa6<|qa2<|qa0 hτ rfl rfl rfl ?_
    refine qbf h fun x126 hx126 h=>?_
    refine qac hτ false [0] rfl rfl rfl (qai func36 rfl rfl) rfl rfl (by simp) ⟨trivial,trivial,trivial⟩ (by trivial) (qb2 n (qao.mk v121 v122 v123) (4:Int) hx126) ?_
    rintro r0 o0 n0 ⟨rfl,rfl,rfl⟩ -
    refine qa0 hτ rfl rfl rfl<|qa0 hτ rfl rfl rfl<|qa4<|qa6<|qa2<|qa0 hτ rfl rfl rfl<|qa0 hτ rfl rfl rfl ?_
    refine qac hτ false [1,2,3] rfl rfl rfl (qai func64 rfl rfl) rfl rfl (by simp) ⟨trivial,trivial,trivial,trivial⟩ (by trivial) (spec_l03Solve_okP n (qan.mk (qbg.mk f_.Grid.qa1 f_.Grid.Ties) f_.qa9) (w64 ((1:Int) + x126.1)) (1031798784:Nat) h) ?_
    rintro r0 o0 n0 ⟨x127,h,rfl,rfl,rfl⟩ -
    refine qaf hτ rfl rfl rfl<|qa4 ?_
    refine qa8 (wk [0,1,2,3,4] (l:=[(4,.ptr 4 0)]) (objs:=[.box [sv qal x126.2.code,iv x126.2.at_,.d (.int .u64 x126.2.seed)],.box [cxv f_.Grid.qa1.Source.A,cxv f_.Grid.qa1.Source.B,cxv f_.Grid.qa1.Source.C,sv qae f_.Grid.qa1.qa5,.row 2 f_.Grid.Ties.length 0 f_.Grid.Ties.length,.row 3 f_.qa9.length 0 f_.qa9.length],.row 5 (f_.Grid.Ties.map qah),.row 4 (f_.qa9.map qad),.box [sv qa7 x127.qap,sv qa7 x127.qau,iv x127.Rounds,bv x127.qdo]])) ?_
    refine qaq ?_
    exact qb0 (.inr rfl) [] (objs':=[.box [sv qal x126.2.code,iv x126.2.at_,.d (.int .u64 x126.2.seed)],.box [cxv f_.Grid.qa1.Source.A,cxv f_.Grid.qa1.Source.B,cxv f_.Grid.qa1.Source.C,sv qae f_.Grid.qa1.qa5,.row 2 f_.Grid.Ties.length 0 f_.Grid.Ties.length,.row 3 f_.qa9.length 0 f_.qa9.length],.row 5 (f_.Grid.Ties.map qah),.row 4 (f_.qa9.map qad)]) (new:=[]) rfl (by simp) (by simp) rfl (by trivial) rfl rfl (by trivial) (fun h=>nomatch h) ⟨_,h,rfl,rfl,rfl⟩
   ·have h:=qje h hc125
    refine qb1 ?_
    refine qa8 (wk [0,1,2,3,4] (l:=[(0,.ptr 0 0),(1,.ptr 1 0),(4,.ptr 4 0)]) (objs:=[.box [sv qal v121,iv v122,.d (.int .u64 v123)],.box [cxv f_.Grid.qa1.Source.A,cxv f_.Grid.qa1.Source.B,cxv f_.Grid.qa1.Source.C,sv qae f_.Grid.qa1.qa5,.row 2 f_.Grid.Ties.length 0 f_.Grid.Ties.length,.row 3 f_.qa9.length 0 f_.qa9.length],.row 5 (f_.Grid.Ties.map qah),.row 4 (f_.qa9.map qad),.box [.d (.nils),.d (.nils),iv (0:Int),bv false]])) ?_
    exact hk113 (v121,v122,v123) h
  ·refine qa6<|qa2<|qa0 hτ rfl rfl rfl ?_
   refine qbf h fun x129 hx129 h=>?_
   refine qac hτ false [0] rfl rfl rfl (qai func62 rfl rfl) rfl rfl (by simp) ⟨trivial,trivial,trivial⟩ (by trivial) (qe2 n s_ (2:Int) hx129) ?_
   rintro r0 o0 n0 ⟨rfl,rfl,rfl⟩ -
   refine qa0 hτ rfl rfl rfl ?_
   refine qay 11 rfl (fun hb130=>?_) (fun hb130=>?_)
   ·have h:=qjf h hb130
    refine qa0 hτ rfl rfl rfl ?_
    refine qbf h fun x131 hx131 h=>?_
    refine qac hτ false [1,2,3] rfl rfl rfl (qai func63 rfl rfl) rfl rfl (by simp) ⟨trivial,trivial⟩ (by trivial) (spec_l02Is_2_ok n (qan.mk (qbg.mk f_.Grid.qa1 f_.Grid.Ties) f_.qa9) hx131) ?_
    rintro r0 o0 n0 ⟨rfl,rfl,rfl⟩ -
    refine qa0 hτ rfl rfl rfl<|qa4 ?_
    refine qa8 (wk [0,1,2,3,4] (l:=[(0,.ptr 0 0),(1,.ptr 1 0),(4,.ptr 4 0),(14,bv x131)]) (objs:=[.box [sv qal x129.2.code,iv x129.2.at_,.d (.int .u64 x129.2.seed)],.box [cxv f_.Grid.qa1.Source.A,cxv f_.Grid.qa1.Source.B,cxv f_.Grid.qa1.Source.C,sv qae f_.Grid.qa1.qa5,.row 2 f_.Grid.Ties.length 0 f_.Grid.Ties.length,.row 3 f_.qa9.length 0 f_.qa9.length],.row 5 (f_.Grid.Ties.map qah),.row 4 (f_.qa9.map qad),.box [.d (.nils),.d (.nils),iv (0:Int),bv false]])) ?_
    exact hk128 (x129.2.code,x129.2.at_,x129.2.seed,x131) h
   ·have h:=qje h hb130
    refine qa3 rfl rfl<|qa3 rfl rfl<|qa0 hτ rfl rfl rfl<|qa4 ?_
    refine qa8 (wk [0,1,2,3,4] (l:=[(0,.ptr 0 0),(1,.ptr 1 0),(4,.ptr 4 0),(14,bv false)]) (objs:=[.box [sv qal x129.2.code,iv x129.2.at_,.d (.int .u64 x129.2.seed)],.box [cxv f_.Grid.qa1.Source.A,cxv f_.Grid.qa1.Source.B,cxv f_.Grid.qa1.Source.C,sv qae f_.Grid.qa1.qa5,.row 2 f_.Grid.Ties.length 0 f_.Grid.Ties.length,.row 3 f_.qa9.length 0 f_.qa9.length],.row 5 (f_.Grid.Ties.map qah),.row 4 (f_.qa9.map qad),.box [.d (.nils),.d (.nils),iv (0:Int),bv false]])) ?_
    exact hk128 (x129.2.code,x129.2.at_,x129.2.seed,false) h
def m_spec_l10DrawOk_j1 (n:Nat) (x25:qbg × qao) (v49:List Int) (v50:Int) (v51:Int) (v52:List SBus) (v53:List STie) (v54:List qav) (v55:List SBus) (v56:List qav):Option (qan × qao) :=
 some ((qan.mk (qbg.mk (qb8.mk x25.1.qa1.Source v55) x25.1.Ties) v56),(qao.mk v49 v50 v51))
def m_spec_l10DrawOk_l2 (n:Nat) (x25:qbg × qao):Nat→List Int→Int→Int→List SBus→List STie→List qav→List SBus→List qav→Int→Option (qan × qao)
 | 0,_,_,_,_,_,_,_,_,_=>none
 | m81 + 1,v61,v62,v63,v64,v65,v66,v67,v68,v69 =>
  if v69 > (0:Int) then
   (m_spec_l10DrawFlow_2 n (qao.mk v61 v62 v63) (qan.mk (qbg.mk (qb8.mk x25.1.qa1.Source v67) x25.1.Ties) v68)).bind fun x84 =>
   grd (room (v68.length + 1) 64) <|
   (m_spec_l10DrawOk_l2 n x25 m81) x84.2.code x84.2.at_ x84.2.seed v64 v65 v66 v67 (v68 ++ [x84.1]) (w64 (v69 - (1:Int)))
  else
   m_spec_l10DrawOk_j1 n x25 v61 v62 v63 v64 v65 v66 v67 v68
def qi8 (n:Nat) (Q_:qan × qao→Prop) (x25:qbg × qao) (v49:List Int) (v50:Int) (v51:Int) (v52:List SBus) (v53:List STie) (v54:List qav) (v55:List SBus) (v56:List qav):Prop :=
 Q_ (((qan.mk (qbg.mk (qb8.mk x25.1.qa1.Source v55) x25.1.Ties) v56),(qao.mk v49 v50 v51)))
def qd9 (n:Nat) (Q_:qan × qao→Prop) (x25:qbg × qao):Nat→List Int→Int→Int→List SBus→List STie→List qav→List SBus→List qav→Int→Prop
 | 0,_,_,_,_,_,_,_,_,_=>False
 | m81 + 1,v61,v62,v63,v64,v65,v66,v67,v68,v69 =>
  if v69 > (0:Int) then
   qfz n (qao.mk v61 v62 v63) (qan.mk (qbg.mk (qb8.mk x25.1.qa1.Source v67) x25.1.Ties) v68) fun x84 =>
   grdP (room (v68.length + 1) 64) <|
   (qd9 n Q_ x25 m81) x84.2.code x84.2.at_ x84.2.seed v64 v65 v66 v67 (v68 ++ [x84.1]) (w64 (v69 - (1:Int)))
  else
   qi8 n Q_ x25 v61 v62 v63 v64 v65 v66 v67 v68
def qjz (n:Nat) (s_:qao) (Q_:qan × qao→Prop):Prop :=
 bndP (qj7 n s_) fun x25 =>
 bndP (qat n x25.2 (4:Int)) fun x58 =>
 qd9 n Q_ x25 n x58.2.code x58.2.at_ x58.2.seed ([]:List SBus) ([]:List STie) ([]:List qav) x25.1.qa1.qa5 ([]:List qav) x58.1
theorem spec_l10DrawOk_okP (n:Nat) (s_:qao) {Q_:qan × qao→Prop} (h:qjz n s_ Q_):qax prog false 17 [.ptr 0 0] [.box [sv qal s_.code,iv s_.at_,.d (.int .u64 s_.seed)]] (fun v o new=>∃ r,Q_ r∧v = .agg [cxv r.1.Grid.qa1.Source.A,cxv r.1.Grid.qa1.Source.B,cxv r.1.Grid.qa1.Source.C,sv qae r.1.Grid.qa1.qa5,.row 1 r.1.Grid.Ties.length 0 r.1.Grid.Ties.length,.row 2 r.1.qa9.length 0 r.1.qa9.length]∧o = [.box [sv qal r.2.code,iv r.2.at_,.d (.int .u64 r.2.seed)]]∧new = [.row 5 (r.1.Grid.Ties.map qah),.row 4 (r.1.qa9.map qad)]):=by
 refine qaj hτ func17 rfl (by simp) (by simp) ?_
 unfold qjz at h
 refine qa6<|qa2<|qaf hτ rfl rfl rfl<|qa4<|qa6<|qa2<|qa0 hτ rfl rfl rfl ?_
 refine qbf h fun x25 hx25 h=>?_
 refine qac hτ false [0] rfl rfl rfl (qai func35 rfl rfl) rfl rfl (by simp) ⟨trivial,trivial⟩ (by trivial) (spec_l08DrawOk_ok n s_ hx25) ?_
 rintro r0 o0 n0 ⟨rfl,rfl,rfl⟩ -
 refine qaf hτ rfl rfl rfl<|qa0 hτ rfl rfl rfl<|qaf hτ rfl rfl rfl<|qaf hτ rfl rfl rfl<|qa4 ?_
 refine qbn (ι:=List Int × Int × Int × List SBus × List STie × List qav × List SBus × List qav) (fun (v49,v50,v51,v52,v53,v54,v55,v56)=>St.of [(2,.ptr 1 0),(3,.ptr 5 0)] [.box [sv qal v49,iv v50,.d (.int .u64 v51)],.box [.d (.cx .f32 (0:Nat) (0:Nat)),.d (.cx .f32 (0:Nat) (0:Nat)),.d (.cx .f32 (0:Nat) (0:Nat)),.row 2 v52.length 0 v52.length,.row 3 v53.length 0 v53.length,.row 4 v54.length 0 v54.length],.row 8 (v52.map qae),.row 5 (v53.map qah),.row 4 (v54.map qad),.box [cxv x25.1.qa1.Source.A,cxv x25.1.qa1.Source.B,cxv x25.1.qa1.Source.C,sv qae v55,.row 6 x25.1.Ties.length 0 x25.1.Ties.length,.row 7 v56.length 0 v56.length],.row 5 (x25.1.Ties.map qah),.row 4 (v56.map qad)] f17.ntmps 1) (fun (v49,v50,v51,v52,v53,v54,v55,v56)=>qi8 n Q_ x25 v49 v50 v51 v52 v53 v54 v55 v56) ?_ (fun hk57=>?_)
 ·rintro ⟨v49,v50,v51,v52,v53,v54,v55,v56⟩ h
  replace h:qi8 n Q_ x25 v49 v50 v51 v52 v53 v54 v55 v56:=h
  unfold qi8 at h
  refine qa6<|qa2<|qa0 hτ rfl rfl rfl<|qaf hτ rfl rfl rfl<|qa4 ?_
  refine qa8 (wk [0,1,6,7] (l:=[(2,.ptr 1 0)]) (objs:=[.box [sv qal v49,iv v50,.d (.int .u64 v51)],.box [cxv x25.1.qa1.Source.A,cxv x25.1.qa1.Source.B,cxv x25.1.qa1.Source.C,sv qae v55,.row 2 x25.1.Ties.length 0 x25.1.Ties.length,.row 3 v56.length 0 v56.length],.row 5 (x25.1.Ties.map qah),.row 4 (v56.map qad)])) ?_
  refine qaq ?_
  exact qb0 (.inr rfl) [2,3] (objs':=[.box [sv qal v49,iv v50,.d (.int .u64 v51)]]) (new:=[.row 5 (x25.1.Ties.map qah),.row 4 (v56.map qad)]) rfl (by simp) (by simp) rfl (by trivial) rfl rfl (by trivial) (fun h=>nomatch h) ⟨_,h,rfl,rfl,rfl⟩
 ·refine qa6<|qa6 ?_
  refine qa8 (wk [0,1,5,2,3,4] (l:=[(0,.ptr 0 0),(2,.ptr 1 0),(3,.ptr 2 0)]) (objs:=[.box [sv qal x25.2.code,iv x25.2.at_,.d (.int .u64 x25.2.seed)],.box [.d (.cx .f32 (0:Nat) (0:Nat)),.d (.cx .f32 (0:Nat) (0:Nat)),.d (.cx .f32 (0:Nat) (0:Nat)),.d (.nils),.d (.nils),.d (.nils)],.box [cxv x25.1.qa1.Source.A,cxv x25.1.qa1.Source.B,cxv x25.1.qa1.Source.C,.row 3 x25.1.qa1.qa5.length 0 x25.1.qa1.qa5.length,.row 4 x25.1.Ties.length 0 x25.1.Ties.length,.row 5 (([]:List qav).length) 0 (([]:List qav).length)],.row 8 (x25.1.qa1.qa5.map qae),.row 5 (x25.1.Ties.map qah),.row 4 (([]:List qav).map qad)])) ?_
  refine qa2<|qa0 hτ rfl rfl rfl ?_
  refine qbf h fun x58 hx58 h=>?_
  refine qac hτ false [0] rfl rfl rfl (qai func36 rfl rfl) rfl rfl (by simp) ⟨trivial,trivial,trivial⟩ (by trivial) (qb2 n x25.2 (4:Int) hx58) ?_
  rintro r0 o0 n0 ⟨rfl,rfl,rfl⟩ -
  refine qa0 hτ rfl rfl rfl<|qa4<|qb9 ?_
  refine qev (ι:=Nat × List Int × Int × Int × List SBus × List STie × List qav × List SBus × List qav × Int) (fun (m81,v61,v62,v63,v64,v65,v66,v67,v68,v69)=>St.of [(0,.ptr 0 0),(2,.ptr 1 0),(3,.ptr 5 0),(4,iv v69)] [.box [sv qal v61,iv v62,.d (.int .u64 v63)],.box [.d (.cx .f32 (0:Nat) (0:Nat)),.d (.cx .f32 (0:Nat) (0:Nat)),.d (.cx .f32 (0:Nat) (0:Nat)),.row 2 v64.length 0 v64.length,.row 3 v65.length 0 v65.length,.row 4 v66.length 0 v66.length],.row 8 (v64.map qae),.row 5 (v65.map qah),.row 4 (v66.map qad),.box [cxv x25.1.qa1.Source.A,cxv x25.1.qa1.Source.B,cxv x25.1.qa1.Source.C,sv qae v67,.row 6 x25.1.Ties.length 0 x25.1.Ties.length,.row 7 v68.length 0 v68.length],.row 5 (x25.1.Ties.map qah),.row 4 (v68.map qad)] f17.ntmps 1) (fun (m81,v61,v62,v63,v64,v65,v66,v67,v68,v69)=>qd9 n Q_ x25 m81 v61 v62 v63 v64 v65 v66 v67 v68 v69) (fun x=>x.1) (n,x58.2.code,x58.2.at_,x58.2.seed,([]:List SBus),([]:List STie),([]:List qav),x25.1.qa1.qa5,([]:List qav),x58.1) h (Weak.trans (Weak.trans (qbk [0,1,2,4,5] (l:=[(0,.ptr 0 0),(2,.ptr 1 0),(3,.ptr 2 0),(4,iv x58.1)]) (objs:=[.box [sv qal x58.2.code,iv x58.2.at_,.d (.int .u64 x58.2.seed)],.box [.d (.cx .f32 (0:Nat) (0:Nat)),.d (.cx .f32 (0:Nat) (0:Nat)),.d (.cx .f32 (0:Nat) (0:Nat)),.d (.nils),.d (.nils),.d (.nils)],.box [cxv x25.1.qa1.Source.A,cxv x25.1.qa1.Source.B,cxv x25.1.qa1.Source.C,sv qae x25.1.qa1.qa5,.row 3 x25.1.Ties.length 0 x25.1.Ties.length,.row 4 (([]:List qav).length) 0 (([]:List qav).length)],.row 5 (x25.1.Ties.map qah),.row 4 (([]:List qav).map qad)]) rfl (by simp) (qak rfl (qak rfl (qak (qqa (qak rfl (qak rfl (qak rfl (qak (qbx (f:=qae) (j:=3) (sz:=8) x25.1.qa1.qa5 rfl rfl rfl) (qak rfl (qak rfl qc9))))))) (qak rfl (qak rfl qc9))))) ⟨(by trivial),(by trivial),⟨trivial,trivial,trivial,(qby (f:=qae) (j:=3) (sz:=8) x25.1.qa1.qa5 rfl rfl rfl),trivial,trivial⟩,trivial,trivial,trivial⟩ ⟨rfl,trivial,rfl,trivial,rfl,trivial,rfl,trivial,trivial⟩) (qe3 [8,5,4] (l':=[(0,.ptr 0 0),(2,.ptr 1 0),(3,.ptr 2 0),(4,iv x58.1)]) (objs':=[.box [sv qal x58.2.code,iv x58.2.at_,.d (.int .u64 x58.2.seed)],.box [.d (.cx .f32 (0:Nat) (0:Nat)),.d (.cx .f32 (0:Nat) (0:Nat)),.d (.cx .f32 (0:Nat) (0:Nat)),.row 5 (([]:List SBus).length) 0 (([]:List SBus).length),.row 6 (([]:List STie).length) 0 (([]:List STie).length),.row 7 (([]:List qav).length) 0 (([]:List qav).length)],.box [cxv x25.1.qa1.Source.A,cxv x25.1.qa1.Source.B,cxv x25.1.qa1.Source.C,sv qae x25.1.qa1.qa5,.row 3 x25.1.Ties.length 0 x25.1.Ties.length,.row 4 (([]:List qav).length) 0 (([]:List qav).length)],.row 5 (x25.1.Ties.map qah),.row 4 (([]:List qav).map qad)]) (.cons (.c (.refl _)) (.cons (.c (.refl _)) (.cons (.c (.refl _)) (.cons (.c (.refl _)) .nil)))) (.cons (.refl _) (.cons (.box (.cons (.refl _) (.cons (.refl _) (.cons (.refl _) (.cons (.ghost ⟨Nat.le_of_ble_eq_true rfl,Nat.le_of_ble_eq_true rfl⟩) (.cons (.ghost ⟨Nat.le_of_ble_eq_true rfl,Nat.le_of_ble_eq_true rfl⟩) (.cons (.ghost ⟨Nat.le_of_ble_eq_true rfl,Nat.le_of_ble_eq_true rfl⟩) .nil))))))) (.cons (.refl _) (.cons (.refl _) (.cons (.refl _) .nil))))))) (wk [0,1,5,6,7,2,3,4] (l:=[(0,.ptr 0 0),(2,.ptr 1 0),(3,.ptr 5 0),(4,iv x58.1)]) (objs:=[.box [sv qal x58.2.code,iv x58.2.at_,.d (.int .u64 x58.2.seed)],.box [.d (.cx .f32 (0:Nat) (0:Nat)),.d (.cx .f32 (0:Nat) (0:Nat)),.d (.cx .f32 (0:Nat) (0:Nat)),.row 2 (([]:List SBus).length) 0 (([]:List SBus).length),.row 3 (([]:List STie).length) 0 (([]:List STie).length),.row 4 (([]:List qav).length) 0 (([]:List qav).length)],.row 8 (([]:List SBus).map qae),.row 5 (([]:List STie).map qah),.row 4 (([]:List qav).map qad),.box [cxv x25.1.qa1.Source.A,cxv x25.1.qa1.Source.B,cxv x25.1.qa1.Source.C,sv qae x25.1.qa1.qa5,.row 6 x25.1.Ties.length 0 x25.1.Ties.length,.row 7 (([]:List qav).length) 0 (([]:List qav).length)],.row 5 (x25.1.Ties.map qah),.row 4 (([]:List qav).map qad)]))) ?_
  rintro ⟨m81,v61,v62,v63,v64,v65,v66,v67,v68,v69⟩ h
  replace h:qd9 n Q_ x25 m81 v61 v62 v63 v64 v65 v66 v67 v68 v69:=h
  rcases m81 with _ | m81
  ·rw [qd9] at h;cases h
  rw [qd9] at h
  refine qa6<|qa6<|qa2<|qa0 hτ rfl rfl rfl<|qa0 hτ rfl rfl rfl<|qa4 ?_
  refine qaw rfl (fun hc83=>?_) (fun hc83=>?_)
  ·have h:=qnb h hc83
   refine qb1<|qa6<|qb9 ?_
   refine qi9 mixed ?_
   refine qab hτ [5] 0 rfl rfl rfl rfl rfl ?_
   refine qab hτ [5] 1 rfl rfl rfl rfl rfl ?_
   refine qab hτ [] 2 rfl rfl rfl rfl rfl ?_
   refine qab hτ [5] 3 rfl rfl rfl rfl rfl ?_
   refine qab hτ [5] 4 rfl rfl rfl rfl rfl ?_
   refine qg1 [5] (by kernel_rfl) fun _ hfs=>⟨?_,trivial⟩
   refine qdb hτ false [0,5,6,7] [1,2,3,4,5,6,7] hfs (by kernel_rfl) rfl rfl rfl rfl (qai func37 rfl rfl) rfl rfl (by simp) ⟨trivial,trivial,trivial⟩ (by trivial) (spec_l10DrawFlow_2_okP n (qao.mk v61 v62 v63) (qan.mk (qbg.mk (qb8.mk x25.1.qa1.Source v67) x25.1.Ties) v68) h) (by rintro _ _ _ ⟨_,_,rfl,rfl,rfl⟩ _;exact ⟨rfl,rfl,rfl,rfl,rfl,rfl,rfl,trivial⟩) ?_
   rintro r0 o0 n0 ⟨x84,h,rfl,rfl,rfl⟩ - _
   refine qbj hτ [0,1,2,3,4,5,6,7] 6 rfl rfl rfl rfl ⟨rfl,rfl,rfl,rfl,rfl,rfl,rfl,rfl,trivial⟩ ?_
   refine qhf h fun hg85 h=>?_
   refine qjr hτ [0,1,2,3,4,5,6,8] 7 rfl rfl rfl (Eq.trans rfl (or_append (f:=qad) v68 [x84.1] rfl)) ⟨⟨rfl,Nat.le_of_ble_eq_true rfl⟩,qco _,rfl,rfl,hg85,by decide,(all1 rfl)⟩ ⟨rfl,rfl,rfl,rfl,rfl,rfl,rfl,rfl,trivial⟩ ?_
   refine qab hτ [5] 8 rfl rfl rfl rfl rfl ?_
   refine qbj hτ [0,1,2,3,4,6,7,8] 9 rfl rfl rfl rfl ⟨rfl,rfl,rfl,rfl,rfl,rfl,rfl,rfl,trivial⟩ ?_
   refine qhc (by kernel_rfl) ?_
   refine qa8 (wk [0,1,2,3,4,5,6,7] (l:=[(0,.ptr 0 0),(2,.ptr 1 0),(3,.ptr 5 0),(4,iv v69)]) (objs:=[.box [sv qal x84.2.code,iv x84.2.at_,.d (.int .u64 x84.2.seed)],.box [.d (.cx .f32 (0:Nat) (0:Nat)),.d (.cx .f32 (0:Nat) (0:Nat)),.d (.cx .f32 (0:Nat) (0:Nat)),.row 2 v64.length 0 v64.length,.row 3 v65.length 0 v65.length,.row 4 v66.length 0 v66.length],.row 8 (v64.map qae),.row 5 (v65.map qah),.row 4 (v66.map qad),.box [cxv x25.1.qa1.Source.A,cxv x25.1.qa1.Source.B,cxv x25.1.qa1.Source.C,sv qae v67,.row 6 x25.1.Ties.length 0 x25.1.Ties.length,.row 7 ((v68 ++ [x84.1]).length) 0 ((v68 ++ [x84.1]).length)],.row 5 (x25.1.Ties.map qah),.row 4 ((v68 ++ [x84.1]).map qad)])) ?_
   refine qa2<|qa0 hτ rfl rfl rfl<|qa0 hτ rfl rfl rfl<|qa0 hτ rfl rfl rfl<|qa4 ?_
   exact ⟨(m81,x84.2.code,x84.2.at_,x84.2.seed,v64,v65,v66,v67,(v68 ++ [x84.1]),(w64 (v69 - (1:Int)))),h,Nat.lt_succ_self m81,(wk [0,1,2,3,4,5,6,7] (l:=[(0,.ptr 0 0),(2,.ptr 1 0),(3,.ptr 5 0),(4,iv (w64 (v69 - (1:Int))))]) (objs:=[.box [sv qal x84.2.code,iv x84.2.at_,.d (.int .u64 x84.2.seed)],.box [.d (.cx .f32 (0:Nat) (0:Nat)),.d (.cx .f32 (0:Nat) (0:Nat)),.d (.cx .f32 (0:Nat) (0:Nat)),.row 2 v64.length 0 v64.length,.row 3 v65.length 0 v65.length,.row 4 v66.length 0 v66.length],.row 8 (v64.map qae),.row 5 (v65.map qah),.row 4 (v66.map qad),.box [cxv x25.1.qa1.Source.A,cxv x25.1.qa1.Source.B,cxv x25.1.qa1.Source.C,sv qae v67,.row 6 x25.1.Ties.length 0 x25.1.Ties.length,.row 7 ((v68 ++ [x84.1]).length) 0 ((v68 ++ [x84.1]).length)],.row 5 (x25.1.Ties.map qah),.row 4 ((v68 ++ [x84.1]).map qad)]))⟩
  ·have h:=qna h hc83
   refine qe4 ?_
   refine qa8 (wk [0,1,2,3,4,5,6,7] (l:=[(2,.ptr 1 0),(3,.ptr 5 0)]) (objs:=[.box [sv qal v61,iv v62,.d (.int .u64 v63)],.box [.d (.cx .f32 (0:Nat) (0:Nat)),.d (.cx .f32 (0:Nat) (0:Nat)),.d (.cx .f32 (0:Nat) (0:Nat)),.row 2 v64.length 0 v64.length,.row 3 v65.length 0 v65.length,.row 4 v66.length 0 v66.length],.row 8 (v64.map qae),.row 5 (v65.map qah),.row 4 (v66.map qad),.box [cxv x25.1.qa1.Source.A,cxv x25.1.qa1.Source.B,cxv x25.1.qa1.Source.C,sv qae v67,.row 6 x25.1.Ties.length 0 x25.1.Ties.length,.row 7 v68.length 0 v68.length],.row 5 (x25.1.Ties.map qah),.row 4 (v68.map qad)])) ?_
   exact hk57 (v61,v62,v63,v64,v65,v66,v67,v68) h
def qh8 (n:Nat) (code_:List Int) (Q_:qan→Prop):Prop :=
 bndP (qmh n code_) fun x3 =>
 qjz n x3 fun x4 =>
 Q_ ((qan.mk (qbg.mk x4.1.Grid.qa1 x4.1.Grid.Ties) x4.1.qa9))
theorem spec_R8Record_okP (n:Nat) (code_:List Int) {Q_:qan→Prop} (h:qh8 n code_ Q_):qax prog false 5 [sv qal code_] [] (fun v o new=>∃ r,Q_ r∧v = .agg [cxv r.Grid.qa1.Source.A,cxv r.Grid.qa1.Source.B,cxv r.Grid.qa1.Source.C,sv qae r.Grid.qa1.qa5,.row 0 r.Grid.Ties.length 0 r.Grid.Ties.length,.row 1 r.qa9.length 0 r.qa9.length]∧o = []∧new = [.row 5 (r.Grid.Ties.map qah),.row 4 (r.qa9.map qad)]):=by
 refine qaj hτ func5 rfl (by simp) (by simp) ?_
 unfold qh8 at h
 refine qa6<|qa2<|qaf hτ rfl rfl rfl<|qa4<|qa6<|qa2<|qa0 hτ rfl rfl rfl ?_
 refine qbf h fun x3 hx3 h=>?_
 refine qac hτ false [] rfl rfl rfl (qai func16 rfl rfl) rfl rfl (by simp) ⟨trivial,trivial⟩ (by trivial) (spec_l00From_ok n code_ hx3) ?_
 rintro r0 o0 n0 ⟨rfl,rfl,rfl⟩ -
 refine qa0 hτ rfl rfl rfl<|qa4<|qa6<|qa2<|qa0 hτ rfl rfl rfl ?_
 refine qac hτ false [1] rfl rfl rfl (qai func17 rfl rfl) rfl rfl (by simp) ⟨trivial,trivial⟩ (by trivial) (spec_l10DrawOk_okP n x3 h) ?_
 rintro r0 o0 n0 ⟨x4,h,rfl,rfl,rfl⟩ -
 refine qaf hτ rfl rfl rfl<|qa4 ?_
 refine qa8 (wk [0,2,3] (l:=[(2,.ptr 0 0)]) (objs:=[.box [cxv x4.1.Grid.qa1.Source.A,cxv x4.1.Grid.qa1.Source.B,cxv x4.1.Grid.qa1.Source.C,sv qae x4.1.Grid.qa1.qa5,.row 1 x4.1.Grid.Ties.length 0 x4.1.Grid.Ties.length,.row 2 x4.1.qa9.length 0 x4.1.qa9.length],.row 5 (x4.1.Grid.Ties.map qah),.row 4 (x4.1.qa9.map qad)])) ?_
 refine qaq ?_
 exact qb0 (.inr rfl) [1,2] (objs':=[]) (new:=[.row 5 (x4.1.Grid.Ties.map qah),.row 4 (x4.1.qa9.map qad)]) rfl (by simp) (by simp) rfl (by trivial) rfl rfl (by trivial) (fun h=>nomatch h) ⟨_,h,rfl,rfl,rfl⟩
def WfD (d:D):Prop:=∃ (W:World) (ok:Nat→Prop) (v:Value),RelD W ok d v
structure WfR (r:qan):Prop where
 a:WfD (.cx .f32 r.Grid.qa1.Source.A.re r.Grid.qa1.Source.A.im)
 b:WfD (.cx .f32 r.Grid.qa1.Source.B.re r.Grid.qa1.Source.B.im)
 c:WfD (.cx .f32 r.Grid.qa1.Source.C.re r.Grid.qa1.Source.C.im)
 bs:WfD (.sl false (r.Grid.qa1.qa5.map qae))
 ts:∀ t ∈ r.Grid.Ties,∀ k,k < 5→WfD ((qah t).getD k .nilp)
 fs:∀ f ∈ r.qa9,∀ k,k < 4→WfD ((qad f).getD k .nilp)
theorem qxv {W:World} {hb:Handle} {ok:Nat→Prop} {j sz:Nat} {α:Type} {f:α→List D} {l:List α} (h:qw4 W hb ok j sz (l.map f)) {x:α} (hx:x ∈ l) {k:Nat} (hk:k < sz):WfD ((f x).getD k .nilp):=by
 obtain ⟨i,hi⟩:=List.mem_iff_getElem?.1 hx
 have hil:=(List.getElem?_eq_some_iff.1 hi).1
 rcases h.2 with ⟨e,_⟩ | ⟨b,vals,T,fr,_,_,_,_,h2⟩
 ·have:l = []:=List.map_eq_nil_iff.1 e
  subst this;cases hx
 ·have:=h2 i k (by simpa using hil) hk
  have e:(l.map f).getD i [] = f x:=by rw [List.getD_eq_getElem?_getD,List.getElem?_map,hi];rfl
  rw [e] at this
  exact ⟨_,_,_,this⟩
theorem spec_R8Record_okW (n:Nat) (code_:List Int) {Q_:qan→Prop} (h:qh8 n code_ fun r=>WfR r→Q_ r):qax prog false 5 [sv qal code_] [] (fun v o new=>∃ r,Q_ r∧v = .agg [cxv r.Grid.qa1.Source.A,cxv r.Grid.qa1.Source.B,cxv r.Grid.qa1.Source.C,sv qae r.Grid.qa1.qa5,.row 0 r.Grid.Ties.length 0 r.Grid.Ties.length,.row 1 r.qa9.length 0 r.qa9.length]∧o = []∧new = [.row 5 (r.Grid.Ties.map qah),.row 4 (r.qa9.map qad)]):=by
 intro W A hb okA vals h1 h2 h3 h4
 refine (spec_R8Record_okP n code_ h W A hb okA vals h1 h2 h3 h4).mono fun e W' ⟨v,r,o,nw,hb',he,⟨x,hq,hr,ho,hn⟩,hl,hs,hv⟩=>?_
 subst hr ho hn
 refine ⟨v,_,_,_,hb',he,⟨x,hq ?_,rfl,rfl,rfl⟩,hl,hs,hv⟩
 cases hv with
 | agg hlen hrel =>
  have g:∀ (i:Nat) (d:D),i < 6→([V.d (.cx .f32 x.Grid.qa1.Source.A.re x.Grid.qa1.Source.A.im),cxv x.Grid.qa1.Source.B,cxv x.Grid.qa1.Source.C,sv qae x.Grid.qa1.qa5,.row 0 x.Grid.Ties.length 0 x.Grid.Ties.length,.row 1 x.qa9.length 0 x.qa9.length]:List V).getD i .junk = .d d→WfD d:=fun i d hi hd=>by
   have h6:=hrel i (by rw [← hlen];exact hi)
   rw [hd] at h6
   cases h6 with
   | d h7=>exact ⟨_,_,_,h7⟩
  have o0:=hs.obj 0
  have o1:=hs.obj 1
  exact ⟨g 0 _ (by decide) rfl,g 1 _ (by decide) rfl,g 2 _ (by decide) rfl,g 3 _ (by decide) rfl,fun t ht k hk=>qxv (show qw4 _ _ _ 0 5 (x.Grid.Ties.map qah) from o0) ht hk,fun f hf k hk=>qxv (show qw4 _ _ _ 1 4 (x.qa9.map qad) from o1) hf hk⟩
def qdg (n:Nat) (n_:Int) (low_:Int) (high_:Int):Option Bool :=
 if n_ ≥ low_ then
  some (decide (n_ ≤ high_))
 else
  some false
theorem impl_in_ok_fr0 (fr:Bool) (n:Nat) (n_:Int) (low_:Int) (high_:Int) {r:Bool} (h:qdg n n_ low_ high_ = some r):qax prog fr 33 [iv n_,iv low_,iv high_] [] (fun v o new=>v = (bv r)∧o = []∧new = []):=by
 refine qaj hτ func33 rfl (by simp) (by simp) ?_
 unfold qdg at h
 refine qa6<|qa2<|qa0 hτ rfl rfl rfl<|qa4<|qa6<|qa2<|qa0 hτ rfl rfl rfl<|qa0 hτ rfl rfl rfl ?_
 refine qa0 hτ rfl rfl rfl<|qa0 hτ rfl rfl rfl ?_
 refine qay 10 rfl (fun hb3=>?_) (fun hb3=>?_)
 ·have h:=if_t h hb3
  refine qa0 hτ rfl rfl rfl<|qa0 hτ rfl rfl rfl<|qa0 hτ rfl rfl rfl<|qa0 hτ rfl rfl rfl<|qa0 hτ rfl rfl rfl<|qa4 ?_
  refine qa8 (wk [] (l:=[(6,bv (decide (n_ ≤ high_)))]) (objs:=[])) ?_
  refine qaq ?_
  have hr:=Option.some.inj h
  subst hr
  exact rt0 rfl rfl ⟨rfl,rfl,rfl⟩
 ·have h:=if_f h hb3
  refine qa3 rfl rfl<|qa3 rfl rfl<|qa3 rfl rfl<|qa0 hτ rfl rfl rfl<|qa0 hτ rfl rfl rfl<|qa4 ?_
  refine qa8 (wk [] (l:=[(6,bv false)]) (objs:=[])) ?_
  refine qaq ?_
  have hr:=Option.some.inj h
  subst hr
  exact rt0 rfl rfl ⟨rfl,rfl,rfl⟩
theorem qfa (n:Nat) (n_:Int) (low_:Int) (high_:Int) {r:Bool} (h:qdg n n_ low_ high_ = some r):qax prog false 33 [iv n_,iv low_,iv high_] [] (fun v o new=>v = (bv r)∧o = []∧new = []):=impl_in_ok_fr0 false n n_ low_ high_ h
def qks (n:Nat) (kind_:Int):Option Bool :=
 (qdg n kind_ (0:Int) (2:Int)).bind fun x2 =>
 some x2
theorem impl_kindOk_ok_fr0 (fr:Bool) (n:Nat) (kind_:Int) {r:Bool} (h:qks n kind_ = some r):qax prog fr 68 [iv kind_] [] (fun v o new=>v = (bv r)∧o = []∧new = []):=by
 refine qaj hτ func68 rfl (by simp) (by simp) ?_
 unfold qks at h
 refine qa6<|qa2<|qa0 hτ rfl rfl rfl<|qa4<|qa6<|qa2<|qa0 hτ rfl rfl rfl ?_
 refine qag h fun x2 hx2 h=>?_
 refine qac hτ false [] rfl rfl rfl (qai func33 rfl rfl) rfl rfl (by simp) ⟨trivial,trivial,trivial,trivial⟩ (by trivial) (qfa n kind_ (0:Int) (2:Int) hx2) ?_
 rintro r0 o0 n0 ⟨rfl,rfl,rfl⟩ -
 refine qa0 hτ rfl rfl rfl<|qa4 ?_
 refine qa8 (wk [] (l:=[(2,bv x2)]) (objs:=[])) ?_
 refine qaq ?_
 have hr:=Option.some.inj h
 subst hr
 exact rt0 rfl rfl ⟨rfl,rfl,rfl⟩
theorem impl_kindOk_ok (n:Nat) (kind_:Int) {r:Bool} (h:qks n kind_ = some r):qax prog false 68 [iv kind_] [] (fun v o new=>v = (bv r)∧o = []∧new = []):=impl_kindOk_ok_fr0 false n kind_ h
def qfr (n:Nat) (f_:qb8):Option Bool :=
 (qdg n (f_.qa5.length:Int) (1:Int) (16:Int)).bind fun x58 =>
 some x58
def qem (n:Nat) (k89:Int→Option Bool) (v73:Int):Option Bool :=
 k89 (w64 (v73 + (1:Int)))
def qdf (n:Nat) (k89:Int→Option Bool) (v73:Int) (v122:Bool):Option Bool :=
 if v122 = true then
  some false
 else
  qem n k89 v73
def qcf (n:Nat) (k89:Int→Option Bool) (v73:Int) (x105:SBus) (v117:Bool):Option Bool :=
 if v117 = true then
  some false
 else
  if v73 > (0:Int) then
   (qdg n x105.qb4 (0:Int) (w64 (v73 - (1:Int)))).bind fun x126 =>
   qdf n k89 v73 (!x126)
  else
   qdf n k89 v73 false
def qen (n:Nat) (k89:Int→Option Bool) (v73:Int) (x105:SBus) (v110:Bool):Option Bool :=
 if v110 = true then
  some false
 else
  if v73 = (0:Int) then
   if x105.qb4 = (-1:Int) then
    if (fcmp .eql .f32 x105.Own.re (0:Nat) && fcmp .eql .f32 x105.Own.im (0:Nat)) = true then
     qcf n k89 v73 x105 (!(fcmp .eql .f32 x105.Shared.re (0:Nat) && fcmp .eql .f32 x105.Shared.im (0:Nat)))
    else
     qcf n k89 v73 x105 true
   else
    qcf n k89 v73 x105 true
  else
   qcf n k89 v73 x105 false
def qb7 (n:Nat) (f_:qb8):Nat→Int→Option Bool
 | 0,_=>none
 | m88 + 1,v73 =>
  if v73 < (f_.qa5.length:Int) then
   (getI f_.qa5 v73).bind fun x105 =>
   (qks n x105.Kind).bind fun x132 =>
   if x132 = true then
    (qdg n x105.qas (0:Int) (1000000:Int)).bind fun x134 =>
    qen n (qb7 n f_ m88) v73 x105 (!x134)
   else
    qen n (qb7 n f_ m88) v73 x105 true
  else
   qfr n f_
def qhj (n:Nat) (f_:qb8):Option Bool :=
 qb7 n f_ n (0:Int)
theorem impl_ValidFeeder_ok_fr0 (fr:Bool) (n:Nat) (f_:qb8) {r:Bool} (h:qhj n f_ = some r):qax prog fr 43 [.agg [cxv f_.Source.A,cxv f_.Source.B,cxv f_.Source.C,sv qae f_.qa5]] [] (fun v o new=>v = (bv r)∧o = []∧new = []):=by
 refine qaj hτ func43 rfl (by simp) (by simp) ?_
 unfold qhj at h
 refine qa6<|qa2<|qaf hτ rfl rfl rfl<|qa0 hτ rfl rfl rfl<|qa4 ?_
 refine qbn (ι:=Unit) (fun _=>St.of [(1,.ptr 0 0)] [.box [cxv f_.Source.A,cxv f_.Source.B,cxv f_.Source.C,sv qae f_.qa5]] f43.ntmps 0) (fun _=>qfr n f_ = some r) ?_ (fun hk59=>?_)
 ·rintro ⟨⟩ h
  replace h:qfr n f_ = some r:=h
  unfold qfr at h
  refine qa6<|qa2<|qa0 hτ rfl rfl rfl<|qa0 hτ rfl rfl rfl ?_
  refine qa0 hτ (v:=iv (f_.qa5.length:Int)) rfl rfl (Eq.trans rfl (qf1 (f:=qae) f_.qa5)) ?_
  refine qag h fun x58 hx58 h=>?_
  refine qac hτ false [] rfl rfl rfl (qai func33 rfl rfl) rfl rfl (by simp) ⟨trivial,trivial,trivial,trivial⟩ (by trivial) (qfa n (f_.qa5.length:Int) (1:Int) (16:Int) hx58) ?_
  rintro r0 o0 n0 ⟨rfl,rfl,rfl⟩ -
  refine qa0 hτ rfl rfl rfl<|qa4 ?_
  refine qa8 (wk [] (l:=[(2,bv x58)]) (objs:=[])) ?_
  refine qaq ?_
  have hr:=Option.some.inj h
  subst hr
  exact rt0 rfl rfl ⟨rfl,rfl,rfl⟩
 ·refine qa6<|qa6<|qa2<|qa0 hτ rfl rfl rfl<|qa0 hτ rfl rfl rfl ?_
  refine qa0 hτ (v:=iv (f_.qa5.length:Int)) rfl rfl (Eq.trans rfl (qf1 (f:=qae) f_.qa5)) ?_
  refine qa0 hτ rfl rfl rfl<|qa4<|qb9 ?_
  refine qev (ι:=Nat × Int) (fun (m88,v73)=>St.of [(1,.ptr 0 0),(6,sv qae f_.qa5),(7,iv (f_.qa5.length:Int)),(8,iv v73)] [.box [cxv f_.Source.A,cxv f_.Source.B,cxv f_.Source.C,sv qae f_.qa5]] f43.ntmps 0) (fun (m88,v73)=>qb7 n f_ m88 v73 = some r) (fun x=>x.1) (n,(0:Int)) h (wk [0] (l:=[(1,.ptr 0 0),(6,sv qae f_.qa5),(7,iv (f_.qa5.length:Int)),(8,iv (0:Int))]) (objs:=[.box [cxv f_.Source.A,cxv f_.Source.B,cxv f_.Source.C,sv qae f_.qa5]])) ?_
  rintro ⟨m88,v73⟩ h
  replace h:qb7 n f_ m88 v73 = some r:=h
  rcases m88 with _ | m88
  ·rw [qb7] at h;cases h
  rw [qb7] at h
  refine qa6<|qa2<|qa0 hτ rfl rfl rfl<|qa4<|qa6 ?_
  refine qaw rfl (fun hc90=>?_) (fun hc90=>?_)
  ·have h:=if_t h hc90
   refine qb1 ?_
   refine qbn (ι:=Unit) (fun _=>St.of [(1,.ptr 0 0),(6,sv qae f_.qa5),(7,iv (f_.qa5.length:Int)),(8,iv v73)] [.box [cxv f_.Source.A,cxv f_.Source.B,cxv f_.Source.C,sv qae f_.qa5]] f43.ntmps 0) (fun _=>qem n (qb7 n f_ m88) v73 = some r) ?_ (fun hk104=>?_)
   ·rintro ⟨⟩ h
    replace h:qem n (qb7 n f_ m88) v73 = some r:=h
    unfold qem at h
    refine qa2<|qa0 hτ rfl rfl rfl<|qa0 hτ rfl rfl rfl<|qa4 ?_
    exact ⟨(m88,(w64 (v73 + (1:Int)))),h,Nat.lt_succ_self m88,(wk [0] (l:=[(1,.ptr 0 0),(6,sv qae f_.qa5),(7,iv (f_.qa5.length:Int)),(8,iv (w64 (v73 + (1:Int))))]) (objs:=[.box [cxv f_.Source.A,cxv f_.Source.B,cxv f_.Source.C,sv qae f_.qa5]]))⟩
   ·refine qa6<|qb9<|qa6<|qa2<|qa0 hτ rfl rfl rfl ?_
    refine qag h fun x105 hx105 h=>?_
    refine qgh hτ rfl rfl rfl (qcw hx105).1 (qe7 hx105) rfl ?_
    refine qa0 hτ rfl rfl rfl<|qaf hτ rfl rfl rfl<|qa0 hτ rfl rfl rfl<|qaf hτ rfl rfl rfl<|qa4<|qb9 ?_
    refine qbn (ι:=Bool) (fun v110=>St.of [(1,.ptr 0 0),(3,iv v73),(4,.ptr 1 0),(6,sv qae f_.qa5),(7,iv (f_.qa5.length:Int)),(8,iv v73),(13,bv v110)] [.box [cxv f_.Source.A,cxv f_.Source.B,cxv f_.Source.C,sv qae f_.qa5],.box [iv x105.qb4,cxv x105.Own,cxv x105.Shared,iv x105.Kind,cxv x105.Load.A,cxv x105.Load.B,cxv x105.Load.C,iv x105.qas]] f43.ntmps 0) (fun v110=>qen n (qb7 n f_ m88) v73 x105 v110 = some r) ?_ (fun hk131=>?_)
    ·rintro v110 h
     replace h:qen n (qb7 n f_ m88) v73 x105 v110 = some r:=h
     unfold qen at h
     refine qaw rfl (fun hc111=>?_) (fun hc111=>?_)
     ·have h:=qcv h hc111
      refine qa6<|qa2<|qa0 hτ rfl rfl rfl<|qa4 ?_
      refine qa8 (wk [] (l:=[(2,bv false)]) (objs:=[])) ?_
      refine qaq ?_
      have hr:=Option.some.inj h
      subst hr
      exact rt0 rfl rfl ⟨rfl,rfl,rfl⟩
     ·have h:=qcu h hc111
      refine qbn (ι:=Bool) (fun v117=>St.of [(1,.ptr 0 0),(3,iv v73),(4,.ptr 1 0),(6,sv qae f_.qa5),(7,iv (f_.qa5.length:Int)),(8,iv v73),(24,bv v117)] [.box [cxv f_.Source.A,cxv f_.Source.B,cxv f_.Source.C,sv qae f_.qa5],.box [iv x105.qb4,cxv x105.Own,cxv x105.Shared,iv x105.Kind,cxv x105.Load.A,cxv x105.Load.B,cxv x105.Load.C,iv x105.qas]] f43.ntmps 0) (fun v117=>qcf n (qb7 n f_ m88) v73 x105 v117 = some r) ?_ (fun hk127=>?_)
      ·rintro v117 h
       replace h:qcf n (qb7 n f_ m88) v73 x105 v117 = some r:=h
       unfold qcf at h
       refine qaw rfl (fun hc118=>?_) (fun hc118=>?_)
       ·have h:=qcv h hc118
        refine qa6<|qa2<|qa0 hτ rfl rfl rfl<|qa4 ?_
        refine qa8 (wk [] (l:=[(2,bv false)]) (objs:=[])) ?_
        refine qaq ?_
        have hr:=Option.some.inj h
        subst hr
        exact rt0 rfl rfl ⟨rfl,rfl,rfl⟩
       ·have h:=qcu h hc118
        refine qbn (ι:=Bool) (fun v122=>St.of [(1,.ptr 0 0),(6,sv qae f_.qa5),(7,iv (f_.qa5.length:Int)),(8,iv v73),(42,bv v122)] [.box [cxv f_.Source.A,cxv f_.Source.B,cxv f_.Source.C,sv qae f_.qa5]] f43.ntmps 0) (fun v122=>qdf n (qb7 n f_ m88) v73 v122 = some r) ?_ (fun hk124=>?_)
        ·rintro v122 h
         replace h:qdf n (qb7 n f_ m88) v73 v122 = some r:=h
         unfold qdf at h
         refine qaw rfl (fun hc123=>?_) (fun hc123=>?_)
         ·have h:=qcv h hc123
          refine qa6<|qa2<|qa0 hτ rfl rfl rfl<|qa4 ?_
          refine qa8 (wk [] (l:=[(2,bv false)]) (objs:=[])) ?_
          refine qaq ?_
          have hr:=Option.some.inj h
          subst hr
          exact rt0 rfl rfl ⟨rfl,rfl,rfl⟩
         ·have h:=qcu h hc123
          refine qb1 ?_
          refine qa8 (wk [0] (l:=[(1,.ptr 0 0),(6,sv qae f_.qa5),(7,iv (f_.qa5.length:Int)),(8,iv v73)]) (objs:=[.box [cxv f_.Source.A,cxv f_.Source.B,cxv f_.Source.C,sv qae f_.qa5]])) ?_
          exact hk104 () h
        ·refine qa6<|qa2<|qa0 hτ rfl rfl rfl<|qa0 hτ rfl rfl rfl<|qa0 hτ rfl rfl rfl ?_
         refine qay 45 rfl (fun hb125=>?_) (fun hb125=>?_)
         ·have h:=if_t h hb125
          refine qa0 hτ rfl rfl rfl<|qa0 hτ rfl rfl rfl<|qa0 hτ rfl rfl rfl<|qa0 hτ rfl rfl rfl ?_
          refine qag h fun x126 hx126 h=>?_
          refine qac hτ false [] rfl rfl rfl (qai func33 rfl rfl) rfl rfl (by simp) ⟨trivial,trivial,trivial,trivial⟩ (by trivial) (qfa n x105.qb4 (0:Int) (w64 (v73 - (1:Int))) hx126) ?_
          rintro r0 o0 n0 ⟨rfl,rfl,rfl⟩ -
          refine qa0 hτ rfl rfl rfl<|qa0 hτ rfl rfl rfl<|qa0 hτ rfl rfl rfl<|qa4 ?_
          refine qa8 (wk [0] (l:=[(1,.ptr 0 0),(6,sv qae f_.qa5),(7,iv (f_.qa5.length:Int)),(8,iv v73),(42,bv (!x126))]) (objs:=[.box [cxv f_.Source.A,cxv f_.Source.B,cxv f_.Source.C,sv qae f_.qa5]])) ?_
          exact hk124 (!x126) h
         ·have h:=if_f h hb125
          refine qa3 rfl rfl<|qa3 rfl rfl<|qa3 rfl rfl<|qa3 rfl rfl<|qa3 rfl rfl<|qa3 rfl rfl<|qa0 hτ rfl rfl rfl<|qa0 hτ rfl rfl rfl ?_
          refine qa4 ?_
          refine qa8 (wk [0] (l:=[(1,.ptr 0 0),(6,sv qae f_.qa5),(7,iv (f_.qa5.length:Int)),(8,iv v73),(42,bv false)]) (objs:=[.box [cxv f_.Source.A,cxv f_.Source.B,cxv f_.Source.C,sv qae f_.qa5]])) ?_
          exact hk124 false h
      ·refine qa6<|qa2<|qa0 hτ rfl rfl rfl ?_
       refine qa0 hτ (v:=bv (decide (v73 = (0:Int)))) rfl rfl (qim _ _) ?_
       refine qa0 hτ rfl rfl rfl ?_
       refine qay 27 rfl (fun hb128=>?_) (fun hb128=>?_)
       ·have h:=if_t h hb128
        refine qa0 hτ rfl rfl rfl<|qa0 hτ rfl rfl rfl ?_
        refine qa0 hτ (v:=bv (!(decide (x105.qb4 = (-1:Int))))) rfl rfl (qop _ _) ?_
        refine qa0 hτ rfl rfl rfl ?_
        refine qay 31 rfl (fun hb129=>?_) (fun hb129=>?_)
        ·have hb129:=qi4 hb129
         have h:=if_f h hb129
         refine qa3 rfl rfl<|qa3 rfl rfl<|qa3 rfl rfl<|qa0 hτ rfl rfl rfl<|qa0 hτ rfl rfl rfl ?_
         refine qar (wk [0,1] (l:=[(1,.ptr 0 0),(3,iv v73),(4,.ptr 1 0),(6,sv qae f_.qa5),(7,iv (f_.qa5.length:Int)),(8,iv v73),(27,bv true),(36,bv true)]) (objs:=[.box [cxv f_.Source.A,cxv f_.Source.B,cxv f_.Source.C,sv qae f_.qa5],.box [iv x105.qb4,cxv x105.Own,cxv x105.Shared,iv x105.Kind,cxv x105.Load.A,cxv x105.Load.B,cxv x105.Load.C,iv x105.qas]])) ?_
         refine qa3 rfl rfl<|qa3 rfl rfl<|qa3 rfl rfl<|qa0 hτ rfl rfl rfl<|qa0 hτ rfl rfl rfl<|qa0 hτ rfl rfl rfl<|qa4 ?_
         refine qa8 (wk [0,1] (l:=[(1,.ptr 0 0),(3,iv v73),(4,.ptr 1 0),(6,sv qae f_.qa5),(7,iv (f_.qa5.length:Int)),(8,iv v73),(24,bv true)]) (objs:=[.box [cxv f_.Source.A,cxv f_.Source.B,cxv f_.Source.C,sv qae f_.qa5],.box [iv x105.qb4,cxv x105.Own,cxv x105.Shared,iv x105.Kind,cxv x105.Load.A,cxv x105.Load.B,cxv x105.Load.C,iv x105.qas]])) ?_
         exact hk127 true h
        ·have hb129:=qi3 hb129
         have h:=if_t h hb129
         refine qa0 hτ rfl rfl rfl<|qa0 hτ rfl rfl rfl<|qa0 hτ rfl rfl rfl<|qa0 hτ rfl rfl rfl<|qa0 hτ rfl rfl rfl ?_
         refine qar (wk [0,1] (l:=[(1,.ptr 0 0),(3,iv v73),(4,.ptr 1 0),(6,sv qae f_.qa5),(7,iv (f_.qa5.length:Int)),(8,iv v73),(27,bv true),(36,bv (!(fcmp .eql .f32 x105.Own.re (0:Nat) && fcmp .eql .f32 x105.Own.im (0:Nat))))]) (objs:=[.box [cxv f_.Source.A,cxv f_.Source.B,cxv f_.Source.C,sv qae f_.qa5],.box [iv x105.qb4,cxv x105.Own,cxv x105.Shared,iv x105.Kind,cxv x105.Load.A,cxv x105.Load.B,cxv x105.Load.C,iv x105.qas]])) ?_
         refine qay 36 rfl (fun hb130=>?_) (fun hb130=>?_)
         ·have hb130:=qi4 hb130
          have h:=qcu h hb130
          refine qa3 rfl rfl<|qa3 rfl rfl<|qa3 rfl rfl<|qa0 hτ rfl rfl rfl<|qa0 hτ rfl rfl rfl<|qa0 hτ rfl rfl rfl<|qa4 ?_
          refine qa8 (wk [0,1] (l:=[(1,.ptr 0 0),(3,iv v73),(4,.ptr 1 0),(6,sv qae f_.qa5),(7,iv (f_.qa5.length:Int)),(8,iv v73),(24,bv true)]) (objs:=[.box [cxv f_.Source.A,cxv f_.Source.B,cxv f_.Source.C,sv qae f_.qa5],.box [iv x105.qb4,cxv x105.Own,cxv x105.Shared,iv x105.Kind,cxv x105.Load.A,cxv x105.Load.B,cxv x105.Load.C,iv x105.qas]])) ?_
          exact hk127 true h
         ·have hb130:=qi3 hb130
          have h:=qcv h hb130
          refine qa0 hτ rfl rfl rfl<|qa0 hτ rfl rfl rfl<|qa0 hτ rfl rfl rfl<|qa0 hτ rfl rfl rfl<|qa0 hτ rfl rfl rfl<|qa0 hτ rfl rfl rfl<|qa4 ?_
          refine qa8 (wk [0,1] (l:=[(1,.ptr 0 0),(3,iv v73),(4,.ptr 1 0),(6,sv qae f_.qa5),(7,iv (f_.qa5.length:Int)),(8,iv v73),(24,bv (!(fcmp .eql .f32 x105.Shared.re (0:Nat) && fcmp .eql .f32 x105.Shared.im (0:Nat))))]) (objs:=[.box [cxv f_.Source.A,cxv f_.Source.B,cxv f_.Source.C,sv qae f_.qa5],.box [iv x105.qb4,cxv x105.Own,cxv x105.Shared,iv x105.Kind,cxv x105.Load.A,cxv x105.Load.B,cxv x105.Load.C,iv x105.qas]])) ?_
          exact hk127 (!(fcmp .eql .f32 x105.Shared.re (0:Nat) && fcmp .eql .f32 x105.Shared.im (0:Nat))) h
       ·have h:=if_f h hb128
        refine qa3 rfl rfl<|qa3 rfl rfl<|qa3 rfl rfl<|qa3 rfl rfl<|qa3 rfl rfl<|qa3 rfl rfl<|qa3 rfl rfl<|qa3 rfl rfl ?_
        refine qa3 rfl rfl ?_
        refine qar (wk [0,1] (l:=[(1,.ptr 0 0),(3,iv v73),(4,.ptr 1 0),(6,sv qae f_.qa5),(7,iv (f_.qa5.length:Int)),(8,iv v73),(27,bv false),(36,.und)]) (objs:=[.box [cxv f_.Source.A,cxv f_.Source.B,cxv f_.Source.C,sv qae f_.qa5],.box [iv x105.qb4,cxv x105.Own,cxv x105.Shared,iv x105.Kind,cxv x105.Load.A,cxv x105.Load.B,cxv x105.Load.C,iv x105.qas]])) ?_
        refine qa3 rfl rfl<|qa3 rfl rfl<|qa3 rfl rfl<|qa3 rfl rfl<|qa0 hτ rfl rfl rfl<|qa0 hτ rfl rfl rfl<|qa4 ?_
        refine qa8 (wk [0,1] (l:=[(1,.ptr 0 0),(3,iv v73),(4,.ptr 1 0),(6,sv qae f_.qa5),(7,iv (f_.qa5.length:Int)),(8,iv v73),(24,bv false)]) (objs:=[.box [cxv f_.Source.A,cxv f_.Source.B,cxv f_.Source.C,sv qae f_.qa5],.box [iv x105.qb4,cxv x105.Own,cxv x105.Shared,iv x105.Kind,cxv x105.Load.A,cxv x105.Load.B,cxv x105.Load.C,iv x105.qas]])) ?_
        exact hk127 false h
    ·refine qa6 ?_
     refine qa8 (wk [0,1] (l:=[(1,.ptr 0 0),(3,iv v73),(4,.ptr 1 0),(6,sv qae f_.qa5),(7,iv (f_.qa5.length:Int)),(8,iv v73)]) (objs:=[.box [cxv f_.Source.A,cxv f_.Source.B,cxv f_.Source.C,sv qae f_.qa5],.box [iv x105.qb4,cxv x105.Own,cxv x105.Shared,iv x105.Kind,cxv x105.Load.A,cxv x105.Load.B,cxv x105.Load.C,iv x105.qas]])) ?_
     refine qa2<|qa0 hτ rfl rfl rfl<|qa0 hτ rfl rfl rfl ?_
     refine qag h fun x132 hx132 h=>?_
     refine qac hτ false [] rfl rfl rfl (qai func68 rfl rfl) rfl rfl (by simp) ⟨trivial,trivial⟩ (by trivial) (impl_kindOk_ok n x105.Kind hx132) ?_
     rintro r0 o0 n0 ⟨rfl,rfl,rfl⟩ -
     refine qa0 hτ rfl rfl rfl<|qa0 hτ rfl rfl rfl ?_
     refine qay 18 rfl (fun hb133=>?_) (fun hb133=>?_)
     ·have hb133:=qi4 hb133
      have h:=qcu h hb133
      refine qa3 rfl rfl<|qa3 rfl rfl<|qa3 rfl rfl<|qa3 rfl rfl<|qa0 hτ rfl rfl rfl<|qa0 hτ rfl rfl rfl<|qa4 ?_
      refine qa8 (wk [0,1] (l:=[(1,.ptr 0 0),(3,iv v73),(4,.ptr 1 0),(6,sv qae f_.qa5),(7,iv (f_.qa5.length:Int)),(8,iv v73),(13,bv true)]) (objs:=[.box [cxv f_.Source.A,cxv f_.Source.B,cxv f_.Source.C,sv qae f_.qa5],.box [iv x105.qb4,cxv x105.Own,cxv x105.Shared,iv x105.Kind,cxv x105.Load.A,cxv x105.Load.B,cxv x105.Load.C,iv x105.qas]])) ?_
      exact hk131 true h
     ·have hb133:=qi3 hb133
      have h:=qcv h hb133
      refine qa0 hτ rfl rfl rfl<|qa0 hτ rfl rfl rfl ?_
      refine qag h fun x134 hx134 h=>?_
      refine qac hτ false [] rfl rfl rfl (qai func33 rfl rfl) rfl rfl (by simp) ⟨trivial,trivial,trivial,trivial⟩ (by trivial) (qfa n x105.qas (0:Int) (1000000:Int) hx134) ?_
      rintro r0 o0 n0 ⟨rfl,rfl,rfl⟩ -
      refine qa0 hτ rfl rfl rfl<|qa0 hτ rfl rfl rfl<|qa0 hτ rfl rfl rfl<|qa4 ?_
      refine qa8 (wk [0,1] (l:=[(1,.ptr 0 0),(3,iv v73),(4,.ptr 1 0),(6,sv qae f_.qa5),(7,iv (f_.qa5.length:Int)),(8,iv v73),(13,bv (!x134))]) (objs:=[.box [cxv f_.Source.A,cxv f_.Source.B,cxv f_.Source.C,sv qae f_.qa5],.box [iv x105.qb4,cxv x105.Own,cxv x105.Shared,iv x105.Kind,cxv x105.Load.A,cxv x105.Load.B,cxv x105.Load.C,iv x105.qas]])) ?_
      exact hk131 (!x134) h
  ·have h:=if_f h hc90
   refine qe4 ?_
   refine qa8 (wk [0] (l:=[(1,.ptr 0 0)]) (objs:=[.box [cxv f_.Source.A,cxv f_.Source.B,cxv f_.Source.C,sv qae f_.qa5]])) ?_
   exact hk59 () h
theorem impl_ValidFeeder_ok (n:Nat) (f_:qb8) {r:Bool} (h:qhj n f_ = some r):qax prog false 43 [.agg [cxv f_.Source.A,cxv f_.Source.B,cxv f_.Source.C,sv qae f_.qa5]] [] (fun v o new=>v = (bv r)∧o = []∧new = []):=impl_ValidFeeder_ok_fr0 false n f_ h
def qjt (n:Nat) (t_:STie) (buses_:Int):Option Bool :=
 if t_.A = t_.B then
  some false
 else
  (qdg n t_.A (0:Int) (w64 (buses_ - (1:Int)))).bind fun x11 =>
  if x11 = true then
   (qdg n t_.B (0:Int) (w64 (buses_ - (1:Int)))).bind fun x13 =>
   if x13 = true then
    (qdg n t_.Most (0:Int) (16000000:Int)).bind fun x15 =>
    some x15
   else
    some false
  else
   some false
theorem impl_Tie_ok_ok_fr0 (fr:Bool) (n:Nat) (t_:STie) (buses_:Int) {r:Bool} (h:qjt n t_ buses_ = some r):qax prog fr 46 [.ptr 0 0,iv buses_] [.box [iv t_.A,iv t_.B,cxv t_.Own,cxv t_.Shared,iv t_.Most]] (fun v o new=>v = (bv r)∧o = [.box [iv t_.A,iv t_.B,cxv t_.Own,cxv t_.Shared,iv t_.Most]]∧new = []):=by
 refine qaj hτ func46 rfl (by simp) (by simp) ?_
 unfold qjt at h
 refine qa6<|qa2<|qa0 hτ rfl rfl rfl<|qa4<|qa6<|qd4 ?_
 refine qab hτ [] 0 rfl rfl rfl rfl rfl ?_
 refine qab hτ [] 1 rfl rfl rfl rfl rfl ?_
 refine qab hτ [0] 2 rfl rfl rfl rfl rfl ?_
 refine qab hτ [0] 3 rfl rfl rfl rfl rfl ?_
 refine qab hτ [] 4 rfl rfl rfl rfl rfl ?_
 refine qab hτ [] 5 rfl rfl rfl rfl rfl ?_
 refine qab hτ [0] 6 rfl rfl rfl rfl rfl ?_
 refine qab hτ [0] 7 rfl rfl rfl rfl rfl ?_
 refine qab hτ (v:=bv (!(decide (t_.A = t_.B)))) [] 8 rfl rfl rfl rfl (qop _ _) ?_
 refine qab hτ [] 9 rfl rfl rfl rfl rfl ?_
 refine qlc 14 rfl (fun hb10=>?_) (fun hb10=>?_)
 ·have hb10:=qi4 hb10
  have h:=if_f h hb10
  refine qab hτ [] 10 rfl rfl rfl rfl rfl ?_
  refine qab hτ [] 11 rfl rfl rfl rfl rfl ?_
  refine qab hτ [0] 12 rfl rfl rfl rfl rfl ?_
  refine qab hτ [0] 13 rfl rfl rfl rfl rfl ?_
  refine qab hτ [] 14 rfl rfl rfl rfl rfl ?_
  refine qab hτ [] 15 rfl rfl rfl rfl rfl ?_
  refine qag h fun x11 hx11 h=>?_
  refine qcy hτ false [] [0] 16 rfl rfl rfl rfl (qai func33 rfl rfl) rfl rfl (by simp) ⟨trivial,trivial,trivial,trivial⟩ (by trivial) (qfa n t_.A (0:Int) (w64 (buses_ - (1:Int))) hx11) ⟨rfl,trivial⟩ ?_
  refine qab hτ [] 17 rfl rfl rfl rfl rfl ?_
  refine qab hτ [] 18 rfl rfl rfl rfl rfl ?_
  refine qlc 23 rfl (fun hb12=>?_) (fun hb12=>?_)
  ·have h:=qcv h hb12
   refine qab hτ [] 19 rfl rfl rfl rfl rfl ?_
   refine qab hτ [] 20 rfl rfl rfl rfl rfl ?_
   refine qab hτ [0] 21 rfl rfl rfl rfl rfl ?_
   refine qab hτ [0] 22 rfl rfl rfl rfl rfl ?_
   refine qab hτ [] 23 rfl rfl rfl rfl rfl ?_
   refine qab hτ [] 24 rfl rfl rfl rfl rfl ?_
   refine qag h fun x13 hx13 h=>?_
   refine qcy hτ false [] [0] 25 rfl rfl rfl rfl (qai func33 rfl rfl) rfl rfl (by simp) ⟨trivial,trivial,trivial,trivial⟩ (by trivial) (qfa n t_.B (0:Int) (w64 (buses_ - (1:Int))) hx13) ⟨rfl,trivial⟩ ?_
   refine qab hτ [] 26 rfl rfl rfl rfl rfl ?_
   refine qab hτ [] 27 rfl rfl rfl rfl rfl ?_
   refine qlc 32 rfl (fun hb14=>?_) (fun hb14=>?_)
   ·have h:=qcv h hb14
    refine qab hτ [] 28 rfl rfl rfl rfl rfl ?_
    refine qab hτ [] 29 rfl rfl rfl rfl rfl ?_
    refine qab hτ [0] 30 rfl rfl rfl rfl rfl ?_
    refine qab hτ [0] 31 rfl rfl rfl rfl rfl ?_
    refine qag h fun x15 hx15 h=>?_
    refine qcy hτ false [] [0] 32 rfl rfl rfl rfl (qai func33 rfl rfl) rfl rfl (by simp) ⟨trivial,trivial,trivial,trivial⟩ (by trivial) (qfa n t_.Most (0:Int) (16000000:Int) hx15) ⟨rfl,trivial⟩ ?_
    refine qab hτ [] 33 rfl rfl rfl rfl rfl ?_
    refine qab hτ [] 34 rfl rfl rfl rfl rfl ?_
    refine qcs mixed (by kernel_rfl) ?_
    refine qa8 (wk [0] (l:=[(4,bv x15)]) (objs:=[.box [iv t_.A,iv t_.B,cxv t_.Own,cxv t_.Shared,iv t_.Most]])) ?_
    refine qaq ?_
    have hr:=Option.some.inj h
    subst hr
    exact qb0 (.inr rfl) [] (objs':=[.box [iv t_.A,iv t_.B,cxv t_.Own,cxv t_.Shared,iv t_.Most]]) (new:=[]) rfl (by simp) (by simp) rfl (by trivial) rfl rfl (by trivial) (fun _=>⟨by simp [V.flat,V.qiq,V.qf9,D.flat],(qbl (by simp [AObj.flat,V.qf9,D.flat]) qct)⟩) ⟨rfl,rfl,rfl⟩
   ·have h:=qcu h hb14
    refine qaz 28 rfl rfl rfl ?_
    refine qaz 29 rfl rfl rfl ?_
    refine qaz 30 rfl rfl rfl ?_
    refine qaz 31 rfl rfl rfl ?_
    refine qaz 32 rfl rfl rfl ?_
    refine qab hτ [] 33 rfl rfl rfl rfl rfl ?_
    refine qab hτ [] 34 rfl rfl rfl rfl rfl ?_
    refine qcs mixed (by kernel_rfl) ?_
    refine qa8 (wk [0] (l:=[(4,bv false)]) (objs:=[.box [iv t_.A,iv t_.B,cxv t_.Own,cxv t_.Shared,iv t_.Most]])) ?_
    refine qaq ?_
    have hr:=Option.some.inj h
    subst hr
    exact qb0 (.inr rfl) [] (objs':=[.box [iv t_.A,iv t_.B,cxv t_.Own,cxv t_.Shared,iv t_.Most]]) (new:=[]) rfl (by simp) (by simp) rfl (by trivial) rfl rfl (by trivial) (fun _=>⟨by simp [V.flat,V.qiq,V.qf9,D.flat],(qbl (by simp [AObj.flat,V.qf9,D.flat]) qct)⟩) ⟨rfl,rfl,rfl⟩
  ·have h:=qcu h hb12
   refine qaz 19 rfl rfl rfl ?_
   refine qaz 20 rfl rfl rfl ?_
   refine qaz 21 rfl rfl rfl ?_
   refine qaz 22 rfl rfl rfl ?_
   refine qaz 23 rfl rfl rfl ?_
   refine qaz 24 rfl rfl rfl ?_
   refine qaz 25 rfl rfl rfl ?_
   refine qab hτ [] 26 rfl rfl rfl rfl rfl ?_
   refine qab hτ [] 27 rfl rfl rfl rfl rfl ?_
   refine qaz 28 rfl rfl rfl ?_
   refine qaz 29 rfl rfl rfl ?_
   refine qaz 30 rfl rfl rfl ?_
   refine qaz 31 rfl rfl rfl ?_
   refine qaz 32 rfl rfl rfl ?_
   refine qab hτ [] 33 rfl rfl rfl rfl rfl ?_
   refine qab hτ [] 34 rfl rfl rfl rfl rfl ?_
   refine qcs mixed (by kernel_rfl) ?_
   refine qa8 (wk [0] (l:=[(4,bv false)]) (objs:=[.box [iv t_.A,iv t_.B,cxv t_.Own,cxv t_.Shared,iv t_.Most]])) ?_
   refine qaq ?_
   have hr:=Option.some.inj h
   subst hr
   exact qb0 (.inr rfl) [] (objs':=[.box [iv t_.A,iv t_.B,cxv t_.Own,cxv t_.Shared,iv t_.Most]]) (new:=[]) rfl (by simp) (by simp) rfl (by trivial) rfl rfl (by trivial) (fun _=>⟨by simp [V.flat,V.qiq,V.qf9,D.flat],(qbl (by simp [AObj.flat,V.qf9,D.flat]) qct)⟩) ⟨rfl,rfl,rfl⟩
 ·have hb10:=qi3 hb10
  have h:=if_t h hb10
  refine qaz 10 rfl rfl rfl ?_
  refine qaz 11 rfl rfl rfl ?_
  refine qaz 12 rfl rfl rfl ?_
  refine qaz 13 rfl rfl rfl ?_
  refine qaz 14 rfl rfl rfl ?_
  refine qaz 15 rfl rfl rfl ?_
  refine qaz 16 rfl rfl rfl ?_
  refine qab hτ [] 17 rfl rfl rfl rfl rfl ?_
  refine qab hτ [] 18 rfl rfl rfl rfl rfl ?_
  refine qaz 19 rfl rfl rfl ?_
  refine qaz 20 rfl rfl rfl ?_
  refine qaz 21 rfl rfl rfl ?_
  refine qaz 22 rfl rfl rfl ?_
  refine qaz 23 rfl rfl rfl ?_
  refine qaz 24 rfl rfl rfl ?_
  refine qaz 25 rfl rfl rfl ?_
  refine qab hτ [] 26 rfl rfl rfl rfl rfl ?_
  refine qab hτ [] 27 rfl rfl rfl rfl rfl ?_
  refine qaz 28 rfl rfl rfl ?_
  refine qaz 29 rfl rfl rfl ?_
  refine qaz 30 rfl rfl rfl ?_
  refine qaz 31 rfl rfl rfl ?_
  refine qaz 32 rfl rfl rfl ?_
  refine qab hτ [] 33 rfl rfl rfl rfl rfl ?_
  refine qab hτ [] 34 rfl rfl rfl rfl rfl ?_
  refine qcs mixed (by kernel_rfl) ?_
  refine qa8 (wk [0] (l:=[(4,bv false)]) (objs:=[.box [iv t_.A,iv t_.B,cxv t_.Own,cxv t_.Shared,iv t_.Most]])) ?_
  refine qaq ?_
  have hr:=Option.some.inj h
  subst hr
  exact qb0 (.inr rfl) [] (objs':=[.box [iv t_.A,iv t_.B,cxv t_.Own,cxv t_.Shared,iv t_.Most]]) (new:=[]) rfl (by simp) (by simp) rfl (by trivial) rfl rfl (by trivial) (fun _=>⟨by simp [V.flat,V.qiq,V.qf9,D.flat],(qbl (by simp [AObj.flat,V.qf9,D.flat]) qct)⟩) ⟨rfl,rfl,rfl⟩
theorem impl_Tie_ok_ok (n:Nat) (t_:STie) (buses_:Int) {r:Bool} (h:qjt n t_ buses_ = some r):qax prog false 46 [.ptr 0 0,iv buses_] [.box [iv t_.A,iv t_.B,cxv t_.Own,cxv t_.Shared,iv t_.Most]] (fun v o new=>v = (bv r)∧o = [.box [iv t_.A,iv t_.B,cxv t_.Own,cxv t_.Shared,iv t_.Most]]∧new = []):=impl_Tie_ok_ok_fr0 false n t_ buses_ h
def qhk (n:Nat) (t_:STie) (a1_:Int):Option Bool :=
 (qjt n t_ a1_).bind fun x2 =>
 some (!x2)
theorem impl_ValidGrid_1_ok_fr0 (fr:Bool) (n:Nat) (t_:STie) (a1_:Int) {r:Bool} (h:qhk n t_ a1_ = some r):qax prog fr 45 [.agg [iv t_.A,iv t_.B,cxv t_.Own,cxv t_.Shared,iv t_.Most],.ptr 0 0] [.box [iv a1_]] (fun v o new=>v = (bv r)∧o = [.box [iv a1_]]∧new = []):=by
 refine qaj hτ func45 rfl (by simp) (by simp) ?_
 unfold qhk at h
 refine qa6<|qa2<|qaf hτ rfl rfl rfl<|qa0 hτ rfl rfl rfl<|qa4<|qa6<|qa2<|qa0 hτ rfl rfl rfl ?_
 refine qag h fun x2 hx2 h=>?_
 refine qac hτ false [1] rfl rfl rfl (qai func46 rfl rfl) rfl rfl (by simp) ⟨trivial,trivial,trivial⟩ (by trivial) (impl_Tie_ok_ok n t_ a1_ hx2) ?_
 rintro r0 o0 n0 ⟨rfl,rfl,rfl⟩ -
 refine qa0 hτ rfl rfl rfl<|qa0 hτ rfl rfl rfl<|qa4 ?_
 refine qa8 (wk [0] (l:=[(3,bv (!x2))]) (objs:=[.box [iv a1_]])) ?_
 refine qaq ?_
 have hr:=Option.some.inj h
 subst hr
 exact qb0 (.inr rfl) [] (objs':=[.box [iv a1_]]) (new:=[]) rfl (by simp) (by simp) rfl (by trivial) rfl rfl (by trivial) (fun _=>⟨by simp [V.flat,V.qiq,V.qf9,D.flat],(qbl (by simp [AObj.flat,V.qf9,D.flat]) qct)⟩) ⟨rfl,rfl,rfl⟩
theorem impl_ValidGrid_1_ok (n:Nat) (t_:STie) (a1_:Int) {r:Bool} (h:qhk n t_ a1_ = some r):qax prog false 45 [.agg [iv t_.A,iv t_.B,cxv t_.Own,cxv t_.Shared,iv t_.Most],.ptr 0 0] [.box [iv a1_]] (fun v o new=>v = (bv r)∧o = [.box [iv a1_]]∧new = []):=impl_ValidGrid_1_ok_fr0 false n t_ a1_ h
def qcm (n:Nat) (s_:List STie) (c_:Int):Nat→Int→Option Int
 | 0,_=>none
 | m13 + 1,v9 =>
  if v9 < (s_.length:Int) then
   (getI s_ v9).bind fun x18 =>
   (qhk n x18 c_).bind fun x19 =>
   if x19 = true then
    some v9
   else
    (qcm n s_ c_ m13) (w64 (v9 + (1:Int)))
  else
   some (-1:Int)
def qhp (n:Nat) (s_:List STie) (c_:Int):Option Int :=
 qcm n s_ c_ n (0:Int)
theorem slices_IndexFunc_ok_fr0 (fr:Bool) (n:Nat) (s_:List STie) (c_:Int) {r:Int} (h:qhp n s_ c_ = some r):qax prog fr 69 [sv qah s_,.func 45 [] [.ptr 0 0]] [.box [iv c_]] (fun v o new=>v = (iv r)∧o = [.box [iv c_]]∧new = []):=by
 refine qaj hτ func69 rfl (by simp) (by simp) ?_
 unfold qhp at h
 refine qa6<|qa2<|qa0 hτ rfl rfl rfl<|qa4<|qa6<|qa6<|qa2<|qa0 hτ rfl rfl rfl ?_
 refine qa0 hτ (v:=iv (s_.length:Int)) rfl rfl (Eq.trans rfl (qf1 (f:=qah) s_)) ?_
 refine qa0 hτ rfl rfl rfl<|qa4<|qb9 ?_
 refine qev (ι:=Nat × Int) (fun (m13,v9)=>St.of [(0,sv qah s_),(1,.func 45 [] [.ptr 0 0]),(7,iv (s_.length:Int)),(8,iv v9)] [.box [iv c_]] f69.ntmps 1) (fun (m13,v9)=>qcm n s_ c_ m13 v9 = some r) (fun x=>x.1) (n,(0:Int)) h (qbk [0] (l:=[(0,sv qah s_),(1,.func 45 [] [.ptr 0 0]),(7,iv (s_.length:Int)),(8,iv (0:Int))]) (objs:=[.box [iv c_]]) rfl (by simp) rfl (by trivial) ⟨rfl,trivial,rfl,(by trivial),rfl,trivial,rfl,trivial,trivial⟩) ?_
 rintro ⟨m13,v9⟩ h
 replace h:qcm n s_ c_ m13 v9 = some r:=h
 rcases m13 with _ | m13
 ·rw [qcm] at h;cases h
 rw [qcm] at h
 refine qa6<|qa2<|qa0 hτ rfl rfl rfl<|qa4<|qa6 ?_
 refine qaw rfl (fun hc15=>?_) (fun hc15=>?_)
 ·have h:=if_t h hc15
  refine qb1<|qa6<|qb9<|qa6<|qa2<|qa0 hτ rfl rfl rfl<|qa0 hτ rfl rfl rfl<|qa4 ?_
  refine qa6<|qa2<|qa0 hτ rfl rfl rfl<|qa0 hτ rfl rfl rfl<|qa0 hτ rfl rfl rfl ?_
  refine qag h fun x18 hx18 h=>?_
  refine qgh hτ rfl rfl rfl (qcw hx18).1 (qe7 hx18) rfl ?_
  refine qa0 hτ rfl rfl rfl ?_
  refine qag h fun x19 hx19 h=>?_
  refine qac hτ false [0] rfl rfl rfl (qai func45 rfl rfl) rfl rfl (by simp) ⟨(by trivial),trivial,trivial⟩ (by trivial) (impl_ValidGrid_1_ok n x18 c_ hx19) ?_
  rintro r0 o0 n0 ⟨rfl,rfl,rfl⟩ -
  refine qa4 ?_
  refine qa8 (qbk [0] (l:=[(0,sv qah s_),(1,.func 45 [] [.ptr 0 0]),(5,iv v9),(7,iv (s_.length:Int)),(8,iv v9),(16,bv x19)]) (objs:=[.box [iv c_]]) rfl (by simp) rfl (by trivial) ⟨rfl,trivial,rfl,(by trivial),rfl,trivial,rfl,trivial,rfl,trivial,rfl,trivial,trivial⟩) ?_
  refine qaw rfl (fun hc20=>?_) (fun hc20=>?_)
  ·have h:=qcv h hc20
   refine qa6<|qa2<|qa0 hτ rfl rfl rfl<|qa0 hτ rfl rfl rfl<|qa4 ?_
   refine qa8 (wk [0] (l:=[(4,iv v9)]) (objs:=[.box [iv c_]])) ?_
   refine qaq ?_
   have hr:=Option.some.inj h
   subst hr
   exact qb0 (.inr rfl) [] (objs':=[.box [iv c_]]) (new:=[]) rfl (by simp) (by simp) rfl (by trivial) rfl rfl (by trivial) (fun _=>⟨by simp [V.flat,V.qiq,V.qf9,D.flat],(qbl (by simp [AObj.flat,V.qf9,D.flat]) qct)⟩) ⟨rfl,rfl,rfl⟩
  ·have h:=qcu h hc20
   refine qb1<|qa2<|qa0 hτ rfl rfl rfl<|qa0 hτ rfl rfl rfl<|qa4 ?_
   exact ⟨(m13,(w64 (v9 + (1:Int)))),h,Nat.lt_succ_self m13,(qbk [0] (l:=[(0,sv qah s_),(1,.func 45 [] [.ptr 0 0]),(7,iv (s_.length:Int)),(8,iv (w64 (v9 + (1:Int))))]) (objs:=[.box [iv c_]]) rfl (by simp) rfl (by trivial) ⟨rfl,trivial,rfl,(by trivial),rfl,trivial,rfl,trivial,trivial⟩)⟩
 ·have h:=if_f h hc15
  refine qe4<|qa6<|qa2<|qa0 hτ rfl rfl rfl<|qa4 ?_
  refine qa8 (wk [0] (l:=[(4,iv (-1:Int))]) (objs:=[.box [iv c_]])) ?_
  refine qaq ?_
  have hr:=Option.some.inj h
  subst hr
  exact qb0 (.inr rfl) [] (objs':=[.box [iv c_]]) (new:=[]) rfl (by simp) (by simp) rfl (by trivial) rfl rfl (by trivial) (fun _=>⟨by simp [V.flat,V.qiq,V.qf9,D.flat],(qbl (by simp [AObj.flat,V.qf9,D.flat]) qct)⟩) ⟨rfl,rfl,rfl⟩
theorem slices_IndexFunc_ok (n:Nat) (s_:List STie) (c_:Int) {r:Int} (h:qhp n s_ c_ = some r):qax prog false 69 [sv qah s_,.func 45 [] [.ptr 0 0]] [.box [iv c_]] (fun v o new=>v = (iv r)∧o = [.box [iv c_]]∧new = []):=slices_IndexFunc_ok_fr0 false n s_ c_ h
def qft (n:Nat) (s_:List STie) (c_:Int):Option Bool :=
 (qhp n s_ c_).bind fun x2 =>
 some (decide (x2 ≥ (0:Int)))
theorem slices_ContainsFunc_ok_fr0 (fr:Bool) (n:Nat) (s_:List STie) (c_:Int) {r:Bool} (h:qft n s_ c_ = some r):qax prog fr 44 [sv qah s_,.func 45 [] [.ptr 0 0]] [.box [iv c_]] (fun v o new=>v = (bv r)∧o = [.box [iv c_]]∧new = []):=by
 refine qaj hτ func44 rfl (by simp) (by simp) ?_
 unfold qft at h
 refine qa6<|qa2<|qa0 hτ rfl rfl rfl<|qa4<|qa6<|qa2<|qa0 hτ rfl rfl rfl<|qa0 hτ rfl rfl rfl ?_
 refine qag h fun x2 hx2 h=>?_
 refine qac hτ false [0] rfl rfl rfl (qai func69 rfl rfl) rfl rfl (by simp) ⟨trivial,(by trivial),trivial⟩ (by trivial) (slices_IndexFunc_ok n s_ c_ hx2) ?_
 rintro r0 o0 n0 ⟨rfl,rfl,rfl⟩ -
 refine qa0 hτ rfl rfl rfl<|qa0 hτ rfl rfl rfl<|qa4 ?_
 refine qa8 (wk [0] (l:=[(4,bv (decide (x2 ≥ (0:Int))))]) (objs:=[.box [iv c_]])) ?_
 refine qaq ?_
 have hr:=Option.some.inj h
 subst hr
 exact qb0 (.inr rfl) [] (objs':=[.box [iv c_]]) (new:=[]) rfl (by simp) (by simp) rfl (by trivial) rfl rfl (by trivial) (fun _=>⟨by simp [V.flat,V.qiq,V.qf9,D.flat],(qbl (by simp [AObj.flat,V.qf9,D.flat]) qct)⟩) ⟨rfl,rfl,rfl⟩
theorem slices_ContainsFunc_ok (n:Nat) (s_:List STie) (c_:Int) {r:Bool} (h:qft n s_ c_ = some r):qax prog false 44 [sv qah s_,.func 45 [] [.ptr 0 0]] [.box [iv c_]] (fun v o new=>v = (bv r)∧o = [.box [iv c_]]∧new = []):=slices_ContainsFunc_ok_fr0 false n s_ c_ h
def qdm (n:Nat) (g_:qbg):Option Bool :=
 (qhj n g_.qa1).bind fun x7 =>
 if x7 = true then
  if (g_.Ties.length:Int) ≤ (6:Int) then
   (qft n g_.Ties (g_.qa1.qa5.length:Int)).bind fun x10 =>
   some (!x10)
  else
   some false
 else
  some false
theorem qle (fr:Bool) (n:Nat) (g_:qbg) {r:Bool} (h:qdm n g_ = some r):qax prog fr 22 [.agg [cxv g_.qa1.Source.A,cxv g_.qa1.Source.B,cxv g_.qa1.Source.C,sv qae g_.qa1.qa5,sv qah g_.Ties]] [] (fun v o new=>v = (bv r)∧o = []∧new = []):=by
 refine qaj hτ func22 rfl (by simp) (by simp) ?_
 unfold qdm at h
 refine qa6<|qa2<|qaf hτ rfl rfl rfl<|qa0 hτ rfl rfl rfl<|qa4<|qa6<|qa2<|qa0 hτ rfl rfl rfl ?_
 refine qa0 hτ rfl rfl rfl<|qa0 hτ rfl rfl rfl ?_
 refine qa0 hτ (v:=iv (g_.qa1.qa5.length:Int)) rfl rfl (Eq.trans rfl (qf1 (f:=qae) g_.qa1.qa5)) ?_
 refine qaf hτ rfl rfl rfl<|qaf hτ rfl rfl rfl<|qa4<|qa6 ?_
 refine qa8 (wk [0,1] (l:=[(1,.ptr 0 0),(3,.ptr 1 0)]) (objs:=[.box [cxv g_.qa1.Source.A,cxv g_.qa1.Source.B,cxv g_.qa1.Source.C,sv qae g_.qa1.qa5,sv qah g_.Ties],.box [iv (g_.qa1.qa5.length:Int)]])) ?_
 refine qa2<|qa0 hτ rfl rfl rfl<|qa0 hτ rfl rfl rfl ?_
 refine qag h fun x7 hx7 h=>?_
 refine qac hτ false [] rfl rfl rfl (qai func43 rfl rfl) rfl rfl (by simp) ⟨(by trivial),trivial⟩ (by trivial) (impl_ValidFeeder_ok n g_.qa1 hx7) ?_
 rintro r0 o0 n0 ⟨rfl,rfl,rfl⟩ -
 refine qa0 hτ rfl rfl rfl ?_
 refine qay 11 rfl (fun hb8=>?_) (fun hb8=>?_)
 ·have h:=qcv h hb8
  refine qa0 hτ rfl rfl rfl<|qa0 hτ rfl rfl rfl ?_
  refine qa0 hτ (v:=iv (g_.Ties.length:Int)) rfl rfl (Eq.trans rfl (qf1 (f:=qah) g_.Ties)) ?_
  refine qa0 hτ rfl rfl rfl<|qa0 hτ rfl rfl rfl<|qa0 hτ rfl rfl rfl ?_
  refine qay 17 rfl (fun hb9=>?_) (fun hb9=>?_)
  ·have h:=if_t h hb9
   refine qa0 hτ rfl rfl rfl<|qa0 hτ rfl rfl rfl ?_
   refine qar (wk [1] (l:=[(3,.ptr 0 0),(17,bv true),(19,sv qah g_.Ties)]) (objs:=[.box [iv (g_.qa1.qa5.length:Int)]])) ?_
   refine qa0 hτ rfl rfl rfl ?_
   refine qag h fun x10 hx10 h=>?_
   refine qac hτ false [0] rfl rfl rfl (qai func44 rfl rfl) rfl rfl (by simp) ⟨trivial,(by trivial),trivial⟩ (by trivial) (slices_ContainsFunc_ok n g_.Ties (g_.qa1.qa5.length:Int) hx10) ?_
   rintro r0 o0 n0 ⟨rfl,rfl,rfl⟩ -
   refine qa0 hτ rfl rfl rfl<|qa0 hτ rfl rfl rfl<|qa0 hτ rfl rfl rfl<|qa4 ?_
   refine qa8 (wk [] (l:=[(2,bv (!x10))]) (objs:=[])) ?_
   refine qaq ?_
   have hr:=Option.some.inj h
   subst hr
   exact rt0 rfl rfl ⟨rfl,rfl,rfl⟩
  ·have h:=if_f h hb9
   refine qa3 rfl rfl<|qa3 rfl rfl ?_
   refine qar (wk [1] (l:=[(3,.ptr 0 0),(17,bv false),(19,.und)]) (objs:=[.box [iv (g_.qa1.qa5.length:Int)]])) ?_
   refine qa3 rfl rfl<|qa3 rfl rfl<|qa3 rfl rfl<|qa0 hτ rfl rfl rfl<|qa0 hτ rfl rfl rfl<|qa4 ?_
   refine qa8 (wk [] (l:=[(2,bv false)]) (objs:=[])) ?_
   refine qaq ?_
   have hr:=Option.some.inj h
   subst hr
   exact rt0 rfl rfl ⟨rfl,rfl,rfl⟩
 ·have h:=qcu h hb8
  refine qa3 rfl rfl<|qa3 rfl rfl<|qa3 rfl rfl<|qa3 rfl rfl<|qa0 hτ rfl rfl rfl<|qa0 hτ rfl rfl rfl<|qa3 rfl rfl<|qa3 rfl rfl ?_
  refine qar (wk [1] (l:=[(3,.ptr 0 0),(17,bv false),(19,.und)]) (objs:=[.box [iv (g_.qa1.qa5.length:Int)]])) ?_
  refine qa3 rfl rfl<|qa3 rfl rfl<|qa3 rfl rfl<|qa0 hτ rfl rfl rfl<|qa0 hτ rfl rfl rfl<|qa4 ?_
  refine qa8 (wk [] (l:=[(2,bv false)]) (objs:=[])) ?_
  refine qaq ?_
  have hr:=Option.some.inj h
  subst hr
  exact rt0 rfl rfl ⟨rfl,rfl,rfl⟩
theorem qmj (n:Nat) (g_:qbg) {r:Bool} (h:qdm n g_ = some r):qax prog false 22 [.agg [cxv g_.qa1.Source.A,cxv g_.qa1.Source.B,cxv g_.qa1.Source.C,sv qae g_.qa1.qa5,sv qah g_.Ties]] [] (fun v o new=>v = (bv r)∧o = []∧new = []):=qle false n g_ h
theorem impl_ValidGrid_ok_fr (n:Nat) (g_:qbg) {r:Bool} (h:qdm n g_ = some r):qax prog true 22 [.agg [cxv g_.qa1.Source.A,cxv g_.qa1.Source.B,cxv g_.qa1.Source.C,sv qae g_.qa1.qa5,sv qah g_.Ties]] [] (fun v o new=>v = (bv r)∧o = []∧new = []):=qle true n g_ h
def ql9 (n:Nat) (f_:qan) (flow_:qav):Option Bool :=
 if (flow_.qap.length:Int) = (f_.Grid.qa1.qa5.length:Int) then
  if (flow_.qau.length:Int) = (f_.Grid.qa1.qa5.length:Int) then
   (qdg n flow_.Rounds (0:Int) (50:Int)).bind fun x8 =>
   some x8
  else
   some false
 else
  some false
theorem impl_flowFor_ok (n:Nat) (f_:qan) (flow_:qav) {r:Bool} (h:ql9 n f_ flow_ = some r):qax prog false 26 [.ptr 0 0,.ptr 1 0] [.box [cxv f_.Grid.qa1.Source.A,cxv f_.Grid.qa1.Source.B,cxv f_.Grid.qa1.Source.C,sv qae f_.Grid.qa1.qa5,sv qah f_.Grid.Ties,sv qad f_.qa9],.box [sv qa7 flow_.qap,sv qa7 flow_.qau,iv flow_.Rounds,bv flow_.qdo]] (fun v o new=>v = (bv r)∧o = [.box [cxv f_.Grid.qa1.Source.A,cxv f_.Grid.qa1.Source.B,cxv f_.Grid.qa1.Source.C,sv qae f_.Grid.qa1.qa5,sv qah f_.Grid.Ties,sv qad f_.qa9],.box [sv qa7 flow_.qap,sv qa7 flow_.qau,iv flow_.Rounds,bv flow_.qdo]]∧new = []):=by
 refine qaj hτ func26 rfl (by simp) (by simp) ?_
 unfold ql9 at h
 refine qa6<|qa2<|qa0 hτ rfl rfl rfl<|qa4<|qa6<|qa2<|qa0 hτ rfl rfl rfl<|qa0 hτ rfl rfl rfl ?_
 refine qa0 hτ rfl rfl rfl<|qa0 hτ rfl rfl rfl ?_
 refine qa0 hτ (v:=iv (f_.Grid.qa1.qa5.length:Int)) rfl rfl (Eq.trans rfl (qf1 (f:=qae) f_.Grid.qa1.qa5)) ?_
 refine qa0 hτ rfl rfl rfl<|qa4<|qa6 ?_
 refine qa8 (wk [0,1] (l:=[(1,.ptr 1 0),(5,iv (f_.Grid.qa1.qa5.length:Int))]) (objs:=[.box [cxv f_.Grid.qa1.Source.A,cxv f_.Grid.qa1.Source.B,cxv f_.Grid.qa1.Source.C,sv qae f_.Grid.qa1.qa5,sv qah f_.Grid.Ties,sv qad f_.qa9],.box [sv qa7 flow_.qap,sv qa7 flow_.qau,iv flow_.Rounds,bv flow_.qdo]])) ?_
 refine qa2<|qa0 hτ rfl rfl rfl<|qa0 hτ rfl rfl rfl<|qa0 hτ rfl rfl rfl<|qa0 hτ rfl rfl rfl ?_
 refine qa0 hτ (v:=iv (flow_.qap.length:Int)) rfl rfl (Eq.trans rfl (qf1 (f:=qa7) flow_.qap)) ?_
 refine qa0 hτ rfl rfl rfl ?_
 refine qa0 hτ (v:=bv (decide ((flow_.qap.length:Int) = (f_.Grid.qa1.qa5.length:Int)))) rfl rfl (qim _ _) ?_
 refine qa0 hτ rfl rfl rfl ?_
 refine qay 18 rfl (fun hb6=>?_) (fun hb6=>?_)
 ·have h:=if_t h hb6
  refine qa0 hτ rfl rfl rfl<|qa0 hτ rfl rfl rfl<|qa0 hτ rfl rfl rfl<|qa0 hτ rfl rfl rfl ?_
  refine qar (wk [0,1] (l:=[(1,.ptr 1 0),(5,iv (f_.Grid.qa1.qa5.length:Int)),(18,bv true),(22,sv qa7 flow_.qau)]) (objs:=[.box [cxv f_.Grid.qa1.Source.A,cxv f_.Grid.qa1.Source.B,cxv f_.Grid.qa1.Source.C,sv qae f_.Grid.qa1.qa5,sv qah f_.Grid.Ties,sv qad f_.qa9],.box [sv qa7 flow_.qap,sv qa7 flow_.qau,iv flow_.Rounds,bv flow_.qdo]])) ?_
  refine qa0 hτ (v:=iv (flow_.qau.length:Int)) rfl rfl (Eq.trans rfl (qf1 (f:=qa7) flow_.qau)) ?_
  refine qa0 hτ rfl rfl rfl ?_
  refine qa0 hτ (v:=bv (decide ((flow_.qau.length:Int) = (f_.Grid.qa1.qa5.length:Int)))) rfl rfl (qim _ _) ?_
  refine qa0 hτ rfl rfl rfl<|qa0 hτ rfl rfl rfl ?_
  refine qay 27 rfl (fun hb7=>?_) (fun hb7=>?_)
  ·have h:=if_t h hb7
   refine qa0 hτ rfl rfl rfl<|qa0 hτ rfl rfl rfl<|qa0 hτ rfl rfl rfl<|qa0 hτ rfl rfl rfl ?_
   refine qag h fun x8 hx8 h=>?_
   refine qac hτ false [] rfl rfl rfl (qai func33 rfl rfl) rfl rfl (by simp) ⟨trivial,trivial,trivial,trivial⟩ (by trivial) (qfa n flow_.Rounds (0:Int) (50:Int) hx8) ?_
   rintro r0 o0 n0 ⟨rfl,rfl,rfl⟩ -
   refine qa0 hτ rfl rfl rfl<|qa0 hτ rfl rfl rfl<|qa4 ?_
   refine qa8 (wk [0,1] (l:=[(4,bv x8)]) (objs:=[.box [cxv f_.Grid.qa1.Source.A,cxv f_.Grid.qa1.Source.B,cxv f_.Grid.qa1.Source.C,sv qae f_.Grid.qa1.qa5,sv qah f_.Grid.Ties,sv qad f_.qa9],.box [sv qa7 flow_.qap,sv qa7 flow_.qau,iv flow_.Rounds,bv flow_.qdo]])) ?_
   refine qaq ?_
   have hr:=Option.some.inj h
   subst hr
   exact qb0 (.inr rfl) [] (objs':=[.box [cxv f_.Grid.qa1.Source.A,cxv f_.Grid.qa1.Source.B,cxv f_.Grid.qa1.Source.C,sv qae f_.Grid.qa1.qa5,sv qah f_.Grid.Ties,sv qad f_.qa9],.box [sv qa7 flow_.qap,sv qa7 flow_.qau,iv flow_.Rounds,bv flow_.qdo]]) (new:=[]) rfl (by simp) (by simp) rfl (by trivial) rfl rfl (by trivial) (fun h=>nomatch h) ⟨rfl,rfl,rfl⟩
  ·have h:=if_f h hb7
   refine qa3 rfl rfl<|qa3 rfl rfl<|qa3 rfl rfl<|qa3 rfl rfl<|qa3 rfl rfl<|qa0 hτ rfl rfl rfl<|qa0 hτ rfl rfl rfl<|qa4 ?_
   refine qa8 (wk [0,1] (l:=[(4,bv false)]) (objs:=[.box [cxv f_.Grid.qa1.Source.A,cxv f_.Grid.qa1.Source.B,cxv f_.Grid.qa1.Source.C,sv qae f_.Grid.qa1.qa5,sv qah f_.Grid.Ties,sv qad f_.qa9],.box [sv qa7 flow_.qap,sv qa7 flow_.qau,iv flow_.Rounds,bv flow_.qdo]])) ?_
   refine qaq ?_
   have hr:=Option.some.inj h
   subst hr
   exact qb0 (.inr rfl) [] (objs':=[.box [cxv f_.Grid.qa1.Source.A,cxv f_.Grid.qa1.Source.B,cxv f_.Grid.qa1.Source.C,sv qae f_.Grid.qa1.qa5,sv qah f_.Grid.Ties,sv qad f_.qa9],.box [sv qa7 flow_.qap,sv qa7 flow_.qau,iv flow_.Rounds,bv flow_.qdo]]) (new:=[]) rfl (by simp) (by simp) rfl (by trivial) rfl rfl (by trivial) (fun h=>nomatch h) ⟨rfl,rfl,rfl⟩
 ·have h:=if_f h hb6
  refine qa3 rfl rfl<|qa3 rfl rfl<|qa3 rfl rfl<|qa3 rfl rfl ?_
  refine qar (wk [0,1] (l:=[(1,.ptr 1 0),(5,iv (f_.Grid.qa1.qa5.length:Int)),(18,bv false),(22,.und)]) (objs:=[.box [cxv f_.Grid.qa1.Source.A,cxv f_.Grid.qa1.Source.B,cxv f_.Grid.qa1.Source.C,sv qae f_.Grid.qa1.qa5,sv qah f_.Grid.Ties,sv qad f_.qa9],.box [sv qa7 flow_.qap,sv qa7 flow_.qau,iv flow_.Rounds,bv flow_.qdo]])) ?_
  refine qa3 rfl rfl<|qa3 rfl rfl<|qa3 rfl rfl<|qa0 hτ rfl rfl rfl<|qa0 hτ rfl rfl rfl<|qa3 rfl rfl<|qa3 rfl rfl<|qa3 rfl rfl ?_
  refine qa3 rfl rfl<|qa3 rfl rfl<|qa0 hτ rfl rfl rfl<|qa0 hτ rfl rfl rfl<|qa4 ?_
  refine qa8 (wk [0,1] (l:=[(4,bv false)]) (objs:=[.box [cxv f_.Grid.qa1.Source.A,cxv f_.Grid.qa1.Source.B,cxv f_.Grid.qa1.Source.C,sv qae f_.Grid.qa1.qa5,sv qah f_.Grid.Ties,sv qad f_.qa9],.box [sv qa7 flow_.qap,sv qa7 flow_.qau,iv flow_.Rounds,bv flow_.qdo]])) ?_
  refine qaq ?_
  have hr:=Option.some.inj h
  subst hr
  exact qb0 (.inr rfl) [] (objs':=[.box [cxv f_.Grid.qa1.Source.A,cxv f_.Grid.qa1.Source.B,cxv f_.Grid.qa1.Source.C,sv qae f_.Grid.qa1.qa5,sv qah f_.Grid.Ties,sv qad f_.qa9],.box [sv qa7 flow_.qap,sv qa7 flow_.qau,iv flow_.Rounds,bv flow_.qdo]]) (new:=[]) rfl (by simp) (by simp) rfl (by trivial) rfl rfl (by trivial) (fun h=>nomatch h) ⟨rfl,rfl,rfl⟩
def qi5 (n:Nat) (flow_:qav) (a1_:qan):Option Bool :=
 (ql9 n a1_ flow_).bind fun x2 =>
 some (!x2)
theorem impl_ValidRecord_1_ok (n:Nat) (flow_:qav) (a1_:qan) {r:Bool} (h:qi5 n flow_ a1_ = some r):qax prog false 25 [.agg [sv qa7 flow_.qap,sv qa7 flow_.qau,iv flow_.Rounds,bv flow_.qdo],.ptr 0 0] [.box [cxv a1_.Grid.qa1.Source.A,cxv a1_.Grid.qa1.Source.B,cxv a1_.Grid.qa1.Source.C,sv qae a1_.Grid.qa1.qa5,sv qah a1_.Grid.Ties,sv qad a1_.qa9]] (fun v o new=>v = (bv r)∧o = [.box [cxv a1_.Grid.qa1.Source.A,cxv a1_.Grid.qa1.Source.B,cxv a1_.Grid.qa1.Source.C,sv qae a1_.Grid.qa1.qa5,sv qah a1_.Grid.Ties,sv qad a1_.qa9]]∧new = []):=by
 refine qaj hτ func25 rfl (by simp) (by simp) ?_
 unfold qi5 at h
 refine qa6<|qa2<|qaf hτ rfl rfl rfl<|qa0 hτ rfl rfl rfl<|qa4<|qa6<|qa2<|qa0 hτ rfl rfl rfl ?_
 refine qa0 hτ rfl rfl rfl ?_
 refine qag h fun x2 hx2 h=>?_
 refine qac hτ false [0,1] rfl rfl rfl (qai func26 rfl rfl) rfl rfl (by simp) ⟨trivial,trivial,trivial⟩ (by trivial) (impl_flowFor_ok n a1_ flow_ hx2) ?_
 rintro r0 o0 n0 ⟨rfl,rfl,rfl⟩ -
 refine qa0 hτ rfl rfl rfl<|qa0 hτ rfl rfl rfl<|qa4 ?_
 refine qa8 (wk [0] (l:=[(3,bv (!x2))]) (objs:=[.box [cxv a1_.Grid.qa1.Source.A,cxv a1_.Grid.qa1.Source.B,cxv a1_.Grid.qa1.Source.C,sv qae a1_.Grid.qa1.qa5,sv qah a1_.Grid.Ties,sv qad a1_.qa9]])) ?_
 refine qaq ?_
 have hr:=Option.some.inj h
 subst hr
 exact qb0 (.inr rfl) [] (objs':=[.box [cxv a1_.Grid.qa1.Source.A,cxv a1_.Grid.qa1.Source.B,cxv a1_.Grid.qa1.Source.C,sv qae a1_.Grid.qa1.qa5,sv qah a1_.Grid.Ties,sv qad a1_.qa9]]) (new:=[]) rfl (by simp) (by simp) rfl (by trivial) rfl rfl (by trivial) (fun h=>nomatch h) ⟨rfl,rfl,rfl⟩
def qbz (n:Nat) (s_:List qav) (c_:qan):Nat→Int→Option Int
 | 0,_=>none
 | m13 + 1,v9 =>
  if v9 < (s_.length:Int) then
   (getI s_ v9).bind fun x18 =>
   (qi5 n x18 c_).bind fun x19 =>
   if x19 = true then
    some v9
   else
    (qbz n s_ c_ m13) (w64 (v9 + (1:Int)))
  else
   some (-1:Int)
def qi6 (n:Nat) (s_:List qav) (c_:qan):Option Int :=
 qbz n s_ c_ n (0:Int)
theorem slices_IndexFunc_2_ok (n:Nat) (s_:List qav) (c_:qan) {r:Int} (h:qi6 n s_ c_ = some r):qax prog false 52 [sv qad s_,.func 25 [] [.ptr 0 0]] [.box [cxv c_.Grid.qa1.Source.A,cxv c_.Grid.qa1.Source.B,cxv c_.Grid.qa1.Source.C,sv qae c_.Grid.qa1.qa5,sv qah c_.Grid.Ties,sv qad c_.qa9]] (fun v o new=>v = (iv r)∧o = [.box [cxv c_.Grid.qa1.Source.A,cxv c_.Grid.qa1.Source.B,cxv c_.Grid.qa1.Source.C,sv qae c_.Grid.qa1.qa5,sv qah c_.Grid.Ties,sv qad c_.qa9]]∧new = []):=by
 refine qaj hτ func52 rfl (by simp) (by simp) ?_
 unfold qi6 at h
 refine qa6<|qa2<|qa0 hτ rfl rfl rfl<|qa4<|qa6<|qa6<|qa2<|qa0 hτ rfl rfl rfl ?_
 refine qa0 hτ (v:=iv (s_.length:Int)) rfl rfl (Eq.trans rfl (qf1 (f:=qad) s_)) ?_
 refine qa0 hτ rfl rfl rfl<|qa4<|qb9 ?_
 refine qev (ι:=Nat × Int) (fun (m13,v9)=>St.of [(0,sv qad s_),(1,.func 25 [] [.ptr 0 0]),(7,iv (s_.length:Int)),(8,iv v9)] [.box [cxv c_.Grid.qa1.Source.A,cxv c_.Grid.qa1.Source.B,cxv c_.Grid.qa1.Source.C,sv qae c_.Grid.qa1.qa5,sv qah c_.Grid.Ties,sv qad c_.qa9]] f52.ntmps 1) (fun (m13,v9)=>qbz n s_ c_ m13 v9 = some r) (fun x=>x.1) (n,(0:Int)) h (qbk [0] (l:=[(0,sv qad s_),(1,.func 25 [] [.ptr 0 0]),(7,iv (s_.length:Int)),(8,iv (0:Int))]) (objs:=[.box [cxv c_.Grid.qa1.Source.A,cxv c_.Grid.qa1.Source.B,cxv c_.Grid.qa1.Source.C,sv qae c_.Grid.qa1.qa5,sv qah c_.Grid.Ties,sv qad c_.qa9]]) rfl (by simp) rfl (by trivial) ⟨rfl,trivial,rfl,(by trivial),rfl,trivial,rfl,trivial,trivial⟩) ?_
 rintro ⟨m13,v9⟩ h
 replace h:qbz n s_ c_ m13 v9 = some r:=h
 rcases m13 with _ | m13
 ·rw [qbz] at h;cases h
 rw [qbz] at h
 refine qa6<|qa2<|qa0 hτ rfl rfl rfl<|qa4<|qa6 ?_
 refine qaw rfl (fun hc15=>?_) (fun hc15=>?_)
 ·have h:=if_t h hc15
  refine qb1<|qa6<|qb9<|qa6<|qa2<|qa0 hτ rfl rfl rfl<|qa0 hτ rfl rfl rfl<|qa4 ?_
  refine qa6<|qa2<|qa0 hτ rfl rfl rfl<|qa0 hτ rfl rfl rfl<|qa0 hτ rfl rfl rfl ?_
  refine qag h fun x18 hx18 h=>?_
  refine qgh hτ rfl rfl rfl (qcw hx18).1 (qe7 hx18) rfl ?_
  refine qa0 hτ rfl rfl rfl ?_
  refine qag h fun x19 hx19 h=>?_
  refine qac hτ false [0] rfl rfl rfl (qai func25 rfl rfl) rfl rfl (by simp) ⟨(by trivial),trivial,trivial⟩ (by trivial) (impl_ValidRecord_1_ok n x18 c_ hx19) ?_
  rintro r0 o0 n0 ⟨rfl,rfl,rfl⟩ -
  refine qa4 ?_
  refine qa8 (qbk [0] (l:=[(0,sv qad s_),(1,.func 25 [] [.ptr 0 0]),(5,iv v9),(7,iv (s_.length:Int)),(8,iv v9),(16,bv x19)]) (objs:=[.box [cxv c_.Grid.qa1.Source.A,cxv c_.Grid.qa1.Source.B,cxv c_.Grid.qa1.Source.C,sv qae c_.Grid.qa1.qa5,sv qah c_.Grid.Ties,sv qad c_.qa9]]) rfl (by simp) rfl (by trivial) ⟨rfl,trivial,rfl,(by trivial),rfl,trivial,rfl,trivial,rfl,trivial,rfl,trivial,trivial⟩) ?_
  refine qaw rfl (fun hc20=>?_) (fun hc20=>?_)
  ·have h:=qcv h hc20
   refine qa6<|qa2<|qa0 hτ rfl rfl rfl<|qa0 hτ rfl rfl rfl<|qa4 ?_
   refine qa8 (wk [0] (l:=[(4,iv v9)]) (objs:=[.box [cxv c_.Grid.qa1.Source.A,cxv c_.Grid.qa1.Source.B,cxv c_.Grid.qa1.Source.C,sv qae c_.Grid.qa1.qa5,sv qah c_.Grid.Ties,sv qad c_.qa9]])) ?_
   refine qaq ?_
   have hr:=Option.some.inj h
   subst hr
   exact qb0 (.inr rfl) [] (objs':=[.box [cxv c_.Grid.qa1.Source.A,cxv c_.Grid.qa1.Source.B,cxv c_.Grid.qa1.Source.C,sv qae c_.Grid.qa1.qa5,sv qah c_.Grid.Ties,sv qad c_.qa9]]) (new:=[]) rfl (by simp) (by simp) rfl (by trivial) rfl rfl (by trivial) (fun h=>nomatch h) ⟨rfl,rfl,rfl⟩
  ·have h:=qcu h hc20
   refine qb1<|qa2<|qa0 hτ rfl rfl rfl<|qa0 hτ rfl rfl rfl<|qa4 ?_
   exact ⟨(m13,(w64 (v9 + (1:Int)))),h,Nat.lt_succ_self m13,(qbk [0] (l:=[(0,sv qad s_),(1,.func 25 [] [.ptr 0 0]),(7,iv (s_.length:Int)),(8,iv (w64 (v9 + (1:Int))))]) (objs:=[.box [cxv c_.Grid.qa1.Source.A,cxv c_.Grid.qa1.Source.B,cxv c_.Grid.qa1.Source.C,sv qae c_.Grid.qa1.qa5,sv qah c_.Grid.Ties,sv qad c_.qa9]]) rfl (by simp) rfl (by trivial) ⟨rfl,trivial,rfl,(by trivial),rfl,trivial,rfl,trivial,trivial⟩)⟩
 ·have h:=if_f h hc15
  refine qe4<|qa6<|qa2<|qa0 hτ rfl rfl rfl<|qa4 ?_
  refine qa8 (wk [0] (l:=[(4,iv (-1:Int))]) (objs:=[.box [cxv c_.Grid.qa1.Source.A,cxv c_.Grid.qa1.Source.B,cxv c_.Grid.qa1.Source.C,sv qae c_.Grid.qa1.qa5,sv qah c_.Grid.Ties,sv qad c_.qa9]])) ?_
  refine qaq ?_
  have hr:=Option.some.inj h
  subst hr
  exact qb0 (.inr rfl) [] (objs':=[.box [cxv c_.Grid.qa1.Source.A,cxv c_.Grid.qa1.Source.B,cxv c_.Grid.qa1.Source.C,sv qae c_.Grid.qa1.qa5,sv qah c_.Grid.Ties,sv qad c_.qa9]]) (new:=[]) rfl (by simp) (by simp) rfl (by trivial) rfl rfl (by trivial) (fun h=>nomatch h) ⟨rfl,rfl,rfl⟩
end Go.Proofs.YtiegopnofbgoaaaGreat.AWN
