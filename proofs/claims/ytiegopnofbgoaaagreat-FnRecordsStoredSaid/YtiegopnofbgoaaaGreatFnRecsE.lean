/- Models and contracts, printed by program. -/
import Derived.Test.YtiegopnofbgoaaaGreatFnRecsD
set_option linter.unusedVariables false
set_option linter.unusedSimpArgs false
set_option linter.unusedSectionVars false
set_option maxHeartbeats 2000000
namespace Go.Proofs.YtiegopnofbgoaaaGreat.AWN
open Go Go.Proofs.Tryz
def qgj (n:Nat) (s_:List qav) (c_:qan):Option Bool :=
 (qi6 n s_ c_).bind fun x2 =>
 some (decide (x2 ≥ (0:Int)))
theorem slices_ContainsFunc_2_ok (n:Nat) (s_:List qav) (c_:qan) {r:Bool} (h:qgj n s_ c_ = some r):qax prog false 24 [sv qad s_,.func 25 [] [.ptr 0 0]] [.box [cxv c_.Grid.qa1.Source.A,cxv c_.Grid.qa1.Source.B,cxv c_.Grid.qa1.Source.C,sv qae c_.Grid.qa1.qa5,sv qah c_.Grid.Ties,sv qad c_.qa9]] (fun v o new=>v = (bv r)∧o = [.box [cxv c_.Grid.qa1.Source.A,cxv c_.Grid.qa1.Source.B,cxv c_.Grid.qa1.Source.C,sv qae c_.Grid.qa1.qa5,sv qah c_.Grid.Ties,sv qad c_.qa9]]∧new = []):=by
 refine qaj hτ func24 rfl (by simp) (by simp) ?_
 unfold qgj at h
 refine qa6<|qa2<|qa0 hτ rfl rfl rfl<|qa4<|qa6<|qa2<|qa0 hτ rfl rfl rfl<|qa0 hτ rfl rfl rfl ?_
 refine qag h fun x2 hx2 h=>?_
 refine qac hτ false [0] rfl rfl rfl (qai func52 rfl rfl) rfl rfl (by simp) ⟨trivial,(by trivial),trivial⟩ (by trivial) (slices_IndexFunc_2_ok n s_ c_ hx2) ?_
 rintro r0 o0 n0 ⟨rfl,rfl,rfl⟩ -
 refine qa0 hτ rfl rfl rfl<|qa0 hτ rfl rfl rfl<|qa4 ?_
 refine qa8 (wk [0] (l:=[(4,bv (decide (x2 ≥ (0:Int))))]) (objs:=[.box [cxv c_.Grid.qa1.Source.A,cxv c_.Grid.qa1.Source.B,cxv c_.Grid.qa1.Source.C,sv qae c_.Grid.qa1.qa5,sv qah c_.Grid.Ties,sv qad c_.qa9]])) ?_
 refine qaq ?_
 have hr:=Option.some.inj h
 subst hr
 exact qb0 (.inr rfl) [] (objs':=[.box [cxv c_.Grid.qa1.Source.A,cxv c_.Grid.qa1.Source.B,cxv c_.Grid.qa1.Source.C,sv qae c_.Grid.qa1.qa5,sv qah c_.Grid.Ties,sv qad c_.qa9]]) (new:=[]) rfl (by simp) (by simp) rfl (by trivial) rfl rfl (by trivial) (fun h=>nomatch h) ⟨rfl,rfl,rfl⟩
def qfs (n:Nat) (r_:qan):Option Bool :=
 (qgj n r_.qa9 r_).bind fun x8 =>
 some (!x8)
def qeo (n:Nat) (r_:qan) (v13:Bool):Option Bool :=
 if v13 = true then
  some false
 else
  qfs n r_
def qcg (n:Nat) (r_:qan):Option Bool :=
 (qdm n r_.Grid).bind fun x16 =>
 if x16 = true then
  qeo n r_ (decide ((r_.qa9.length:Int) > (8:Int)))
 else
  qeo n r_ true
theorem qkq (fr:Bool) (n:Nat) (r_:qan) {r:Bool} (h:qcg n r_ = some r):qax prog fr 10 [.agg [cxv r_.Grid.qa1.Source.A,cxv r_.Grid.qa1.Source.B,cxv r_.Grid.qa1.Source.C,sv qae r_.Grid.qa1.qa5,sv qah r_.Grid.Ties,sv qad r_.qa9]] [] (fun v o new=>v = (bv r)∧o = []∧new = []):=by
 refine qaj hτ func10 rfl (by simp) (by simp) ?_
 unfold qcg at h
 refine qa6<|qa2<|qaf hτ rfl rfl rfl<|qa0 hτ rfl rfl rfl<|qa4 ?_
 refine qbn (ι:=Unit) (fun _=>St.of [(1,.ptr 0 0)] [.box [cxv r_.Grid.qa1.Source.A,cxv r_.Grid.qa1.Source.B,cxv r_.Grid.qa1.Source.C,sv qae r_.Grid.qa1.qa5,sv qah r_.Grid.Ties,sv qad r_.qa9]] f10.ntmps 0) (fun _=>qfs n r_ = some r) ?_ (fun hk9=>?_)
 ·rintro ⟨⟩ h
  replace h:qfs n r_ = some r:=h
  unfold qfs at h
  refine qa6<|qa2<|qa0 hτ rfl rfl rfl<|qa0 hτ rfl rfl rfl<|qa0 hτ rfl rfl rfl ?_
  refine qag h fun x8 hx8 h=>?_
  refine qac hτ false [0] rfl rfl rfl (qai func24 rfl rfl) rfl rfl (by simp) ⟨trivial,(by trivial),trivial⟩ (by trivial) (slices_ContainsFunc_2_ok n r_.qa9 r_ hx8) ?_
  rintro r0 o0 n0 ⟨rfl,rfl,rfl⟩ -
  refine qa0 hτ rfl rfl rfl<|qa0 hτ rfl rfl rfl<|qa4 ?_
  refine qa8 (wk [] (l:=[(2,bv (!x8))]) (objs:=[])) ?_
  refine qaq ?_
  have hr:=Option.some.inj h
  subst hr
  exact rt0 rfl rfl ⟨rfl,rfl,rfl⟩
 ·refine qa6 ?_
  refine qbn (ι:=Bool) (fun v13=>St.of [(1,.ptr 0 0),(12,bv v13)] [.box [cxv r_.Grid.qa1.Source.A,cxv r_.Grid.qa1.Source.B,cxv r_.Grid.qa1.Source.C,sv qae r_.Grid.qa1.qa5,sv qah r_.Grid.Ties,sv qad r_.qa9]] f10.ntmps 0) (fun v13=>qeo n r_ v13 = some r) ?_ (fun hk15=>?_)
  ·rintro v13 h
   replace h:qeo n r_ v13 = some r:=h
   unfold qeo at h
   refine qaw rfl (fun hc14=>?_) (fun hc14=>?_)
   ·have h:=qcv h hc14
    refine qa6<|qa2<|qa0 hτ rfl rfl rfl<|qa4 ?_
    refine qa8 (wk [] (l:=[(2,bv false)]) (objs:=[])) ?_
    refine qaq ?_
    have hr:=Option.some.inj h
    subst hr
    exact rt0 rfl rfl ⟨rfl,rfl,rfl⟩
   ·have h:=qcu h hc14
    refine qb1 ?_
    refine qa8 (wk [0] (l:=[(1,.ptr 0 0)]) (objs:=[.box [cxv r_.Grid.qa1.Source.A,cxv r_.Grid.qa1.Source.B,cxv r_.Grid.qa1.Source.C,sv qae r_.Grid.qa1.qa5,sv qah r_.Grid.Ties,sv qad r_.qa9]])) ?_
    exact hk9 () h
  ·refine qa6<|qa2<|qa0 hτ rfl rfl rfl<|qa0 hτ rfl rfl rfl ?_
   refine qag h fun x16 hx16 h=>?_
   refine qac hτ false [] rfl rfl rfl (qai func22 rfl rfl) rfl rfl (by simp) ⟨(by trivial),trivial⟩ (by trivial) (qmj n r_.Grid hx16) ?_
   rintro r0 o0 n0 ⟨rfl,rfl,rfl⟩ -
   refine qa0 hτ rfl rfl rfl<|qa0 hτ rfl rfl rfl ?_
   refine qay 7 rfl (fun hb17=>?_) (fun hb17=>?_)
   ·have hb17:=qi4 hb17
    have h:=qcu h hb17
    refine qa3 rfl rfl<|qa3 rfl rfl<|qa3 rfl rfl<|qa3 rfl rfl<|qa0 hτ rfl rfl rfl<|qa4 ?_
    refine qa8 (wk [0] (l:=[(1,.ptr 0 0),(12,bv true)]) (objs:=[.box [cxv r_.Grid.qa1.Source.A,cxv r_.Grid.qa1.Source.B,cxv r_.Grid.qa1.Source.C,sv qae r_.Grid.qa1.qa5,sv qah r_.Grid.Ties,sv qad r_.qa9]])) ?_
    exact hk15 true h
   ·have hb17:=qi3 hb17
    have h:=qcv h hb17
    refine qa0 hτ rfl rfl rfl<|qa0 hτ rfl rfl rfl ?_
    refine qa0 hτ (v:=iv (r_.qa9.length:Int)) rfl rfl (Eq.trans rfl (qf1 (f:=qad) r_.qa9)) ?_
    refine qa0 hτ rfl rfl rfl<|qa0 hτ rfl rfl rfl<|qa4 ?_
    refine qa8 (wk [0] (l:=[(1,.ptr 0 0),(12,bv (decide ((r_.qa9.length:Int) > (8:Int))))]) (objs:=[.box [cxv r_.Grid.qa1.Source.A,cxv r_.Grid.qa1.Source.B,cxv r_.Grid.qa1.Source.C,sv qae r_.Grid.qa1.qa5,sv qah r_.Grid.Ties,sv qad r_.qa9]])) ?_
    exact hk15 (decide ((r_.qa9.length:Int) > (8:Int))) h
theorem qis (n:Nat) (r_:qan) {r:Bool} (h:qcg n r_ = some r):qax prog false 10 [.agg [cxv r_.Grid.qa1.Source.A,cxv r_.Grid.qa1.Source.B,cxv r_.Grid.qa1.Source.C,sv qae r_.Grid.qa1.qa5,sv qah r_.Grid.Ties,sv qad r_.qa9]] [] (fun v o new=>v = (bv r)∧o = []∧new = []):=qkq false n r_ h
theorem impl_ValidRecord_ok_fr (n:Nat) (r_:qan) {r:Bool} (h:qcg n r_ = some r):qax prog true 10 [.agg [cxv r_.Grid.qa1.Source.A,cxv r_.Grid.qa1.Source.B,cxv r_.Grid.qa1.Source.C,sv qae r_.Grid.qa1.qa5,sv qah r_.Grid.Ties,sv qad r_.qa9]] [] (fun v o new=>v = (bv r)∧o = []∧new = []):=qkq true n r_ h
def qif (n:Nat) (v17:List Int):Option Str :=
 some (chars v17)
def qep (n:Nat) (many_:Int):Nat→Int→List Int→Int→Option Str
 | 0,_,_,_=>none
 | m27 + 1,v20,v21,v22 =>
  if v22 < many_ then
   grd (room (v21.length + 1) 1) <|
   (qep n many_ m27) (v20.fdiv (2 ^ min (8:Int).toNat (IntKind.bits .i64))) (v21 ++ [(IntKind.wrap .u8 (v20))]) (w64 (v22 + (1:Int)))
  else
   qif n v21
def qbe (n:Nat) (n_:Int) (many_:Int):Option Str :=
 qep n many_ n n_ ([]:List Int) (0:Int)
theorem impl_bytesOf_ok_fr0 (fr:Bool) (n:Nat) (n_:Int) (many_:Int) {r:Str} (h:qbe n n_ many_ = some r):qax prog fr 21 [iv n_,iv many_] [] (fun v o new=>v = .d (.str (bstr r))∧o = []∧new = []):=by
 refine qaj hτ func21 rfl (by simp) (by simp) ?_
 unfold qbe at h
 refine qa6<|qa2<|qa0 hτ rfl rfl rfl<|qa4<|qa6<|qa2<|qaf hτ rfl rfl rfl<|qa0 hτ rfl rfl rfl ?_
 refine qa4 ?_
 refine qbn (ι:=List Int) (fun v17=>St.of [(5,.row 0 v17.length 0 v17.length)] [.row 1 (v17.map qal)] f21.ntmps 0) (fun v17=>qif n v17 = some r) ?_ (fun hk18=>?_)
 ·rintro v17 h
  replace h:qif n v17 = some r:=h
  unfold qif at h
  refine qa6<|qa2<|qa0 hτ rfl rfl rfl ?_
  refine qxz rfl rfl (qyh hτ (f:=qal) (l:=v17) rfl rfl rfl rfl rfl rfl rfl (fun _=>rfl) (qu0 v17 rfl rfl) ⟨qco _,by omega⟩) ?_
  refine qa0 hτ rfl rfl rfl<|qa4 ?_
  refine qa8 (wk [] (l:=[(4,.d (.str (bstr (chars v17))))]) (objs:=[])) ?_
  refine qaq ?_
  have hr:=Option.some.inj h
  subst hr
  exact rt0 rfl rfl ⟨rfl,rfl,rfl⟩
 ·refine qa6<|qa6<|qa2<|qa0 hτ rfl rfl rfl<|qa0 hτ rfl rfl rfl<|qa4<|qb9 ?_
  refine qev (ι:=Nat × Int × List Int × Int) (fun (m27,v20,v21,v22)=>St.of [(0,iv v20),(5,.row 0 v21.length 0 v21.length),(7,iv many_),(8,iv v22)] [.row 1 (v21.map qal)] f21.ntmps 0) (fun (m27,v20,v21,v22)=>qep n many_ m27 v20 v21 v22 = some r) (fun x=>x.1) (n,n_,([]:List Int),(0:Int)) h (wk [0] (l:=[(0,iv n_),(5,.row 0 (([]:List Int).length) 0 (([]:List Int).length)),(7,iv many_),(8,iv (0:Int))]) (objs:=[.row 1 (([]:List Int).map qal)])) ?_
  rintro ⟨m27,v20,v21,v22⟩ h
  replace h:qep n many_ m27 v20 v21 v22 = some r:=h
  rcases m27 with _ | m27
  ·rw [qep] at h;cases h
  rw [qep] at h
  refine qa6<|qa2<|qa0 hτ rfl rfl rfl<|qa4<|qa6 ?_
  refine qaw rfl (fun hc29=>?_) (fun hc29=>?_)
  ·have h:=if_t h hc29
   refine qb1<|qa6<|qb9<|qa6<|qa2<|qa0 hτ rfl rfl rfl<|qa0 hτ rfl rfl rfl<|qa0 hτ rfl rfl rfl ?_
   refine qaf hτ rfl rfl rfl ?_
   refine qcr h fun hg30 h=>?_
   refine qk4 hτ rfl rfl (Eq.trans rfl (or_append (f:=qal) v21 [(IntKind.wrap .u8 (v20))] rfl)) ⟨⟨rfl,Nat.le_of_ble_eq_true rfl⟩,qco _,rfl,rfl,hg30,by decide,(all1 rfl)⟩ ?_
   refine qa0 hτ rfl rfl rfl<|qa4 ?_
   refine qa8 (wk [0] (l:=[(0,iv v20),(5,.row 0 ((v21 ++ [(IntKind.wrap .u8 (v20))]).length) 0 ((v21 ++ [(IntKind.wrap .u8 (v20))]).length)),(7,iv many_),(8,iv v22)]) (objs:=[.row 1 ((v21 ++ [(IntKind.wrap .u8 (v20))]).map qal)])) ?_
   refine qa2<|qa0 hτ rfl rfl rfl ?_
   refine qdp hτ rfl rfl rfl (by decide) ?_
   refine qa0 hτ rfl rfl rfl<|qa4<|qa2<|qa0 hτ rfl rfl rfl<|qa0 hτ rfl rfl rfl<|qa4 ?_
   exact ⟨(m27,(v20.fdiv (2 ^ min (8:Int).toNat (IntKind.bits .i64))),(v21 ++ [(IntKind.wrap .u8 (v20))]),(w64 (v22 + (1:Int)))),h,Nat.lt_succ_self m27,(wk [0] (l:=[(0,iv (v20.fdiv (2 ^ min (8:Int).toNat (IntKind.bits .i64)))),(5,.row 0 ((v21 ++ [(IntKind.wrap .u8 (v20))]).length) 0 ((v21 ++ [(IntKind.wrap .u8 (v20))]).length)),(7,iv many_),(8,iv (w64 (v22 + (1:Int))))]) (objs:=[.row 1 ((v21 ++ [(IntKind.wrap .u8 (v20))]).map qal)]))⟩
  ·have h:=if_f h hc29
   refine qe4 ?_
   refine qa8 (wk [0] (l:=[(5,.row 0 v21.length 0 v21.length)]) (objs:=[.row 1 (v21.map qal)])) ?_
   exact hk18 v21 h
theorem qfm (n:Nat) (n_:Int) (many_:Int) {r:Str} (h:qbe n n_ many_ = some r):qax prog false 21 [iv n_,iv many_] [] (fun v o new=>v = .d (.str (bstr r))∧o = []∧new = []):=impl_bytesOf_ok_fr0 false n n_ many_ h
def qgl (n:Nat) (x_:Nat):Option Bool :=
 some (fcmp .neq .f32 x_ x_)
theorem impl_isNaN_ok_fr0 (fr:Bool) (n:Nat) (x_:Nat) {r:Bool} (h:qgl n x_ = some r):qax prog fr 83 [.d (.fl .f32 x_)] [] (fun v o new=>v = (bv r)∧o = []∧new = []):=by
 refine qaj hτ func83 rfl (by simp) (by simp) ?_
 unfold qgl at h
 refine qa6<|qa2<|qa0 hτ rfl rfl rfl<|qa4<|qa6<|qa2<|qa0 hτ rfl rfl rfl<|qa0 hτ rfl rfl rfl ?_
 refine qa0 hτ rfl rfl rfl<|qa0 hτ rfl rfl rfl<|qa4 ?_
 refine qa8 (wk [] (l:=[(2,bv (fcmp .neq .f32 x_ x_))]) (objs:=[])) ?_
 refine qaq ?_
 have hr:=Option.some.inj h
 subst hr
 exact rt0 rfl rfl ⟨rfl,rfl,rfl⟩
theorem qkr (n:Nat) (x_:Nat) {r:Bool} (h:qgl n x_ = some r):qax prog false 83 [.d (.fl .f32 x_)] [] (fun v o new=>v = (bv r)∧o = []∧new = []):=impl_isNaN_ok_fr0 false n x_ h
def qiu (n:Nat) (x_:Nat):Option Int :=
 (qgl n x_).bind fun x4 =>
 if x4 = true then
  some (2143289344:Int)
 else
  grd (isnan .f32 x_ = false) <|
  some (w64 ((x_:Int)))
theorem impl_BitsOf_ok_fr0 (fr:Bool) (n:Nat) (x_:Nat) {r:Int} (h:qiu n x_ = some r):qax prog fr 67 [.d (.fl .f32 x_)] [] (fun v o new=>v = (iv r)∧o = []∧new = []):=by
 refine qaj hτ func67 rfl (by simp) (by simp) ?_
 unfold qiu at h
 refine qa6<|qa2<|qa0 hτ rfl rfl rfl<|qa4<|qa6<|qa6<|qa2<|qa0 hτ rfl rfl rfl ?_
 refine qag h fun x4 hx4 h=>?_
 refine qac hτ false [] rfl rfl rfl (qai func83 rfl rfl) rfl rfl (by simp) ⟨trivial,trivial⟩ (by trivial) (qkr n x_ hx4) ?_
 rintro r0 o0 n0 ⟨rfl,rfl,rfl⟩ -
 refine qa4 ?_
 refine qaw rfl (fun hc5=>?_) (fun hc5=>?_)
 ·have h:=qcv h hc5
  refine qa6<|qa2<|qa0 hτ rfl rfl rfl<|qa4 ?_
  refine qa8 (wk [] (l:=[(2,iv (2143289344:Int))]) (objs:=[])) ?_
  refine qaq ?_
  have hr:=Option.some.inj h
  subst hr
  exact rt0 rfl rfl ⟨rfl,rfl,rfl⟩
 ·have h:=qcu h hc5
  refine qb1<|qa6<|qa2<|qa0 hτ rfl rfl rfl ?_
  refine qcr h fun hg6 h=>?_
  refine qo7 hτ rfl rfl rfl (qy3 hg6) ?_
  refine qa0 hτ rfl rfl rfl<|qa0 hτ rfl rfl rfl<|qa4 ?_
  refine qa8 (wk [] (l:=[(2,iv (w64 ((x_:Int))))]) (objs:=[])) ?_
  refine qaq ?_
  have hr:=Option.some.inj h
  subst hr
  exact rt0 rfl rfl ⟨rfl,rfl,rfl⟩
theorem qnz (n:Nat) (x_:Nat) {r:Int} (h:qiu n x_ = some r):qax prog false 67 [.d (.fl .f32 x_)] [] (fun v o new=>v = (iv r)∧o = []∧new = []):=impl_BitsOf_ok_fr0 false n x_ h
def qbu (n:Nat) (x_:Cx):Option Str :=
 (qiu n x_.re).bind fun x6 =>
 (qbe n x6 (4:Int)).bind fun x7 =>
 (qiu n x_.im).bind fun x8 =>
 (qbe n x8 (4:Int)).bind fun x9 =>
 grd (x7.length + x9.length ≤ 9223372036854775807) <|
 some (x7 ++ x9)
theorem impl_pairOf_ok_fr0 (fr:Bool) (n:Nat) (x_:Cx) {r:Str} (h:qbu n x_ = some r):qax prog fr 41 [cxv x_] [] (fun v o new=>v = .d (.str (bstr r))∧o = []∧new = []):=by
 refine qaj hτ func41 rfl (by simp) (by simp) ?_
 unfold qbu at h
 refine qa6<|qa2<|qa0 hτ rfl rfl rfl<|qa4<|qa6<|qa2<|qa0 hτ rfl rfl rfl<|qa0 hτ rfl rfl rfl ?_
 refine qag h fun x6 hx6 h=>?_
 refine qac hτ false [] rfl rfl rfl (qai func67 rfl rfl) rfl rfl (by simp) ⟨trivial,trivial⟩ (by trivial) (qnz n x_.re hx6) ?_
 rintro r0 o0 n0 ⟨rfl,rfl,rfl⟩ -
 refine qag h fun x7 hx7 h=>?_
 refine qac hτ false [] rfl rfl rfl (qai func21 rfl rfl) rfl rfl (by simp) ⟨trivial,trivial,trivial⟩ (by trivial) (qfm n x6 (4:Int) hx7) ?_
 rintro r0 o0 n0 ⟨rfl,rfl,rfl⟩ -
 refine qa0 hτ rfl rfl rfl<|qa0 hτ rfl rfl rfl ?_
 refine qag h fun x8 hx8 h=>?_
 refine qac hτ false [] rfl rfl rfl (qai func67 rfl rfl) rfl rfl (by simp) ⟨trivial,trivial⟩ (by trivial) (qnz n x_.im hx8) ?_
 rintro r0 o0 n0 ⟨rfl,rfl,rfl⟩ -
 refine qag h fun x9 hx9 h=>?_
 refine qac hτ false [] rfl rfl rfl (qai func21 rfl rfl) rfl rfl (by simp) ⟨trivial,trivial,trivial⟩ (by trivial) (qfm n x8 (4:Int) hx9) ?_
 rintro r0 o0 n0 ⟨rfl,rfl,rfl⟩ -
 refine qcr h fun hg10 h=>?_
 refine qdp hτ (v:=.d (.str (bstr (x7 ++ x9)))) rfl rfl (Eq.trans rfl (qql _ _)) hg10 ?_
 refine qa0 hτ rfl rfl rfl<|qa4 ?_
 refine qa8 (wk [] (l:=[(2,.d (.str (bstr (x7 ++ x9))))]) (objs:=[])) ?_
 refine qaq ?_
 have hr:=Option.some.inj h
 subst hr
 exact rt0 rfl rfl ⟨rfl,rfl,rfl⟩
theorem qk6 (n:Nat) (x_:Cx) {r:Str} (h:qbu n x_ = some r):qax prog false 41 [cxv x_] [] (fun v o new=>v = .d (.str (bstr r))∧o = []∧new = []):=impl_pairOf_ok_fr0 false n x_ h
def qch (n:Nat) (p_:qaa):Option Str :=
 (qbu n p_.A).bind fun x6 =>
 (qbu n p_.B).bind fun x7 =>
 grd (x6.length + x7.length ≤ 9223372036854775807) <|
 (qbu n p_.C).bind fun x9 =>
 grd ((x6 ++ x7).length + x9.length ≤ 9223372036854775807) <|
 some ((x6 ++ x7) ++ x9)
theorem impl_phasesOf_ok_fr0 (fr:Bool) (n:Nat) (p_:qaa) {r:Str} (h:qch n p_ = some r):qax prog fr 40 [.agg [cxv p_.A,cxv p_.B,cxv p_.C]] [] (fun v o new=>v = .d (.str (bstr r))∧o = []∧new = []):=by
 refine qaj hτ func40 rfl (by simp) (by simp) ?_
 unfold qch at h
 refine qa6<|qa2<|qaf hτ rfl rfl rfl<|qa0 hτ rfl rfl rfl<|qa4<|qa6<|qd4 ?_
 refine qab hτ [0] 0 rfl rfl rfl rfl rfl ?_
 refine qab hτ [0] 1 rfl rfl rfl rfl rfl ?_
 refine qab hτ [0] 3 rfl rfl rfl rfl rfl ?_
 refine qab hτ [0] 4 rfl rfl rfl rfl rfl ?_
 refine qab hτ [0] 7 rfl rfl rfl rfl rfl ?_
 refine qab hτ [0] 8 rfl rfl rfl rfl rfl ?_
 refine qag h fun x6 hx6 h=>?_
 refine qcy hτ false [] [0] 2 rfl rfl rfl rfl (qai func41 rfl rfl) rfl rfl (by simp) ⟨trivial,trivial⟩ (by trivial) (qk6 n p_.A hx6) ⟨rfl,trivial⟩ ?_
 refine qag h fun x7 hx7 h=>?_
 refine qcy hτ false [] [0] 5 rfl rfl rfl rfl (qai func41 rfl rfl) rfl rfl (by simp) ⟨trivial,trivial⟩ (by trivial) (qk6 n p_.B hx7) ⟨rfl,trivial⟩ ?_
 refine qcr h fun hg8 h=>?_
 refine qfj hτ (v:=.d (.str (bstr (x6 ++ x7)))) [] 6 rfl rfl rfl rfl (Eq.trans rfl (qql _ _)) hg8 ?_
 refine qag h fun x9 hx9 h=>?_
 refine qcy hτ false [] [0] 9 rfl rfl rfl rfl (qai func41 rfl rfl) rfl rfl (by simp) ⟨trivial,trivial⟩ (by trivial) (qk6 n p_.C hx9) ⟨rfl,trivial⟩ ?_
 refine qcr h fun hg10 h=>?_
 refine qfj hτ (v:=.d (.str (bstr ((x6 ++ x7) ++ x9)))) [] 10 rfl rfl rfl rfl (Eq.trans rfl (qql _ _)) hg10 ?_
 refine qab hτ [] 11 rfl rfl rfl rfl rfl ?_
 refine qcs mixed (by kernel_rfl) ?_
 refine qa8 (wk [] (l:=[(2,.d (.str (bstr ((x6 ++ x7) ++ x9))))]) (objs:=[])) ?_
 refine qaq ?_
 have hr:=Option.some.inj h
 subst hr
 exact rt0 rfl rfl ⟨rfl,rfl,rfl⟩
theorem qkb (n:Nat) (p_:qaa) {r:Str} (h:qch n p_ = some r):qax prog false 40 [.agg [cxv p_.A,cxv p_.B,cxv p_.C]] [] (fun v o new=>v = .d (.str (bstr r))∧o = []∧new = []):=impl_phasesOf_ok_fr0 false n p_ h
def qlb (p:qaa):PhV:=⟨p.A.re,p.A.im,p.B.re,p.B.im,p.C.re,p.C.im⟩
def qw1 (x:SBus):BusV:=⟨x.qb4,x.Kind,x.qas,x.Own.re,x.Own.im,x.Shared.re,x.Shared.im,qlb x.Load⟩
def qw2 (x:STie):TieV:=⟨x.A,x.B,x.Most,x.Own.re,x.Own.im,x.Shared.re,x.Shared.im⟩
def qhn (n:Nat) (g_:qbg):Option Str:=qsu (qbe n) (fun a b=>qbu n (Cx.mk a b)) (fun p=>qch n (qaa.mk (Cx.mk p.a p.a') (Cx.mk p.b p.b') (Cx.mk p.c p.c'))) (qlb g_.qa1.Source) (g_.qa1.qa5.map qw1) (g_.Ties.map qw2)
theorem qo0 (n:Nat) (g_:qbg) {r:Str} (h:qhn n g_ = some r):qax prog false 18 [.agg [cxv g_.qa1.Source.A,cxv g_.qa1.Source.B,cxv g_.qa1.Source.C,sv qae g_.qa1.qa5,sv qah g_.Ties]] [] (fun v o new=>v = .d (.str (bstr r))∧o = []∧new = []):=qr3 (S:=qlb g_.qa1.Source) (vB:=qw1) (vT:=qw2) (fun _=>rfl) (fun _=>rfl) (fun a b r h=>qfm n a b h) (fun a b r h=>qk6 n (Cx.mk a b) h) (fun p r h=>qkb n (qaa.mk (Cx.mk p.a p.a') (Cx.mk p.b p.b') (Cx.mk p.c p.c')) h) h
theorem impl_stored_ok_fr (n:Nat) (g_:qbg) {r:Str} (h:qhn n g_ = some r):qax prog true 18 [.agg [cxv g_.qa1.Source.A,cxv g_.qa1.Source.B,cxv g_.qa1.Source.C,sv qae g_.qa1.qa5,sv qah g_.Ties]] [] (fun v o new=>v = .d (.str (bstr r))∧o = []∧new = []):=qr3 (S:=qlb g_.qa1.Source) (vB:=qw1) (vT:=qw2) (fun _=>rfl) (fun _=>rfl) (fun a b r h=>qfm n a b h) (fun a b r h=>qk6 n (Cx.mk a b) h) (fun p r h=>qkb n (qaa.mk (Cx.mk p.a p.a') (Cx.mk p.b p.b') (Cx.mk p.c p.c')) h) h
def qga (n:Nat) (flow_:qav):Option (Str × Bool):=qx9 (qbe n) (qch n) flow_.qap flow_.qau flow_.Rounds flow_.qdo
theorem qlz (n:Nat) (k lo hi:Int):qdg n k lo hi = some (decide (lo ≤ k∧k ≤ hi)):=by
 unfold qdg
 by_cases h:k ≥ lo
 ·rw [if_pos h];congr 1;simp only [decide_eq_decide];exact ⟨fun g=>⟨h,g⟩,fun g=>g.2⟩
 ·rw [if_neg h];congr 1;exact (decide_eq_false fun g=>h g.1).symm
theorem impl_FlowBytes_ok (n:Nat) (flow_:qav) {r:Str × Bool} (h:qga n flow_ = some r):qax prog false 19 [.agg [sv qa7 flow_.qap,sv qa7 flow_.qau,iv flow_.Rounds,bv flow_.qdo]] [] (fun v o new=>v = .tup [.d (.str (bstr r.1)),bv r.2]∧o = []∧new = []):=qth (fun _=>rfl) (fun k lo hi=>qfa n k lo hi (qlz n k lo hi)) (fun a b r h=>qfm n a b h) (fun a r h=>qkb n a h) h
theorem impl_FlowBytes_ok_fr (n:Nat) (flow_:qav) {r:Str × Bool} (h:qga n flow_ = some r):qax prog true 19 [.agg [sv qa7 flow_.qap,sv qa7 flow_.qau,iv flow_.Rounds,bv flow_.qdo]] [] (fun v o new=>v = .tup [.d (.str (bstr r.1)),bv r.2]∧o = []∧new = []):=qth (fun _=>rfl) (fun k lo hi=>qfa n k lo hi (qlz n k lo hi)) (fun a b r h=>qfm n a b h) (fun a r h=>qkb n a h) h
def qei (n:Nat) (s_:Str):Nat→Int→Int→Option (Int × Bool)
 | 0,_,_=>none
 | m17 + 1,v12,v13 =>
  if v13 < (s_.length:Int) then
   (getI s_ v13).bind fun x20 =>
   (qei n s_ m17) ((w64 ((w64 ((w64 ((691:Int) * v12)) + (w64 ((x20.toNat:Int))))) + (43:Int))).tmod (65003:Int)) (w64 (v13 + (1:Int)))
  else
   some (v12,true)
def qhz (n:Nat) (start_:Int) (s_:Str):Option (Int × Bool) :=
 (qdg n start_ (0:Int) (65002:Int)).bind fun x9 =>
 if x9 = true then
  qei n s_ n start_ (0:Int)
 else
  some ((0:Int),false)
theorem impl_CheckOf_ok_fr0 (fr:Bool) (n:Nat) (start_:Int) (s_:Str) {r:Int × Bool} (h:qhz n start_ s_ = some r):qax prog fr 20 [iv start_,.d (.str (bstr s_))] [] (fun v o new=>v = .tup [iv r.1,bv r.2]∧o = []∧new = []):=by
 refine qaj hτ func20 rfl (by simp) (by simp) ?_
 unfold qhz at h
 refine qa6<|qa2<|qa0 hτ rfl rfl rfl<|qa0 hτ rfl rfl rfl<|qa4<|qa6<|qa6<|qa2 ?_
 refine qa0 hτ rfl rfl rfl ?_
 refine qag h fun x9 hx9 h=>?_
 refine qac hτ false [] rfl rfl rfl (qai func33 rfl rfl) rfl rfl (by simp) ⟨trivial,trivial,trivial,trivial⟩ (by trivial) (qfa n start_ (0:Int) (65002:Int) hx9) ?_
 rintro r0 o0 n0 ⟨rfl,rfl,rfl⟩ -
 refine qa0 hτ rfl rfl rfl<|qa4 ?_
 refine qaw rfl (fun hc10=>?_) (fun hc10=>?_)
 ·have hc10:=qi4 hc10
  have h:=qcu h hc10
  refine qa6<|qa2<|qa0 hτ rfl rfl rfl<|qa0 hτ rfl rfl rfl<|qa4 ?_
  refine qa8 (wk [] (l:=[(4,iv (0:Int)),(5,bv false)]) (objs:=[])) ?_
  refine qaq ?_
  have hr:=Option.some.inj h
  subst hr
  exact rt0 rfl rfl ⟨rfl,rfl,rfl⟩
 ·have hc10:=qi3 hc10
  have h:=qcv h hc10
  refine qb1<|qa6<|qa6<|qa2<|qa0 hτ rfl rfl rfl<|qa0 hτ rfl rfl rfl<|qa0 hτ rfl rfl rfl<|qa4 ?_
  refine qb9 ?_
  refine qev (ι:=Nat × Int × Int) (fun (m17,v12,v13)=>St.of [(0,iv v12),(1,.d (.str (bstr s_))),(11,iv (s_.length:Int)),(12,iv v13)] [] f20.ntmps 0) (fun (m17,v12,v13)=>qei n s_ m17 v12 v13 = some r) (fun x=>x.1) (n,start_,(0:Int)) h (wk [] (l:=[(0,iv start_),(1,.d (.str (bstr s_))),(11,iv (s_.length:Int)),(12,iv (0:Int))]) (objs:=[])) ?_
  rintro ⟨m17,v12,v13⟩ h
  replace h:qei n s_ m17 v12 v13 = some r:=h
  rcases m17 with _ | m17
  ·rw [qei] at h;cases h
  rw [qei] at h
  refine qa6<|qa2<|qa0 hτ rfl rfl rfl<|qa4<|qa6 ?_
  refine qaw rfl (fun hc19=>?_) (fun hc19=>?_)
  ·have h:=if_t h hc19
   refine qb1<|qa6<|qb9<|qa6<|qa2<|qa0 hτ rfl rfl rfl<|qa0 hτ rfl rfl rfl<|qa4 ?_
   refine qa2<|qa0 hτ rfl rfl rfl<|qa0 hτ rfl rfl rfl<|qa0 hτ rfl rfl rfl<|qa0 hτ rfl rfl rfl ?_
   refine qag h fun x20 hx20 h=>?_
   refine qdp hτ (v:=.d (.int .u8 (x20.toNat:Int))) rfl rfl (Eq.trans rfl (qug hx20)) (qr0 hx20) ?_
   refine qa0 hτ rfl rfl rfl<|qa0 hτ rfl rfl rfl<|qa0 hτ rfl rfl rfl ?_
   refine qdp hτ rfl rfl rfl (by decide) ?_
   refine qar (wk [] (l:=[(1,.d (.str (bstr s_))),(11,iv (s_.length:Int)),(12,iv v13),(23,iv ((w64 ((w64 ((w64 ((691:Int) * v12)) + (w64 ((x20.toNat:Int))))) + (43:Int))).tmod (65003:Int)))]) (objs:=[])) ?_
   refine qa0 hτ rfl rfl rfl<|qa4<|qa2<|qa0 hτ rfl rfl rfl<|qa0 hτ rfl rfl rfl<|qa4 ?_
   exact ⟨(m17,((w64 ((w64 ((w64 ((691:Int) * v12)) + (w64 ((x20.toNat:Int))))) + (43:Int))).tmod (65003:Int)),(w64 (v13 + (1:Int)))),h,Nat.lt_succ_self m17,(wk [] (l:=[(0,iv ((w64 ((w64 ((w64 ((691:Int) * v12)) + (w64 ((x20.toNat:Int))))) + (43:Int))).tmod (65003:Int))),(1,.d (.str (bstr s_))),(11,iv (s_.length:Int)),(12,iv (w64 (v13 + (1:Int))))]) (objs:=[]))⟩
  ·have h:=if_f h hc19
   refine qe4<|qa6<|qa2<|qa0 hτ rfl rfl rfl<|qa0 hτ rfl rfl rfl<|qa0 hτ rfl rfl rfl<|qa4 ?_
   refine qa8 (wk [] (l:=[(4,iv v12),(5,bv true)]) (objs:=[])) ?_
   refine qaq ?_
   have hr:=Option.some.inj h
   subst hr
   exact rt0 rfl rfl ⟨rfl,rfl,rfl⟩
theorem qnc (n:Nat) (start_:Int) (s_:Str) {r:Int × Bool} (h:qhz n start_ s_ = some r):qax prog false 20 [iv start_,.d (.str (bstr s_))] [] (fun v o new=>v = .tup [iv r.1,bv r.2]∧o = []∧new = []):=impl_CheckOf_ok_fr0 false n start_ s_ h
def qd0 (n:Nat) (r_:qan):Nat→Str→Int→Option (Str × Bool)
 | 0,_,_=>none
 | m39 + 1,v29,v30 =>
  if v30 < (r_.qa9.length:Int) then
   (getI r_.qa9 v30).bind fun x42 =>
   (qga n x42).bind fun x43 =>
   grd (v29.length + x43.1.length ≤ 9223372036854775807) <|
   (qhz n (0:Int) (v29 ++ x43.1)).bind fun x45 =>
   (qbe n x45.1 (2:Int)).bind fun x46 =>
   grd ((v29 ++ x43.1).length + x46.length ≤ 9223372036854775807) <|
   (qd0 n r_ m39) ((v29 ++ x43.1) ++ x46) (w64 (v30 + (1:Int)))
  else
   some (v29,true)
def qda (n:Nat) (r_:qan):Option (Str × Bool) :=
 (qcg n r_).bind fun x20 =>
 if x20 = true then
  (qhn n r_.Grid).bind fun x22 =>
  qd0 n r_ n x22 (0:Int)
 else
  some (([]:Str),false)
theorem impl_StoreRecord_ok_fr0 (fr:Bool) (n:Nat) (r_:qan) {r:Str × Bool} (h:qda n r_ = some r):qax prog fr 6 [.agg [cxv r_.Grid.qa1.Source.A,cxv r_.Grid.qa1.Source.B,cxv r_.Grid.qa1.Source.C,sv qae r_.Grid.qa1.qa5,sv qah r_.Grid.Ties,sv qad r_.qa9]] [] (fun v o new=>v = .tup [.d (.str (bstr r.1)),bv r.2]∧o = []∧new = []):=by
 refine qaj hτ func6 rfl (by simp) (by simp) ?_
 unfold qda at h
 refine qa6<|qa2<|qaf hτ rfl rfl rfl<|qa0 hτ rfl rfl rfl<|qa0 hτ rfl rfl rfl<|qa4<|qa6<|qa6 ?_
 refine qa2<|qa0 hτ rfl rfl rfl ?_
 refine qag h fun x20 hx20 h=>?_
 refine qac hτ false [] rfl rfl rfl (qai func10 rfl rfl) rfl rfl (by simp) ⟨(by trivial),trivial⟩ (by trivial) (qis n r_ hx20) ?_
 rintro r0 o0 n0 ⟨rfl,rfl,rfl⟩ -
 refine qa0 hτ rfl rfl rfl<|qa4 ?_
 refine qa8 (wk [0] (l:=[(1,.ptr 0 0),(13,bv (!x20))]) (objs:=[.box [cxv r_.Grid.qa1.Source.A,cxv r_.Grid.qa1.Source.B,cxv r_.Grid.qa1.Source.C,sv qae r_.Grid.qa1.qa5,sv qah r_.Grid.Ties,sv qad r_.qa9]])) ?_
 refine qaw rfl (fun hc21=>?_) (fun hc21=>?_)
 ·have hc21:=qi4 hc21
  have h:=qcu h hc21
  refine qa6<|qa2<|qa0 hτ rfl rfl rfl<|qa0 hτ rfl rfl rfl<|qa4 ?_
  refine qa8 (wk [] (l:=[(2,.d (.str (bstr ([]:Str)))),(3,bv false)]) (objs:=[])) ?_
  refine qaq ?_
  have hr:=Option.some.inj h
  subst hr
  exact rt0 rfl rfl ⟨rfl,rfl,rfl⟩
 ·have hc21:=qi3 hc21
  have h:=qcv h hc21
  refine qb1<|qa6<|qa2<|qa0 hτ rfl rfl rfl<|qa0 hτ rfl rfl rfl ?_
  refine qag h fun x22 hx22 h=>?_
  refine qac hτ false [] rfl rfl rfl (qai func18 rfl rfl) rfl rfl (by simp) ⟨(by trivial),trivial⟩ (by trivial) (qo0 n r_.Grid hx22) ?_
  rintro r0 o0 n0 ⟨rfl,rfl,rfl⟩ -
  refine qa0 hτ rfl rfl rfl<|qa4<|qa6<|qa6<|qa2<|qa0 hτ rfl rfl rfl<|qa0 hτ rfl rfl rfl ?_
  refine qa0 hτ (v:=iv (r_.qa9.length:Int)) rfl rfl (Eq.trans rfl (qf1 (f:=qad) r_.qa9)) ?_
  refine qa0 hτ rfl rfl rfl<|qa4<|qb9 ?_
  refine qev (ι:=Nat × Str × Int) (fun (m39,v29,v30)=>St.of [(4,.d (.str (bstr v29))),(18,sv qad r_.qa9),(19,iv (r_.qa9.length:Int)),(20,iv v30)] [] f6.ntmps 0) (fun (m39,v29,v30)=>qd0 n r_ m39 v29 v30 = some r) (fun x=>x.1) (n,x22,(0:Int)) h (wk [] (l:=[(4,.d (.str (bstr x22))),(18,sv qad r_.qa9),(19,iv (r_.qa9.length:Int)),(20,iv (0:Int))]) (objs:=[])) ?_
  rintro ⟨m39,v29,v30⟩ h
  replace h:qd0 n r_ m39 v29 v30 = some r:=h
  rcases m39 with _ | m39
  ·rw [qd0] at h;cases h
  rw [qd0] at h
  refine qa6<|qa2<|qa0 hτ rfl rfl rfl<|qa4<|qa6 ?_
  refine qaw rfl (fun hc41=>?_) (fun hc41=>?_)
  ·have h:=if_t h hc41
   refine qb1<|qa6<|qb9<|qa6<|qa2 ?_
   refine qag h fun x42 hx42 h=>?_
   refine qgh hτ rfl rfl rfl (qcw hx42).1 (qe7 hx42) rfl ?_
   refine qa0 hτ rfl rfl rfl<|qaf hτ rfl rfl rfl<|qaf hτ rfl rfl rfl<|qa4<|qa6<|qa2<|qa0 hτ rfl rfl rfl ?_
   refine qag h fun x43 hx43 h=>?_
   refine qac hτ false [] rfl rfl rfl (qai func19 rfl rfl) rfl rfl (by simp) ⟨(by trivial),trivial⟩ (by trivial) (impl_FlowBytes_ok n x42 hx43) ?_
   rintro r0 o0 n0 ⟨rfl,rfl,rfl⟩ -
   refine qa0 hτ rfl rfl rfl<|qa0 hτ rfl rfl rfl<|qa0 hτ rfl rfl rfl<|qa0 hτ rfl rfl rfl<|qa0 hτ rfl rfl rfl<|qa4<|qa6 ?_
   refine qa8 (wk [] (l:=[(4,.d (.str (bstr v29))),(7,.d (.str (bstr x43.1))),(18,sv qad r_.qa9),(19,iv (r_.qa9.length:Int)),(20,iv v30)]) (objs:=[])) ?_
   refine qa2<|qa0 hτ rfl rfl rfl<|qa0 hτ rfl rfl rfl ?_
   refine qcr h fun hg44 h=>?_
   refine qdp hτ (v:=.d (.str (bstr (v29 ++ x43.1)))) rfl rfl (Eq.trans rfl (qql _ _)) hg44 ?_
   refine qa0 hτ rfl rfl rfl<|qa4<|qa6<|qa2<|qa0 hτ rfl rfl rfl ?_
   refine qag h fun x45 hx45 h=>?_
   refine qac hτ false [] rfl rfl rfl (qai func20 rfl rfl) rfl rfl (by simp) ⟨trivial,trivial,trivial⟩ (by trivial) (qnc n (0:Int) (v29 ++ x43.1) hx45) ?_
   rintro r0 o0 n0 ⟨rfl,rfl,rfl⟩ -
   refine qa0 hτ rfl rfl rfl<|qa0 hτ rfl rfl rfl<|qa0 hτ rfl rfl rfl<|qa0 hτ rfl rfl rfl<|qa0 hτ rfl rfl rfl<|qa4 ?_
   refine qa8 (wk [] (l:=[(4,.d (.str (bstr (v29 ++ x43.1)))),(9,iv x45.1),(18,sv qad r_.qa9),(19,iv (r_.qa9.length:Int)),(20,iv v30)]) (objs:=[])) ?_
   refine qa2<|qa0 hτ rfl rfl rfl<|qa0 hτ rfl rfl rfl ?_
   refine qag h fun x46 hx46 h=>?_
   refine qac hτ false [] rfl rfl rfl (qai func21 rfl rfl) rfl rfl (by simp) ⟨trivial,trivial,trivial⟩ (by trivial) (qfm n x45.1 (2:Int) hx46) ?_
   rintro r0 o0 n0 ⟨rfl,rfl,rfl⟩ -
   refine qcr h fun hg47 h=>?_
   refine qdp hτ (v:=.d (.str (bstr ((v29 ++ x43.1) ++ x46)))) rfl rfl (Eq.trans rfl (qql _ _)) hg47 ?_
   refine qa0 hτ rfl rfl rfl<|qa4<|qa2<|qa0 hτ rfl rfl rfl<|qa0 hτ rfl rfl rfl<|qa4 ?_
   exact ⟨(m39,((v29 ++ x43.1) ++ x46),(w64 (v30 + (1:Int)))),h,Nat.lt_succ_self m39,(wk [] (l:=[(4,.d (.str (bstr ((v29 ++ x43.1) ++ x46)))),(18,sv qad r_.qa9),(19,iv (r_.qa9.length:Int)),(20,iv (w64 (v30 + (1:Int))))]) (objs:=[]))⟩
  ·have h:=if_f h hc41
   refine qe4<|qa6<|qa2<|qa0 hτ rfl rfl rfl<|qa0 hτ rfl rfl rfl<|qa0 hτ rfl rfl rfl<|qa4 ?_
   refine qa8 (wk [] (l:=[(2,.d (.str (bstr v29))),(3,bv true)]) (objs:=[])) ?_
   refine qaq ?_
   have hr:=Option.some.inj h
   subst hr
   exact rt0 rfl rfl ⟨rfl,rfl,rfl⟩
theorem qh4 (n:Nat) (r_:qan) {r:Str × Bool} (h:qda n r_ = some r):qax prog true 6 [.agg [cxv r_.Grid.qa1.Source.A,cxv r_.Grid.qa1.Source.B,cxv r_.Grid.qa1.Source.C,sv qae r_.Grid.qa1.qa5,sv qah r_.Grid.Ties,sv qad r_.qa9]] [] (fun v o new=>v = .tup [.d (.str (bstr r.1)),bv r.2]∧o = []∧new = []):=impl_StoreRecord_ok_fr0 true n r_ h
def qf0 (n:Nat) (s_:Str) (prefix_:Str):Option Bool :=
 if (s_.length:Int) ≥ (prefix_.length:Int) then
  grd (0 ≤ (0:Int)∧(0:Int) ≤ (prefix_.length:Int)∧(prefix_.length:Int) ≤ (s_.length:Int)) <|
  some (decide ((sub s_ (0:Int) (prefix_.length:Int)) = prefix_))
 else
  some false
theorem stringslite_HasPrefix_ok_fr0 (fr:Bool) (n:Nat) (s_:Str) (prefix_:Str) {r:Bool} (h:qf0 n s_ prefix_ = some r):qax prog fr 70 [.d (.str (bstr s_)),.d (.str (bstr prefix_))] [] (fun v o new=>v = (bv r)∧o = []∧new = []):=by
 refine qaj hτ func70 rfl (by simp) (by simp) ?_
 unfold qf0 at h
 refine qa6<|qa2<|qa0 hτ rfl rfl rfl<|qa4<|qa6<|qa2<|qa0 hτ rfl rfl rfl<|qa0 hτ rfl rfl rfl ?_
 refine qa0 hτ rfl rfl rfl<|qa0 hτ rfl rfl rfl<|qa0 hτ rfl rfl rfl<|qa0 hτ rfl rfl rfl ?_
 refine qay 10 rfl (fun hb4=>?_) (fun hb4=>?_)
 ·have h:=if_t h hb4
  refine qa0 hτ rfl rfl rfl<|qa0 hτ rfl rfl rfl<|qa0 hτ rfl rfl rfl ?_
  refine qcr h fun hg5 h=>?_
  refine qdp hτ (v:=.d (.str (bstr (sub s_ (0:Int) (prefix_.length:Int))))) rfl rfl (Eq.trans rfl (qm5 _ _ _)) hg5 ?_
  refine qa0 hτ rfl rfl rfl ?_
  refine qar (wk [] (l:=[(10,bv true),(14,.d (.str (bstr (sub s_ (0:Int) (prefix_.length:Int))))),(15,.d (.str (bstr prefix_)))]) (objs:=[])) ?_
  refine qa0 hτ (v:=bv (decide ((sub s_ (0:Int) (prefix_.length:Int)) = prefix_))) rfl rfl (qwx _ _) ?_
  refine qa0 hτ rfl rfl rfl<|qa0 hτ rfl rfl rfl<|qa4 ?_
  refine qa8 (wk [] (l:=[(4,bv (decide ((sub s_ (0:Int) (prefix_.length:Int)) = prefix_)))]) (objs:=[])) ?_
  refine qaq ?_
  have hr:=Option.some.inj h
  subst hr
  exact rt0 rfl rfl ⟨rfl,rfl,rfl⟩
 ·have h:=if_f h hb4
  refine qa3 rfl rfl<|qa3 rfl rfl<|qa3 rfl rfl<|qa3 rfl rfl<|qa3 rfl rfl ?_
  refine qar (wk [] (l:=[(10,bv false),(14,.und),(15,.und)]) (objs:=[])) ?_
  refine qa3 rfl rfl<|qa0 hτ rfl rfl rfl<|qa0 hτ rfl rfl rfl<|qa4 ?_
  refine qa8 (wk [] (l:=[(4,bv false)]) (objs:=[])) ?_
  refine qaq ?_
  have hr:=Option.some.inj h
  subst hr
  exact rt0 rfl rfl ⟨rfl,rfl,rfl⟩
theorem stringslite_HasPrefix_ok (n:Nat) (s_:Str) (prefix_:Str) {r:Bool} (h:qf0 n s_ prefix_ = some r):qax prog false 70 [.d (.str (bstr s_)),.d (.str (bstr prefix_))] [] (fun v o new=>v = (bv r)∧o = []∧new = []):=stringslite_HasPrefix_ok_fr0 false n s_ prefix_ h
def qh2 (n:Nat) (s_:Str) (prefix_:Str):Option Bool :=
 (qf0 n s_ prefix_).bind fun x2 =>
 some x2
theorem strings_HasPrefix_ok_fr0 (fr:Bool) (n:Nat) (s_:Str) (prefix_:Str) {r:Bool} (h:qh2 n s_ prefix_ = some r):qax prog fr 47 [.d (.str (bstr s_)),.d (.str (bstr prefix_))] [] (fun v o new=>v = (bv r)∧o = []∧new = []):=by
 refine qaj hτ func47 rfl (by simp) (by simp) ?_
 unfold qh2 at h
 refine qa6<|qa2<|qa0 hτ rfl rfl rfl<|qa4<|qa6<|qa2<|qa0 hτ rfl rfl rfl<|qa0 hτ rfl rfl rfl ?_
 refine qag h fun x2 hx2 h=>?_
 refine qac hτ false [] rfl rfl rfl (qai func70 rfl rfl) rfl rfl (by simp) ⟨trivial,trivial,trivial⟩ (by trivial) (stringslite_HasPrefix_ok n s_ prefix_ hx2) ?_
 rintro r0 o0 n0 ⟨rfl,rfl,rfl⟩ -
 refine qa0 hτ rfl rfl rfl<|qa4 ?_
 refine qa8 (wk [] (l:=[(4,bv x2)]) (objs:=[])) ?_
 refine qaq ?_
 have hr:=Option.some.inj h
 subst hr
 exact rt0 rfl rfl ⟨rfl,rfl,rfl⟩
theorem strings_HasPrefix_ok (n:Nat) (s_:Str) (prefix_:Str) {r:Bool} (h:qh2 n s_ prefix_ = some r):qax prog false 47 [.d (.str (bstr s_)),.d (.str (bstr prefix_))] [] (fun v o new=>v = (bv r)∧o = []∧new = []):=strings_HasPrefix_ok_fr0 false n s_ prefix_ h
def qgi (n:Nat) (r_:qba) (many_:Int) (v11:Bool) (v18:Int):Option (Int × qba) :=
 some (v18,(qba.mk r_.s (w64 (r_.at_ + many_)) v11))
def qci (n:Nat) (r_:qba) (many_:Int) (v11:Bool):Nat→Int→Int→Option (Int × qba)
 | 0,_,_=>none
 | m26 + 1,v21,v22 =>
  if v22 ≥ (0:Int) then
   (getI r_.s (w64 (r_.at_ + v22))).bind fun x29 =>
   (qci n r_ many_ v11 m26) (w64 ((w64 (v21 * 2 ^ min (8:Int).toNat (IntKind.bits .i64))) + (w64 ((x29.toNat:Int))))) (w64 (v22 - (1:Int)))
  else
   qgi n r_ many_ v11 v21
def qey (n:Nat) (r_:qba) (many_:Int) (v11:Bool):Option (Int × qba) :=
 qci n r_ many_ v11 n (0:Int) (w64 (many_ - (1:Int)))
def qdq (n:Nat) (r_:qba) (many_:Int) (v33:Bool):Option (Int × qba) :=
 if v33 = true then
  some ((0:Int),(qba.mk r_.s r_.at_ v33))
 else
  qey n r_ many_ v33
def qb6 (n:Nat) (r_:qba) (many_:Int):Option (Int × qba) :=
 if r_.short = true then
  qdq n r_ many_ true
 else
  qdq n r_ many_ (decide ((w64 (r_.at_ + many_)) > (r_.s.length:Int)))
theorem impl_reader_number_ok_fr0 (fr:Bool) (n:Nat) (r_:qba) (many_:Int) {r:Int × qba} (h:qb6 n r_ many_ = some r):qax prog fr 49 [.ptr 0 0,iv many_] [.box [.d (.str (bstr r_.s)),iv r_.at_,bv r_.short]] (fun v o new=>v = (iv r.1)∧o = [.box [.d (.str (bstr r.2.s)),iv r.2.at_,bv r.2.short]]∧new = []):=by
 refine qaj hτ func49 rfl (by simp) (by simp) ?_
 unfold qb6 at h
 refine qa6<|qa2<|qa0 hτ rfl rfl rfl<|qa4 ?_
 refine qbn (ι:=Bool) (fun v11=>St.of [(0,.ptr 0 0),(1,iv many_)] [.box [.d (.str (bstr r_.s)),iv r_.at_,bv v11]] f49.ntmps 1) (fun v11=>qey n r_ many_ v11 = some r) ?_ (fun hk30=>?_)
 ·rintro v11 h
  replace h:qey n r_ many_ v11 = some r:=h
  unfold qey at h
  refine qa6<|qa2<|qa0 hτ rfl rfl rfl<|qa4 ?_
  refine qbn (ι:=Int) (fun v18=>St.of [(0,.ptr 0 0),(1,iv many_),(5,iv v18)] [.box [.d (.str (bstr r_.s)),iv r_.at_,bv v11]] f49.ntmps 1) (fun v18=>qgi n r_ many_ v11 v18 = some r) ?_ (fun hk19=>?_)
  ·rintro v18 h
   replace h:qgi n r_ many_ v11 v18 = some r:=h
   unfold qgi at h
   refine qa6<|qa2<|qa0 hτ rfl rfl rfl<|qa0 hτ rfl rfl rfl<|qa0 hτ rfl rfl rfl<|qa0 hτ rfl rfl rfl<|qa0 hτ rfl rfl rfl<|qa0 hτ rfl rfl rfl ?_
   refine qa0 hτ rfl rfl rfl<|qa0 hτ rfl rfl rfl<|qaf hτ rfl rfl rfl<|qa4<|qa6 ?_
   refine qa8 (wk [0] (l:=[(5,iv v18)]) (objs:=[.box [.d (.str (bstr r_.s)),iv (w64 (r_.at_ + many_)),bv v11]])) ?_
   refine qa2<|qa0 hτ rfl rfl rfl<|qa0 hτ rfl rfl rfl<|qa4 ?_
   refine qa8 (wk [0] (l:=[(4,iv v18)]) (objs:=[.box [.d (.str (bstr r_.s)),iv (w64 (r_.at_ + many_)),bv v11]])) ?_
   refine qaq ?_
   have hr:=Option.some.inj h
   subst hr
   exact qb0 (.inr rfl) [] (objs':=[.box [.d (.str (bstr r_.s)),iv (w64 (r_.at_ + many_)),bv v11]]) (new:=[]) rfl (by simp) (by simp) rfl (by trivial) rfl rfl (by trivial) (fun _=>⟨by simp [V.flat,V.qiq,V.qf9,D.flat],(qbl (by simp [AObj.flat,V.qf9,D.flat]) qct)⟩) ⟨rfl,rfl,rfl⟩
  ·refine qa6<|qa6<|qa2<|qa0 hτ rfl rfl rfl<|qa0 hτ rfl rfl rfl<|qa0 hτ rfl rfl rfl<|qa4<|qb9 ?_
   refine qev (ι:=Nat × Int × Int) (fun (m26,v21,v22)=>St.of [(0,.ptr 0 0),(1,iv many_),(5,iv v21),(6,iv v22)] [.box [.d (.str (bstr r_.s)),iv r_.at_,bv v11]] f49.ntmps 1) (fun (m26,v21,v22)=>qci n r_ many_ v11 m26 v21 v22 = some r) (fun x=>x.1) (n,(0:Int),(w64 (many_ - (1:Int)))) h (wk [0] (l:=[(0,.ptr 0 0),(1,iv many_),(5,iv (0:Int)),(6,iv (w64 (many_ - (1:Int))))]) (objs:=[.box [.d (.str (bstr r_.s)),iv r_.at_,bv v11]])) ?_
   rintro ⟨m26,v21,v22⟩ h
   replace h:qci n r_ many_ v11 m26 v21 v22 = some r:=h
   rcases m26 with _ | m26
   ·rw [qci] at h;cases h
   rw [qci] at h
   refine qa6<|qa6<|qa2<|qa0 hτ rfl rfl rfl<|qa0 hτ rfl rfl rfl<|qa4 ?_
   refine qaw rfl (fun hc28=>?_) (fun hc28=>?_)
   ·have h:=if_t h hc28
    refine qb1<|qa6<|qb9<|qd4 ?_
    refine qab hτ [] 0 rfl rfl rfl rfl rfl ?_
    refine qfj hτ [] 1 rfl rfl rfl rfl rfl (by decide) ?_
    refine qab hτ [] 2 rfl rfl rfl rfl rfl ?_
    refine qab hτ [] 3 rfl rfl rfl rfl rfl ?_
    refine qab hτ [0] 4 rfl rfl rfl rfl rfl ?_
    refine qab hτ [0] 5 rfl rfl rfl rfl rfl ?_
    refine qab hτ [] 6 rfl rfl rfl rfl rfl ?_
    refine qab hτ [] 7 rfl rfl rfl rfl rfl ?_
    refine qab hτ [0] 8 rfl rfl rfl rfl rfl ?_
    refine qab hτ [0] 9 rfl rfl rfl rfl rfl ?_
    refine qab hτ [] 10 rfl rfl rfl rfl rfl ?_
    refine qab hτ [] 11 rfl rfl rfl rfl rfl ?_
    refine qag h fun x29 hx29 h=>?_
    refine qfj hτ (v:=.d (.int .u8 (x29.toNat:Int))) [] 12 rfl rfl rfl rfl (Eq.trans rfl (qug hx29)) (qr0 hx29) ?_
    refine qab hτ [] 13 rfl rfl rfl rfl rfl ?_
    refine qab hτ [] 14 rfl rfl rfl rfl rfl ?_
    refine qab hτ [] 15 rfl rfl rfl rfl rfl ?_
    refine qcs mixed (by kernel_rfl) ?_
    refine qa8 (wk [0] (l:=[(0,.ptr 0 0),(1,iv many_),(5,iv (w64 ((w64 (v21 * 2 ^ min (8:Int).toNat (IntKind.bits .i64))) + (w64 ((x29.toNat:Int)))))),(6,iv v22)]) (objs:=[.box [.d (.str (bstr r_.s)),iv r_.at_,bv v11]])) ?_
    refine qa2<|qa0 hτ rfl rfl rfl<|qa0 hτ rfl rfl rfl<|qa0 hτ rfl rfl rfl<|qa4 ?_
    exact ⟨(m26,(w64 ((w64 (v21 * 2 ^ min (8:Int).toNat (IntKind.bits .i64))) + (w64 ((x29.toNat:Int))))),(w64 (v22 - (1:Int)))),h,Nat.lt_succ_self m26,(wk [0] (l:=[(0,.ptr 0 0),(1,iv many_),(5,iv (w64 ((w64 (v21 * 2 ^ min (8:Int).toNat (IntKind.bits .i64))) + (w64 ((x29.toNat:Int)))))),(6,iv (w64 (v22 - (1:Int))))]) (objs:=[.box [.d (.str (bstr r_.s)),iv r_.at_,bv v11]]))⟩
   ·have h:=if_f h hc28
    refine qe4 ?_
    refine qa8 (wk [0] (l:=[(0,.ptr 0 0),(1,iv many_),(5,iv v21)]) (objs:=[.box [.d (.str (bstr r_.s)),iv r_.at_,bv v11]])) ?_
    exact hk19 v21 h
 ·refine qa6 ?_
  refine qbn (ι:=Bool) (fun v33=>St.of [(0,.ptr 0 0),(1,iv many_)] [.box [.d (.str (bstr r_.s)),iv r_.at_,bv v33]] f49.ntmps 1) (fun v33=>qdq n r_ many_ v33 = some r) ?_ (fun hk35=>?_)
  ·rintro v33 h
   replace h:qdq n r_ many_ v33 = some r:=h
   unfold qdq at h
   refine qa6<|qa2<|qa0 hτ rfl rfl rfl<|qa0 hτ rfl rfl rfl<|qa0 hτ rfl rfl rfl<|qa0 hτ rfl rfl rfl<|qa4 ?_
   refine qaw rfl (fun hc34=>?_) (fun hc34=>?_)
   ·have h:=qcv h hc34
    refine qa6<|qa2<|qa0 hτ rfl rfl rfl<|qa4 ?_
    refine qa8 (wk [0] (l:=[(4,iv (0:Int))]) (objs:=[.box [.d (.str (bstr r_.s)),iv r_.at_,bv v33]])) ?_
    refine qaq ?_
    have hr:=Option.some.inj h
    subst hr
    exact qb0 (.inr rfl) [] (objs':=[.box [.d (.str (bstr r_.s)),iv r_.at_,bv v33]]) (new:=[]) rfl (by simp) (by simp) rfl (by trivial) rfl rfl (by trivial) (fun _=>⟨by simp [V.flat,V.qiq,V.qf9,D.flat],(qbl (by simp [AObj.flat,V.qf9,D.flat]) qct)⟩) ⟨rfl,rfl,rfl⟩
   ·have h:=qcu h hc34
    refine qb1 ?_
    refine qa8 (wk [0] (l:=[(0,.ptr 0 0),(1,iv many_)]) (objs:=[.box [.d (.str (bstr r_.s)),iv r_.at_,bv v33]])) ?_
    exact hk30 v33 h
  ·refine qa6<|qd4 ?_
   refine qab hτ [] 0 rfl rfl rfl rfl rfl ?_
   refine qab hτ [] 1 rfl rfl rfl rfl rfl ?_
   refine qab hτ [] 2 rfl rfl rfl rfl rfl ?_
   refine qab hτ [0] 3 rfl rfl rfl rfl rfl ?_
   refine qab hτ [0] 4 rfl rfl rfl rfl rfl ?_
   refine qab hτ [] 5 rfl rfl rfl rfl rfl ?_
   refine qlc 12 rfl (fun hb36=>?_) (fun hb36=>?_)
   ·have h:=qcv h hb36
    refine qaz 6 rfl rfl rfl ?_
    refine qaz 7 rfl rfl rfl ?_
    refine qaz 8 rfl rfl rfl ?_
    refine qaz 9 rfl rfl rfl ?_
    refine qaz 10 rfl rfl rfl ?_
    refine qaz 11 rfl rfl rfl ?_
    refine qaz 12 rfl rfl rfl ?_
    refine qaz 13 rfl rfl rfl ?_
    refine qaz 14 rfl rfl rfl ?_
    refine qaz 15 rfl rfl rfl ?_
    refine qaz 16 rfl rfl rfl ?_
    refine qaz 17 rfl rfl rfl ?_
    refine qab hτ [] 18 rfl rfl rfl rfl rfl ?_
    refine qab hτ [] 19 rfl rfl rfl rfl rfl ?_
    refine qab hτ [0] 20 rfl rfl rfl rfl rfl ?_
    refine qbj hτ [] 21 rfl rfl rfl rfl trivial ?_
    refine qcs mixed (by kernel_rfl) ?_
    refine qa8 (wk [0] (l:=[(0,.ptr 0 0),(1,iv many_)]) (objs:=[.box [.d (.str (bstr r_.s)),iv r_.at_,bv true]])) ?_
    exact hk35 true h
   ·have h:=qcu h hb36
    refine qab hτ [] 6 rfl rfl rfl rfl rfl ?_
    refine qab hτ [] 7 rfl rfl rfl rfl rfl ?_
    refine qab hτ [0] 8 rfl rfl rfl rfl rfl ?_
    refine qab hτ [0] 9 rfl rfl rfl rfl rfl ?_
    refine qab hτ [] 10 rfl rfl rfl rfl rfl ?_
    refine qab hτ [] 11 rfl rfl rfl rfl rfl ?_
    refine qab hτ [] 12 rfl rfl rfl rfl rfl ?_
    refine qab hτ [] 13 rfl rfl rfl rfl rfl ?_
    refine qab hτ [0] 14 rfl rfl rfl rfl rfl ?_
    refine qab hτ [0] 15 rfl rfl rfl rfl rfl ?_
    refine qab hτ [] 16 rfl rfl rfl rfl rfl ?_
    refine qab hτ [] 17 rfl rfl rfl rfl rfl ?_
    refine qab hτ [] 18 rfl rfl rfl rfl rfl ?_
    refine qab hτ [] 19 rfl rfl rfl rfl rfl ?_
    refine qab hτ [0] 20 rfl rfl rfl rfl rfl ?_
    refine qbj hτ [] 21 rfl rfl rfl rfl trivial ?_
    refine qcs mixed (by kernel_rfl) ?_
    refine qa8 (wk [0] (l:=[(0,.ptr 0 0),(1,iv many_)]) (objs:=[.box [.d (.str (bstr r_.s)),iv r_.at_,bv (decide ((w64 (r_.at_ + many_)) > (r_.s.length:Int)))]])) ?_
    exact hk35 (decide ((w64 (r_.at_ + many_)) > (r_.s.length:Int))) h
theorem qbw (n:Nat) (r_:qba) (many_:Int) {r:Int × qba} (h:qb6 n r_ many_ = some r):qax prog false 49 [.ptr 0 0,iv many_] [.box [.d (.str (bstr r_.s)),iv r_.at_,bv r_.short]] (fun v o new=>v = (iv r.1)∧o = [.box [.d (.str (bstr r.2.s)),iv r.2.at_,bv r.2.short]]∧new = []):=impl_reader_number_ok_fr0 false n r_ many_ h
def qia (n:Nat) (n_:Int):Option (Nat × Bool) :=
 (qdg n n_ (0:Int) (4294967295:Int)).bind fun x4 =>
 if x4 = true then
  grd ((IntKind.wrap .u32 (n_)).toNat < 4294967296) <|
  some ((canon .f32 (IntKind.wrap .u32 (n_)).toNat),true)
 else
  some ((0:Nat),false)
theorem impl_FromBits_ok_fr0 (fr:Bool) (n:Nat) (n_:Int) {r:Nat × Bool} (h:qia n n_ = some r):qax prog fr 96 [iv n_] [] (fun v o new=>v = .tup [.d (.fl .f32 r.1),bv r.2]∧o = []∧new = []):=by
 refine qaj hτ func96 rfl (by simp) (by simp) ?_
 unfold qia at h
 refine qa6<|qa2<|qa0 hτ rfl rfl rfl<|qa0 hτ rfl rfl rfl<|qa4<|qa6<|qa6<|qa2 ?_
 refine qa0 hτ rfl rfl rfl ?_
 refine qag h fun x4 hx4 h=>?_
 refine qac hτ false [] rfl rfl rfl (qai func33 rfl rfl) rfl rfl (by simp) ⟨trivial,trivial,trivial,trivial⟩ (by trivial) (qfa n n_ (0:Int) (4294967295:Int) hx4) ?_
 rintro r0 o0 n0 ⟨rfl,rfl,rfl⟩ -
 refine qa0 hτ rfl rfl rfl<|qa4 ?_
 refine qaw rfl (fun hc5=>?_) (fun hc5=>?_)
 ·have hc5:=qi4 hc5
  have h:=qcu h hc5
  refine qa6<|qa2<|qa0 hτ rfl rfl rfl<|qa0 hτ rfl rfl rfl<|qa4 ?_
  refine qa8 (wk [] (l:=[(2,.d (.fl .f32 (0:Nat))),(3,bv false)]) (objs:=[])) ?_
  refine qaq ?_
  have hr:=Option.some.inj h
  subst hr
  exact rt0 rfl rfl ⟨rfl,rfl,rfl⟩
 ·have hc5:=qi3 hc5
  have h:=qcv h hc5
  refine qb1<|qa6<|qa2<|qa0 hτ rfl rfl rfl<|qa0 hτ rfl rfl rfl ?_
  refine qcr h fun hg6 h=>?_
  refine qo7 hτ rfl rfl rfl (qxj hg6) ?_
  refine qa0 hτ rfl rfl rfl<|qa0 hτ rfl rfl rfl<|qa4 ?_
  refine qa8 (wk [] (l:=[(2,.d (.fl .f32 (canon .f32 (IntKind.wrap .u32 (n_)).toNat))),(3,bv true)]) (objs:=[])) ?_
  refine qaq ?_
  have hr:=Option.some.inj h
  subst hr
  exact rt0 rfl rfl ⟨rfl,rfl,rfl⟩
theorem impl_FromBits_ok (n:Nat) (n_:Int) {r:Nat × Bool} (h:qia n n_ = some r):qax prog false 96 [iv n_] [] (fun v o new=>v = .tup [.d (.fl .f32 r.1),bv r.2]∧o = []∧new = []):=impl_FromBits_ok_fr0 false n n_ h
def qea (n:Nat) (r_:qba):Option (Nat × qba) :=
 (qb6 n r_ (4:Int)).bind fun x3 =>
 (qia n x3.1).bind fun x4 =>
 some (x4.1,x3.2)
theorem impl_reader_float_ok_fr0 (fr:Bool) (n:Nat) (r_:qba) {r:Nat × qba} (h:qea n r_ = some r):qax prog fr 85 [.ptr 0 0] [.box [.d (.str (bstr r_.s)),iv r_.at_,bv r_.short]] (fun v o new=>v = .d (.fl .f32 r.1)∧o = [.box [.d (.str (bstr r.2.s)),iv r.2.at_,bv r.2.short]]∧new = []):=by
 refine qaj hτ func85 rfl (by simp) (by simp) ?_
 unfold qea at h
 refine qa6<|qa2<|qa0 hτ rfl rfl rfl<|qa4<|qa6<|qa2<|qa0 hτ rfl rfl rfl ?_
 refine qag h fun x3 hx3 h=>?_
 refine qac hτ false [0] rfl rfl rfl (qai func49 rfl rfl) rfl rfl (by simp) ⟨trivial,trivial,trivial⟩ (by trivial) (qbw n r_ (4:Int) hx3) ?_
 rintro r0 o0 n0 ⟨rfl,rfl,rfl⟩ -
 refine qag h fun x4 hx4 h=>?_
 refine qac hτ false [] rfl rfl rfl (qai func96 rfl rfl) rfl rfl (by simp) ⟨trivial,trivial⟩ (by trivial) (impl_FromBits_ok n x3.1 hx4) ?_
 rintro r0 o0 n0 ⟨rfl,rfl,rfl⟩ -
 refine qa0 hτ rfl rfl rfl<|qa0 hτ rfl rfl rfl<|qa0 hτ rfl rfl rfl<|qa0 hτ rfl rfl rfl<|qa0 hτ rfl rfl rfl<|qa4<|qa6 ?_
 refine qa8 (wk [0] (l:=[(3,.d (.fl .f32 x4.1))]) (objs:=[.box [.d (.str (bstr x3.2.s)),iv x3.2.at_,bv x3.2.short]])) ?_
 refine qa2<|qa0 hτ rfl rfl rfl<|qa0 hτ rfl rfl rfl<|qa4 ?_
 refine qa8 (wk [0] (l:=[(2,.d (.fl .f32 x4.1))]) (objs:=[.box [.d (.str (bstr x3.2.s)),iv x3.2.at_,bv x3.2.short]])) ?_
 refine qaq ?_
 have hr:=Option.some.inj h
 subst hr
 exact qb0 (.inr rfl) [] (objs':=[.box [.d (.str (bstr x3.2.s)),iv x3.2.at_,bv x3.2.short]]) (new:=[]) rfl (by simp) (by simp) rfl (by trivial) rfl rfl (by trivial) (fun _=>⟨by simp [V.flat,V.qiq,V.qf9,D.flat],(qbl (by simp [AObj.flat,V.qf9,D.flat]) qct)⟩) ⟨rfl,rfl,rfl⟩
theorem qll (n:Nat) (r_:qba) {r:Nat × qba} (h:qea n r_ = some r):qax prog false 85 [.ptr 0 0] [.box [.d (.str (bstr r_.s)),iv r_.at_,bv r_.short]] (fun v o new=>v = .d (.fl .f32 r.1)∧o = [.box [.d (.str (bstr r.2.s)),iv r.2.at_,bv r.2.short]]∧new = []):=impl_reader_float_ok_fr0 false n r_ h
def qc8 (n:Nat) (r_:qba):Option (Cx × qba) :=
 (qea n r_).bind fun x3 =>
 (qea n x3.2).bind fun x4 =>
 some ((Cx.mk x3.1 x4.1),x4.2)
theorem impl_reader_pair_ok_fr0 (fr:Bool) (n:Nat) (r_:qba) {r:Cx × qba} (h:qc8 n r_ = some r):qax prog fr 71 [.ptr 0 0] [.box [.d (.str (bstr r_.s)),iv r_.at_,bv r_.short]] (fun v o new=>v = (cxv r.1)∧o = [.box [.d (.str (bstr r.2.s)),iv r.2.at_,bv r.2.short]]∧new = []):=by
 refine qaj hτ func71 rfl (by simp) (by simp) ?_
 unfold qc8 at h
 refine qa6<|qa2<|qa0 hτ rfl rfl rfl<|qa4<|qa6<|qa2<|qa0 hτ rfl rfl rfl ?_
 refine qag h fun x3 hx3 h=>?_
 refine qac hτ false [0] rfl rfl rfl (qai func85 rfl rfl) rfl rfl (by simp) ⟨trivial,trivial⟩ (by trivial) (qll n r_ hx3) ?_
 rintro r0 o0 n0 ⟨rfl,rfl,rfl⟩ -
 refine qa0 hτ rfl rfl rfl<|qa4<|qa6<|qa2<|qa0 hτ rfl rfl rfl<|qa0 hτ rfl rfl rfl ?_
 refine qag h fun x4 hx4 h=>?_
 refine qac hτ false [0] rfl rfl rfl (qai func85 rfl rfl) rfl rfl (by simp) ⟨trivial,trivial⟩ (by trivial) (qll n x3.2 hx4) ?_
 rintro r0 o0 n0 ⟨rfl,rfl,rfl⟩ -
 refine qa0 hτ rfl rfl rfl<|qa0 hτ rfl rfl rfl<|qa4 ?_
 refine qa8 (wk [0] (l:=[(2,.d (.cx .f32 x3.1 x4.1))]) (objs:=[.box [.d (.str (bstr x4.2.s)),iv x4.2.at_,bv x4.2.short]])) ?_
 refine qaq ?_
 have hr:=Option.some.inj h
 subst hr
 exact qb0 (.inr rfl) [] (objs':=[.box [.d (.str (bstr x4.2.s)),iv x4.2.at_,bv x4.2.short]]) (new:=[]) rfl (by simp) (by simp) rfl (by trivial) rfl rfl (by trivial) (fun _=>⟨by simp [V.flat,V.qiq,V.qf9,D.flat],(qbl (by simp [AObj.flat,V.qf9,D.flat]) qct)⟩) ⟨rfl,rfl,rfl⟩
theorem qe9 (n:Nat) (r_:qba) {r:Cx × qba} (h:qc8 n r_ = some r):qax prog false 71 [.ptr 0 0] [.box [.d (.str (bstr r_.s)),iv r_.at_,bv r_.short]] (fun v o new=>v = (cxv r.1)∧o = [.box [.d (.str (bstr r.2.s)),iv r.2.at_,bv r.2.short]]∧new = []):=impl_reader_pair_ok_fr0 false n r_ h
def qcb (n:Nat) (r_:qba):Option (qaa × qba) :=
 (qc8 n r_).bind fun x4 =>
 (qc8 n x4.2).bind fun x5 =>
 (qc8 n x5.2).bind fun x6 =>
 some ((qaa.mk x4.1 x5.1 x6.1),x6.2)
theorem impl_reader_phases_ok_fr0 (fr:Bool) (n:Nat) (r_:qba) {r:qaa × qba} (h:qcb n r_ = some r):qax prog fr 48 [.ptr 0 0] [.box [.d (.str (bstr r_.s)),iv r_.at_,bv r_.short]] (fun v o new=>v = .agg [cxv r.1.A,cxv r.1.B,cxv r.1.C]∧o = [.box [.d (.str (bstr r.2.s)),iv r.2.at_,bv r.2.short]]∧new = []):=by
 refine qaj hτ func48 rfl (by simp) (by simp) ?_
 unfold qcb at h
 refine qa6<|qa2<|qaf hτ rfl rfl rfl<|qa4<|qa6<|qa2<|qa0 hτ rfl rfl rfl ?_
 refine qag h fun x4 hx4 h=>?_
 refine qac hτ false [0] rfl rfl rfl (qai func71 rfl rfl) rfl rfl (by simp) ⟨trivial,trivial⟩ (by trivial) (qe9 n r_ hx4) ?_
 rintro r0 o0 n0 ⟨rfl,rfl,rfl⟩ -
 refine qa0 hτ rfl rfl rfl<|qa4<|qa6<|qa2<|qa0 hτ rfl rfl rfl ?_
 refine qag h fun x5 hx5 h=>?_
 refine qac hτ false [0] rfl rfl rfl (qai func71 rfl rfl) rfl rfl (by simp) ⟨trivial,trivial⟩ (by trivial) (qe9 n x4.2 hx5) ?_
 rintro r0 o0 n0 ⟨rfl,rfl,rfl⟩ -
 refine qa0 hτ rfl rfl rfl<|qa4<|qa6 ?_
 refine qa8 (wk [0,1] (l:=[(0,.ptr 0 0),(2,.ptr 1 0),(3,cxv x4.1),(4,cxv x5.1)]) (objs:=[.box [.d (.str (bstr x5.2.s)),iv x5.2.at_,bv x5.2.short],.box [.d (.cx .f32 (0:Nat) (0:Nat)),.d (.cx .f32 (0:Nat) (0:Nat)),.d (.cx .f32 (0:Nat) (0:Nat))]])) ?_
 refine qa2<|qa0 hτ rfl rfl rfl<|qa0 hτ rfl rfl rfl<|qa0 hτ rfl rfl rfl ?_
 refine qag h fun x6 hx6 h=>?_
 refine qac hτ false [0] rfl rfl rfl (qai func71 rfl rfl) rfl rfl (by simp) ⟨trivial,trivial⟩ (by trivial) (qe9 n x5.2 hx6) ?_
 rintro r0 o0 n0 ⟨rfl,rfl,rfl⟩ -
 refine qa0 hτ rfl rfl rfl<|qaf hτ rfl rfl rfl<|qa4 ?_
 refine qa8 (wk [0,1] (l:=[(2,.ptr 1 0)]) (objs:=[.box [.d (.str (bstr x6.2.s)),iv x6.2.at_,bv x6.2.short],.box [cxv x4.1,cxv x5.1,cxv x6.1]])) ?_
 refine qaq ?_
 have hr:=Option.some.inj h
 subst hr
 exact qb0 (.inr rfl) [] (objs':=[.box [.d (.str (bstr x6.2.s)),iv x6.2.at_,bv x6.2.short]]) (new:=[]) rfl (by simp) (by simp) rfl (by trivial) rfl rfl (by trivial) (fun _=>⟨by simp [V.flat,V.qiq,V.qf9,D.flat],(qbl (by simp [AObj.flat,V.qf9,D.flat]) qct)⟩) ⟨rfl,rfl,rfl⟩
theorem qhg (n:Nat) (r_:qba) {r:qaa × qba} (h:qcb n r_ = some r):qax prog false 48 [.ptr 0 0] [.box [.d (.str (bstr r_.s)),iv r_.at_,bv r_.short]] (fun v o new=>v = .agg [cxv r.1.A,cxv r.1.B,cxv r.1.C]∧o = [.box [.d (.str (bstr r.2.s)),iv r.2.at_,bv r.2.short]]∧new = []):=impl_reader_phases_ok_fr0 false n r_ h
def qgr (n:Nat) (r_:qba):Option (SBus × qba) :=
 (qb6 n r_ (1:Int)).bind fun x7 =>
 (qc8 n x7.2).bind fun x8 =>
 (qc8 n x8.2).bind fun x9 =>
 (qb6 n x9.2 (1:Int)).bind fun x10 =>
 (qcb n x10.2).bind fun x11 =>
 (qb6 n x11.2 (4:Int)).bind fun x12 =>
 some ((SBus.mk (w64 (x7.1 - (1:Int))) x8.1 x9.1 x10.1 x11.1 x12.1),x12.2)
theorem impl_reader_bus_ok_fr0 (fr:Bool) (n:Nat) (r_:qba) {r:SBus × qba} (h:qgr n r_ = some r):qax prog fr 50 [.ptr 0 0] [.box [.d (.str (bstr r_.s)),iv r_.at_,bv r_.short]] (fun v o new=>v = .agg [iv r.1.qb4,cxv r.1.Own,cxv r.1.Shared,iv r.1.Kind,cxv r.1.Load.A,cxv r.1.Load.B,cxv r.1.Load.C,iv r.1.qas]∧o = [.box [.d (.str (bstr r.2.s)),iv r.2.at_,bv r.2.short]]∧new = []):=by
 refine qaj hτ func50 rfl (by simp) (by simp) ?_
 unfold qgr at h
 refine qa6<|qa2<|qaf hτ rfl rfl rfl<|qa4<|qa6<|qa2<|qa0 hτ rfl rfl rfl ?_
 refine qag h fun x7 hx7 h=>?_
 refine qac hτ false [0] rfl rfl rfl (qai func49 rfl rfl) rfl rfl (by simp) ⟨trivial,trivial,trivial⟩ (by trivial) (qbw n r_ (1:Int) hx7) ?_
 rintro r0 o0 n0 ⟨rfl,rfl,rfl⟩ -
 refine qa0 hτ rfl rfl rfl<|qa0 hτ rfl rfl rfl<|qaf hτ rfl rfl rfl<|qaf hτ rfl rfl rfl<|qa4<|qa6 ?_
 refine qa8 (wk [0,1,2] (l:=[(0,.ptr 0 0),(2,.ptr 1 0),(3,.ptr 2 0)]) (objs:=[.box [.d (.str (bstr x7.2.s)),iv x7.2.at_,bv x7.2.short],.box [iv (0:Int),.d (.cx .f32 (0:Nat) (0:Nat)),.d (.cx .f32 (0:Nat) (0:Nat)),iv (0:Int),.d (.cx .f32 (0:Nat) (0:Nat)),.d (.cx .f32 (0:Nat) (0:Nat)),.d (.cx .f32 (0:Nat) (0:Nat)),iv (0:Int)],.box [iv (w64 (x7.1 - (1:Int))),.d (.cx .f32 (0:Nat) (0:Nat)),.d (.cx .f32 (0:Nat) (0:Nat)),iv (0:Int),.d (.cx .f32 (0:Nat) (0:Nat)),.d (.cx .f32 (0:Nat) (0:Nat)),.d (.cx .f32 (0:Nat) (0:Nat)),iv (0:Int)]])) ?_
 refine qa2<|qa0 hτ rfl rfl rfl ?_
 refine qag h fun x8 hx8 h=>?_
 refine qac hτ false [0] rfl rfl rfl (qai func71 rfl rfl) rfl rfl (by simp) ⟨trivial,trivial⟩ (by trivial) (qe9 n x7.2 hx8) ?_
 rintro r0 o0 n0 ⟨rfl,rfl,rfl⟩ -
 refine qa0 hτ rfl rfl rfl ?_
 refine qag h fun x9 hx9 h=>?_
 refine qac hτ false [0] rfl rfl rfl (qai func71 rfl rfl) rfl rfl (by simp) ⟨trivial,trivial⟩ (by trivial) (qe9 n x8.2 hx9) ?_
 rintro r0 o0 n0 ⟨rfl,rfl,rfl⟩ -
 refine qa0 hτ rfl rfl rfl<|qaf hτ rfl rfl rfl<|qa0 hτ rfl rfl rfl<|qaf hτ rfl rfl rfl<|qa4<|qa6 ?_
 refine qa8 (wk [0,1,2] (l:=[(0,.ptr 0 0),(2,.ptr 1 0),(3,.ptr 2 0)]) (objs:=[.box [.d (.str (bstr x9.2.s)),iv x9.2.at_,bv x9.2.short],.box [iv (0:Int),.d (.cx .f32 (0:Nat) (0:Nat)),.d (.cx .f32 (0:Nat) (0:Nat)),iv (0:Int),.d (.cx .f32 (0:Nat) (0:Nat)),.d (.cx .f32 (0:Nat) (0:Nat)),.d (.cx .f32 (0:Nat) (0:Nat)),iv (0:Int)],.box [iv (w64 (x7.1 - (1:Int))),cxv x8.1,cxv x9.1,iv (0:Int),.d (.cx .f32 (0:Nat) (0:Nat)),.d (.cx .f32 (0:Nat) (0:Nat)),.d (.cx .f32 (0:Nat) (0:Nat)),iv (0:Int)]])) ?_
 refine qa2<|qa0 hτ rfl rfl rfl ?_
 refine qag h fun x10 hx10 h=>?_
 refine qac hτ false [0] rfl rfl rfl (qai func49 rfl rfl) rfl rfl (by simp) ⟨trivial,trivial,trivial⟩ (by trivial) (qbw n x9.2 (1:Int) hx10) ?_
 rintro r0 o0 n0 ⟨rfl,rfl,rfl⟩ -
 refine qa0 hτ rfl rfl rfl<|qaf hτ rfl rfl rfl<|qa4<|qa6<|qa2<|qa0 hτ rfl rfl rfl ?_
 refine qag h fun x11 hx11 h=>?_
 refine qac hτ false [0] rfl rfl rfl (qai func48 rfl rfl) rfl rfl (by simp) ⟨trivial,trivial⟩ (by trivial) (qhg n x10.2 hx11) ?_
 rintro r0 o0 n0 ⟨rfl,rfl,rfl⟩ -
 refine qa0 hτ rfl rfl rfl<|qaf hτ rfl rfl rfl<|qa4<|qa6 ?_
 refine qa8 (wk [0,1,2] (l:=[(0,.ptr 0 0),(2,.ptr 1 0),(3,.ptr 2 0)]) (objs:=[.box [.d (.str (bstr x11.2.s)),iv x11.2.at_,bv x11.2.short],.box [iv (0:Int),.d (.cx .f32 (0:Nat) (0:Nat)),.d (.cx .f32 (0:Nat) (0:Nat)),iv (0:Int),.d (.cx .f32 (0:Nat) (0:Nat)),.d (.cx .f32 (0:Nat) (0:Nat)),.d (.cx .f32 (0:Nat) (0:Nat)),iv (0:Int)],.box [iv (w64 (x7.1 - (1:Int))),cxv x8.1,cxv x9.1,iv x10.1,cxv x11.1.A,cxv x11.1.B,cxv x11.1.C,iv (0:Int)]])) ?_
 refine qa2<|qa0 hτ rfl rfl rfl ?_
 refine qag h fun x12 hx12 h=>?_
 refine qac hτ false [0] rfl rfl rfl (qai func49 rfl rfl) rfl rfl (by simp) ⟨trivial,trivial,trivial⟩ (by trivial) (qbw n x11.2 (4:Int) hx12) ?_
 rintro r0 o0 n0 ⟨rfl,rfl,rfl⟩ -
 refine qa0 hτ rfl rfl rfl<|qaf hτ rfl rfl rfl<|qa4<|qa6<|qa2<|qa0 hτ rfl rfl rfl<|qaf hτ rfl rfl rfl<|qa4 ?_
 refine qa8 (wk [0,1] (l:=[(2,.ptr 1 0)]) (objs:=[.box [.d (.str (bstr x12.2.s)),iv x12.2.at_,bv x12.2.short],.box [iv (w64 (x7.1 - (1:Int))),cxv x8.1,cxv x9.1,iv x10.1,cxv x11.1.A,cxv x11.1.B,cxv x11.1.C,iv x12.1]])) ?_
 refine qaq ?_
 have hr:=Option.some.inj h
 subst hr
 exact qb0 (.inr rfl) [] (objs':=[.box [.d (.str (bstr x12.2.s)),iv x12.2.at_,bv x12.2.short]]) (new:=[]) rfl (by simp) (by simp) rfl (by trivial) rfl rfl (by trivial) (fun _=>⟨by simp [V.flat,V.qiq,V.qf9,D.flat],(qbl (by simp [AObj.flat,V.qf9,D.flat]) qct)⟩) ⟨rfl,rfl,rfl⟩
theorem impl_reader_bus_ok (n:Nat) (r_:qba) {r:SBus × qba} (h:qgr n r_ = some r):qax prog false 50 [.ptr 0 0] [.box [.d (.str (bstr r_.s)),iv r_.at_,bv r_.short]] (fun v o new=>v = .agg [iv r.1.qb4,cxv r.1.Own,cxv r.1.Shared,iv r.1.Kind,cxv r.1.Load.A,cxv r.1.Load.B,cxv r.1.Load.C,iv r.1.qas]∧o = [.box [.d (.str (bstr r.2.s)),iv r.2.at_,bv r.2.short]]∧new = []):=impl_reader_bus_ok_fr0 false n r_ h
def qgs (n:Nat) (r_:qba):Option (STie × qba) :=
 (qb6 n r_ (1:Int)).bind fun x6 =>
 (qb6 n x6.2 (1:Int)).bind fun x7 =>
 (qc8 n x7.2).bind fun x8 =>
 (qc8 n x8.2).bind fun x9 =>
 (qb6 n x9.2 (4:Int)).bind fun x10 =>
 some ((STie.mk x6.1 x7.1 x8.1 x9.1 x10.1),x10.2)
theorem impl_reader_tie_ok_fr0 (fr:Bool) (n:Nat) (r_:qba) {r:STie × qba} (h:qgs n r_ = some r):qax prog fr 51 [.ptr 0 0] [.box [.d (.str (bstr r_.s)),iv r_.at_,bv r_.short]] (fun v o new=>v = .agg [iv r.1.A,iv r.1.B,cxv r.1.Own,cxv r.1.Shared,iv r.1.Most]∧o = [.box [.d (.str (bstr r.2.s)),iv r.2.at_,bv r.2.short]]∧new = []):=by
 refine qaj hτ func51 rfl (by simp) (by simp) ?_
 unfold qgs at h
 refine qa6<|qa2<|qaf hτ rfl rfl rfl<|qa4<|qa6<|qa2<|qa0 hτ rfl rfl rfl ?_
 refine qag h fun x6 hx6 h=>?_
 refine qac hτ false [0] rfl rfl rfl (qai func49 rfl rfl) rfl rfl (by simp) ⟨trivial,trivial,trivial⟩ (by trivial) (qbw n r_ (1:Int) hx6) ?_
 rintro r0 o0 n0 ⟨rfl,rfl,rfl⟩ -
 refine qa0 hτ rfl rfl rfl<|qaf hτ rfl rfl rfl<|qaf hτ rfl rfl rfl<|qa4<|qa6 ?_
 refine qa8 (wk [0,1,2] (l:=[(0,.ptr 0 0),(2,.ptr 1 0),(3,.ptr 2 0)]) (objs:=[.box [.d (.str (bstr x6.2.s)),iv x6.2.at_,bv x6.2.short],.box [iv (0:Int),iv (0:Int),.d (.cx .f32 (0:Nat) (0:Nat)),.d (.cx .f32 (0:Nat) (0:Nat)),iv (0:Int)],.box [iv x6.1,iv (0:Int),.d (.cx .f32 (0:Nat) (0:Nat)),.d (.cx .f32 (0:Nat) (0:Nat)),iv (0:Int)]])) ?_
 refine qa2<|qa0 hτ rfl rfl rfl ?_
 refine qag h fun x7 hx7 h=>?_
 refine qac hτ false [0] rfl rfl rfl (qai func49 rfl rfl) rfl rfl (by simp) ⟨trivial,trivial,trivial⟩ (by trivial) (qbw n x6.2 (1:Int) hx7) ?_
 rintro r0 o0 n0 ⟨rfl,rfl,rfl⟩ -
 refine qa0 hτ rfl rfl rfl<|qaf hτ rfl rfl rfl<|qa4<|qa6<|qa2<|qa0 hτ rfl rfl rfl ?_
 refine qag h fun x8 hx8 h=>?_
 refine qac hτ false [0] rfl rfl rfl (qai func71 rfl rfl) rfl rfl (by simp) ⟨trivial,trivial⟩ (by trivial) (qe9 n x7.2 hx8) ?_
 rintro r0 o0 n0 ⟨rfl,rfl,rfl⟩ -
 refine qa0 hτ rfl rfl rfl ?_
 refine qag h fun x9 hx9 h=>?_
 refine qac hτ false [0] rfl rfl rfl (qai func71 rfl rfl) rfl rfl (by simp) ⟨trivial,trivial⟩ (by trivial) (qe9 n x8.2 hx9) ?_
 rintro r0 o0 n0 ⟨rfl,rfl,rfl⟩ -
 refine qa0 hτ rfl rfl rfl<|qaf hτ rfl rfl rfl<|qa0 hτ rfl rfl rfl<|qaf hτ rfl rfl rfl<|qa4<|qa6 ?_
 refine qa8 (wk [0,1,2] (l:=[(0,.ptr 0 0),(2,.ptr 1 0),(3,.ptr 2 0)]) (objs:=[.box [.d (.str (bstr x9.2.s)),iv x9.2.at_,bv x9.2.short],.box [iv (0:Int),iv (0:Int),.d (.cx .f32 (0:Nat) (0:Nat)),.d (.cx .f32 (0:Nat) (0:Nat)),iv (0:Int)],.box [iv x6.1,iv x7.1,cxv x8.1,cxv x9.1,iv (0:Int)]])) ?_
 refine qa2<|qa0 hτ rfl rfl rfl ?_
 refine qag h fun x10 hx10 h=>?_
 refine qac hτ false [0] rfl rfl rfl (qai func49 rfl rfl) rfl rfl (by simp) ⟨trivial,trivial,trivial⟩ (by trivial) (qbw n x9.2 (4:Int) hx10) ?_
 rintro r0 o0 n0 ⟨rfl,rfl,rfl⟩ -
 refine qa0 hτ rfl rfl rfl<|qaf hτ rfl rfl rfl<|qa4<|qa6<|qa2<|qa0 hτ rfl rfl rfl<|qaf hτ rfl rfl rfl<|qa4 ?_
 refine qa8 (wk [0,1] (l:=[(2,.ptr 1 0)]) (objs:=[.box [.d (.str (bstr x10.2.s)),iv x10.2.at_,bv x10.2.short],.box [iv x6.1,iv x7.1,cxv x8.1,cxv x9.1,iv x10.1]])) ?_
 refine qaq ?_
 have hr:=Option.some.inj h
 subst hr
 exact qb0 (.inr rfl) [] (objs':=[.box [.d (.str (bstr x10.2.s)),iv x10.2.at_,bv x10.2.short]]) (new:=[]) rfl (by simp) (by simp) rfl (by trivial) rfl rfl (by trivial) (fun _=>⟨by simp [V.flat,V.qiq,V.qf9,D.flat],(qbl (by simp [AObj.flat,V.qf9,D.flat]) qct)⟩) ⟨rfl,rfl,rfl⟩
theorem impl_reader_tie_ok (n:Nat) (r_:qba) {r:STie × qba} (h:qgs n r_ = some r):qax prog false 51 [.ptr 0 0] [.box [.d (.str (bstr r_.s)),iv r_.at_,bv r_.short]] (fun v o new=>v = .agg [iv r.1.A,iv r.1.B,cxv r.1.Own,cxv r.1.Shared,iv r.1.Most]∧o = [.box [.d (.str (bstr r.2.s)),iv r.2.at_,bv r.2.short]]∧new = []):=impl_reader_tie_ok_fr0 false n r_ h
def qhm (n:Nat) (x49:qaa × qba) (v77:List SBus) (v95:Int) (v97:List STie):Option (qbg × Int × Bool) :=
 some ((qbg.mk (qb8.mk x49.1 v77) v97),v95,true)
def qex (n:Nat) (x49:qaa × qba) (v77:List SBus) (v95:Int) (v97:List STie) (v111:Bool):Option (qbg × Int × Bool) :=
 if v111 = true then
  some ((qbg.mk (qb8.mk (qaa.mk (Cx.mk (0:Nat) (0:Nat)) (Cx.mk (0:Nat) (0:Nat)) (Cx.mk (0:Nat) (0:Nat))) ([]:List SBus)) ([]:List STie)),(0:Int),false)
 else
  qhm n x49 v77 v95 v97
def qg5 (n:Nat) (s_:Str) (x49:qaa × qba) (v77:List SBus) (v94:Str) (v95:Int) (v96:Bool) (v97:List STie):Option (qbg × Int × Bool) :=
 if v96 = true then
  qex n x49 v77 v95 v97 true
 else
  (qdm n (qbg.mk (qb8.mk x49.1 v77) v97)).bind fun x115 =>
  if x115 = true then
   grd (0 ≤ (0:Int)∧(0:Int) ≤ v95∧v95 ≤ (s_.length:Int)) <|
   (qhn n (qbg.mk (qb8.mk x49.1 v77) v97)).bind fun x118 =>
   qex n x49 v77 v95 v97 (!(decide (x118 = (sub s_ (0:Int) v95))))
  else
   qex n x49 v77 v95 v97 true
def qdz (n:Nat) (s_:Str) (x49:qaa × qba) (v77:List SBus) (x120:Int × qba):Nat→Str→Int→Bool→List STie→Int→Option (qbg × Int × Bool)
 | 0,_,_,_,_,_=>none
 | m135 + 1,v123,v124,v125,v126,v127 =>
  if v127 < x120.1 then
   (qgs n (qba.mk v123 v124 v125)).bind fun x138 =>
   grd (room (v126.length + 1) 40) <|
   (qdz n s_ x49 v77 x120 m135) x138.2.s x138.2.at_ x138.2.short (v126 ++ [x138.1]) (w64 (v127 + (1:Int)))
  else
   qg5 n s_ x49 v77 v123 v124 v125 v126
def qg4 (n:Nat) (s_:Str) (x49:qaa × qba) (v72:List SBus) (v73:List STie) (v74:Str) (v75:Int) (v76:Bool) (v77:List SBus) (v78:List STie):Option (qbg × Int × Bool) :=
 (qb6 n (qba.mk v74 v75 v76) (1:Int)).bind fun x120 =>
 qdz n s_ x49 v77 x120 n x120.2.s x120.2.at_ x120.2.short v78 (0:Int)
def qe0 (n:Nat) (s_:Str) (x49:qaa × qba) (x141:Int × qba):Nat→List SBus→List STie→Str→Int→Bool→List SBus→List STie→Int→Option (qbg × Int × Bool)
 | 0,_,_,_,_,_,_,_,_=>none
 | m163 + 1,v145,v146,v147,v148,v149,v150,v151,v152 =>
  if v152 < x141.1 then
   (qgr n (qba.mk v147 v148 v149)).bind fun x166 =>
   grd (room (v150.length + 1) 64) <|
   (qe0 n s_ x49 x141 m163) v145 v146 x166.2.s x166.2.at_ x166.2.short (v150 ++ [x166.1]) v151 (w64 (v152 + (1:Int)))
  else
   qg4 n s_ x49 v145 v146 v147 v148 v149 v150 v151
def qgv (n:Nat) (s_:Str):Option (qbg × Int × Bool) :=
 (qh2 n s_ ([70,68,82,49]:Str)).bind fun x47 =>
 if x47 = true then
  (qcb n (qba.mk s_ (4:Int) false)).bind fun x49 =>
  (qb6 n x49.2 (1:Int)).bind fun x141 =>
  qe0 n s_ x49 x141 n ([]:List SBus) ([]:List STie) x141.2.s x141.2.at_ x141.2.short ([]:List SBus) ([]:List STie) (0:Int)
 else
  some ((qbg.mk (qb8.mk (qaa.mk (Cx.mk (0:Nat) (0:Nat)) (Cx.mk (0:Nat) (0:Nat)) (Cx.mk (0:Nat) (0:Nat))) ([]:List SBus)) ([]:List STie)),(0:Int),false)
theorem impl_loadGrid_ok_fr0 (fr:Bool) (n:Nat) (s_:Str) {r:qbg × Int × Bool} (h:qgv n s_ = some r):qax prog fr 23 [.d (.str (bstr s_))] [] (fun v o new=>v = .tup [.agg [cxv r.1.qa1.Source.A,cxv r.1.qa1.Source.B,cxv r.1.qa1.Source.C,.row 0 r.1.qa1.qa5.length 0 r.1.qa1.qa5.length,.row 1 r.1.Ties.length 0 r.1.Ties.length],iv r.2.1,bv r.2.2]∧o = []∧new = [.row 8 (r.1.qa1.qa5.map qae),.row 5 (r.1.Ties.map qah)]):=by
 refine qaj hτ func23 rfl (by simp) (by simp) ?_
 unfold qgv at h
 refine qa6<|qa2<|qaf hτ rfl rfl rfl<|qa0 hτ rfl rfl rfl<|qa0 hτ rfl rfl rfl<|qa4<|qa6<|qa2 ?_
 refine qa0 hτ rfl rfl rfl<|qa0 hτ rfl rfl rfl<|qa0 hτ rfl rfl rfl<|qaf hτ rfl rfl rfl<|qaf hτ rfl rfl rfl<|qaf hτ rfl rfl rfl<|qaf hτ rfl rfl rfl<|qa4 ?_
 refine qa6<|qa6 ?_
 refine qa8 (wk [0,1,2] (l:=[(0,.d (.str (bstr s_))),(2,.ptr 0 0),(5,.ptr 1 0),(6,.ptr 2 0)]) (objs:=[.box [.d (.cx .f32 (0:Nat) (0:Nat)),.d (.cx .f32 (0:Nat) (0:Nat)),.d (.cx .f32 (0:Nat) (0:Nat)),.d (.nils),.d (.nils)],.box [.d (.str (bstr s_)),iv (4:Int),bv false],.box [.d (.cx .f32 (0:Nat) (0:Nat)),.d (.cx .f32 (0:Nat) (0:Nat)),.d (.cx .f32 (0:Nat) (0:Nat)),.d (.nils),.d (.nils)]])) ?_
 refine qa2<|qa0 hτ rfl rfl rfl ?_
 refine qag h fun x47 hx47 h=>?_
 refine qac hτ false [] rfl rfl rfl (qai func47 rfl rfl) rfl rfl (by simp) ⟨trivial,trivial,trivial⟩ (by trivial) (strings_HasPrefix_ok n s_ ([70,68,82,49]:Str) hx47) ?_
 rintro r0 o0 n0 ⟨rfl,rfl,rfl⟩ -
 refine qa0 hτ rfl rfl rfl<|qa4 ?_
 refine qaw rfl (fun hc48=>?_) (fun hc48=>?_)
 ·have hc48:=qi4 hc48
  have h:=qcu h hc48
  refine qa6<|qa2<|qa0 hτ rfl rfl rfl<|qaf hτ rfl rfl rfl<|qa0 hτ rfl rfl rfl<|qa0 hτ rfl rfl rfl<|qa4 ?_
  refine qa8 (wk [0] (l:=[(2,.ptr 0 0),(3,iv (0:Int)),(4,bv false)]) (objs:=[.box [.d (.cx .f32 (0:Nat) (0:Nat)),.d (.cx .f32 (0:Nat) (0:Nat)),.d (.cx .f32 (0:Nat) (0:Nat)),.d (.nils),.d (.nils)]])) ?_
  refine qa8 (qe3 [8,5] (l':=[(2,.ptr 0 0),(3,iv (0:Int)),(4,bv false)]) (objs':=[.box [.d (.cx .f32 (0:Nat) (0:Nat)),.d (.cx .f32 (0:Nat) (0:Nat)),.d (.cx .f32 (0:Nat) (0:Nat)),.row 1 (([]:List SBus).length) 0 (([]:List SBus).length),.row 2 (([]:List STie).length) 0 (([]:List STie).length)]]) (.cons (.c (.refl _)) (.cons (.c (.refl _)) (.cons (.c (.refl _)) .nil))) (.cons (.box (.cons (.refl _) (.cons (.refl _) (.cons (.refl _) (.cons (.ghost ⟨Nat.le_of_ble_eq_true rfl,Nat.le_of_ble_eq_true rfl⟩) (.cons (.ghost ⟨Nat.le_of_ble_eq_true rfl,Nat.le_of_ble_eq_true rfl⟩) .nil)))))) .nil)) ?_
  refine qaq ?_
  have hr:=Option.some.inj h
  subst hr
  exact qb0 (.inr rfl) [1,2] (objs':=[]) (new:=[.row 8 (([]:List SBus).map qae),.row 5 (([]:List STie).map qah)]) rfl (by simp) (by simp) rfl (by trivial) rfl rfl (by trivial) (fun _=>⟨by simp [V.flat,V.qiq,V.qf9,D.flat],(qbl (qdy qjs _) (qbl (qdy qki _) qct))⟩) ⟨rfl,rfl,rfl⟩
 ·have hc48:=qi3 hc48
  have h:=qcv h hc48
  refine qb1<|qa6<|qa2 ?_
  refine qag h fun x49 hx49 h=>?_
  refine qac hτ false [1] rfl rfl rfl (qai func48 rfl rfl) rfl rfl (by simp) ⟨trivial,trivial⟩ (by trivial) (qhg n (qba.mk s_ (4:Int) false) hx49) ?_
  rintro r0 o0 n0 ⟨rfl,rfl,rfl⟩ -
  refine qa0 hτ rfl rfl rfl<|qa0 hτ rfl rfl rfl<|qaf hτ rfl rfl rfl<|qa4 ?_
  refine qbn (ι:=List SBus × List STie × Str × Int × Bool × List SBus × List STie) (fun (v72,v73,v74,v75,v76,v77,v78)=>St.of [(0,.d (.str (bstr s_))),(2,.ptr 0 0),(5,.ptr 3 0),(6,.ptr 4 0)] [.box [.d (.cx .f32 (0:Nat) (0:Nat)),.d (.cx .f32 (0:Nat) (0:Nat)),.d (.cx .f32 (0:Nat) (0:Nat)),.row 1 v72.length 0 v72.length,.row 2 v73.length 0 v73.length],.row 8 (v72.map qae),.row 5 (v73.map qah),.box [.d (.str (bstr v74)),iv v75,bv v76],.box [cxv x49.1.A,cxv x49.1.B,cxv x49.1.C,.row 5 v77.length 0 v77.length,.row 6 v78.length 0 v78.length],.row 8 (v77.map qae),.row 5 (v78.map qah)] f23.ntmps 0) (fun (v72,v73,v74,v75,v76,v77,v78)=>qg4 n s_ x49 v72 v73 v74 v75 v76 v77 v78 = some r) ?_ (fun hk140=>?_)
  ·rintro ⟨v72,v73,v74,v75,v76,v77,v78⟩ h
   replace h:qg4 n s_ x49 v72 v73 v74 v75 v76 v77 v78 = some r:=h
   unfold qg4 at h
   refine qbn (ι:=Str × Int × Bool × List STie) (fun (v94,v95,v96,v97)=>St.of [(0,.d (.str (bstr s_))),(2,.ptr 0 0),(5,.ptr 3 0),(6,.ptr 4 0)] [.box [.d (.cx .f32 (0:Nat) (0:Nat)),.d (.cx .f32 (0:Nat) (0:Nat)),.d (.cx .f32 (0:Nat) (0:Nat)),.row 1 v72.length 0 v72.length,.row 2 v73.length 0 v73.length],.row 8 (v72.map qae),.row 5 (v73.map qah),.box [.d (.str (bstr v94)),iv v95,bv v96],.box [cxv x49.1.A,cxv x49.1.B,cxv x49.1.C,.row 5 v77.length 0 v77.length,.row 6 v97.length 0 v97.length],.row 8 (v77.map qae),.row 5 (v97.map qah)] f23.ntmps 0) (fun (v94,v95,v96,v97)=>qg5 n s_ x49 v77 v94 v95 v96 v97 = some r) ?_ (fun hk119=>?_)
   ·rintro ⟨v94,v95,v96,v97⟩ h
    replace h:qg5 n s_ x49 v77 v94 v95 v96 v97 = some r:=h
    unfold qg5 at h
    refine qbn (ι:=Unit) (fun _=>St.of [(2,.ptr 0 0),(5,.ptr 3 0),(6,.ptr 4 0)] [.box [.d (.cx .f32 (0:Nat) (0:Nat)),.d (.cx .f32 (0:Nat) (0:Nat)),.d (.cx .f32 (0:Nat) (0:Nat)),.row 1 v72.length 0 v72.length,.row 2 v73.length 0 v73.length],.row 8 (v72.map qae),.row 5 (v73.map qah),.box [.d (.str (bstr v94)),iv v95,bv v96],.box [cxv x49.1.A,cxv x49.1.B,cxv x49.1.C,.row 5 v77.length 0 v77.length,.row 6 v97.length 0 v97.length],.row 8 (v77.map qae),.row 5 (v97.map qah)] f23.ntmps 0) (fun _=>qhm n x49 v77 v95 v97 = some r) ?_ (fun hk104=>?_)
    ·rintro ⟨⟩ h
     replace h:qhm n x49 v77 v95 v97 = some r:=h
     unfold qhm at h
     refine qa6<|qd4 ?_
     refine qab hτ [4] 0 rfl rfl rfl rfl rfl ?_
     refine qab hτ [3] 1 rfl rfl rfl rfl rfl ?_
     refine qab hτ [3] 2 rfl rfl rfl rfl rfl ?_
     refine qbj hτ [1,2,3,4,5,6] 3 rfl rfl rfl rfl ⟨rfl,rfl,rfl,rfl,rfl,rfl,trivial⟩ ?_
     refine qab hτ [] 4 rfl rfl rfl rfl rfl ?_
     refine qab hτ [] 5 rfl rfl rfl rfl rfl ?_
     refine qcs mixed (by kernel_rfl) ?_
     refine qa8 (wk [0,5,6] (l:=[(2,.ptr 0 0),(3,iv v95),(4,bv true)]) (objs:=[.box [cxv x49.1.A,cxv x49.1.B,cxv x49.1.C,.row 1 v77.length 0 v77.length,.row 2 v97.length 0 v97.length],.row 8 (v77.map qae),.row 5 (v97.map qah)])) ?_
     refine qaq ?_
     have hr:=Option.some.inj h
     subst hr
     exact qb0 (.inr rfl) [1,2] (objs':=[]) (new:=[.row 8 (v77.map qae),.row 5 (v97.map qah)]) rfl (by simp) (by simp) rfl (by trivial) rfl rfl (by trivial) (fun _=>⟨by simp [V.flat,V.qiq,V.qf9,D.flat],(qbl (qdy qjs _) (qbl (qdy qki _) qct))⟩) ⟨rfl,rfl,rfl⟩
    ·refine qa6 ?_
     refine qbn (ι:=Bool) (fun v111=>St.of [(2,.ptr 0 0),(5,.ptr 3 0),(6,.ptr 4 0),(54,bv v111)] [.box [.d (.cx .f32 (0:Nat) (0:Nat)),.d (.cx .f32 (0:Nat) (0:Nat)),.d (.cx .f32 (0:Nat) (0:Nat)),.row 1 v72.length 0 v72.length,.row 2 v73.length 0 v73.length],.row 8 (v72.map qae),.row 5 (v73.map qah),.box [.d (.str (bstr v94)),iv v95,bv v96],.box [cxv x49.1.A,cxv x49.1.B,cxv x49.1.C,.row 5 v77.length 0 v77.length,.row 6 v97.length 0 v97.length],.row 8 (v77.map qae),.row 5 (v97.map qah)] f23.ntmps 0) (fun v111=>qex n x49 v77 v95 v97 v111 = some r) ?_ (fun hk113=>?_)
     ·rintro v111 h
      replace h:qex n x49 v77 v95 v97 v111 = some r:=h
      unfold qex at h
      refine qaw rfl (fun hc112=>?_) (fun hc112=>?_)
      ·have h:=qcv h hc112
       refine qa6<|qa2<|qa0 hτ rfl rfl rfl<|qaf hτ rfl rfl rfl<|qa0 hτ rfl rfl rfl<|qa0 hτ rfl rfl rfl<|qa4 ?_
       refine qa8 (wk [0] (l:=[(2,.ptr 0 0),(3,iv (0:Int)),(4,bv false)]) (objs:=[.box [.d (.cx .f32 (0:Nat) (0:Nat)),.d (.cx .f32 (0:Nat) (0:Nat)),.d (.cx .f32 (0:Nat) (0:Nat)),.d (.nils),.d (.nils)]])) ?_
       refine qa8 (qe3 [8,5] (l':=[(2,.ptr 0 0),(3,iv (0:Int)),(4,bv false)]) (objs':=[.box [.d (.cx .f32 (0:Nat) (0:Nat)),.d (.cx .f32 (0:Nat) (0:Nat)),.d (.cx .f32 (0:Nat) (0:Nat)),.row 1 (([]:List SBus).length) 0 (([]:List SBus).length),.row 2 (([]:List STie).length) 0 (([]:List STie).length)]]) (.cons (.c (.refl _)) (.cons (.c (.refl _)) (.cons (.c (.refl _)) .nil))) (.cons (.box (.cons (.refl _) (.cons (.refl _) (.cons (.refl _) (.cons (.ghost ⟨Nat.le_of_ble_eq_true rfl,Nat.le_of_ble_eq_true rfl⟩) (.cons (.ghost ⟨Nat.le_of_ble_eq_true rfl,Nat.le_of_ble_eq_true rfl⟩) .nil)))))) .nil)) ?_
       refine qaq ?_
       have hr:=Option.some.inj h
       subst hr
       exact qb0 (.inr rfl) [1,2] (objs':=[]) (new:=[.row 8 (([]:List SBus).map qae),.row 5 (([]:List STie).map qah)]) rfl (by simp) (by simp) rfl (by trivial) rfl rfl (by trivial) (fun _=>⟨by simp [V.flat,V.qiq,V.qf9,D.flat],(qbl (qdy qjs _) (qbl (qdy qki _) qct))⟩) ⟨rfl,rfl,rfl⟩
      ·have h:=qcu h hc112
       refine qb1 ?_
       refine qa8 (wk [0,1,2,3,4,5,6] (l:=[(2,.ptr 0 0),(5,.ptr 3 0),(6,.ptr 4 0)]) (objs:=[.box [.d (.cx .f32 (0:Nat) (0:Nat)),.d (.cx .f32 (0:Nat) (0:Nat)),.d (.cx .f32 (0:Nat) (0:Nat)),.row 1 v72.length 0 v72.length,.row 2 v73.length 0 v73.length],.row 8 (v72.map qae),.row 5 (v73.map qah),.box [.d (.str (bstr v94)),iv v95,bv v96],.box [cxv x49.1.A,cxv x49.1.B,cxv x49.1.C,.row 5 v77.length 0 v77.length,.row 6 v97.length 0 v97.length],.row 8 (v77.map qae),.row 5 (v97.map qah)])) ?_
       exact hk104 () h
     ·refine qa6<|qd4 ?_
      refine qab hτ [3] 0 rfl rfl rfl rfl rfl ?_
      refine qab hτ [3] 1 rfl rfl rfl rfl rfl ?_
      refine qab hτ [] 2 rfl rfl rfl rfl rfl ?_
      refine qlc 41 rfl (fun hb114=>?_) (fun hb114=>?_)
      ·have h:=qcv h hb114
       refine qaz 3 rfl rfl rfl ?_
       refine qaz 4 rfl rfl rfl ?_
       refine qaz 5 rfl rfl rfl ?_
       refine qab hτ [] 6 rfl rfl rfl rfl rfl ?_
       refine qab hτ [] 7 rfl rfl rfl rfl rfl ?_
       refine qaz 8 rfl rfl rfl ?_
       refine qaz 10 rfl rfl rfl ?_
       refine qaz 11 rfl rfl rfl ?_
       refine qaz 12 rfl rfl rfl ?_
       refine qaz 13 rfl rfl rfl ?_
       refine qaz 9 rfl rfl rfl ?_
       refine qaz 14 rfl rfl rfl ?_
       refine qab hτ [] 15 rfl rfl rfl rfl rfl ?_
       refine qcs mixed (by kernel_rfl) ?_
       refine qa8 (wk [0,1,2,3,4,5,6] (l:=[(2,.ptr 0 0),(5,.ptr 3 0),(6,.ptr 4 0),(54,bv true)]) (objs:=[.box [.d (.cx .f32 (0:Nat) (0:Nat)),.d (.cx .f32 (0:Nat) (0:Nat)),.d (.cx .f32 (0:Nat) (0:Nat)),.row 1 v72.length 0 v72.length,.row 2 v73.length 0 v73.length],.row 8 (v72.map qae),.row 5 (v73.map qah),.box [.d (.str (bstr v94)),iv v95,bv v96],.box [cxv x49.1.A,cxv x49.1.B,cxv x49.1.C,.row 5 v77.length 0 v77.length,.row 6 v97.length 0 v97.length],.row 8 (v77.map qae),.row 5 (v97.map qah)])) ?_
       exact hk113 true h
      ·have h:=qcu h hb114
       refine qab hτ [4] 3 rfl rfl rfl rfl rfl ?_
       refine qag h fun x115 hx115 h=>?_
       refine qcy hτ true [] [0,1,2,3,4,5,6] 4 rfl rfl rfl rfl (qai func22 rfl rfl) (qak (qke (qak rfl (qak rfl (qak rfl (qak (qbx (f:=qae) (j:=5) (sz:=8) v77 rfl rfl rfl) (qak (qbx (f:=qah) (j:=6) (sz:=5) v97 rfl rfl rfl) qc9)))))) qc9) rfl (by simp) ⟨⟨trivial,trivial,trivial,(qby (f:=qae) (j:=5) (sz:=8) v77 rfl rfl rfl),(qby (f:=qah) (j:=6) (sz:=5) v97 rfl rfl rfl)⟩,trivial⟩ (by trivial) (impl_ValidGrid_ok_fr n (qbg.mk (qb8.mk x49.1 v77) v97) hx115) ⟨rfl,rfl,rfl,rfl,rfl,rfl,rfl,trivial⟩ ?_
       refine qab hτ [] 5 rfl rfl rfl rfl rfl ?_
       refine qab hτ [] 6 rfl rfl rfl rfl rfl ?_
       refine qab hτ [] 7 rfl rfl rfl rfl rfl ?_
       refine qlc 46 rfl (fun hb116=>?_) (fun hb116=>?_)
       ·have hb116:=qi4 hb116
        have h:=qcu h hb116
        refine qaz 8 rfl rfl rfl ?_
        refine qaz 10 rfl rfl rfl ?_
        refine qaz 11 rfl rfl rfl ?_
        refine qaz 12 rfl rfl rfl ?_
        refine qaz 13 rfl rfl rfl ?_
        refine qaz 9 rfl rfl rfl ?_
        refine qaz 14 rfl rfl rfl ?_
        refine qab hτ [] 15 rfl rfl rfl rfl rfl ?_
        refine qcs mixed (by kernel_rfl) ?_
        refine qa8 (wk [0,1,2,3,4,5,6] (l:=[(2,.ptr 0 0),(5,.ptr 3 0),(6,.ptr 4 0),(54,bv true)]) (objs:=[.box [.d (.cx .f32 (0:Nat) (0:Nat)),.d (.cx .f32 (0:Nat) (0:Nat)),.d (.cx .f32 (0:Nat) (0:Nat)),.row 1 v72.length 0 v72.length,.row 2 v73.length 0 v73.length],.row 8 (v72.map qae),.row 5 (v73.map qah),.box [.d (.str (bstr v94)),iv v95,bv v96],.box [cxv x49.1.A,cxv x49.1.B,cxv x49.1.C,.row 5 v77.length 0 v77.length,.row 6 v97.length 0 v97.length],.row 8 (v77.map qae),.row 5 (v97.map qah)])) ?_
        exact hk113 true h
       ·have hb116:=qi3 hb116
        have h:=qcv h hb116
        refine qab hτ [4] 8 rfl rfl rfl rfl rfl ?_
        refine qab hτ [] 10 rfl rfl rfl rfl rfl ?_
        refine qab hτ [3] 11 rfl rfl rfl rfl rfl ?_
        refine qab hτ [3] 12 rfl rfl rfl rfl rfl ?_
        refine qcr h fun hg117 h=>?_
        refine qfj hτ (v:=.d (.str (bstr (sub s_ (0:Int) v95)))) [] 13 rfl rfl rfl rfl (Eq.trans rfl (qm5 _ _ _)) hg117 ?_
        refine qag h fun x118 hx118 h=>?_
        refine qcy hτ true [] [0,1,2,3,4,5,6] 9 rfl rfl rfl rfl (qai func18 rfl rfl) (qak (qke (qak rfl (qak rfl (qak rfl (qak (qbx (f:=qae) (j:=5) (sz:=8) v77 rfl rfl rfl) (qak (qbx (f:=qah) (j:=6) (sz:=5) v97 rfl rfl rfl) qc9)))))) qc9) rfl (by simp) ⟨⟨trivial,trivial,trivial,(qby (f:=qae) (j:=5) (sz:=8) v77 rfl rfl rfl),(qby (f:=qah) (j:=6) (sz:=5) v97 rfl rfl rfl)⟩,trivial⟩ (by trivial) (impl_stored_ok_fr n (qbg.mk (qb8.mk x49.1 v77) v97) hx118) ⟨rfl,rfl,rfl,rfl,rfl,rfl,rfl,trivial⟩ ?_
        refine qab hτ (v:=bv (!(decide (x118 = (sub s_ (0:Int) v95))))) [] 14 rfl rfl rfl rfl (qtt _ _) ?_
        refine qab hτ [] 15 rfl rfl rfl rfl rfl ?_
        refine qcs mixed (by kernel_rfl) ?_
        refine qa8 (wk [0,1,2,3,4,5,6] (l:=[(2,.ptr 0 0),(5,.ptr 3 0),(6,.ptr 4 0),(54,bv (!(decide (x118 = (sub s_ (0:Int) v95)))))]) (objs:=[.box [.d (.cx .f32 (0:Nat) (0:Nat)),.d (.cx .f32 (0:Nat) (0:Nat)),.d (.cx .f32 (0:Nat) (0:Nat)),.row 1 v72.length 0 v72.length,.row 2 v73.length 0 v73.length],.row 8 (v72.map qae),.row 5 (v73.map qah),.box [.d (.str (bstr v94)),iv v95,bv v96],.box [cxv x49.1.A,cxv x49.1.B,cxv x49.1.C,.row 5 v77.length 0 v77.length,.row 6 v97.length 0 v97.length],.row 8 (v77.map qae),.row 5 (v97.map qah)])) ?_
        exact hk113 (!(decide (x118 = (sub s_ (0:Int) v95)))) h
   ·refine qa6<|qa6<|qa2 ?_
    refine qag h fun x120 hx120 h=>?_
    refine qac hτ false [3] rfl rfl rfl (qai func49 rfl rfl) rfl rfl (by simp) ⟨trivial,trivial,trivial⟩ (by trivial) (qbw n (qba.mk v74 v75 v76) (1:Int) hx120) ?_
    rintro r0 o0 n0 ⟨rfl,rfl,rfl⟩ -
    refine qa0 hτ rfl rfl rfl<|qa4<|qb9 ?_
    refine qev (ι:=Nat × Str × Int × Bool × List STie × Int) (fun (m135,v123,v124,v125,v126,v127)=>St.of [(0,.d (.str (bstr s_))),(2,.ptr 0 0),(5,.ptr 3 0),(6,.ptr 4 0),(29,iv x120.1),(30,iv v127)] [.box [.d (.cx .f32 (0:Nat) (0:Nat)),.d (.cx .f32 (0:Nat) (0:Nat)),.d (.cx .f32 (0:Nat) (0:Nat)),.row 1 v72.length 0 v72.length,.row 2 v73.length 0 v73.length],.row 8 (v72.map qae),.row 5 (v73.map qah),.box [.d (.str (bstr v123)),iv v124,bv v125],.box [cxv x49.1.A,cxv x49.1.B,cxv x49.1.C,.row 5 v77.length 0 v77.length,.row 6 v126.length 0 v126.length],.row 8 (v77.map qae),.row 5 (v126.map qah)] f23.ntmps 0) (fun (m135,v123,v124,v125,v126,v127)=>qdz n s_ x49 v77 x120 m135 v123 v124 v125 v126 v127 = some r) (fun x=>x.1) (n,x120.2.s,x120.2.at_,x120.2.short,v78,(0:Int)) h (wk [0,1,2,3,4,5,6] (l:=[(0,.d (.str (bstr s_))),(2,.ptr 0 0),(5,.ptr 3 0),(6,.ptr 4 0),(29,iv x120.1),(30,iv (0:Int))]) (objs:=[.box [.d (.cx .f32 (0:Nat) (0:Nat)),.d (.cx .f32 (0:Nat) (0:Nat)),.d (.cx .f32 (0:Nat) (0:Nat)),.row 1 v72.length 0 v72.length,.row 2 v73.length 0 v73.length],.row 8 (v72.map qae),.row 5 (v73.map qah),.box [.d (.str (bstr x120.2.s)),iv x120.2.at_,bv x120.2.short],.box [cxv x49.1.A,cxv x49.1.B,cxv x49.1.C,.row 5 v77.length 0 v77.length,.row 6 v78.length 0 v78.length],.row 8 (v77.map qae),.row 5 (v78.map qah)])) ?_
    rintro ⟨m135,v123,v124,v125,v126,v127⟩ h
    replace h:qdz n s_ x49 v77 x120 m135 v123 v124 v125 v126 v127 = some r:=h
    rcases m135 with _ | m135
    ·rw [qdz] at h;cases h
    rw [qdz] at h
    refine qa6<|qa2<|qa0 hτ rfl rfl rfl<|qa4<|qa6 ?_
    refine qaw rfl (fun hc137=>?_) (fun hc137=>?_)
    ·have h:=if_t h hc137
     refine qb1<|qa6<|qb9<|qd4 ?_
     refine qab hτ [4] 0 rfl rfl rfl rfl rfl ?_
     refine qab hτ [4] 1 rfl rfl rfl rfl rfl ?_
     refine qag h fun x138 hx138 h=>?_
     refine qcy hτ false [3] [0,1,2,4,5,6] 2 rfl rfl rfl rfl (qai func51 rfl rfl) rfl rfl (by simp) ⟨trivial,trivial⟩ (by trivial) (impl_reader_tie_ok n (qba.mk v123 v124 v125) hx138) ⟨rfl,rfl,rfl,rfl,rfl,rfl,trivial⟩ ?_
     refine qbj hτ [0,1,2,3,4,5,6] 3 rfl rfl rfl rfl ⟨rfl,rfl,rfl,rfl,rfl,rfl,rfl,trivial⟩ ?_
     refine qcr h fun hg139 h=>?_
     refine qjr hτ [0,1,2,3,4,5,7] 4 rfl rfl rfl (Eq.trans rfl (or_append (f:=qah) v126 [x138.1] rfl)) ⟨⟨rfl,Nat.le_of_ble_eq_true rfl⟩,qco _,rfl,rfl,hg139,by decide,(all1 rfl)⟩ ⟨rfl,rfl,rfl,rfl,rfl,rfl,rfl,trivial⟩ ?_
     refine qab hτ [4] 5 rfl rfl rfl rfl rfl ?_
     refine qbj hτ [0,1,2,3,5,6,7] 6 rfl rfl rfl rfl ⟨rfl,rfl,rfl,rfl,rfl,rfl,rfl,trivial⟩ ?_
     refine qcs mixed (by kernel_rfl) ?_
     refine qa8 (wk [0,1,2,3,4,5,6] (l:=[(0,.d (.str (bstr s_))),(2,.ptr 0 0),(5,.ptr 3 0),(6,.ptr 4 0),(29,iv x120.1),(30,iv v127)]) (objs:=[.box [.d (.cx .f32 (0:Nat) (0:Nat)),.d (.cx .f32 (0:Nat) (0:Nat)),.d (.cx .f32 (0:Nat) (0:Nat)),.row 1 v72.length 0 v72.length,.row 2 v73.length 0 v73.length],.row 8 (v72.map qae),.row 5 (v73.map qah),.box [.d (.str (bstr x138.2.s)),iv x138.2.at_,bv x138.2.short],.box [cxv x49.1.A,cxv x49.1.B,cxv x49.1.C,.row 5 v77.length 0 v77.length,.row 6 ((v126 ++ [x138.1]).length) 0 ((v126 ++ [x138.1]).length)],.row 8 (v77.map qae),.row 5 ((v126 ++ [x138.1]).map qah)])) ?_
     refine qa2<|qa0 hτ rfl rfl rfl<|qa0 hτ rfl rfl rfl<|qa4 ?_
     exact ⟨(m135,x138.2.s,x138.2.at_,x138.2.short,(v126 ++ [x138.1]),(w64 (v127 + (1:Int)))),h,Nat.lt_succ_self m135,(wk [0,1,2,3,4,5,6] (l:=[(0,.d (.str (bstr s_))),(2,.ptr 0 0),(5,.ptr 3 0),(6,.ptr 4 0),(29,iv x120.1),(30,iv (w64 (v127 + (1:Int))))]) (objs:=[.box [.d (.cx .f32 (0:Nat) (0:Nat)),.d (.cx .f32 (0:Nat) (0:Nat)),.d (.cx .f32 (0:Nat) (0:Nat)),.row 1 v72.length 0 v72.length,.row 2 v73.length 0 v73.length],.row 8 (v72.map qae),.row 5 (v73.map qah),.box [.d (.str (bstr x138.2.s)),iv x138.2.at_,bv x138.2.short],.box [cxv x49.1.A,cxv x49.1.B,cxv x49.1.C,.row 5 v77.length 0 v77.length,.row 6 ((v126 ++ [x138.1]).length) 0 ((v126 ++ [x138.1]).length)],.row 8 (v77.map qae),.row 5 ((v126 ++ [x138.1]).map qah)]))⟩
    ·have h:=if_f h hc137
     refine qe4 ?_
     refine qa8 (wk [0,1,2,3,4,5,6] (l:=[(0,.d (.str (bstr s_))),(2,.ptr 0 0),(5,.ptr 3 0),(6,.ptr 4 0)]) (objs:=[.box [.d (.cx .f32 (0:Nat) (0:Nat)),.d (.cx .f32 (0:Nat) (0:Nat)),.d (.cx .f32 (0:Nat) (0:Nat)),.row 1 v72.length 0 v72.length,.row 2 v73.length 0 v73.length],.row 8 (v72.map qae),.row 5 (v73.map qah),.box [.d (.str (bstr v123)),iv v124,bv v125],.box [cxv x49.1.A,cxv x49.1.B,cxv x49.1.C,.row 5 v77.length 0 v77.length,.row 6 v126.length 0 v126.length],.row 8 (v77.map qae),.row 5 (v126.map qah)])) ?_
     exact hk119 (v123,v124,v125,v126) h
  ·refine qa6<|qa6 ?_
   refine qa8 (wk [0,1,2] (l:=[(0,.d (.str (bstr s_))),(2,.ptr 0 0),(5,.ptr 1 0),(6,.ptr 2 0)]) (objs:=[.box [.d (.cx .f32 (0:Nat) (0:Nat)),.d (.cx .f32 (0:Nat) (0:Nat)),.d (.cx .f32 (0:Nat) (0:Nat)),.d (.nils),.d (.nils)],.box [.d (.str (bstr x49.2.s)),iv x49.2.at_,bv x49.2.short],.box [cxv x49.1.A,cxv x49.1.B,cxv x49.1.C,.d (.nils),.d (.nils)]])) ?_
   refine qa2 ?_
   refine qag h fun x141 hx141 h=>?_
   refine qac hτ false [1] rfl rfl rfl (qai func49 rfl rfl) rfl rfl (by simp) ⟨trivial,trivial,trivial⟩ (by trivial) (qbw n x49.2 (1:Int) hx141) ?_
   rintro r0 o0 n0 ⟨rfl,rfl,rfl⟩ -
   refine qa0 hτ rfl rfl rfl<|qa4<|qb9 ?_
   refine qev (ι:=Nat × List SBus × List STie × Str × Int × Bool × List SBus × List STie × Int) (fun (m163,v145,v146,v147,v148,v149,v150,v151,v152)=>St.of [(0,.d (.str (bstr s_))),(2,.ptr 0 0),(5,.ptr 3 0),(6,.ptr 4 0),(17,iv x141.1),(18,iv v152)] [.box [.d (.cx .f32 (0:Nat) (0:Nat)),.d (.cx .f32 (0:Nat) (0:Nat)),.d (.cx .f32 (0:Nat) (0:Nat)),.row 1 v145.length 0 v145.length,.row 2 v146.length 0 v146.length],.row 8 (v145.map qae),.row 5 (v146.map qah),.box [.d (.str (bstr v147)),iv v148,bv v149],.box [cxv x49.1.A,cxv x49.1.B,cxv x49.1.C,.row 5 v150.length 0 v150.length,.row 6 v151.length 0 v151.length],.row 8 (v150.map qae),.row 5 (v151.map qah)] f23.ntmps 0) (fun (m163,v145,v146,v147,v148,v149,v150,v151,v152)=>qe0 n s_ x49 x141 m163 v145 v146 v147 v148 v149 v150 v151 v152 = some r) (fun x=>x.1) (n,([]:List SBus),([]:List STie),x141.2.s,x141.2.at_,x141.2.short,([]:List SBus),([]:List STie),(0:Int)) h (Weak.trans (Weak.trans (wk [0,1,2] (l:=[(0,.d (.str (bstr s_))),(2,.ptr 0 0),(5,.ptr 1 0),(6,.ptr 2 0),(17,iv x141.1),(18,iv (0:Int))]) (objs:=[.box [.d (.cx .f32 (0:Nat) (0:Nat)),.d (.cx .f32 (0:Nat) (0:Nat)),.d (.cx .f32 (0:Nat) (0:Nat)),.d (.nils),.d (.nils)],.box [.d (.str (bstr x141.2.s)),iv x141.2.at_,bv x141.2.short],.box [cxv x49.1.A,cxv x49.1.B,cxv x49.1.C,.d (.nils),.d (.nils)]])) (qe3 [8,5,8,5] (l':=[(0,.d (.str (bstr s_))),(2,.ptr 0 0),(5,.ptr 1 0),(6,.ptr 2 0),(17,iv x141.1),(18,iv (0:Int))]) (objs':=[.box [.d (.cx .f32 (0:Nat) (0:Nat)),.d (.cx .f32 (0:Nat) (0:Nat)),.d (.cx .f32 (0:Nat) (0:Nat)),.row 3 (([]:List SBus).length) 0 (([]:List SBus).length),.row 4 (([]:List STie).length) 0 (([]:List STie).length)],.box [.d (.str (bstr x141.2.s)),iv x141.2.at_,bv x141.2.short],.box [cxv x49.1.A,cxv x49.1.B,cxv x49.1.C,.row 5 (([]:List SBus).length) 0 (([]:List SBus).length),.row 6 (([]:List STie).length) 0 (([]:List STie).length)]]) (.cons (.c (.refl _)) (.cons (.c (.refl _)) (.cons (.c (.refl _)) (.cons (.c (.refl _)) (.cons (.c (.refl _)) (.cons (.c (.refl _)) .nil)))))) (.cons (.box (.cons (.refl _) (.cons (.refl _) (.cons (.refl _) (.cons (.ghost ⟨Nat.le_of_ble_eq_true rfl,Nat.le_of_ble_eq_true rfl⟩) (.cons (.ghost ⟨Nat.le_of_ble_eq_true rfl,Nat.le_of_ble_eq_true rfl⟩) .nil)))))) (.cons (.refl _) (.cons (.box (.cons (.refl _) (.cons (.refl _) (.cons (.refl _) (.cons (.ghost ⟨Nat.le_of_ble_eq_true rfl,Nat.le_of_ble_eq_true rfl⟩) (.cons (.ghost ⟨Nat.le_of_ble_eq_true rfl,Nat.le_of_ble_eq_true rfl⟩) .nil)))))) .nil))))) (wk [0,3,4,1,2,5,6] (l:=[(0,.d (.str (bstr s_))),(2,.ptr 0 0),(5,.ptr 3 0),(6,.ptr 4 0),(17,iv x141.1),(18,iv (0:Int))]) (objs:=[.box [.d (.cx .f32 (0:Nat) (0:Nat)),.d (.cx .f32 (0:Nat) (0:Nat)),.d (.cx .f32 (0:Nat) (0:Nat)),.row 1 (([]:List SBus).length) 0 (([]:List SBus).length),.row 2 (([]:List STie).length) 0 (([]:List STie).length)],.row 8 (([]:List SBus).map qae),.row 5 (([]:List STie).map qah),.box [.d (.str (bstr x141.2.s)),iv x141.2.at_,bv x141.2.short],.box [cxv x49.1.A,cxv x49.1.B,cxv x49.1.C,.row 5 (([]:List SBus).length) 0 (([]:List SBus).length),.row 6 (([]:List STie).length) 0 (([]:List STie).length)],.row 8 (([]:List SBus).map qae),.row 5 (([]:List STie).map qah)]))) ?_
   rintro ⟨m163,v145,v146,v147,v148,v149,v150,v151,v152⟩ h
   replace h:qe0 n s_ x49 x141 m163 v145 v146 v147 v148 v149 v150 v151 v152 = some r:=h
   rcases m163 with _ | m163
   ·rw [qe0] at h;cases h
   rw [qe0] at h
   refine qa6<|qa2<|qa0 hτ rfl rfl rfl<|qa4<|qa6 ?_
   refine qaw rfl (fun hc165=>?_) (fun hc165=>?_)
   ·have h:=if_t h hc165
    refine qb1<|qa6<|qb9<|qd4 ?_
    refine qab hτ [4] 0 rfl rfl rfl rfl rfl ?_
    refine qab hτ [4] 1 rfl rfl rfl rfl rfl ?_
    refine qab hτ [4] 2 rfl rfl rfl rfl rfl ?_
    refine qag h fun x166 hx166 h=>?_
    refine qcy hτ false [3] [0,1,2,4,5,6] 3 rfl rfl rfl rfl (qai func50 rfl rfl) rfl rfl (by simp) ⟨trivial,trivial⟩ (by trivial) (impl_reader_bus_ok n (qba.mk v147 v148 v149) hx166) ⟨rfl,rfl,rfl,rfl,rfl,rfl,trivial⟩ ?_
    refine qbj hτ [0,1,2,3,4,5,6] 4 rfl rfl rfl rfl ⟨rfl,rfl,rfl,rfl,rfl,rfl,rfl,trivial⟩ ?_
    refine qcr h fun hg167 h=>?_
    refine qjr hτ [0,1,2,3,4,6,7] 5 rfl rfl rfl (Eq.trans rfl (or_append (f:=qae) v150 [x166.1] rfl)) ⟨⟨rfl,Nat.le_of_ble_eq_true rfl⟩,qco _,rfl,rfl,hg167,by decide,(all1 rfl)⟩ ⟨rfl,rfl,rfl,rfl,rfl,rfl,rfl,trivial⟩ ?_
    refine qab hτ [4] 6 rfl rfl rfl rfl rfl ?_
    refine qab hτ [4] 7 rfl rfl rfl rfl rfl ?_
    refine qbj hτ [0,1,2,3,5,6,7] 8 rfl rfl rfl rfl ⟨rfl,rfl,rfl,rfl,rfl,rfl,rfl,trivial⟩ ?_
    refine qcs mixed (by kernel_rfl) ?_
    refine qa8 (wk [0,1,2,3,4,5,6] (l:=[(0,.d (.str (bstr s_))),(2,.ptr 0 0),(5,.ptr 3 0),(6,.ptr 4 0),(17,iv x141.1),(18,iv v152)]) (objs:=[.box [.d (.cx .f32 (0:Nat) (0:Nat)),.d (.cx .f32 (0:Nat) (0:Nat)),.d (.cx .f32 (0:Nat) (0:Nat)),.row 1 v145.length 0 v145.length,.row 2 v146.length 0 v146.length],.row 8 (v145.map qae),.row 5 (v146.map qah),.box [.d (.str (bstr x166.2.s)),iv x166.2.at_,bv x166.2.short],.box [cxv x49.1.A,cxv x49.1.B,cxv x49.1.C,.row 5 ((v150 ++ [x166.1]).length) 0 ((v150 ++ [x166.1]).length),.row 6 v151.length 0 v151.length],.row 8 ((v150 ++ [x166.1]).map qae),.row 5 (v151.map qah)])) ?_
    refine qa2<|qa0 hτ rfl rfl rfl<|qa0 hτ rfl rfl rfl<|qa4 ?_
    exact ⟨(m163,v145,v146,x166.2.s,x166.2.at_,x166.2.short,(v150 ++ [x166.1]),v151,(w64 (v152 + (1:Int)))),h,Nat.lt_succ_self m163,(wk [0,1,2,3,4,5,6] (l:=[(0,.d (.str (bstr s_))),(2,.ptr 0 0),(5,.ptr 3 0),(6,.ptr 4 0),(17,iv x141.1),(18,iv (w64 (v152 + (1:Int))))]) (objs:=[.box [.d (.cx .f32 (0:Nat) (0:Nat)),.d (.cx .f32 (0:Nat) (0:Nat)),.d (.cx .f32 (0:Nat) (0:Nat)),.row 1 v145.length 0 v145.length,.row 2 v146.length 0 v146.length],.row 8 (v145.map qae),.row 5 (v146.map qah),.box [.d (.str (bstr x166.2.s)),iv x166.2.at_,bv x166.2.short],.box [cxv x49.1.A,cxv x49.1.B,cxv x49.1.C,.row 5 ((v150 ++ [x166.1]).length) 0 ((v150 ++ [x166.1]).length),.row 6 v151.length 0 v151.length],.row 8 ((v150 ++ [x166.1]).map qae),.row 5 (v151.map qah)]))⟩
   ·have h:=if_f h hc165
    refine qe4 ?_
    refine qa8 (wk [0,1,2,3,4,5,6] (l:=[(0,.d (.str (bstr s_))),(2,.ptr 0 0),(5,.ptr 3 0),(6,.ptr 4 0)]) (objs:=[.box [.d (.cx .f32 (0:Nat) (0:Nat)),.d (.cx .f32 (0:Nat) (0:Nat)),.d (.cx .f32 (0:Nat) (0:Nat)),.row 1 v145.length 0 v145.length,.row 2 v146.length 0 v146.length],.row 8 (v145.map qae),.row 5 (v146.map qah),.box [.d (.str (bstr v147)),iv v148,bv v149],.box [cxv x49.1.A,cxv x49.1.B,cxv x49.1.C,.row 5 v150.length 0 v150.length,.row 6 v151.length 0 v151.length],.row 8 (v150.map qae),.row 5 (v151.map qah)])) ?_
    exact hk140 (v145,v146,v147,v148,v149,v150,v151) h
theorem qn1 (n:Nat) (s_:Str) {r:qbg × Int × Bool} (h:qgv n s_ = some r):qax prog false 23 [.d (.str (bstr s_))] [] (fun v o new=>v = .tup [.agg [cxv r.1.qa1.Source.A,cxv r.1.qa1.Source.B,cxv r.1.qa1.Source.C,.row 0 r.1.qa1.qa5.length 0 r.1.qa1.qa5.length,.row 1 r.1.Ties.length 0 r.1.Ties.length],iv r.2.1,bv r.2.2]∧o = []∧new = [.row 8 (r.1.qa1.qa5.map qae),.row 5 (r.1.Ties.map qah)]):=impl_loadGrid_ok_fr0 false n s_ h
def qfo (n:Nat) (x37:Int × qba) (x38:Int × qba) (v66:List qaa) (v67:List qaa):Option (qav × Bool) :=
 some ((qav.mk v66 v67 x37.1 (decide (x38.1 = (1:Int)))),true)
def qek (n:Nat) (x37:Int × qba) (x38:Int × qba) (v66:List qaa) (v67:List qaa) (v75:Bool):Option (qav × Bool) :=
 if v75 = true then
  some ((qav.mk ([]:List qaa) ([]:List qaa) (0:Int) false),false)
 else
  qfo n x37 x38 v66 v67
def qej (n:Nat) (s_:Str) (x37:Int × qba) (x38:Int × qba) (v64:List qaa) (v65:List qaa) (v66:List qaa) (v67:List qaa):Option (qav × Bool) :=
 (qga n (qav.mk v66 v67 x37.1 (decide (x38.1 = (1:Int))))).bind fun x72 =>
 if x72.2 = true then
  qek n x37 x38 v66 v67 (!(decide (x72.1 = s_)))
 else
  qek n x37 x38 v66 v67 true
def qcz (n:Nat) (s_:Str) (buses_:Int) (x37:Int × qba) (x38:Int × qba):Nat→List qaa→List qaa→Str→Int→Bool→List qaa→List qaa→Int→Option (qav × Bool)
 | 0,_,_,_,_,_,_,_,_=>none
 | m105 + 1,v85,v86,v87,v88,v89,v90,v91,v92 =>
  if v92 < buses_ then
   (qcb n (qba.mk v87 v88 v89)).bind fun x108 =>
   grd (room (v90.length + 1) 24) <|
   (qcb n x108.2).bind fun x110 =>
   grd (room (v91.length + 1) 24) <|
   (qcz n s_ buses_ x37 x38 m105) v85 v86 x110.2.s x110.2.at_ x110.2.short (v90 ++ [x108.1]) (v91 ++ [x110.1]) (w64 (v92 + (1:Int)))
  else
   qej n s_ x37 x38 v85 v86 v90 v91
def qfn (n:Nat) (s_:Str) (buses_:Int):Option (qav × Bool) :=
 (qb6 n (qba.mk s_ (0:Int) false) (1:Int)).bind fun x37 =>
 (qb6 n x37.2 (1:Int)).bind fun x38 =>
 qcz n s_ buses_ x37 x38 n ([]:List qaa) ([]:List qaa) x38.2.s x38.2.at_ x38.2.short ([]:List qaa) ([]:List qaa) (0:Int)
def qdd (n:Nat) (s_:Str) (buses_:Int) (v116:Bool):Option (qav × Bool) :=
 if v116 = true then
  some ((qav.mk ([]:List qaa) ([]:List qaa) (0:Int) false),false)
 else
  qfn n s_ buses_
def qg2 (n:Nat) (s_:Str) (buses_:Int):Option (qav × Bool) :=
 (qdg n buses_ (1:Int) (16:Int)).bind fun x119 =>
 if x119 = true then
  qdd n s_ buses_ (!(decide ((s_.length:Int) = (w64 ((2:Int) + (w64 ((48:Int) * buses_)))))))
 else
  qdd n s_ buses_ true
theorem impl_FlowOfBytes_ok_fr0 (fr:Bool) (n:Nat) (s_:Str) (buses_:Int) {r:qav × Bool} (h:qg2 n s_ buses_ = some r):qax prog fr 32 [.d (.str (bstr s_)),iv buses_] [] (fun v o new=>v = .tup [.agg [.row 0 r.1.qap.length 0 r.1.qap.length,.row 1 r.1.qau.length 0 r.1.qau.length,iv r.1.Rounds,bv r.1.qdo],bv r.2]∧o = []∧new = [.row 3 (r.1.qap.map qa7),.row 3 (r.1.qau.map qa7)]):=by
 refine qaj hτ func32 rfl (by simp) (by simp) ?_
 unfold qg2 at h
 refine qa6<|qa2<|qaf hτ rfl rfl rfl<|qa0 hτ rfl rfl rfl<|qa4 ?_
 refine qbn (ι:=Unit) (fun _=>St.of [(0,.d (.str (bstr s_))),(1,iv buses_),(4,.ptr 0 0)] [.box [.d (.nils),.d (.nils),iv (0:Int),bv false]] f32.ntmps 0) (fun _=>qfn n s_ buses_ = some r) ?_ (fun hk112=>?_)
 ·rintro ⟨⟩ h
  replace h:qfn n s_ buses_ = some r:=h
  unfold qfn at h
  refine qa6<|qa2<|qa0 hτ rfl rfl rfl<|qa0 hτ rfl rfl rfl<|qaf hτ rfl rfl rfl<|qaf hτ rfl rfl rfl<|qa4<|qa6 ?_
  refine qa2 ?_
  refine qag h fun x37 hx37 h=>?_
  refine qac hτ false [1] rfl rfl rfl (qai func49 rfl rfl) rfl rfl (by simp) ⟨trivial,trivial,trivial⟩ (by trivial) (qbw n (qba.mk s_ (0:Int) false) (1:Int) hx37) ?_
  rintro r0 o0 n0 ⟨rfl,rfl,rfl⟩ -
  refine qa0 hτ rfl rfl rfl<|qaf hτ rfl rfl rfl<|qaf hτ rfl rfl rfl<|qa4<|qa6 ?_
  refine qa8 (wk [0,1,2] (l:=[(0,.d (.str (bstr s_))),(1,iv buses_),(4,.ptr 0 0),(6,.ptr 1 0),(7,.ptr 2 0)]) (objs:=[.box [.d (.nils),.d (.nils),iv (0:Int),bv false],.box [.d (.str (bstr x37.2.s)),iv x37.2.at_,bv x37.2.short],.box [.d (.nils),.d (.nils),iv x37.1,bv false]])) ?_
  refine qa2 ?_
  refine qag h fun x38 hx38 h=>?_
  refine qac hτ false [1] rfl rfl rfl (qai func49 rfl rfl) rfl rfl (by simp) ⟨trivial,trivial,trivial⟩ (by trivial) (qbw n x37.2 (1:Int) hx38) ?_
  rintro r0 o0 n0 ⟨rfl,rfl,rfl⟩ -
  refine qa0 hτ (v:=bv (decide (x38.1 = (1:Int)))) rfl rfl (qim _ _) ?_
  refine qa0 hτ rfl rfl rfl<|qaf hτ rfl rfl rfl<|qa4 ?_
  refine qbn (ι:=List qaa × List qaa × List qaa × List qaa) (fun (v64,v65,v66,v67)=>St.of [(0,.d (.str (bstr s_))),(4,.ptr 0 0),(7,.ptr 3 0)] [.box [.row 1 v64.length 0 v64.length,.row 2 v65.length 0 v65.length,iv (0:Int),bv false],.row 3 (v64.map qa7),.row 3 (v65.map qa7),.box [.row 4 v66.length 0 v66.length,.row 5 v67.length 0 v67.length,iv x37.1,bv (decide (x38.1 = (1:Int)))],.row 3 (v66.map qa7),.row 3 (v67.map qa7)] f32.ntmps 0) (fun (v64,v65,v66,v67)=>qej n s_ x37 x38 v64 v65 v66 v67 = some r) ?_ (fun hk79=>?_)
  ·rintro ⟨v64,v65,v66,v67⟩ h
   replace h:qej n s_ x37 x38 v64 v65 v66 v67 = some r:=h
   unfold qej at h
   refine qbn (ι:=Unit) (fun _=>St.of [(4,.ptr 0 0),(7,.ptr 3 0)] [.box [.row 1 v64.length 0 v64.length,.row 2 v65.length 0 v65.length,iv (0:Int),bv false],.row 3 (v64.map qa7),.row 3 (v65.map qa7),.box [.row 4 v66.length 0 v66.length,.row 5 v67.length 0 v67.length,iv x37.1,bv (decide (x38.1 = (1:Int)))],.row 3 (v66.map qa7),.row 3 (v67.map qa7)] f32.ntmps 0) (fun _=>qfo n x37 x38 v66 v67 = some r) ?_ (fun hk71=>?_)
   ·rintro ⟨⟩ h
    replace h:qfo n x37 x38 v66 v67 = some r:=h
    unfold qfo at h
    refine qa6<|qa2<|qa0 hτ rfl rfl rfl<|qaf hτ rfl rfl rfl<|qa0 hτ rfl rfl rfl<|qa4 ?_
    refine qa8 (wk [0,4,5] (l:=[(4,.ptr 0 0),(5,bv true)]) (objs:=[.box [.row 1 v66.length 0 v66.length,.row 2 v67.length 0 v67.length,iv x37.1,bv (decide (x38.1 = (1:Int)))],.row 3 (v66.map qa7),.row 3 (v67.map qa7)])) ?_
    refine qaq ?_
    have hr:=Option.some.inj h
    subst hr
    exact qb0 (.inr rfl) [1,2] (objs':=[]) (new:=[.row 3 (v66.map qa7),.row 3 (v67.map qa7)]) rfl (by simp) (by simp) rfl (by trivial) rfl rfl (by trivial) (fun _=>⟨by simp [V.flat,V.qiq,V.qf9,D.flat],(qbl (qdy qhe _) (qbl (qdy qhe _) qct))⟩) ⟨rfl,rfl,rfl⟩
   ·refine qa6<|qa6<|qa2<|qa0 hτ rfl rfl rfl ?_
    refine qar (qbk [0,1,2,3,4,5] (l:=[(0,.d (.str (bstr s_))),(4,.ptr 0 0),(7,.ptr 3 0),(46,.agg [.row 4 v66.length 0 v66.length,.row 5 v67.length 0 v67.length,iv x37.1,bv (decide (x38.1 = (1:Int)))])]) (objs:=[.box [.row 1 v64.length 0 v64.length,.row 2 v65.length 0 v65.length,iv (0:Int),bv false],.row 3 (v64.map qa7),.row 3 (v65.map qa7),.box [.row 4 v66.length 0 v66.length,.row 5 v67.length 0 v67.length,iv x37.1,bv (decide (x38.1 = (1:Int)))],.row 3 (v66.map qa7),.row 3 (v67.map qa7)]) rfl (by simp) rfl (by trivial) ⟨rfl,trivial,rfl,trivial,rfl,trivial,rfl,(by trivial),trivial⟩) ?_
    refine qag h fun x72 hx72 h=>?_
    refine qac hτ true [] rfl rfl rfl (qai func19 rfl rfl) (qak (qke (qak (qbx (f:=qa7) (j:=4) (sz:=3) v66 rfl rfl rfl) (qak (qbx (f:=qa7) (j:=5) (sz:=3) v67 rfl rfl rfl) (qak rfl (qak rfl qc9))))) qc9) rfl (by simp) ⟨⟨(qby (f:=qa7) (j:=4) (sz:=3) v66 rfl rfl rfl),(qby (f:=qa7) (j:=5) (sz:=3) v67 rfl rfl rfl),trivial,trivial⟩,trivial⟩ (by trivial) (impl_FlowBytes_ok_fr n (qav.mk v66 v67 x37.1 (decide (x38.1 = (1:Int)))) hx72) ?_
    rintro r0 o0 n0 ⟨rfl,rfl,rfl⟩ -
    refine qa0 hτ rfl rfl rfl<|qa0 hτ rfl rfl rfl<|qa0 hτ rfl rfl rfl<|qa0 hτ rfl rfl rfl<|qa0 hτ rfl rfl rfl<|qa4 ?_
    refine qbn (ι:=Bool) (fun v75=>St.of [(4,.ptr 0 0),(7,.ptr 3 0),(56,bv v75)] [.box [.row 1 v64.length 0 v64.length,.row 2 v65.length 0 v65.length,iv (0:Int),bv false],.row 3 (v64.map qa7),.row 3 (v65.map qa7),.box [.row 4 v66.length 0 v66.length,.row 5 v67.length 0 v67.length,iv x37.1,bv (decide (x38.1 = (1:Int)))],.row 3 (v66.map qa7),.row 3 (v67.map qa7)] f32.ntmps 0) (fun v75=>qek n x37 x38 v66 v67 v75 = some r) ?_ (fun hk77=>?_)
    ·rintro v75 h
     replace h:qek n x37 x38 v66 v67 v75 = some r:=h
     unfold qek at h
     refine qaw rfl (fun hc76=>?_) (fun hc76=>?_)
     ·have h:=qcv h hc76
      refine qa6<|qa2<|qa0 hτ rfl rfl rfl<|qaf hτ rfl rfl rfl<|qa0 hτ rfl rfl rfl<|qa4 ?_
      refine qa8 (wk [0] (l:=[(4,.ptr 0 0),(5,bv false)]) (objs:=[.box [.d (.nils),.d (.nils),iv (0:Int),bv false]])) ?_
      refine qa8 (qe3 [3,3] (l':=[(4,.ptr 0 0),(5,bv false)]) (objs':=[.box [.row 1 (([]:List qaa).length) 0 (([]:List qaa).length),.row 2 (([]:List qaa).length) 0 (([]:List qaa).length),iv (0:Int),bv false]]) (.cons (.c (.refl _)) (.cons (.c (.refl _)) .nil)) (.cons (.box (.cons (.ghost ⟨Nat.le_of_ble_eq_true rfl,Nat.le_of_ble_eq_true rfl⟩) (.cons (.ghost ⟨Nat.le_of_ble_eq_true rfl,Nat.le_of_ble_eq_true rfl⟩) (.cons (.refl _) (.cons (.refl _) .nil))))) .nil)) ?_
      refine qaq ?_
      have hr:=Option.some.inj h
      subst hr
      exact qb0 (.inr rfl) [1,2] (objs':=[]) (new:=[.row 3 (([]:List qaa).map qa7),.row 3 (([]:List qaa).map qa7)]) rfl (by simp) (by simp) rfl (by trivial) rfl rfl (by trivial) (fun _=>⟨by simp [V.flat,V.qiq,V.qf9,D.flat],(qbl (qdy qhe _) (qbl (qdy qhe _) qct))⟩) ⟨rfl,rfl,rfl⟩
     ·have h:=qcu h hc76
      refine qb1 ?_
      refine qa8 (wk [0,1,2,3,4,5] (l:=[(4,.ptr 0 0),(7,.ptr 3 0)]) (objs:=[.box [.row 1 v64.length 0 v64.length,.row 2 v65.length 0 v65.length,iv (0:Int),bv false],.row 3 (v64.map qa7),.row 3 (v65.map qa7),.box [.row 4 v66.length 0 v66.length,.row 5 v67.length 0 v67.length,iv x37.1,bv (decide (x38.1 = (1:Int)))],.row 3 (v66.map qa7),.row 3 (v67.map qa7)])) ?_
      exact hk71 () h
    ·refine qa6 ?_
     refine qa8 (wk [0,1,2,3,4,5] (l:=[(0,.d (.str (bstr s_))),(4,.ptr 0 0),(7,.ptr 3 0),(8,.d (.str (bstr x72.1))),(9,bv x72.2)]) (objs:=[.box [.row 1 v64.length 0 v64.length,.row 2 v65.length 0 v65.length,iv (0:Int),bv false],.row 3 (v64.map qa7),.row 3 (v65.map qa7),.box [.row 4 v66.length 0 v66.length,.row 5 v67.length 0 v67.length,iv x37.1,bv (decide (x38.1 = (1:Int)))],.row 3 (v66.map qa7),.row 3 (v67.map qa7)])) ?_
     refine qa2<|qa0 hτ rfl rfl rfl<|qa0 hτ rfl rfl rfl<|qa0 hτ rfl rfl rfl ?_
     refine qay 52 rfl (fun hb78=>?_) (fun hb78=>?_)
     ·have hb78:=qi4 hb78
      have h:=qcu h hb78
      refine qa3 rfl rfl<|qa3 rfl rfl<|qa3 rfl rfl<|qa0 hτ rfl rfl rfl<|qa4 ?_
      refine qa8 (wk [0,1,2,3,4,5] (l:=[(4,.ptr 0 0),(7,.ptr 3 0),(56,bv true)]) (objs:=[.box [.row 1 v64.length 0 v64.length,.row 2 v65.length 0 v65.length,iv (0:Int),bv false],.row 3 (v64.map qa7),.row 3 (v65.map qa7),.box [.row 4 v66.length 0 v66.length,.row 5 v67.length 0 v67.length,iv x37.1,bv (decide (x38.1 = (1:Int)))],.row 3 (v66.map qa7),.row 3 (v67.map qa7)])) ?_
      exact hk77 true h
     ·have hb78:=qi3 hb78
      have h:=qcv h hb78
      refine qa0 hτ rfl rfl rfl<|qa0 hτ rfl rfl rfl ?_
      refine qa0 hτ (v:=bv (!(decide (x72.1 = s_)))) rfl rfl (qtt _ _) ?_
      refine qa0 hτ rfl rfl rfl<|qa4 ?_
      refine qa8 (wk [0,1,2,3,4,5] (l:=[(4,.ptr 0 0),(7,.ptr 3 0),(56,bv (!(decide (x72.1 = s_))))]) (objs:=[.box [.row 1 v64.length 0 v64.length,.row 2 v65.length 0 v65.length,iv (0:Int),bv false],.row 3 (v64.map qa7),.row 3 (v65.map qa7),.box [.row 4 v66.length 0 v66.length,.row 5 v67.length 0 v67.length,iv x37.1,bv (decide (x38.1 = (1:Int)))],.row 3 (v66.map qa7),.row 3 (v67.map qa7)])) ?_
      exact hk77 (!(decide (x72.1 = s_))) h
  ·refine qa6<|qa6<|qa2<|qa0 hτ rfl rfl rfl<|qa0 hτ rfl rfl rfl<|qa4<|qb9 ?_
   refine qev (ι:=Nat × List qaa × List qaa × Str × Int × Bool × List qaa × List qaa × Int) (fun (m105,v85,v86,v87,v88,v89,v90,v91,v92)=>St.of [(0,.d (.str (bstr s_))),(4,.ptr 0 0),(6,.ptr 3 0),(7,.ptr 4 0),(29,iv buses_),(30,iv v92)] [.box [.row 1 v85.length 0 v85.length,.row 2 v86.length 0 v86.length,iv (0:Int),bv false],.row 3 (v85.map qa7),.row 3 (v86.map qa7),.box [.d (.str (bstr v87)),iv v88,bv v89],.box [.row 5 v90.length 0 v90.length,.row 6 v91.length 0 v91.length,iv x37.1,bv (decide (x38.1 = (1:Int)))],.row 3 (v90.map qa7),.row 3 (v91.map qa7)] f32.ntmps 0) (fun (m105,v85,v86,v87,v88,v89,v90,v91,v92)=>qcz n s_ buses_ x37 x38 m105 v85 v86 v87 v88 v89 v90 v91 v92 = some r) (fun x=>x.1) (n,([]:List qaa),([]:List qaa),x38.2.s,x38.2.at_,x38.2.short,([]:List qaa),([]:List qaa),(0:Int)) h (Weak.trans (Weak.trans (wk [0,1,2] (l:=[(0,.d (.str (bstr s_))),(4,.ptr 0 0),(6,.ptr 1 0),(7,.ptr 2 0),(29,iv buses_),(30,iv (0:Int))]) (objs:=[.box [.d (.nils),.d (.nils),iv (0:Int),bv false],.box [.d (.str (bstr x38.2.s)),iv x38.2.at_,bv x38.2.short],.box [.d (.nils),.d (.nils),iv x37.1,bv (decide (x38.1 = (1:Int)))]])) (qe3 [3,3,3,3] (l':=[(0,.d (.str (bstr s_))),(4,.ptr 0 0),(6,.ptr 1 0),(7,.ptr 2 0),(29,iv buses_),(30,iv (0:Int))]) (objs':=[.box [.row 3 (([]:List qaa).length) 0 (([]:List qaa).length),.row 4 (([]:List qaa).length) 0 (([]:List qaa).length),iv (0:Int),bv false],.box [.d (.str (bstr x38.2.s)),iv x38.2.at_,bv x38.2.short],.box [.row 5 (([]:List qaa).length) 0 (([]:List qaa).length),.row 6 (([]:List qaa).length) 0 (([]:List qaa).length),iv x37.1,bv (decide (x38.1 = (1:Int)))]]) (.cons (.c (.refl _)) (.cons (.c (.refl _)) (.cons (.c (.refl _)) (.cons (.c (.refl _)) (.cons (.c (.refl _)) (.cons (.c (.refl _)) .nil)))))) (.cons (.box (.cons (.ghost ⟨Nat.le_of_ble_eq_true rfl,Nat.le_of_ble_eq_true rfl⟩) (.cons (.ghost ⟨Nat.le_of_ble_eq_true rfl,Nat.le_of_ble_eq_true rfl⟩) (.cons (.refl _) (.cons (.refl _) .nil))))) (.cons (.refl _) (.cons (.box (.cons (.ghost ⟨Nat.le_of_ble_eq_true rfl,Nat.le_of_ble_eq_true rfl⟩) (.cons (.ghost ⟨Nat.le_of_ble_eq_true rfl,Nat.le_of_ble_eq_true rfl⟩) (.cons (.refl _) (.cons (.refl _) .nil))))) .nil))))) (wk [0,3,4,1,2,5,6] (l:=[(0,.d (.str (bstr s_))),(4,.ptr 0 0),(6,.ptr 3 0),(7,.ptr 4 0),(29,iv buses_),(30,iv (0:Int))]) (objs:=[.box [.row 1 (([]:List qaa).length) 0 (([]:List qaa).length),.row 2 (([]:List qaa).length) 0 (([]:List qaa).length),iv (0:Int),bv false],.row 3 (([]:List qaa).map qa7),.row 3 (([]:List qaa).map qa7),.box [.d (.str (bstr x38.2.s)),iv x38.2.at_,bv x38.2.short],.box [.row 5 (([]:List qaa).length) 0 (([]:List qaa).length),.row 6 (([]:List qaa).length) 0 (([]:List qaa).length),iv x37.1,bv (decide (x38.1 = (1:Int)))],.row 3 (([]:List qaa).map qa7),.row 3 (([]:List qaa).map qa7)]))) ?_
   rintro ⟨m105,v85,v86,v87,v88,v89,v90,v91,v92⟩ h
   replace h:qcz n s_ buses_ x37 x38 m105 v85 v86 v87 v88 v89 v90 v91 v92 = some r:=h
   rcases m105 with _ | m105
   ·rw [qcz] at h;cases h
   rw [qcz] at h
   refine qa6<|qa2<|qa0 hτ rfl rfl rfl<|qa4<|qa6 ?_
   refine qaw rfl (fun hc107=>?_) (fun hc107=>?_)
   ·have h:=if_t h hc107
    refine qb1<|qa6<|qb9<|qa6<|qd4 ?_
    refine qab hτ [4] 0 rfl rfl rfl rfl rfl ?_
    refine qab hτ [4] 1 rfl rfl rfl rfl rfl ?_
    refine qag h fun x108 hx108 h=>?_
    refine qcy hτ false [3] [0,1,2,4,5,6] 2 rfl rfl rfl rfl (qai func48 rfl rfl) rfl rfl (by simp) ⟨trivial,trivial⟩ (by trivial) (qhg n (qba.mk v87 v88 v89) hx108) ⟨rfl,rfl,rfl,rfl,rfl,rfl,trivial⟩ ?_
    refine qbj hτ [0,1,2,3,4,5,6] 3 rfl rfl rfl rfl ⟨rfl,rfl,rfl,rfl,rfl,rfl,rfl,trivial⟩ ?_
    refine qcr h fun hg109 h=>?_
    refine qjr hτ [0,1,2,3,4,6,7] 4 rfl rfl rfl (Eq.trans rfl (or_append (f:=qa7) v90 [x108.1] rfl)) ⟨⟨rfl,Nat.le_of_ble_eq_true rfl⟩,qco _,rfl,rfl,hg109,by decide,(all1 rfl)⟩ ⟨rfl,rfl,rfl,rfl,rfl,rfl,rfl,trivial⟩ ?_
    refine qab hτ [4] 5 rfl rfl rfl rfl rfl ?_
    refine qbj hτ [0,1,2,3,5,6,7] 6 rfl rfl rfl rfl ⟨rfl,rfl,rfl,rfl,rfl,rfl,rfl,trivial⟩ ?_
    refine qcs mixed (by kernel_rfl) ?_
    refine qa8 (wk [0,1,2,3,4,5,6] (l:=[(0,.d (.str (bstr s_))),(4,.ptr 0 0),(6,.ptr 3 0),(7,.ptr 4 0),(29,iv buses_),(30,iv v92)]) (objs:=[.box [.row 1 v85.length 0 v85.length,.row 2 v86.length 0 v86.length,iv (0:Int),bv false],.row 3 (v85.map qa7),.row 3 (v86.map qa7),.box [.d (.str (bstr x108.2.s)),iv x108.2.at_,bv x108.2.short],.box [.row 5 ((v90 ++ [x108.1]).length) 0 ((v90 ++ [x108.1]).length),.row 6 v91.length 0 v91.length,iv x37.1,bv (decide (x38.1 = (1:Int)))],.row 3 ((v90 ++ [x108.1]).map qa7),.row 3 (v91.map qa7)])) ?_
    refine qd4 ?_
    refine qab hτ [4] 0 rfl rfl rfl rfl rfl ?_
    refine qab hτ [4] 1 rfl rfl rfl rfl rfl ?_
    refine qag h fun x110 hx110 h=>?_
    refine qcy hτ false [3] [0,1,2,4,5,6] 2 rfl rfl rfl rfl (qai func48 rfl rfl) rfl rfl (by simp) ⟨trivial,trivial⟩ (by trivial) (qhg n x108.2 hx110) ⟨rfl,rfl,rfl,rfl,rfl,rfl,trivial⟩ ?_
    refine qbj hτ [0,1,2,3,4,5,6] 3 rfl rfl rfl rfl ⟨rfl,rfl,rfl,rfl,rfl,rfl,rfl,trivial⟩ ?_
    refine qcr h fun hg111 h=>?_
    refine qjr hτ [0,1,2,3,4,5,7] 4 rfl rfl rfl (Eq.trans rfl (or_append (f:=qa7) v91 [x110.1] rfl)) ⟨⟨rfl,Nat.le_of_ble_eq_true rfl⟩,qco _,rfl,rfl,hg111,by decide,(all1 rfl)⟩ ⟨rfl,rfl,rfl,rfl,rfl,rfl,rfl,trivial⟩ ?_
    refine qab hτ [4] 5 rfl rfl rfl rfl rfl ?_
    refine qbj hτ [0,1,2,3,5,6,7] 6 rfl rfl rfl rfl ⟨rfl,rfl,rfl,rfl,rfl,rfl,rfl,trivial⟩ ?_
    refine qcs mixed (by kernel_rfl) ?_
    refine qa8 (wk [0,1,2,3,4,5,6] (l:=[(0,.d (.str (bstr s_))),(4,.ptr 0 0),(6,.ptr 3 0),(7,.ptr 4 0),(29,iv buses_),(30,iv v92)]) (objs:=[.box [.row 1 v85.length 0 v85.length,.row 2 v86.length 0 v86.length,iv (0:Int),bv false],.row 3 (v85.map qa7),.row 3 (v86.map qa7),.box [.d (.str (bstr x110.2.s)),iv x110.2.at_,bv x110.2.short],.box [.row 5 ((v90 ++ [x108.1]).length) 0 ((v90 ++ [x108.1]).length),.row 6 ((v91 ++ [x110.1]).length) 0 ((v91 ++ [x110.1]).length),iv x37.1,bv (decide (x38.1 = (1:Int)))],.row 3 ((v90 ++ [x108.1]).map qa7),.row 3 ((v91 ++ [x110.1]).map qa7)])) ?_
    refine qa2<|qa0 hτ rfl rfl rfl<|qa0 hτ rfl rfl rfl<|qa4 ?_
    exact ⟨(m105,v85,v86,x110.2.s,x110.2.at_,x110.2.short,(v90 ++ [x108.1]),(v91 ++ [x110.1]),(w64 (v92 + (1:Int)))),h,Nat.lt_succ_self m105,(wk [0,1,2,3,4,5,6] (l:=[(0,.d (.str (bstr s_))),(4,.ptr 0 0),(6,.ptr 3 0),(7,.ptr 4 0),(29,iv buses_),(30,iv (w64 (v92 + (1:Int))))]) (objs:=[.box [.row 1 v85.length 0 v85.length,.row 2 v86.length 0 v86.length,iv (0:Int),bv false],.row 3 (v85.map qa7),.row 3 (v86.map qa7),.box [.d (.str (bstr x110.2.s)),iv x110.2.at_,bv x110.2.short],.box [.row 5 ((v90 ++ [x108.1]).length) 0 ((v90 ++ [x108.1]).length),.row 6 ((v91 ++ [x110.1]).length) 0 ((v91 ++ [x110.1]).length),iv x37.1,bv (decide (x38.1 = (1:Int)))],.row 3 ((v90 ++ [x108.1]).map qa7),.row 3 ((v91 ++ [x110.1]).map qa7)]))⟩
   ·have h:=if_f h hc107
    refine qe4 ?_
    refine qa8 (wk [0,1,2,4,5,6] (l:=[(0,.d (.str (bstr s_))),(4,.ptr 0 0),(7,.ptr 3 0)]) (objs:=[.box [.row 1 v85.length 0 v85.length,.row 2 v86.length 0 v86.length,iv (0:Int),bv false],.row 3 (v85.map qa7),.row 3 (v86.map qa7),.box [.row 4 v90.length 0 v90.length,.row 5 v91.length 0 v91.length,iv x37.1,bv (decide (x38.1 = (1:Int)))],.row 3 (v90.map qa7),.row 3 (v91.map qa7)])) ?_
    exact hk79 (v85,v86,v90,v91) h
 ·refine qa6 ?_
  refine qbn (ι:=Bool) (fun v116=>St.of [(0,.d (.str (bstr s_))),(1,iv buses_),(4,.ptr 0 0),(20,bv v116)] [.box [.d (.nils),.d (.nils),iv (0:Int),bv false]] f32.ntmps 0) (fun v116=>qdd n s_ buses_ v116 = some r) ?_ (fun hk118=>?_)
  ·rintro v116 h
   replace h:qdd n s_ buses_ v116 = some r:=h
   unfold qdd at h
   refine qaw rfl (fun hc117=>?_) (fun hc117=>?_)
   ·have h:=qcv h hc117
    refine qa6<|qa2<|qa0 hτ rfl rfl rfl<|qaf hτ rfl rfl rfl<|qa0 hτ rfl rfl rfl<|qa4 ?_
    refine qa8 (wk [0] (l:=[(4,.ptr 0 0),(5,bv false)]) (objs:=[.box [.d (.nils),.d (.nils),iv (0:Int),bv false]])) ?_
    refine qa8 (qe3 [3,3] (l':=[(4,.ptr 0 0),(5,bv false)]) (objs':=[.box [.row 1 (([]:List qaa).length) 0 (([]:List qaa).length),.row 2 (([]:List qaa).length) 0 (([]:List qaa).length),iv (0:Int),bv false]]) (.cons (.c (.refl _)) (.cons (.c (.refl _)) .nil)) (.cons (.box (.cons (.ghost ⟨Nat.le_of_ble_eq_true rfl,Nat.le_of_ble_eq_true rfl⟩) (.cons (.ghost ⟨Nat.le_of_ble_eq_true rfl,Nat.le_of_ble_eq_true rfl⟩) (.cons (.refl _) (.cons (.refl _) .nil))))) .nil)) ?_
    refine qaq ?_
    have hr:=Option.some.inj h
    subst hr
    exact qb0 (.inr rfl) [1,2] (objs':=[]) (new:=[.row 3 (([]:List qaa).map qa7),.row 3 (([]:List qaa).map qa7)]) rfl (by simp) (by simp) rfl (by trivial) rfl rfl (by trivial) (fun _=>⟨by simp [V.flat,V.qiq,V.qf9,D.flat],(qbl (qdy qhe _) (qbl (qdy qhe _) qct))⟩) ⟨rfl,rfl,rfl⟩
   ·have h:=qcu h hc117
    refine qb1 ?_
    refine qa8 (wk [0] (l:=[(0,.d (.str (bstr s_))),(1,iv buses_),(4,.ptr 0 0)]) (objs:=[.box [.d (.nils),.d (.nils),iv (0:Int),bv false]])) ?_
    exact hk112 () h
  ·refine qa6<|qa2<|qa0 hτ rfl rfl rfl ?_
   refine qag h fun x119 hx119 h=>?_
   refine qac hτ false [] rfl rfl rfl (qai func33 rfl rfl) rfl rfl (by simp) ⟨trivial,trivial,trivial,trivial⟩ (by trivial) (qfa n buses_ (1:Int) (16:Int) hx119) ?_
   rintro r0 o0 n0 ⟨rfl,rfl,rfl⟩ -
   refine qa0 hτ rfl rfl rfl<|qa0 hτ rfl rfl rfl ?_
   refine qay 13 rfl (fun hb120=>?_) (fun hb120=>?_)
   ·have hb120:=qi4 hb120
    have h:=qcu h hb120
    refine qa3 rfl rfl<|qa3 rfl rfl<|qa3 rfl rfl<|qa3 rfl rfl<|qa3 rfl rfl<|qa3 rfl rfl ?_
    refine qar (wk [0] (l:=[(0,.d (.str (bstr s_))),(1,iv buses_),(4,.ptr 0 0),(13,bv true),(19,.und)]) (objs:=[.box [.d (.nils),.d (.nils),iv (0:Int),bv false]])) ?_
    refine qa0 hτ rfl rfl rfl<|qa4 ?_
    refine qa8 (wk [0] (l:=[(0,.d (.str (bstr s_))),(1,iv buses_),(4,.ptr 0 0),(20,bv true)]) (objs:=[.box [.d (.nils),.d (.nils),iv (0:Int),bv false]])) ?_
    exact hk118 true h
   ·have hb120:=qi3 hb120
    have h:=qcv h hb120
    refine qa0 hτ rfl rfl rfl<|qa0 hτ rfl rfl rfl<|qa0 hτ rfl rfl rfl<|qa0 hτ rfl rfl rfl<|qa0 hτ rfl rfl rfl ?_
    refine qa0 hτ (v:=bv (!(decide ((s_.length:Int) = (w64 ((2:Int) + (w64 ((48:Int) * buses_)))))))) rfl rfl (qop _ _) ?_
    refine qar (wk [0] (l:=[(0,.d (.str (bstr s_))),(1,iv buses_),(4,.ptr 0 0),(13,bv false),(19,bv (!(decide ((s_.length:Int) = (w64 ((2:Int) + (w64 ((48:Int) * buses_))))))))]) (objs:=[.box [.d (.nils),.d (.nils),iv (0:Int),bv false]])) ?_
    refine qa0 hτ rfl rfl rfl<|qa4 ?_
    refine qa8 (wk [0] (l:=[(0,.d (.str (bstr s_))),(1,iv buses_),(4,.ptr 0 0),(20,bv (!(decide ((s_.length:Int) = (w64 ((2:Int) + (w64 ((48:Int) * buses_))))))))]) (objs:=[.box [.d (.nils),.d (.nils),iv (0:Int),bv false]])) ?_
    exact hk118 (!(decide ((s_.length:Int) = (w64 ((2:Int) + (w64 ((48:Int) * buses_))))))) h
theorem impl_FlowOfBytes_ok (n:Nat) (s_:Str) (buses_:Int) {r:qav × Bool} (h:qg2 n s_ buses_ = some r):qax prog false 32 [.d (.str (bstr s_)),iv buses_] [] (fun v o new=>v = .tup [.agg [.row 0 r.1.qap.length 0 r.1.qap.length,.row 1 r.1.qau.length 0 r.1.qau.length,iv r.1.Rounds,bv r.1.qdo],bv r.2]∧o = []∧new = [.row 3 (r.1.qap.map qa7),.row 3 (r.1.qau.map qa7)]):=impl_FlowOfBytes_ok_fr0 false n s_ buses_ h
def qbt (n:Nat) (x30:qbg × Int × Bool) (v60:List SBus) (v61:List STie) (v62:List qav) (v63:Int) (v64:List qav):Option (qan × Int × Bool) :=
 some ((qan.mk (qbg.mk (qb8.mk x30.1.qa1.Source x30.1.qa1.qa5) x30.1.Ties) v64),v63,true)
def qew (n:Nat) (x30:qbg × Int × Bool) (k95:List SBus→List STie→List qav→Int→List qav→Option (qan × Int × Bool)) (v75:List SBus) (v76:List STie) (v77:List qav) (v78:Int) (v79:List qav) (x99:qav × Bool):Option (qan × Int × Bool) :=
 grd (room (v79.length + 1) 64) <|
 k95 v75 v76 v77 (w64 ((w64 ((w64 (v78 + (2:Int))) + (w64 ((48:Int) * (x30.1.qa1.qa5.length:Int))))) + (2:Int))) (v79 ++ [x99.1])
def qd2 (n:Nat) (x30:qbg × Int × Bool) (k95:List SBus→List STie→List qav→Int→List qav→Option (qan × Int × Bool)) (v75:List SBus) (v76:List STie) (v77:List qav) (v78:Int) (v79:List qav) (x99:qav × Bool) (v112:Bool):Option (qan × Int × Bool) :=
 if v112 = true then
  qbt n x30 v75 v76 v77 v78 v79
 else
  qew n x30 k95 v75 v76 v77 v78 v79 x99
def qbi (n:Nat) (s_:Str) (x30:qbg × Int × Bool):Nat→List SBus→List STie→List qav→Int→List qav→Option (qan × Int × Bool)
 | 0,_,_,_,_,_=>none
 | m94 + 1,v75,v76,v77,v78,v79 =>
  if (v79.length:Int) < (8:Int) then
   if (w64 ((w64 ((w64 (v78 + (2:Int))) + (w64 ((48:Int) * (x30.1.qa1.qa5.length:Int))))) + (2:Int))) > (s_.length:Int) then
    qbt n x30 v75 v76 v77 v78 v79
   else
    grd (0 ≤ v78∧v78 ≤ (w64 ((w64 (v78 + (2:Int))) + (w64 ((48:Int) * (x30.1.qa1.qa5.length:Int)))))∧(w64 ((w64 (v78 + (2:Int))) + (w64 ((48:Int) * (x30.1.qa1.qa5.length:Int))))) ≤ (s_.length:Int)) <|
    (qg2 n (sub s_ v78 (w64 ((w64 (v78 + (2:Int))) + (w64 ((48:Int) * (x30.1.qa1.qa5.length:Int)))))) (x30.1.qa1.qa5.length:Int)).bind fun x99 =>
    grd (0 ≤ (0:Int)∧(0:Int) ≤ (w64 ((w64 (v78 + (2:Int))) + (w64 ((48:Int) * (x30.1.qa1.qa5.length:Int)))))∧(w64 ((w64 (v78 + (2:Int))) + (w64 ((48:Int) * (x30.1.qa1.qa5.length:Int))))) ≤ (s_.length:Int)) <|
    (qhz n (0:Int) (sub s_ (0:Int) (w64 ((w64 (v78 + (2:Int))) + (w64 ((48:Int) * (x30.1.qa1.qa5.length:Int))))))).bind fun x101 =>
    if x99.2 = true then
     grd (0 ≤ (w64 ((w64 (v78 + (2:Int))) + (w64 ((48:Int) * (x30.1.qa1.qa5.length:Int)))))∧(w64 ((w64 (v78 + (2:Int))) + (w64 ((48:Int) * (x30.1.qa1.qa5.length:Int))))) ≤ (w64 ((w64 ((w64 (v78 + (2:Int))) + (w64 ((48:Int) * (x30.1.qa1.qa5.length:Int))))) + (2:Int)))∧(w64 ((w64 ((w64 (v78 + (2:Int))) + (w64 ((48:Int) * (x30.1.qa1.qa5.length:Int))))) + (2:Int))) ≤ (s_.length:Int)) <|
     (qbe n x101.1 (2:Int)).bind fun x117 =>
     qd2 n x30 (qbi n s_ x30 m94) v75 v76 v77 v78 v79 x99 (!(decide (x117 = (sub s_ (w64 ((w64 (v78 + (2:Int))) + (w64 ((48:Int) * (x30.1.qa1.qa5.length:Int))))) (w64 ((w64 ((w64 (v78 + (2:Int))) + (w64 ((48:Int) * (x30.1.qa1.qa5.length:Int))))) + (2:Int)))))))
    else
     qd2 n x30 (qbi n s_ x30 m94) v75 v76 v77 v78 v79 x99 true
  else
   qbt n x30 v75 v76 v77 v78 v79
def qd8 (n:Nat) (s_:Str):Option (qan × Int × Bool) :=
 (qgv n s_).bind fun x30 =>
 if x30.2.2 = true then
  qbi n s_ x30 n ([]:List SBus) ([]:List STie) ([]:List qav) x30.2.1 ([]:List qav)
 else
  some ((qan.mk (qbg.mk (qb8.mk (qaa.mk (Cx.mk (0:Nat) (0:Nat)) (Cx.mk (0:Nat) (0:Nat)) (Cx.mk (0:Nat) (0:Nat))) ([]:List SBus)) ([]:List STie)) ([]:List qav)),(0:Int),false)
theorem qjk (n:Nat) (s_:Str) {r:qan × Int × Bool} (h:qd8 n s_ = some r):qax prog false 14 [.d (.str (bstr s_))] [] (fun v o new=>v = .tup [.agg [cxv r.1.Grid.qa1.Source.A,cxv r.1.Grid.qa1.Source.B,cxv r.1.Grid.qa1.Source.C,.row 0 r.1.Grid.qa1.qa5.length 0 r.1.Grid.qa1.qa5.length,.row 1 r.1.Grid.Ties.length 0 r.1.Grid.Ties.length,.row 2 r.1.qa9.length 0 r.1.qa9.length],iv r.2.1,bv r.2.2]∧o = []∧new = [.row 8 (r.1.Grid.qa1.qa5.map qae),.row 5 (r.1.Grid.Ties.map qah),.row 4 (r.1.qa9.map qad)]):=by
 refine qaj hτ func14 rfl (by simp) (by simp) ?_
 unfold qd8 at h
 refine qa6<|qa2<|qaf hτ rfl rfl rfl<|qa0 hτ rfl rfl rfl<|qa0 hτ rfl rfl rfl<|qa4<|qa6<|qa2 ?_
 refine qa0 hτ rfl rfl rfl ?_
 refine qag h fun x30 hx30 h=>?_
 refine qac hτ false [] rfl rfl rfl (qai func23 rfl rfl) rfl rfl (by simp) ⟨trivial,trivial⟩ (by trivial) (qn1 n s_ hx30) ?_
 rintro r0 o0 n0 ⟨rfl,rfl,rfl⟩ -
 refine qa0 hτ rfl rfl rfl<|qa0 hτ rfl rfl rfl<|qa0 hτ rfl rfl rfl<|qa0 hτ rfl rfl rfl<|qaf hτ rfl rfl rfl<|qaf hτ rfl rfl rfl<|qa0 hτ rfl rfl rfl ?_
 refine qar (wk [0,3,1,2] (l:=[(0,.d (.str (bstr s_))),(2,.ptr 0 0),(5,.ptr 1 0),(6,iv x30.2.1),(20,bv x30.2.2)]) (objs:=[.box [.d (.cx .f32 (0:Nat) (0:Nat)),.d (.cx .f32 (0:Nat) (0:Nat)),.d (.cx .f32 (0:Nat) (0:Nat)),.d (.nils),.d (.nils),.d (.nils)],.box [cxv x30.1.qa1.Source.A,cxv x30.1.qa1.Source.B,cxv x30.1.qa1.Source.C,.row 2 x30.1.qa1.qa5.length 0 x30.1.qa1.qa5.length,.row 3 x30.1.Ties.length 0 x30.1.Ties.length],.row 8 (x30.1.qa1.qa5.map qae),.row 5 (x30.1.Ties.map qah)])) ?_
 refine qa0 hτ rfl rfl rfl<|qa4<|qa6<|qa6<|qa2<|qa0 hτ rfl rfl rfl<|qa0 hτ rfl rfl rfl<|qa4 ?_
 refine qaw rfl (fun hc31=>?_) (fun hc31=>?_)
 ·have hc31:=qi4 hc31
  have h:=qcu h hc31
  refine qa6<|qa2<|qa0 hτ rfl rfl rfl<|qaf hτ rfl rfl rfl<|qa0 hτ rfl rfl rfl<|qa0 hτ rfl rfl rfl<|qa4 ?_
  refine qa8 (wk [0] (l:=[(2,.ptr 0 0),(3,iv (0:Int)),(4,bv false)]) (objs:=[.box [.d (.cx .f32 (0:Nat) (0:Nat)),.d (.cx .f32 (0:Nat) (0:Nat)),.d (.cx .f32 (0:Nat) (0:Nat)),.d (.nils),.d (.nils),.d (.nils)]])) ?_
  refine qa8 (qe3 [8,5,4] (l':=[(2,.ptr 0 0),(3,iv (0:Int)),(4,bv false)]) (objs':=[.box [.d (.cx .f32 (0:Nat) (0:Nat)),.d (.cx .f32 (0:Nat) (0:Nat)),.d (.cx .f32 (0:Nat) (0:Nat)),.row 1 (([]:List SBus).length) 0 (([]:List SBus).length),.row 2 (([]:List STie).length) 0 (([]:List STie).length),.row 3 (([]:List qav).length) 0 (([]:List qav).length)]]) (.cons (.c (.refl _)) (.cons (.c (.refl _)) (.cons (.c (.refl _)) .nil))) (.cons (.box (.cons (.refl _) (.cons (.refl _) (.cons (.refl _) (.cons (.ghost ⟨Nat.le_of_ble_eq_true rfl,Nat.le_of_ble_eq_true rfl⟩) (.cons (.ghost ⟨Nat.le_of_ble_eq_true rfl,Nat.le_of_ble_eq_true rfl⟩) (.cons (.ghost ⟨Nat.le_of_ble_eq_true rfl,Nat.le_of_ble_eq_true rfl⟩) .nil))))))) .nil)) ?_
  refine qaq ?_
  have hr:=Option.some.inj h
  subst hr
  exact qb0 (.inr rfl) [1,2,3] (objs':=[]) (new:=[.row 8 (([]:List SBus).map qae),.row 5 (([]:List STie).map qah),.row 4 (([]:List qav).map qad)]) rfl (by simp) (by simp) rfl (by trivial) rfl rfl (by trivial) (fun h=>nomatch h) ⟨rfl,rfl,rfl⟩
 ·have hc31:=qi3 hc31
  have h:=qcv h hc31
  refine qb1<|qa6<|qd4 ?_
  refine qab hτ [1] 0 rfl rfl rfl rfl rfl ?_
  refine qab hτ [] 1 rfl rfl rfl rfl rfl ?_
  refine qab hτ [1] 2 rfl rfl rfl rfl rfl ?_
  refine qab hτ [1] 3 rfl rfl rfl rfl rfl ?_
  refine qab hτ [1] 4 rfl rfl rfl rfl rfl ?_
  refine qfj hτ [2] 5 rfl rfl rfl rfl rfl (qco _) ?_
  refine qbj hτ [0,1,2,3] 6 rfl rfl rfl rfl ⟨rfl,rfl,rfl,rfl,trivial⟩ ?_
  refine qbj hτ [0,1,2,3] 7 rfl rfl rfl rfl ⟨rfl,rfl,rfl,rfl,trivial⟩ ?_
  refine qab hτ [] 8 rfl rfl rfl rfl rfl ?_
  refine qcs mixed (by kernel_rfl) ?_
  refine qbn (ι:=List SBus × List STie × List qav × Int × List qav) (fun (v60,v61,v62,v63,v64)=>St.of [(2,.ptr 0 0),(6,iv v63),(8,.ptr 4 0)] [.box [.d (.cx .f32 (0:Nat) (0:Nat)),.d (.cx .f32 (0:Nat) (0:Nat)),.d (.cx .f32 (0:Nat) (0:Nat)),.row 1 v60.length 0 v60.length,.row 2 v61.length 0 v61.length,.row 3 v62.length 0 v62.length],.row 8 (v60.map qae),.row 5 (v61.map qah),.row 4 (v62.map qad),.box [cxv x30.1.qa1.Source.A,cxv x30.1.qa1.Source.B,cxv x30.1.qa1.Source.C,.row 5 x30.1.qa1.qa5.length 0 x30.1.qa1.qa5.length,.row 6 x30.1.Ties.length 0 x30.1.Ties.length,.row 7 v64.length 0 v64.length],.row 8 (x30.1.qa1.qa5.map qae),.row 5 (x30.1.Ties.map qah),.row 4 (v64.map qad)] f14.ntmps 0) (fun (v60,v61,v62,v63,v64)=>qbt n x30 v60 v61 v62 v63 v64 = some r) ?_ (fun hk65=>?_)
  ·rintro ⟨v60,v61,v62,v63,v64⟩ h
   replace h:qbt n x30 v60 v61 v62 v63 v64 = some r:=h
   unfold qbt at h
   refine qa6<|qa2<|qa0 hτ rfl rfl rfl<|qa0 hτ rfl rfl rfl<|qaf hτ rfl rfl rfl<|qa0 hτ rfl rfl rfl<|qa0 hτ rfl rfl rfl<|qa4 ?_
   refine qa8 (wk [0,5,6,7] (l:=[(2,.ptr 0 0),(3,iv v63),(4,bv true)]) (objs:=[.box [cxv x30.1.qa1.Source.A,cxv x30.1.qa1.Source.B,cxv x30.1.qa1.Source.C,.row 1 x30.1.qa1.qa5.length 0 x30.1.qa1.qa5.length,.row 2 x30.1.Ties.length 0 x30.1.Ties.length,.row 3 v64.length 0 v64.length],.row 8 (x30.1.qa1.qa5.map qae),.row 5 (x30.1.Ties.map qah),.row 4 (v64.map qad)])) ?_
   refine qaq ?_
   have hr:=Option.some.inj h
   subst hr
   exact qb0 (.inr rfl) [1,2,3] (objs':=[]) (new:=[.row 8 (x30.1.qa1.qa5.map qae),.row 5 (x30.1.Ties.map qah),.row 4 (v64.map qad)]) rfl (by simp) (by simp) rfl (by trivial) rfl rfl (by trivial) (fun h=>nomatch h) ⟨rfl,rfl,rfl⟩
  ·refine qa6<|qb9 ?_
   refine qev (ι:=Nat × List SBus × List STie × List qav × Int × List qav) (fun (m94,v75,v76,v77,v78,v79)=>St.of [(0,.d (.str (bstr s_))),(2,.ptr 0 0),(6,iv v78),(8,.ptr 4 0),(9,iv (x30.1.qa1.qa5.length:Int))] [.box [.d (.cx .f32 (0:Nat) (0:Nat)),.d (.cx .f32 (0:Nat) (0:Nat)),.d (.cx .f32 (0:Nat) (0:Nat)),.row 1 v75.length 0 v75.length,.row 2 v76.length 0 v76.length,.row 3 v77.length 0 v77.length],.row 8 (v75.map qae),.row 5 (v76.map qah),.row 4 (v77.map qad),.box [cxv x30.1.qa1.Source.A,cxv x30.1.qa1.Source.B,cxv x30.1.qa1.Source.C,.row 5 x30.1.qa1.qa5.length 0 x30.1.qa1.qa5.length,.row 6 x30.1.Ties.length 0 x30.1.Ties.length,.row 7 v79.length 0 v79.length],.row 8 (x30.1.qa1.qa5.map qae),.row 5 (x30.1.Ties.map qah),.row 4 (v79.map qad)] f14.ntmps 0) (fun (m94,v75,v76,v77,v78,v79)=>qbi n s_ x30 m94 v75 v76 v77 v78 v79 = some r) (fun x=>x.1) (n,([]:List SBus),([]:List STie),([]:List qav),x30.2.1,([]:List qav)) h (Weak.trans (Weak.trans (wk [0,4,2,3] (l:=[(0,.d (.str (bstr s_))),(2,.ptr 0 0),(6,iv x30.2.1),(8,.ptr 1 0),(9,iv (x30.1.qa1.qa5.length:Int))]) (objs:=[.box [.d (.cx .f32 (0:Nat) (0:Nat)),.d (.cx .f32 (0:Nat) (0:Nat)),.d (.cx .f32 (0:Nat) (0:Nat)),.d (.nils),.d (.nils),.d (.nils)],.box [cxv x30.1.qa1.Source.A,cxv x30.1.qa1.Source.B,cxv x30.1.qa1.Source.C,.row 2 x30.1.qa1.qa5.length 0 x30.1.qa1.qa5.length,.row 3 x30.1.Ties.length 0 x30.1.Ties.length,.d (.nils)],.row 8 (x30.1.qa1.qa5.map qae),.row 5 (x30.1.Ties.map qah)])) (qe3 [8,5,4,4] (l':=[(0,.d (.str (bstr s_))),(2,.ptr 0 0),(6,iv x30.2.1),(8,.ptr 1 0),(9,iv (x30.1.qa1.qa5.length:Int))]) (objs':=[.box [.d (.cx .f32 (0:Nat) (0:Nat)),.d (.cx .f32 (0:Nat) (0:Nat)),.d (.cx .f32 (0:Nat) (0:Nat)),.row 4 (([]:List SBus).length) 0 (([]:List SBus).length),.row 5 (([]:List STie).length) 0 (([]:List STie).length),.row 6 (([]:List qav).length) 0 (([]:List qav).length)],.box [cxv x30.1.qa1.Source.A,cxv x30.1.qa1.Source.B,cxv x30.1.qa1.Source.C,.row 2 x30.1.qa1.qa5.length 0 x30.1.qa1.qa5.length,.row 3 x30.1.Ties.length 0 x30.1.Ties.length,.row 7 (([]:List qav).length) 0 (([]:List qav).length)],.row 8 (x30.1.qa1.qa5.map qae),.row 5 (x30.1.Ties.map qah)]) (.cons (.c (.refl _)) (.cons (.c (.refl _)) (.cons (.c (.refl _)) (.cons (.c (.refl _)) (.cons (.c (.refl _)) .nil))))) (.cons (.box (.cons (.refl _) (.cons (.refl _) (.cons (.refl _) (.cons (.ghost ⟨Nat.le_of_ble_eq_true rfl,Nat.le_of_ble_eq_true rfl⟩) (.cons (.ghost ⟨Nat.le_of_ble_eq_true rfl,Nat.le_of_ble_eq_true rfl⟩) (.cons (.ghost ⟨Nat.le_of_ble_eq_true rfl,Nat.le_of_ble_eq_true rfl⟩) .nil))))))) (.cons (.box (.cons (.refl _) (.cons (.refl _) (.cons (.refl _) (.cons (.refl _) (.cons (.refl _) (.cons (.ghost ⟨Nat.le_of_ble_eq_true rfl,Nat.le_of_ble_eq_true rfl⟩) .nil))))))) (.cons (.refl _) (.cons (.refl _) .nil)))))) (wk [0,4,5,6,1,2,3,7] (l:=[(0,.d (.str (bstr s_))),(2,.ptr 0 0),(6,iv x30.2.1),(8,.ptr 4 0),(9,iv (x30.1.qa1.qa5.length:Int))]) (objs:=[.box [.d (.cx .f32 (0:Nat) (0:Nat)),.d (.cx .f32 (0:Nat) (0:Nat)),.d (.cx .f32 (0:Nat) (0:Nat)),.row 1 (([]:List SBus).length) 0 (([]:List SBus).length),.row 2 (([]:List STie).length) 0 (([]:List STie).length),.row 3 (([]:List qav).length) 0 (([]:List qav).length)],.row 8 (([]:List SBus).map qae),.row 5 (([]:List STie).map qah),.row 4 (([]:List qav).map qad),.box [cxv x30.1.qa1.Source.A,cxv x30.1.qa1.Source.B,cxv x30.1.qa1.Source.C,.row 5 x30.1.qa1.qa5.length 0 x30.1.qa1.qa5.length,.row 6 x30.1.Ties.length 0 x30.1.Ties.length,.row 7 (([]:List qav).length) 0 (([]:List qav).length)],.row 8 (x30.1.qa1.qa5.map qae),.row 5 (x30.1.Ties.map qah),.row 4 (([]:List qav).map qad)]))) ?_
   rintro ⟨m94,v75,v76,v77,v78,v79⟩ h
   replace h:qbi n s_ x30 m94 v75 v76 v77 v78 v79 = some r:=h
   rcases m94 with _ | m94
   ·rw [qbi] at h;cases h
   rw [qbi] at h
   refine qa6<|qa6<|qa2<|qa0 hτ rfl rfl rfl<|qa0 hτ rfl rfl rfl ?_
   refine qdp hτ rfl rfl rfl (qco _) ?_
   refine qa0 hτ rfl rfl rfl<|qa4 ?_
   refine qaw rfl (fun hc96=>?_) (fun hc96=>?_)
   ·have h:=if_t h hc96
    refine qb1<|qb9<|qa6<|qa2<|qa0 hτ rfl rfl rfl<|qa0 hτ rfl rfl rfl<|qa0 hτ rfl rfl rfl<|qa0 hτ rfl rfl rfl ?_
    refine qa0 hτ rfl rfl rfl<|qa0 hτ rfl rfl rfl<|qa4<|qa6<|qa6 ?_
    refine qa8 (wk [0,1,2,3,4,5,6,7] (l:=[(0,.d (.str (bstr s_))),(2,.ptr 0 0),(6,iv v78),(8,.ptr 4 0),(9,iv (x30.1.qa1.qa5.length:Int)),(10,iv (w64 ((w64 (v78 + (2:Int))) + (w64 ((48:Int) * (x30.1.qa1.qa5.length:Int))))))]) (objs:=[.box [.d (.cx .f32 (0:Nat) (0:Nat)),.d (.cx .f32 (0:Nat) (0:Nat)),.d (.cx .f32 (0:Nat) (0:Nat)),.row 1 v75.length 0 v75.length,.row 2 v76.length 0 v76.length,.row 3 v77.length 0 v77.length],.row 8 (v75.map qae),.row 5 (v76.map qah),.row 4 (v77.map qad),.box [cxv x30.1.qa1.Source.A,cxv x30.1.qa1.Source.B,cxv x30.1.qa1.Source.C,.row 5 x30.1.qa1.qa5.length 0 x30.1.qa1.qa5.length,.row 6 x30.1.Ties.length 0 x30.1.Ties.length,.row 7 v79.length 0 v79.length],.row 8 (x30.1.qa1.qa5.map qae),.row 5 (x30.1.Ties.map qah),.row 4 (v79.map qad)])) ?_
    refine qa2<|qa0 hτ rfl rfl rfl<|qa0 hτ rfl rfl rfl<|qa0 hτ rfl rfl rfl<|qa0 hτ rfl rfl rfl<|qa0 hτ rfl rfl rfl<|qa4 ?_
    refine qaw rfl (fun hc97=>?_) (fun hc97=>?_)
    ·have h:=if_t h hc97
     refine qe4 ?_
     refine qa8 (wk [0,1,2,3,4,5,6,7] (l:=[(2,.ptr 0 0),(6,iv v78),(8,.ptr 4 0)]) (objs:=[.box [.d (.cx .f32 (0:Nat) (0:Nat)),.d (.cx .f32 (0:Nat) (0:Nat)),.d (.cx .f32 (0:Nat) (0:Nat)),.row 1 v75.length 0 v75.length,.row 2 v76.length 0 v76.length,.row 3 v77.length 0 v77.length],.row 8 (v75.map qae),.row 5 (v76.map qah),.row 4 (v77.map qad),.box [cxv x30.1.qa1.Source.A,cxv x30.1.qa1.Source.B,cxv x30.1.qa1.Source.C,.row 5 x30.1.qa1.qa5.length 0 x30.1.qa1.qa5.length,.row 6 x30.1.Ties.length 0 x30.1.Ties.length,.row 7 v79.length 0 v79.length],.row 8 (x30.1.qa1.qa5.map qae),.row 5 (x30.1.Ties.map qah),.row 4 (v79.map qad)])) ?_
     exact hk65 (v75,v76,v77,v78,v79) h
    ·have h:=if_f h hc97
     refine qb1<|qa6<|qa2<|qa0 hτ rfl rfl rfl<|qa0 hτ rfl rfl rfl<|qa0 hτ rfl rfl rfl ?_
     refine qcr h fun hg98 h=>?_
     refine qdp hτ (v:=.d (.str (bstr (sub s_ v78 (w64 ((w64 (v78 + (2:Int))) + (w64 ((48:Int) * (x30.1.qa1.qa5.length:Int))))))))) rfl rfl (Eq.trans rfl (qm5 _ _ _)) hg98 ?_
     refine qa0 hτ rfl rfl rfl ?_
     refine qag h fun x99 hx99 h=>?_
     refine qac hτ false [] rfl rfl rfl (qai func32 rfl rfl) rfl rfl (by simp) ⟨trivial,trivial,trivial⟩ (by trivial) (impl_FlowOfBytes_ok n (sub s_ v78 (w64 ((w64 (v78 + (2:Int))) + (w64 ((48:Int) * (x30.1.qa1.qa5.length:Int)))))) (x30.1.qa1.qa5.length:Int) hx99) ?_
     rintro r0 o0 n0 ⟨rfl,rfl,rfl⟩ -
     refine qa0 hτ rfl rfl rfl ?_
     refine qar (qbk [0,1,2,3,4,5,6,7,8,9] (l:=[(0,.d (.str (bstr s_))),(2,.ptr 0 0),(6,iv v78),(8,.ptr 4 0),(9,iv (x30.1.qa1.qa5.length:Int)),(10,iv (w64 ((w64 (v78 + (2:Int))) + (w64 ((48:Int) * (x30.1.qa1.qa5.length:Int)))))),(44,.tup [.agg [.row 8 x99.1.qap.length 0 x99.1.qap.length,.row 9 x99.1.qau.length 0 x99.1.qau.length,iv x99.1.Rounds,bv x99.1.qdo],bv x99.2])]) (objs:=[.box [.d (.cx .f32 (0:Nat) (0:Nat)),.d (.cx .f32 (0:Nat) (0:Nat)),.d (.cx .f32 (0:Nat) (0:Nat)),.row 1 v75.length 0 v75.length,.row 2 v76.length 0 v76.length,.row 3 v77.length 0 v77.length],.row 8 (v75.map qae),.row 5 (v76.map qah),.row 4 (v77.map qad),.box [cxv x30.1.qa1.Source.A,cxv x30.1.qa1.Source.B,cxv x30.1.qa1.Source.C,.row 5 x30.1.qa1.qa5.length 0 x30.1.qa1.qa5.length,.row 6 x30.1.Ties.length 0 x30.1.Ties.length,.row 7 v79.length 0 v79.length],.row 8 (x30.1.qa1.qa5.map qae),.row 5 (x30.1.Ties.map qah),.row 4 (v79.map qad),.row 3 (x99.1.qap.map qa7),.row 3 (x99.1.qau.map qa7)]) rfl (by simp) rfl (by trivial) ⟨rfl,trivial,rfl,trivial,rfl,trivial,rfl,trivial,rfl,trivial,rfl,trivial,rfl,(by trivial),trivial⟩) ?_
     refine qa0 hτ rfl rfl rfl<|qa0 hτ rfl rfl rfl<|qaf hτ rfl rfl rfl<|qaf hτ rfl rfl rfl<|qa0 hτ rfl rfl rfl<|qa4<|qa6<|qa2 ?_
     refine qa0 hτ rfl rfl rfl<|qa0 hτ rfl rfl rfl ?_
     refine qcr h fun hg100 h=>?_
     refine qdp hτ (v:=.d (.str (bstr (sub s_ (0:Int) (w64 ((w64 (v78 + (2:Int))) + (w64 ((48:Int) * (x30.1.qa1.qa5.length:Int))))))))) rfl rfl (Eq.trans rfl (qm5 _ _ _)) hg100 ?_
     refine qag h fun x101 hx101 h=>?_
     refine qac hτ false [] rfl rfl rfl (qai func20 rfl rfl) rfl rfl (by simp) ⟨trivial,trivial,trivial⟩ (by trivial) (qnc n (0:Int) (sub s_ (0:Int) (w64 ((w64 (v78 + (2:Int))) + (w64 ((48:Int) * (x30.1.qa1.qa5.length:Int)))))) hx101) ?_
     rintro r0 o0 n0 ⟨rfl,rfl,rfl⟩ -
     refine qa0 hτ rfl rfl rfl<|qa0 hτ rfl rfl rfl<|qa0 hτ rfl rfl rfl ?_
     refine qar (wk [0,1,2,3,4,5,6,7,10,8,9] (l:=[(0,.d (.str (bstr s_))),(2,.ptr 0 0),(6,iv v78),(8,.ptr 4 0),(9,iv (x30.1.qa1.qa5.length:Int)),(10,iv (w64 ((w64 (v78 + (2:Int))) + (w64 ((48:Int) * (x30.1.qa1.qa5.length:Int)))))),(11,.ptr 8 0),(12,bv x99.2),(58,iv x101.1),(59,bv x101.2)]) (objs:=[.box [.d (.cx .f32 (0:Nat) (0:Nat)),.d (.cx .f32 (0:Nat) (0:Nat)),.d (.cx .f32 (0:Nat) (0:Nat)),.row 1 v75.length 0 v75.length,.row 2 v76.length 0 v76.length,.row 3 v77.length 0 v77.length],.row 8 (v75.map qae),.row 5 (v76.map qah),.row 4 (v77.map qad),.box [cxv x30.1.qa1.Source.A,cxv x30.1.qa1.Source.B,cxv x30.1.qa1.Source.C,.row 5 x30.1.qa1.qa5.length 0 x30.1.qa1.qa5.length,.row 6 x30.1.Ties.length 0 x30.1.Ties.length,.row 7 v79.length 0 v79.length],.row 8 (x30.1.qa1.qa5.map qae),.row 5 (x30.1.Ties.map qah),.row 4 (v79.map qad),.box [.row 9 x99.1.qap.length 0 x99.1.qap.length,.row 10 x99.1.qau.length 0 x99.1.qau.length,iv x99.1.Rounds,bv x99.1.qdo],.row 3 (x99.1.qap.map qa7),.row 3 (x99.1.qau.map qa7)])) ?_
     refine qa0 hτ rfl rfl rfl<|qa0 hτ rfl rfl rfl<|qa4 ?_
     refine qbn (ι:=Unit) (fun _=>St.of [(0,.d (.str (bstr s_))),(2,.ptr 0 0),(8,.ptr 4 0),(9,iv (x30.1.qa1.qa5.length:Int)),(10,iv (w64 ((w64 (v78 + (2:Int))) + (w64 ((48:Int) * (x30.1.qa1.qa5.length:Int)))))),(11,.ptr 8 0)] [.box [.d (.cx .f32 (0:Nat) (0:Nat)),.d (.cx .f32 (0:Nat) (0:Nat)),.d (.cx .f32 (0:Nat) (0:Nat)),.row 1 v75.length 0 v75.length,.row 2 v76.length 0 v76.length,.row 3 v77.length 0 v77.length],.row 8 (v75.map qae),.row 5 (v76.map qah),.row 4 (v77.map qad),.box [cxv x30.1.qa1.Source.A,cxv x30.1.qa1.Source.B,cxv x30.1.qa1.Source.C,.row 5 x30.1.qa1.qa5.length 0 x30.1.qa1.qa5.length,.row 6 x30.1.Ties.length 0 x30.1.Ties.length,.row 7 v79.length 0 v79.length],.row 8 (x30.1.qa1.qa5.map qae),.row 5 (x30.1.Ties.map qah),.row 4 (v79.map qad),.box [.row 9 x99.1.qap.length 0 x99.1.qap.length,.row 10 x99.1.qau.length 0 x99.1.qau.length,iv x99.1.Rounds,bv x99.1.qdo],.row 3 (x99.1.qap.map qa7),.row 3 (x99.1.qau.map qa7)] f14.ntmps 0) (fun _=>qew n x30 (qbi n s_ x30 m94) v75 v76 v77 v78 v79 x99 = some r) ?_ (fun hk107=>?_)
     ·rintro ⟨⟩ h
      replace h:qew n x30 (qbi n s_ x30 m94) v75 v76 v77 v78 v79 x99 = some r:=h
      unfold qew at h
      refine qa2<|qa0 hτ rfl rfl rfl<|qa0 hτ rfl rfl rfl<|qa0 hτ rfl rfl rfl ?_
      refine qar (qbk [0,1,2,3,4,5,6,7] (l:=[(0,.d (.str (bstr s_))),(2,.ptr 0 0),(8,.ptr 4 0),(9,iv (x30.1.qa1.qa5.length:Int)),(10,iv (w64 ((w64 (v78 + (2:Int))) + (w64 ((48:Int) * (x30.1.qa1.qa5.length:Int)))))),(73,.row 7 v79.length 0 v79.length),(74,.agg [sv qa7 x99.1.qap,sv qa7 x99.1.qau,iv x99.1.Rounds,bv x99.1.qdo])]) (objs:=[.box [.d (.cx .f32 (0:Nat) (0:Nat)),.d (.cx .f32 (0:Nat) (0:Nat)),.d (.cx .f32 (0:Nat) (0:Nat)),.row 1 v75.length 0 v75.length,.row 2 v76.length 0 v76.length,.row 3 v77.length 0 v77.length],.row 8 (v75.map qae),.row 5 (v76.map qah),.row 4 (v77.map qad),.box [cxv x30.1.qa1.Source.A,cxv x30.1.qa1.Source.B,cxv x30.1.qa1.Source.C,.row 5 x30.1.qa1.qa5.length 0 x30.1.qa1.qa5.length,.row 6 x30.1.Ties.length 0 x30.1.Ties.length,.row 7 v79.length 0 v79.length],.row 8 (x30.1.qa1.qa5.map qae),.row 5 (x30.1.Ties.map qah),.row 4 (v79.map qad)]) rfl (by simp) rfl (by trivial) ⟨rfl,trivial,rfl,trivial,rfl,trivial,rfl,trivial,rfl,trivial,rfl,trivial,(qke (qak (qbx (f:=qa7) (j:=9) (sz:=3) x99.1.qap rfl rfl rfl) (qak (qbx (f:=qa7) (j:=10) (sz:=3) x99.1.qau rfl rfl rfl) (qak rfl (qak rfl qc9))))),⟨(qby (f:=qa7) (j:=9) (sz:=3) x99.1.qap rfl rfl rfl),(qby (f:=qa7) (j:=10) (sz:=3) x99.1.qau rfl rfl rfl),trivial,trivial⟩,trivial⟩) ?_
      refine qaf hτ rfl rfl rfl ?_
      refine qcr h fun hg106 h=>?_
      refine qk4 hτ rfl rfl (Eq.trans rfl (or_append (f:=qad) v79 [x99.1] rfl)) ⟨⟨rfl,Nat.le_of_ble_eq_true rfl⟩,qco _,rfl,rfl,hg106,by decide,(all1 rfl)⟩ ?_
      refine qa0 hτ rfl rfl rfl<|qa0 hτ rfl rfl rfl<|qa0 hτ rfl rfl rfl<|qaf hτ rfl rfl rfl<|qa0 hτ rfl rfl rfl<|qa4 ?_
      exact ⟨(m94,v75,v76,v77,(w64 ((w64 ((w64 (v78 + (2:Int))) + (w64 ((48:Int) * (x30.1.qa1.qa5.length:Int))))) + (2:Int))),(v79 ++ [x99.1])),h,Nat.lt_succ_self m94,(wk [0,1,2,3,4,5,6,7] (l:=[(0,.d (.str (bstr s_))),(2,.ptr 0 0),(6,iv (w64 ((w64 ((w64 (v78 + (2:Int))) + (w64 ((48:Int) * (x30.1.qa1.qa5.length:Int))))) + (2:Int)))),(8,.ptr 4 0),(9,iv (x30.1.qa1.qa5.length:Int))]) (objs:=[.box [.d (.cx .f32 (0:Nat) (0:Nat)),.d (.cx .f32 (0:Nat) (0:Nat)),.d (.cx .f32 (0:Nat) (0:Nat)),.row 1 v75.length 0 v75.length,.row 2 v76.length 0 v76.length,.row 3 v77.length 0 v77.length],.row 8 (v75.map qae),.row 5 (v76.map qah),.row 4 (v77.map qad),.box [cxv x30.1.qa1.Source.A,cxv x30.1.qa1.Source.B,cxv x30.1.qa1.Source.C,.row 5 x30.1.qa1.qa5.length 0 x30.1.qa1.qa5.length,.row 6 x30.1.Ties.length 0 x30.1.Ties.length,.row 7 ((v79 ++ [x99.1]).length) 0 ((v79 ++ [x99.1]).length)],.row 8 (x30.1.qa1.qa5.map qae),.row 5 (x30.1.Ties.map qah),.row 4 ((v79 ++ [x99.1]).map qad)]))⟩
     ·refine qa6 ?_
      refine qbn (ι:=Bool) (fun v112=>St.of [(0,.d (.str (bstr s_))),(2,.ptr 0 0),(6,iv v78),(8,.ptr 4 0),(9,iv (x30.1.qa1.qa5.length:Int)),(10,iv (w64 ((w64 (v78 + (2:Int))) + (w64 ((48:Int) * (x30.1.qa1.qa5.length:Int)))))),(11,.ptr 8 0),(71,bv v112)] [.box [.d (.cx .f32 (0:Nat) (0:Nat)),.d (.cx .f32 (0:Nat) (0:Nat)),.d (.cx .f32 (0:Nat) (0:Nat)),.row 1 v75.length 0 v75.length,.row 2 v76.length 0 v76.length,.row 3 v77.length 0 v77.length],.row 8 (v75.map qae),.row 5 (v76.map qah),.row 4 (v77.map qad),.box [cxv x30.1.qa1.Source.A,cxv x30.1.qa1.Source.B,cxv x30.1.qa1.Source.C,.row 5 x30.1.qa1.qa5.length 0 x30.1.qa1.qa5.length,.row 6 x30.1.Ties.length 0 x30.1.Ties.length,.row 7 v79.length 0 v79.length],.row 8 (x30.1.qa1.qa5.map qae),.row 5 (x30.1.Ties.map qah),.row 4 (v79.map qad),.box [.row 9 x99.1.qap.length 0 x99.1.qap.length,.row 10 x99.1.qau.length 0 x99.1.qau.length,iv x99.1.Rounds,bv x99.1.qdo],.row 3 (x99.1.qap.map qa7),.row 3 (x99.1.qau.map qa7)] f14.ntmps 0) (fun v112=>qd2 n x30 (qbi n s_ x30 m94) v75 v76 v77 v78 v79 x99 v112 = some r) ?_ (fun hk114=>?_)
      ·rintro v112 h
       replace h:qd2 n x30 (qbi n s_ x30 m94) v75 v76 v77 v78 v79 x99 v112 = some r:=h
       unfold qd2 at h
       refine qaw rfl (fun hc113=>?_) (fun hc113=>?_)
       ·have h:=qcv h hc113
        refine qe4 ?_
        refine qa8 (wk [0,1,2,3,4,5,6,7] (l:=[(2,.ptr 0 0),(6,iv v78),(8,.ptr 4 0)]) (objs:=[.box [.d (.cx .f32 (0:Nat) (0:Nat)),.d (.cx .f32 (0:Nat) (0:Nat)),.d (.cx .f32 (0:Nat) (0:Nat)),.row 1 v75.length 0 v75.length,.row 2 v76.length 0 v76.length,.row 3 v77.length 0 v77.length],.row 8 (v75.map qae),.row 5 (v76.map qah),.row 4 (v77.map qad),.box [cxv x30.1.qa1.Source.A,cxv x30.1.qa1.Source.B,cxv x30.1.qa1.Source.C,.row 5 x30.1.qa1.qa5.length 0 x30.1.qa1.qa5.length,.row 6 x30.1.Ties.length 0 x30.1.Ties.length,.row 7 v79.length 0 v79.length],.row 8 (x30.1.qa1.qa5.map qae),.row 5 (x30.1.Ties.map qah),.row 4 (v79.map qad)])) ?_
        exact hk65 (v75,v76,v77,v78,v79) h
       ·have h:=qcu h hc113
        refine qb1 ?_
        refine qa8 (wk [0,1,2,3,4,5,6,7,8,9,10] (l:=[(0,.d (.str (bstr s_))),(2,.ptr 0 0),(8,.ptr 4 0),(9,iv (x30.1.qa1.qa5.length:Int)),(10,iv (w64 ((w64 (v78 + (2:Int))) + (w64 ((48:Int) * (x30.1.qa1.qa5.length:Int)))))),(11,.ptr 8 0)]) (objs:=[.box [.d (.cx .f32 (0:Nat) (0:Nat)),.d (.cx .f32 (0:Nat) (0:Nat)),.d (.cx .f32 (0:Nat) (0:Nat)),.row 1 v75.length 0 v75.length,.row 2 v76.length 0 v76.length,.row 3 v77.length 0 v77.length],.row 8 (v75.map qae),.row 5 (v76.map qah),.row 4 (v77.map qad),.box [cxv x30.1.qa1.Source.A,cxv x30.1.qa1.Source.B,cxv x30.1.qa1.Source.C,.row 5 x30.1.qa1.qa5.length 0 x30.1.qa1.qa5.length,.row 6 x30.1.Ties.length 0 x30.1.Ties.length,.row 7 v79.length 0 v79.length],.row 8 (x30.1.qa1.qa5.map qae),.row 5 (x30.1.Ties.map qah),.row 4 (v79.map qad),.box [.row 9 x99.1.qap.length 0 x99.1.qap.length,.row 10 x99.1.qau.length 0 x99.1.qau.length,iv x99.1.Rounds,bv x99.1.qdo],.row 3 (x99.1.qap.map qa7),.row 3 (x99.1.qau.map qa7)])) ?_
        exact hk107 () h
      ·refine qa6<|qd4 ?_
       refine qab hτ [] 0 rfl rfl rfl rfl rfl ?_
       refine qab hτ [] 1 rfl rfl rfl rfl rfl ?_
       refine qab hτ [] 2 rfl rfl rfl rfl rfl ?_
       refine qlc 62 rfl (fun hb115=>?_) (fun hb115=>?_)
       ·have hb115:=qi4 hb115
        have h:=qcu h hb115
        refine qaz 3 rfl rfl rfl ?_
        refine qaz 5 rfl rfl rfl ?_
        refine qaz 6 rfl rfl rfl ?_
        refine qaz 7 rfl rfl rfl ?_
        refine qaz 8 rfl rfl rfl ?_
        refine qaz 9 rfl rfl rfl ?_
        refine qaz 4 rfl rfl rfl ?_
        refine qaz 10 rfl rfl rfl ?_
        refine qab hτ [] 11 rfl rfl rfl rfl rfl ?_
        refine qcs mixed (by kernel_rfl) ?_
        refine qa8 (wk [0,1,2,3,4,5,6,7,8,9,10] (l:=[(0,.d (.str (bstr s_))),(2,.ptr 0 0),(6,iv v78),(8,.ptr 4 0),(9,iv (x30.1.qa1.qa5.length:Int)),(10,iv (w64 ((w64 (v78 + (2:Int))) + (w64 ((48:Int) * (x30.1.qa1.qa5.length:Int)))))),(11,.ptr 8 0),(71,bv true)]) (objs:=[.box [.d (.cx .f32 (0:Nat) (0:Nat)),.d (.cx .f32 (0:Nat) (0:Nat)),.d (.cx .f32 (0:Nat) (0:Nat)),.row 1 v75.length 0 v75.length,.row 2 v76.length 0 v76.length,.row 3 v77.length 0 v77.length],.row 8 (v75.map qae),.row 5 (v76.map qah),.row 4 (v77.map qad),.box [cxv x30.1.qa1.Source.A,cxv x30.1.qa1.Source.B,cxv x30.1.qa1.Source.C,.row 5 x30.1.qa1.qa5.length 0 x30.1.qa1.qa5.length,.row 6 x30.1.Ties.length 0 x30.1.Ties.length,.row 7 v79.length 0 v79.length],.row 8 (x30.1.qa1.qa5.map qae),.row 5 (x30.1.Ties.map qah),.row 4 (v79.map qad),.box [.row 9 x99.1.qap.length 0 x99.1.qap.length,.row 10 x99.1.qau.length 0 x99.1.qau.length,iv x99.1.Rounds,bv x99.1.qdo],.row 3 (x99.1.qap.map qa7),.row 3 (x99.1.qau.map qa7)])) ?_
        exact hk114 true h
       ·have hb115:=qi3 hb115
        have h:=qcv h hb115
        refine qab hτ [] 3 rfl rfl rfl rfl rfl ?_
        refine qab hτ [] 5 rfl rfl rfl rfl rfl ?_
        refine qab hτ [] 6 rfl rfl rfl rfl rfl ?_
        refine qab hτ [] 7 rfl rfl rfl rfl rfl ?_
        refine qab hτ [] 8 rfl rfl rfl rfl rfl ?_
        refine qcr h fun hg116 h=>?_
        refine qfj hτ (v:=.d (.str (bstr (sub s_ (w64 ((w64 (v78 + (2:Int))) + (w64 ((48:Int) * (x30.1.qa1.qa5.length:Int))))) (w64 ((w64 ((w64 (v78 + (2:Int))) + (w64 ((48:Int) * (x30.1.qa1.qa5.length:Int))))) + (2:Int))))))) [] 9 rfl rfl rfl rfl (Eq.trans rfl (qm5 _ _ _)) hg116 ?_
        refine qag h fun x117 hx117 h=>?_
        refine qcy hτ false [] [0,1,2,3,4,5,6,7,8,9,10] 4 rfl rfl rfl rfl (qai func21 rfl rfl) rfl rfl (by simp) ⟨trivial,trivial,trivial⟩ (by trivial) (qfm n x101.1 (2:Int) hx117) ⟨rfl,rfl,rfl,rfl,rfl,rfl,rfl,rfl,rfl,rfl,rfl,trivial⟩ ?_
        refine qab hτ (v:=bv (!(decide (x117 = (sub s_ (w64 ((w64 (v78 + (2:Int))) + (w64 ((48:Int) * (x30.1.qa1.qa5.length:Int))))) (w64 ((w64 ((w64 (v78 + (2:Int))) + (w64 ((48:Int) * (x30.1.qa1.qa5.length:Int))))) + (2:Int)))))))) [] 10 rfl rfl rfl rfl (qtt _ _) ?_
        refine qab hτ [] 11 rfl rfl rfl rfl rfl ?_
        refine qcs mixed (by kernel_rfl) ?_
        refine qa8 (wk [0,1,2,3,4,5,6,7,8,9,10] (l:=[(0,.d (.str (bstr s_))),(2,.ptr 0 0),(6,iv v78),(8,.ptr 4 0),(9,iv (x30.1.qa1.qa5.length:Int)),(10,iv (w64 ((w64 (v78 + (2:Int))) + (w64 ((48:Int) * (x30.1.qa1.qa5.length:Int)))))),(11,.ptr 8 0),(71,bv (!(decide (x117 = (sub s_ (w64 ((w64 (v78 + (2:Int))) + (w64 ((48:Int) * (x30.1.qa1.qa5.length:Int))))) (w64 ((w64 ((w64 (v78 + (2:Int))) + (w64 ((48:Int) * (x30.1.qa1.qa5.length:Int))))) + (2:Int))))))))]) (objs:=[.box [.d (.cx .f32 (0:Nat) (0:Nat)),.d (.cx .f32 (0:Nat) (0:Nat)),.d (.cx .f32 (0:Nat) (0:Nat)),.row 1 v75.length 0 v75.length,.row 2 v76.length 0 v76.length,.row 3 v77.length 0 v77.length],.row 8 (v75.map qae),.row 5 (v76.map qah),.row 4 (v77.map qad),.box [cxv x30.1.qa1.Source.A,cxv x30.1.qa1.Source.B,cxv x30.1.qa1.Source.C,.row 5 x30.1.qa1.qa5.length 0 x30.1.qa1.qa5.length,.row 6 x30.1.Ties.length 0 x30.1.Ties.length,.row 7 v79.length 0 v79.length],.row 8 (x30.1.qa1.qa5.map qae),.row 5 (x30.1.Ties.map qah),.row 4 (v79.map qad),.box [.row 9 x99.1.qap.length 0 x99.1.qap.length,.row 10 x99.1.qau.length 0 x99.1.qau.length,iv x99.1.Rounds,bv x99.1.qdo],.row 3 (x99.1.qap.map qa7),.row 3 (x99.1.qau.map qa7)])) ?_
        exact hk114 (!(decide (x117 = (sub s_ (w64 ((w64 (v78 + (2:Int))) + (w64 ((48:Int) * (x30.1.qa1.qa5.length:Int))))) (w64 ((w64 ((w64 (v78 + (2:Int))) + (w64 ((48:Int) * (x30.1.qa1.qa5.length:Int))))) + (2:Int))))))) h
   ·have h:=if_f h hc96
    refine qe4 ?_
    refine qa8 (wk [0,1,2,3,4,5,6,7] (l:=[(2,.ptr 0 0),(6,iv v78),(8,.ptr 4 0)]) (objs:=[.box [.d (.cx .f32 (0:Nat) (0:Nat)),.d (.cx .f32 (0:Nat) (0:Nat)),.d (.cx .f32 (0:Nat) (0:Nat)),.row 1 v75.length 0 v75.length,.row 2 v76.length 0 v76.length,.row 3 v77.length 0 v77.length],.row 8 (v75.map qae),.row 5 (v76.map qah),.row 4 (v77.map qad),.box [cxv x30.1.qa1.Source.A,cxv x30.1.qa1.Source.B,cxv x30.1.qa1.Source.C,.row 5 x30.1.qa1.qa5.length 0 x30.1.qa1.qa5.length,.row 6 x30.1.Ties.length 0 x30.1.Ties.length,.row 7 v79.length 0 v79.length],.row 8 (x30.1.qa1.qa5.map qae),.row 5 (x30.1.Ties.map qah),.row 4 (v79.map qad)])) ?_
    exact hk65 (v75,v76,v77,v78,v79) h
def qgc (n:Nat) (x4:qan × Int × Bool):Option (qan × Bool) :=
 some ((qan.mk (qbg.mk (qb8.mk x4.1.Grid.qa1.Source x4.1.Grid.qa1.qa5) x4.1.Grid.Ties) x4.1.qa9),true)
def qf3 (n:Nat) (x4:qan × Int × Bool) (v10:Bool):Option (qan × Bool) :=
 if v10 = true then
  some ((qan.mk (qbg.mk (qb8.mk (qaa.mk (Cx.mk (0:Nat) (0:Nat)) (Cx.mk (0:Nat) (0:Nat)) (Cx.mk (0:Nat) (0:Nat))) ([]:List SBus)) ([]:List STie)) ([]:List qav)),false)
 else
  qgc n x4
def qic (n:Nat) (s_:Str):Option (qan × Bool) :=
 (qd8 n s_).bind fun x4 =>
 if x4.2.2 = true then
  qf3 n x4 (!(decide (x4.2.1 = (s_.length:Int))))
 else
  qf3 n x4 true
theorem impl_LoadRecord_ok (n:Nat) (s_:Str) {r:qan × Bool} (h:qic n s_ = some r):qax prog false 7 [.d (.str (bstr s_))] [] (fun v o new=>v = .tup [.agg [cxv r.1.Grid.qa1.Source.A,cxv r.1.Grid.qa1.Source.B,cxv r.1.Grid.qa1.Source.C,.row 0 r.1.Grid.qa1.qa5.length 0 r.1.Grid.qa1.qa5.length,.row 1 r.1.Grid.Ties.length 0 r.1.Grid.Ties.length,.row 2 r.1.qa9.length 0 r.1.qa9.length],bv r.2]∧o = []∧new = [.row 8 (r.1.Grid.qa1.qa5.map qae),.row 5 (r.1.Grid.Ties.map qah),.row 4 (r.1.qa9.map qad)]):=by
 refine qaj hτ func7 rfl (by simp) (by simp) ?_
 unfold qic at h
 refine qa6<|qa2<|qaf hτ rfl rfl rfl<|qa0 hτ rfl rfl rfl<|qa4<|qa6<|qa2<|qa0 hτ rfl rfl rfl ?_
 refine qag h fun x4 hx4 h=>?_
 refine qac hτ false [] rfl rfl rfl (qai func14 rfl rfl) rfl rfl (by simp) ⟨trivial,trivial⟩ (by trivial) (qjk n s_ hx4) ?_
 rintro r0 o0 n0 ⟨rfl,rfl,rfl⟩ -
 refine qa0 hτ rfl rfl rfl<|qa0 hτ rfl rfl rfl<|qa0 hτ rfl rfl rfl<|qa0 hτ rfl rfl rfl<|qaf hτ rfl rfl rfl<|qaf hτ rfl rfl rfl<|qa0 hτ rfl rfl rfl<|qa0 hτ rfl rfl rfl ?_
 refine qa4 ?_
 refine qbn (ι:=Unit) (fun _=>St.of [(2,.ptr 0 0),(4,.ptr 1 0)] [.box [.d (.cx .f32 (0:Nat) (0:Nat)),.d (.cx .f32 (0:Nat) (0:Nat)),.d (.cx .f32 (0:Nat) (0:Nat)),.d (.nils),.d (.nils),.d (.nils)],.box [cxv x4.1.Grid.qa1.Source.A,cxv x4.1.Grid.qa1.Source.B,cxv x4.1.Grid.qa1.Source.C,.row 2 x4.1.Grid.qa1.qa5.length 0 x4.1.Grid.qa1.qa5.length,.row 3 x4.1.Grid.Ties.length 0 x4.1.Grid.Ties.length,.row 4 x4.1.qa9.length 0 x4.1.qa9.length],.row 8 (x4.1.Grid.qa1.qa5.map qae),.row 5 (x4.1.Grid.Ties.map qah),.row 4 (x4.1.qa9.map qad)] f7.ntmps 0) (fun _=>qgc n x4 = some r) ?_ (fun hk7=>?_)
 ·rintro ⟨⟩ h
  replace h:qgc n x4 = some r:=h
  unfold qgc at h
  refine qa6<|qa2<|qa0 hτ rfl rfl rfl<|qaf hτ rfl rfl rfl<|qa0 hτ rfl rfl rfl<|qa4 ?_
  refine qa8 (wk [0,2,3,4] (l:=[(2,.ptr 0 0),(3,bv true)]) (objs:=[.box [cxv x4.1.Grid.qa1.Source.A,cxv x4.1.Grid.qa1.Source.B,cxv x4.1.Grid.qa1.Source.C,.row 1 x4.1.Grid.qa1.qa5.length 0 x4.1.Grid.qa1.qa5.length,.row 2 x4.1.Grid.Ties.length 0 x4.1.Grid.Ties.length,.row 3 x4.1.qa9.length 0 x4.1.qa9.length],.row 8 (x4.1.Grid.qa1.qa5.map qae),.row 5 (x4.1.Grid.Ties.map qah),.row 4 (x4.1.qa9.map qad)])) ?_
  refine qaq ?_
  have hr:=Option.some.inj h
  subst hr
  exact qb0 (.inr rfl) [1,2,3] (objs':=[]) (new:=[.row 8 (x4.1.Grid.qa1.qa5.map qae),.row 5 (x4.1.Grid.Ties.map qah),.row 4 (x4.1.qa9.map qad)]) rfl (by simp) (by simp) rfl (by trivial) rfl rfl (by trivial) (fun h=>nomatch h) ⟨rfl,rfl,rfl⟩
 ·refine qa6 ?_
  refine qbn (ι:=Bool) (fun v10=>St.of [(2,.ptr 0 0),(4,.ptr 1 0),(20,bv v10)] [.box [.d (.cx .f32 (0:Nat) (0:Nat)),.d (.cx .f32 (0:Nat) (0:Nat)),.d (.cx .f32 (0:Nat) (0:Nat)),.d (.nils),.d (.nils),.d (.nils)],.box [cxv x4.1.Grid.qa1.Source.A,cxv x4.1.Grid.qa1.Source.B,cxv x4.1.Grid.qa1.Source.C,.row 2 x4.1.Grid.qa1.qa5.length 0 x4.1.Grid.qa1.qa5.length,.row 3 x4.1.Grid.Ties.length 0 x4.1.Grid.Ties.length,.row 4 x4.1.qa9.length 0 x4.1.qa9.length],.row 8 (x4.1.Grid.qa1.qa5.map qae),.row 5 (x4.1.Grid.Ties.map qah),.row 4 (x4.1.qa9.map qad)] f7.ntmps 0) (fun v10=>qf3 n x4 v10 = some r) ?_ (fun hk12=>?_)
  ·rintro v10 h
   replace h:qf3 n x4 v10 = some r:=h
   unfold qf3 at h
   refine qaw rfl (fun hc11=>?_) (fun hc11=>?_)
   ·have h:=qcv h hc11
    refine qa6<|qa2<|qa0 hτ rfl rfl rfl<|qaf hτ rfl rfl rfl<|qa0 hτ rfl rfl rfl<|qa4 ?_
    refine qa8 (wk [0] (l:=[(2,.ptr 0 0),(3,bv false)]) (objs:=[.box [.d (.cx .f32 (0:Nat) (0:Nat)),.d (.cx .f32 (0:Nat) (0:Nat)),.d (.cx .f32 (0:Nat) (0:Nat)),.d (.nils),.d (.nils),.d (.nils)]])) ?_
    refine qa8 (qe3 [8,5,4] (l':=[(2,.ptr 0 0),(3,bv false)]) (objs':=[.box [.d (.cx .f32 (0:Nat) (0:Nat)),.d (.cx .f32 (0:Nat) (0:Nat)),.d (.cx .f32 (0:Nat) (0:Nat)),.row 1 (([]:List SBus).length) 0 (([]:List SBus).length),.row 2 (([]:List STie).length) 0 (([]:List STie).length),.row 3 (([]:List qav).length) 0 (([]:List qav).length)]]) (.cons (.c (.refl _)) (.cons (.c (.refl _)) .nil)) (.cons (.box (.cons (.refl _) (.cons (.refl _) (.cons (.refl _) (.cons (.ghost ⟨Nat.le_of_ble_eq_true rfl,Nat.le_of_ble_eq_true rfl⟩) (.cons (.ghost ⟨Nat.le_of_ble_eq_true rfl,Nat.le_of_ble_eq_true rfl⟩) (.cons (.ghost ⟨Nat.le_of_ble_eq_true rfl,Nat.le_of_ble_eq_true rfl⟩) .nil))))))) .nil)) ?_
    refine qaq ?_
    have hr:=Option.some.inj h
    subst hr
    exact qb0 (.inr rfl) [1,2,3] (objs':=[]) (new:=[.row 8 (([]:List SBus).map qae),.row 5 (([]:List STie).map qah),.row 4 (([]:List qav).map qad)]) rfl (by simp) (by simp) rfl (by trivial) rfl rfl (by trivial) (fun h=>nomatch h) ⟨rfl,rfl,rfl⟩
   ·have h:=qcu h hc11
    refine qb1 ?_
    refine qa8 (wk [0,1,2,3,4] (l:=[(2,.ptr 0 0),(4,.ptr 1 0)]) (objs:=[.box [.d (.cx .f32 (0:Nat) (0:Nat)),.d (.cx .f32 (0:Nat) (0:Nat)),.d (.cx .f32 (0:Nat) (0:Nat)),.d (.nils),.d (.nils),.d (.nils)],.box [cxv x4.1.Grid.qa1.Source.A,cxv x4.1.Grid.qa1.Source.B,cxv x4.1.Grid.qa1.Source.C,.row 2 x4.1.Grid.qa1.qa5.length 0 x4.1.Grid.qa1.qa5.length,.row 3 x4.1.Grid.Ties.length 0 x4.1.Grid.Ties.length,.row 4 x4.1.qa9.length 0 x4.1.qa9.length],.row 8 (x4.1.Grid.qa1.qa5.map qae),.row 5 (x4.1.Grid.Ties.map qah),.row 4 (x4.1.qa9.map qad)])) ?_
    exact hk7 () h
  ·refine qa6 ?_
   refine qa8 (wk [0,4,1,2,3] (l:=[(0,.d (.str (bstr s_))),(2,.ptr 0 0),(4,.ptr 1 0),(5,iv x4.2.1),(6,bv x4.2.2)]) (objs:=[.box [.d (.cx .f32 (0:Nat) (0:Nat)),.d (.cx .f32 (0:Nat) (0:Nat)),.d (.cx .f32 (0:Nat) (0:Nat)),.d (.nils),.d (.nils),.d (.nils)],.box [cxv x4.1.Grid.qa1.Source.A,cxv x4.1.Grid.qa1.Source.B,cxv x4.1.Grid.qa1.Source.C,.row 2 x4.1.Grid.qa1.qa5.length 0 x4.1.Grid.qa1.qa5.length,.row 3 x4.1.Grid.Ties.length 0 x4.1.Grid.Ties.length,.row 4 x4.1.qa9.length 0 x4.1.qa9.length],.row 8 (x4.1.Grid.qa1.qa5.map qae),.row 5 (x4.1.Grid.Ties.map qah),.row 4 (x4.1.qa9.map qad)])) ?_
   refine qa2<|qa0 hτ rfl rfl rfl<|qa0 hτ rfl rfl rfl<|qa0 hτ rfl rfl rfl ?_
   refine qay 15 rfl (fun hb13=>?_) (fun hb13=>?_)
   ·have hb13:=qi4 hb13
    have h:=qcu h hb13
    refine qa3 rfl rfl<|qa3 rfl rfl<|qa3 rfl rfl<|qa3 rfl rfl<|qa0 hτ rfl rfl rfl<|qa4 ?_
    refine qa8 (wk [0,1,2,3,4] (l:=[(2,.ptr 0 0),(4,.ptr 1 0),(20,bv true)]) (objs:=[.box [.d (.cx .f32 (0:Nat) (0:Nat)),.d (.cx .f32 (0:Nat) (0:Nat)),.d (.cx .f32 (0:Nat) (0:Nat)),.d (.nils),.d (.nils),.d (.nils)],.box [cxv x4.1.Grid.qa1.Source.A,cxv x4.1.Grid.qa1.Source.B,cxv x4.1.Grid.qa1.Source.C,.row 2 x4.1.Grid.qa1.qa5.length 0 x4.1.Grid.qa1.qa5.length,.row 3 x4.1.Grid.Ties.length 0 x4.1.Grid.Ties.length,.row 4 x4.1.qa9.length 0 x4.1.qa9.length],.row 8 (x4.1.Grid.qa1.qa5.map qae),.row 5 (x4.1.Grid.Ties.map qah),.row 4 (x4.1.qa9.map qad)])) ?_
    exact hk12 true h
   ·have hb13:=qi3 hb13
    have h:=qcv h hb13
    refine qa0 hτ rfl rfl rfl<|qa0 hτ rfl rfl rfl<|qa0 hτ rfl rfl rfl ?_
    refine qa0 hτ (v:=bv (!(decide (x4.2.1 = (s_.length:Int))))) rfl rfl (qop _ _) ?_
    refine qa0 hτ rfl rfl rfl<|qa4 ?_
    refine qa8 (wk [0,1,2,3,4] (l:=[(2,.ptr 0 0),(4,.ptr 1 0),(20,bv (!(decide (x4.2.1 = (s_.length:Int)))))]) (objs:=[.box [.d (.cx .f32 (0:Nat) (0:Nat)),.d (.cx .f32 (0:Nat) (0:Nat)),.d (.cx .f32 (0:Nat) (0:Nat)),.d (.nils),.d (.nils),.d (.nils)],.box [cxv x4.1.Grid.qa1.Source.A,cxv x4.1.Grid.qa1.Source.B,cxv x4.1.Grid.qa1.Source.C,.row 2 x4.1.Grid.qa1.qa5.length 0 x4.1.Grid.qa1.qa5.length,.row 3 x4.1.Grid.Ties.length 0 x4.1.Grid.Ties.length,.row 4 x4.1.qa9.length 0 x4.1.qa9.length],.row 8 (x4.1.Grid.qa1.qa5.map qae),.row 5 (x4.1.Grid.Ties.map qah),.row 4 (x4.1.qa9.map qad)])) ?_
    exact hk12 (!(decide (x4.2.1 = (s_.length:Int)))) h
def qh6 (n:Nat) (g_:qbg):Option (Str × Bool) :=
 (qdm n g_).bind fun x4 =>
 if x4 = true then
  (qhn n g_).bind fun x6 =>
  some (x6,true)
 else
  some (([]:Str),false)
theorem impl_StoreGrid_ok_fr0 (fr:Bool) (n:Nat) (g_:qbg) {r:Str × Bool} (h:qh6 n g_ = some r):qax prog fr 8 [.agg [cxv g_.qa1.Source.A,cxv g_.qa1.Source.B,cxv g_.qa1.Source.C,sv qae g_.qa1.qa5,sv qah g_.Ties]] [] (fun v o new=>v = .tup [.d (.str (bstr r.1)),bv r.2]∧o = []∧new = []):=by
 refine qaj hτ func8 rfl (by simp) (by simp) ?_
 unfold qh6 at h
 refine qa6<|qa2<|qaf hτ rfl rfl rfl<|qa0 hτ rfl rfl rfl<|qa0 hτ rfl rfl rfl<|qa4<|qa6<|qa6 ?_
 refine qa2<|qa0 hτ rfl rfl rfl ?_
 refine qag h fun x4 hx4 h=>?_
 refine qac hτ false [] rfl rfl rfl (qai func22 rfl rfl) rfl rfl (by simp) ⟨(by trivial),trivial⟩ (by trivial) (qmj n g_ hx4) ?_
 rintro r0 o0 n0 ⟨rfl,rfl,rfl⟩ -
 refine qa0 hτ rfl rfl rfl<|qa4 ?_
 refine qa8 (wk [0] (l:=[(1,.ptr 0 0),(6,bv (!x4))]) (objs:=[.box [cxv g_.qa1.Source.A,cxv g_.qa1.Source.B,cxv g_.qa1.Source.C,sv qae g_.qa1.qa5,sv qah g_.Ties]])) ?_
 refine qaw rfl (fun hc5=>?_) (fun hc5=>?_)
 ·have hc5:=qi4 hc5
  have h:=qcu h hc5
  refine qa6<|qa2<|qa0 hτ rfl rfl rfl<|qa0 hτ rfl rfl rfl<|qa4 ?_
  refine qa8 (wk [] (l:=[(2,.d (.str (bstr ([]:Str)))),(3,bv false)]) (objs:=[])) ?_
  refine qaq ?_
  have hr:=Option.some.inj h
  subst hr
  exact rt0 rfl rfl ⟨rfl,rfl,rfl⟩
 ·have hc5:=qi3 hc5
  have h:=qcv h hc5
  refine qb1<|qa6<|qa2<|qa0 hτ rfl rfl rfl ?_
  refine qag h fun x6 hx6 h=>?_
  refine qac hτ false [] rfl rfl rfl (qai func18 rfl rfl) rfl rfl (by simp) ⟨(by trivial),trivial⟩ (by trivial) (qo0 n g_ hx6) ?_
  rintro r0 o0 n0 ⟨rfl,rfl,rfl⟩ -
  refine qa0 hτ rfl rfl rfl<|qa0 hτ rfl rfl rfl<|qa4 ?_
  refine qa8 (wk [] (l:=[(2,.d (.str (bstr x6))),(3,bv true)]) (objs:=[])) ?_
  refine qaq ?_
  have hr:=Option.some.inj h
  subst hr
  exact rt0 rfl rfl ⟨rfl,rfl,rfl⟩
theorem impl_StoreGrid_ok_fr (n:Nat) (g_:qbg) {r:Str × Bool} (h:qh6 n g_ = some r):qax prog true 8 [.agg [cxv g_.qa1.Source.A,cxv g_.qa1.Source.B,cxv g_.qa1.Source.C,sv qae g_.qa1.qa5,sv qah g_.Ties]] [] (fun v o new=>v = .tup [.d (.str (bstr r.1)),bv r.2]∧o = []∧new = []):=impl_StoreGrid_ok_fr0 true n g_ h
end Go.Proofs.YtiegopnofbgoaaaGreat.AWN

set_option maxHeartbeats 2000000
namespace Go.Proofs.YtiegopnofbgoaaaGreat.AWN
open Go Go.Proofs.Tryz
def qhh (n:Nat) (x4:qbg × Int × Bool):Option (qbg × Bool) :=
 some ((qbg.mk (qb8.mk x4.1.qa1.Source x4.1.qa1.qa5) x4.1.Ties),true)
def qg3 (n:Nat) (x4:qbg × Int × Bool) (v10:Bool):Option (qbg × Bool) :=
 if v10 = true then
  some ((qbg.mk (qb8.mk (qaa.mk (Cx.mk (0:Nat) (0:Nat)) (Cx.mk (0:Nat) (0:Nat)) (Cx.mk (0:Nat) (0:Nat))) ([]:List SBus)) ([]:List STie)),false)
 else
  qhh n x4
def qib (n:Nat) (s_:Str):Option (qbg × Bool) :=
 (qgv n s_).bind fun x4 =>
 if x4.2.2 = true then
  qg3 n x4 (!(decide (x4.2.1 = (s_.length:Int))))
 else
  qg3 n x4 true
theorem impl_LoadGrid_ok_fr0 (fr:Bool) (n:Nat) (s_:Str) {r:qbg × Bool} (h:qib n s_ = some r):qax prog fr 9 [.d (.str (bstr s_))] [] (fun v o new=>v = .tup [.agg [cxv r.1.qa1.Source.A,cxv r.1.qa1.Source.B,cxv r.1.qa1.Source.C,.row 0 r.1.qa1.qa5.length 0 r.1.qa1.qa5.length,.row 1 r.1.Ties.length 0 r.1.Ties.length],bv r.2]∧o = []∧new = [.row 8 (r.1.qa1.qa5.map qae),.row 5 (r.1.Ties.map qah)]):=by
 refine qaj hτ func9 rfl (by simp) (by simp) ?_
 unfold qib at h
 refine qa6<|qa2<|qaf hτ rfl rfl rfl<|qa0 hτ rfl rfl rfl<|qa4<|qa6<|qa2<|qa0 hτ rfl rfl rfl ?_
 refine qag h fun x4 hx4 h=>?_
 refine qac hτ false [] rfl rfl rfl (qai func23 rfl rfl) rfl rfl (by simp) ⟨trivial,trivial⟩ (by trivial) (qn1 n s_ hx4) ?_
 rintro r0 o0 n0 ⟨rfl,rfl,rfl⟩ -
 refine qa0 hτ rfl rfl rfl<|qa0 hτ rfl rfl rfl<|qa0 hτ rfl rfl rfl<|qa0 hτ rfl rfl rfl<|qaf hτ rfl rfl rfl<|qaf hτ rfl rfl rfl<|qa0 hτ rfl rfl rfl<|qa0 hτ rfl rfl rfl ?_
 refine qa4 ?_
 refine qbn (ι:=Unit) (fun _=>St.of [(2,.ptr 0 0),(4,.ptr 1 0)] [.box [.d (.cx .f32 (0:Nat) (0:Nat)),.d (.cx .f32 (0:Nat) (0:Nat)),.d (.cx .f32 (0:Nat) (0:Nat)),.d (.nils),.d (.nils)],.box [cxv x4.1.qa1.Source.A,cxv x4.1.qa1.Source.B,cxv x4.1.qa1.Source.C,.row 2 x4.1.qa1.qa5.length 0 x4.1.qa1.qa5.length,.row 3 x4.1.Ties.length 0 x4.1.Ties.length],.row 8 (x4.1.qa1.qa5.map qae),.row 5 (x4.1.Ties.map qah)] f9.ntmps 0) (fun _=>qhh n x4 = some r) ?_ (fun hk7=>?_)
 ·rintro ⟨⟩ h
  replace h:qhh n x4 = some r:=h
  unfold qhh at h
  refine qa6<|qa2<|qa0 hτ rfl rfl rfl<|qaf hτ rfl rfl rfl<|qa0 hτ rfl rfl rfl<|qa4 ?_
  refine qa8 (wk [0,2,3] (l:=[(2,.ptr 0 0),(3,bv true)]) (objs:=[.box [cxv x4.1.qa1.Source.A,cxv x4.1.qa1.Source.B,cxv x4.1.qa1.Source.C,.row 1 x4.1.qa1.qa5.length 0 x4.1.qa1.qa5.length,.row 2 x4.1.Ties.length 0 x4.1.Ties.length],.row 8 (x4.1.qa1.qa5.map qae),.row 5 (x4.1.Ties.map qah)])) ?_
  refine qaq ?_
  have hr:=Option.some.inj h
  subst hr
  exact qb0 (.inr rfl) [1,2] (objs':=[]) (new:=[.row 8 (x4.1.qa1.qa5.map qae),.row 5 (x4.1.Ties.map qah)]) rfl (by simp) (by simp) rfl (by trivial) rfl rfl (by trivial) (fun _=>⟨by simp [V.flat,V.qiq,V.qf9,D.flat],(qbl (qdy qjs _) (qbl (qdy qki _) qct))⟩) ⟨rfl,rfl,rfl⟩
 ·refine qa6 ?_
  refine qbn (ι:=Bool) (fun v10=>St.of [(2,.ptr 0 0),(4,.ptr 1 0),(20,bv v10)] [.box [.d (.cx .f32 (0:Nat) (0:Nat)),.d (.cx .f32 (0:Nat) (0:Nat)),.d (.cx .f32 (0:Nat) (0:Nat)),.d (.nils),.d (.nils)],.box [cxv x4.1.qa1.Source.A,cxv x4.1.qa1.Source.B,cxv x4.1.qa1.Source.C,.row 2 x4.1.qa1.qa5.length 0 x4.1.qa1.qa5.length,.row 3 x4.1.Ties.length 0 x4.1.Ties.length],.row 8 (x4.1.qa1.qa5.map qae),.row 5 (x4.1.Ties.map qah)] f9.ntmps 0) (fun v10=>qg3 n x4 v10 = some r) ?_ (fun hk12=>?_)
  ·rintro v10 h
   replace h:qg3 n x4 v10 = some r:=h
   unfold qg3 at h
   refine qaw rfl (fun hc11=>?_) (fun hc11=>?_)
   ·have h:=qcv h hc11
    refine qa6<|qa2<|qa0 hτ rfl rfl rfl<|qaf hτ rfl rfl rfl<|qa0 hτ rfl rfl rfl<|qa4 ?_
    refine qa8 (wk [0] (l:=[(2,.ptr 0 0),(3,bv false)]) (objs:=[.box [.d (.cx .f32 (0:Nat) (0:Nat)),.d (.cx .f32 (0:Nat) (0:Nat)),.d (.cx .f32 (0:Nat) (0:Nat)),.d (.nils),.d (.nils)]])) ?_
    refine qa8 (qe3 [8,5] (l':=[(2,.ptr 0 0),(3,bv false)]) (objs':=[.box [.d (.cx .f32 (0:Nat) (0:Nat)),.d (.cx .f32 (0:Nat) (0:Nat)),.d (.cx .f32 (0:Nat) (0:Nat)),.row 1 (([]:List SBus).length) 0 (([]:List SBus).length),.row 2 (([]:List STie).length) 0 (([]:List STie).length)]]) (.cons (.c (.refl _)) (.cons (.c (.refl _)) .nil)) (.cons (.box (.cons (.refl _) (.cons (.refl _) (.cons (.refl _) (.cons (.ghost ⟨Nat.le_of_ble_eq_true rfl,Nat.le_of_ble_eq_true rfl⟩) (.cons (.ghost ⟨Nat.le_of_ble_eq_true rfl,Nat.le_of_ble_eq_true rfl⟩) .nil)))))) .nil)) ?_
    refine qaq ?_
    have hr:=Option.some.inj h
    subst hr
    exact qb0 (.inr rfl) [1,2] (objs':=[]) (new:=[.row 8 (([]:List SBus).map qae),.row 5 (([]:List STie).map qah)]) rfl (by simp) (by simp) rfl (by trivial) rfl rfl (by trivial) (fun _=>⟨by simp [V.flat,V.qiq,V.qf9,D.flat],(qbl (qdy qjs _) (qbl (qdy qki _) qct))⟩) ⟨rfl,rfl,rfl⟩
   ·have h:=qcu h hc11
    refine qb1 ?_
    refine qa8 (wk [0,1,2,3] (l:=[(2,.ptr 0 0),(4,.ptr 1 0)]) (objs:=[.box [.d (.cx .f32 (0:Nat) (0:Nat)),.d (.cx .f32 (0:Nat) (0:Nat)),.d (.cx .f32 (0:Nat) (0:Nat)),.d (.nils),.d (.nils)],.box [cxv x4.1.qa1.Source.A,cxv x4.1.qa1.Source.B,cxv x4.1.qa1.Source.C,.row 2 x4.1.qa1.qa5.length 0 x4.1.qa1.qa5.length,.row 3 x4.1.Ties.length 0 x4.1.Ties.length],.row 8 (x4.1.qa1.qa5.map qae),.row 5 (x4.1.Ties.map qah)])) ?_
    exact hk7 () h
  ·refine qa6 ?_
   refine qa8 (wk [0,3,1,2] (l:=[(0,.d (.str (bstr s_))),(2,.ptr 0 0),(4,.ptr 1 0),(5,iv x4.2.1),(6,bv x4.2.2)]) (objs:=[.box [.d (.cx .f32 (0:Nat) (0:Nat)),.d (.cx .f32 (0:Nat) (0:Nat)),.d (.cx .f32 (0:Nat) (0:Nat)),.d (.nils),.d (.nils)],.box [cxv x4.1.qa1.Source.A,cxv x4.1.qa1.Source.B,cxv x4.1.qa1.Source.C,.row 2 x4.1.qa1.qa5.length 0 x4.1.qa1.qa5.length,.row 3 x4.1.Ties.length 0 x4.1.Ties.length],.row 8 (x4.1.qa1.qa5.map qae),.row 5 (x4.1.Ties.map qah)])) ?_
   refine qa2<|qa0 hτ rfl rfl rfl<|qa0 hτ rfl rfl rfl<|qa0 hτ rfl rfl rfl ?_
   refine qay 15 rfl (fun hb13=>?_) (fun hb13=>?_)
   ·have hb13:=qi4 hb13
    have h:=qcu h hb13
    refine qa3 rfl rfl<|qa3 rfl rfl<|qa3 rfl rfl<|qa3 rfl rfl<|qa0 hτ rfl rfl rfl<|qa4 ?_
    refine qa8 (wk [0,1,2,3] (l:=[(2,.ptr 0 0),(4,.ptr 1 0),(20,bv true)]) (objs:=[.box [.d (.cx .f32 (0:Nat) (0:Nat)),.d (.cx .f32 (0:Nat) (0:Nat)),.d (.cx .f32 (0:Nat) (0:Nat)),.d (.nils),.d (.nils)],.box [cxv x4.1.qa1.Source.A,cxv x4.1.qa1.Source.B,cxv x4.1.qa1.Source.C,.row 2 x4.1.qa1.qa5.length 0 x4.1.qa1.qa5.length,.row 3 x4.1.Ties.length 0 x4.1.Ties.length],.row 8 (x4.1.qa1.qa5.map qae),.row 5 (x4.1.Ties.map qah)])) ?_
    exact hk12 true h
   ·have hb13:=qi3 hb13
    have h:=qcv h hb13
    refine qa0 hτ rfl rfl rfl<|qa0 hτ rfl rfl rfl<|qa0 hτ rfl rfl rfl ?_
    refine qa0 hτ (v:=bv (!(decide (x4.2.1 = (s_.length:Int))))) rfl rfl (qop _ _) ?_
    refine qa0 hτ rfl rfl rfl<|qa4 ?_
    refine qa8 (wk [0,1,2,3] (l:=[(2,.ptr 0 0),(4,.ptr 1 0),(20,bv (!(decide (x4.2.1 = (s_.length:Int)))))]) (objs:=[.box [.d (.cx .f32 (0:Nat) (0:Nat)),.d (.cx .f32 (0:Nat) (0:Nat)),.d (.cx .f32 (0:Nat) (0:Nat)),.d (.nils),.d (.nils)],.box [cxv x4.1.qa1.Source.A,cxv x4.1.qa1.Source.B,cxv x4.1.qa1.Source.C,.row 2 x4.1.qa1.qa5.length 0 x4.1.qa1.qa5.length,.row 3 x4.1.Ties.length 0 x4.1.Ties.length],.row 8 (x4.1.qa1.qa5.map qae),.row 5 (x4.1.Ties.map qah)])) ?_
    exact hk12 (!(decide (x4.2.1 = (s_.length:Int)))) h
theorem impl_LoadGrid_ok (n:Nat) (s_:Str) {r:qbg × Bool} (h:qib n s_ = some r):qax prog false 9 [.d (.str (bstr s_))] [] (fun v o new=>v = .tup [.agg [cxv r.1.qa1.Source.A,cxv r.1.qa1.Source.B,cxv r.1.qa1.Source.C,.row 0 r.1.qa1.qa5.length 0 r.1.qa1.qa5.length,.row 1 r.1.Ties.length 0 r.1.Ties.length],bv r.2]∧o = []∧new = [.row 8 (r.1.qa1.qa5.map qae),.row 5 (r.1.Ties.map qah)]):=impl_LoadGrid_ok_fr0 false n s_ h
def qgd (n:Nat) (a_:Nat) (b_:Nat):Option Bool :=
 grd (isnan .f32 a_ = false) <|
 grd (isnan .f32 b_ = false) <|
 some (decide ((a_:Int) = (b_:Int)))
def qf4 (n:Nat) (a_:Nat) (b_:Nat) (v26:Bool):Option Bool :=
 if v26 = true then
  (qgl n a_).bind fun x28 =>
  if x28 = true then
   (qgl n b_).bind fun x30 =>
   some x30
  else
   some false
 else
  qgd n a_ b_
def qfb (n:Nat) (a_:Nat) (b_:Nat):Option Bool :=
 (qgl n a_).bind fun x32 =>
 if x32 = true then
  qf4 n a_ b_ true
 else
  (qgl n b_).bind fun x34 =>
  qf4 n a_ b_ x34
theorem impl_SameNumber_ok_fr0 (fr:Bool) (n:Nat) (a_:Nat) (b_:Nat) {r:Bool} (h:qfb n a_ b_ = some r):qax prog fr 72 [.d (.fl .f32 a_),.d (.fl .f32 b_)] [] (fun v o new=>v = (bv r)∧o = []∧new = []):=by
 refine qaj hτ func72 rfl (by simp) (by simp) ?_
 unfold qfb at h
 refine qa6<|qa2<|qa0 hτ rfl rfl rfl<|qa4 ?_
 refine qbn (ι:=Unit) (fun _=>St.of [(0,.d (.fl .f32 a_)),(1,.d (.fl .f32 b_))] [] f72.ntmps 0) (fun _=>qgd n a_ b_ = some r) ?_ (fun hk21=>?_)
 ·rintro ⟨⟩ h
  replace h:qgd n a_ b_ = some r:=h
  unfold qgd at h
  refine qa6<|qa2<|qa0 hτ rfl rfl rfl ?_
  refine qcr h fun hg19 h=>?_
  refine qo7 hτ rfl rfl rfl (qy3 hg19) ?_
  refine qa0 hτ rfl rfl rfl ?_
  refine qcr h fun hg20 h=>?_
  refine qo7 hτ rfl rfl rfl (qy3 hg20) ?_
  refine qa0 hτ (v:=bv (decide ((a_:Int) = (b_:Int)))) rfl rfl (qim _ _) ?_
  refine qa0 hτ rfl rfl rfl<|qa4 ?_
  refine qa8 (wk [] (l:=[(4,bv (decide ((a_:Int) = (b_:Int))))]) (objs:=[])) ?_
  refine qaq ?_
  have hr:=Option.some.inj h
  subst hr
  exact rt0 rfl rfl ⟨rfl,rfl,rfl⟩
 ·refine qa6 ?_
  refine qbn (ι:=Bool) (fun v26=>St.of [(0,.d (.fl .f32 a_)),(1,.d (.fl .f32 b_)),(10,bv v26)] [] f72.ntmps 0) (fun v26=>qf4 n a_ b_ v26 = some r) ?_ (fun hk31=>?_)
  ·rintro v26 h
   replace h:qf4 n a_ b_ v26 = some r:=h
   unfold qf4 at h
   refine qaw rfl (fun hc27=>?_) (fun hc27=>?_)
   ·have h:=qcv h hc27
    refine qa6<|qa2<|qa0 hτ rfl rfl rfl ?_
    refine qag h fun x28 hx28 h=>?_
    refine qac hτ false [] rfl rfl rfl (qai func83 rfl rfl) rfl rfl (by simp) ⟨trivial,trivial⟩ (by trivial) (qkr n a_ hx28) ?_
    rintro r0 o0 n0 ⟨rfl,rfl,rfl⟩ -
    refine qa0 hτ rfl rfl rfl ?_
    refine qay 13 rfl (fun hb29=>?_) (fun hb29=>?_)
    ·have h:=qcv h hb29
     refine qa0 hτ rfl rfl rfl ?_
     refine qag h fun x30 hx30 h=>?_
     refine qac hτ false [] rfl rfl rfl (qai func83 rfl rfl) rfl rfl (by simp) ⟨trivial,trivial⟩ (by trivial) (qkr n b_ hx30) ?_
     rintro r0 o0 n0 ⟨rfl,rfl,rfl⟩ -
     refine qa0 hτ rfl rfl rfl<|qa0 hτ rfl rfl rfl<|qa4 ?_
     refine qa8 (wk [] (l:=[(4,bv x30)]) (objs:=[])) ?_
     refine qaq ?_
     have hr:=Option.some.inj h
     subst hr
     exact rt0 rfl rfl ⟨rfl,rfl,rfl⟩
    ·have h:=qcu h hb29
     refine qa3 rfl rfl<|qa3 rfl rfl<|qa0 hτ rfl rfl rfl<|qa0 hτ rfl rfl rfl<|qa4 ?_
     refine qa8 (wk [] (l:=[(4,bv false)]) (objs:=[])) ?_
     refine qaq ?_
     have hr:=Option.some.inj h
     subst hr
     exact rt0 rfl rfl ⟨rfl,rfl,rfl⟩
   ·have h:=qcu h hc27
    refine qb1 ?_
    refine qa8 (wk [] (l:=[(0,.d (.fl .f32 a_)),(1,.d (.fl .f32 b_))]) (objs:=[])) ?_
    exact hk21 () h
  ·refine qa6<|qa2<|qa0 hτ rfl rfl rfl ?_
   refine qag h fun x32 hx32 h=>?_
   refine qac hτ false [] rfl rfl rfl (qai func83 rfl rfl) rfl rfl (by simp) ⟨trivial,trivial⟩ (by trivial) (qkr n a_ hx32) ?_
   rintro r0 o0 n0 ⟨rfl,rfl,rfl⟩ -
   refine qa0 hτ rfl rfl rfl ?_
   refine qay 7 rfl (fun hb33=>?_) (fun hb33=>?_)
   ·have h:=qcv h hb33
    refine qa3 rfl rfl<|qa3 rfl rfl<|qa0 hτ rfl rfl rfl<|qa4 ?_
    refine qa8 (wk [] (l:=[(0,.d (.fl .f32 a_)),(1,.d (.fl .f32 b_)),(10,bv true)]) (objs:=[])) ?_
    exact hk31 true h
   ·have h:=qcu h hb33
    refine qa0 hτ rfl rfl rfl ?_
    refine qag h fun x34 hx34 h=>?_
    refine qac hτ false [] rfl rfl rfl (qai func83 rfl rfl) rfl rfl (by simp) ⟨trivial,trivial⟩ (by trivial) (qkr n b_ hx34) ?_
    rintro r0 o0 n0 ⟨rfl,rfl,rfl⟩ -
    refine qa0 hτ rfl rfl rfl<|qa4 ?_
    refine qa8 (wk [] (l:=[(0,.d (.fl .f32 a_)),(1,.d (.fl .f32 b_)),(10,bv x34)]) (objs:=[])) ?_
    exact hk31 x34 h
theorem qm9 (n:Nat) (a_:Nat) (b_:Nat) {r:Bool} (h:qfb n a_ b_ = some r):qax prog false 72 [.d (.fl .f32 a_),.d (.fl .f32 b_)] [] (fun v o new=>v = (bv r)∧o = []∧new = []):=impl_SameNumber_ok_fr0 false n a_ b_ h
def qc7 (n:Nat) (a_:Cx) (b_:Cx):Option Bool :=
 (qfb n a_.re b_.re).bind fun x5 =>
 if x5 = true then
  (qfb n a_.im b_.im).bind fun x7 =>
  some x7
 else
  some false
theorem impl_SameComplex_ok_fr0 (fr:Bool) (n:Nat) (a_:Cx) (b_:Cx) {r:Bool} (h:qc7 n a_ b_ = some r):qax prog fr 57 [cxv a_,cxv b_] [] (fun v o new=>v = (bv r)∧o = []∧new = []):=by
 refine qaj hτ func57 rfl (by simp) (by simp) ?_
 unfold qc7 at h
 refine qa6<|qa2<|qa0 hτ rfl rfl rfl<|qa4<|qa6<|qa2<|qa0 hτ rfl rfl rfl<|qa0 hτ rfl rfl rfl ?_
 refine qa0 hτ rfl rfl rfl<|qa0 hτ rfl rfl rfl ?_
 refine qag h fun x5 hx5 h=>?_
 refine qac hτ false [] rfl rfl rfl (qai func72 rfl rfl) rfl rfl (by simp) ⟨trivial,trivial,trivial⟩ (by trivial) (qm9 n a_.re b_.re hx5) ?_
 rintro r0 o0 n0 ⟨rfl,rfl,rfl⟩ -
 refine qa0 hτ rfl rfl rfl ?_
 refine qay 10 rfl (fun hb6=>?_) (fun hb6=>?_)
 ·have h:=qcv h hb6
  refine qa0 hτ rfl rfl rfl<|qa0 hτ rfl rfl rfl<|qa0 hτ rfl rfl rfl<|qa0 hτ rfl rfl rfl ?_
  refine qag h fun x7 hx7 h=>?_
  refine qac hτ false [] rfl rfl rfl (qai func72 rfl rfl) rfl rfl (by simp) ⟨trivial,trivial,trivial⟩ (by trivial) (qm9 n a_.im b_.im hx7) ?_
  rintro r0 o0 n0 ⟨rfl,rfl,rfl⟩ -
  refine qar (wk [] (l:=[(10,bv true),(15,bv x7)]) (objs:=[])) ?_
  refine qa0 hτ rfl rfl rfl<|qa0 hτ rfl rfl rfl<|qa4 ?_
  refine qa8 (wk [] (l:=[(4,bv x7)]) (objs:=[])) ?_
  refine qaq ?_
  have hr:=Option.some.inj h
  subst hr
  exact rt0 rfl rfl ⟨rfl,rfl,rfl⟩
 ·have h:=qcu h hb6
  refine qa3 rfl rfl<|qa3 rfl rfl<|qa3 rfl rfl<|qa3 rfl rfl<|qa3 rfl rfl ?_
  refine qar (wk [] (l:=[(10,bv false),(15,.und)]) (objs:=[])) ?_
  refine qa0 hτ rfl rfl rfl<|qa0 hτ rfl rfl rfl<|qa4 ?_
  refine qa8 (wk [] (l:=[(4,bv false)]) (objs:=[])) ?_
  refine qaq ?_
  have hr:=Option.some.inj h
  subst hr
  exact rt0 rfl rfl ⟨rfl,rfl,rfl⟩
theorem qe8 (n:Nat) (a_:Cx) (b_:Cx) {r:Bool} (h:qc7 n a_ b_ = some r):qax prog false 57 [cxv a_,cxv b_] [] (fun v o new=>v = (bv r)∧o = []∧new = []):=impl_SameComplex_ok_fr0 false n a_ b_ h
def qel (n:Nat) (a_:qaa) (b_:qaa):Option Bool :=
 (qc7 n a_.A b_.A).bind fun x8 =>
 if x8 = true then
  (qc7 n a_.B b_.B).bind fun x10 =>
  if x10 = true then
   (qc7 n a_.C b_.C).bind fun x12 =>
   some x12
  else
   some false
 else
  some false
theorem impl_SamePhases_ok_fr0 (fr:Bool) (n:Nat) (a_:qaa) (b_:qaa) {r:Bool} (h:qel n a_ b_ = some r):qax prog fr 54 [.agg [cxv a_.A,cxv a_.B,cxv a_.C],.agg [cxv b_.A,cxv b_.B,cxv b_.C]] [] (fun v o new=>v = (bv r)∧o = []∧new = []):=by
 refine qaj hτ func54 rfl (by simp) (by simp) ?_
 unfold qel at h
 refine qa6<|qa2<|qaf hτ rfl rfl rfl<|qaf hτ rfl rfl rfl<|qa0 hτ rfl rfl rfl<|qa4<|qa6<|qa2 ?_
 refine qa0 hτ rfl rfl rfl<|qa0 hτ rfl rfl rfl<|qa0 hτ rfl rfl rfl<|qa0 hτ rfl rfl rfl ?_
 refine qag h fun x8 hx8 h=>?_
 refine qac hτ false [] rfl rfl rfl (qai func57 rfl rfl) rfl rfl (by simp) ⟨trivial,trivial,trivial⟩ (by trivial) (qe8 n a_.A b_.A hx8) ?_
 rintro r0 o0 n0 ⟨rfl,rfl,rfl⟩ -
 refine qa0 hτ rfl rfl rfl ?_
 refine qay 10 rfl (fun hb9=>?_) (fun hb9=>?_)
 ·have h:=qcv h hb9
  refine qa0 hτ rfl rfl rfl<|qa0 hτ rfl rfl rfl<|qa0 hτ rfl rfl rfl ?_
  refine qar (wk [0,1] (l:=[(2,.ptr 0 0),(3,.ptr 1 0),(10,bv true),(12,cxv a_.B),(13,.ptr 1 1)]) (objs:=[.box [cxv a_.A,cxv a_.B,cxv a_.C],.box [cxv b_.A,cxv b_.B,cxv b_.C]])) ?_
  refine qa0 hτ rfl rfl rfl ?_
  refine qag h fun x10 hx10 h=>?_
  refine qac hτ false [] rfl rfl rfl (qai func57 rfl rfl) rfl rfl (by simp) ⟨trivial,trivial,trivial⟩ (by trivial) (qe8 n a_.B b_.B hx10) ?_
  rintro r0 o0 n0 ⟨rfl,rfl,rfl⟩ -
  refine qa0 hτ rfl rfl rfl<|qa0 hτ rfl rfl rfl ?_
  refine qay 17 rfl (fun hb11=>?_) (fun hb11=>?_)
  ·have h:=qcv h hb11
   refine qa0 hτ rfl rfl rfl<|qa0 hτ rfl rfl rfl<|qa0 hτ rfl rfl rfl<|qa0 hτ rfl rfl rfl ?_
   refine qag h fun x12 hx12 h=>?_
   refine qac hτ false [] rfl rfl rfl (qai func57 rfl rfl) rfl rfl (by simp) ⟨trivial,trivial,trivial⟩ (by trivial) (qe8 n a_.C b_.C hx12) ?_
   rintro r0 o0 n0 ⟨rfl,rfl,rfl⟩ -
   refine qa0 hτ rfl rfl rfl<|qa0 hτ rfl rfl rfl<|qa4 ?_
   refine qa8 (wk [] (l:=[(4,bv x12)]) (objs:=[])) ?_
   refine qaq ?_
   have hr:=Option.some.inj h
   subst hr
   exact rt0 rfl rfl ⟨rfl,rfl,rfl⟩
  ·have h:=qcu h hb11
   refine qa3 rfl rfl<|qa3 rfl rfl<|qa3 rfl rfl<|qa3 rfl rfl<|qa3 rfl rfl<|qa0 hτ rfl rfl rfl<|qa0 hτ rfl rfl rfl<|qa4 ?_
   refine qa8 (wk [] (l:=[(4,bv false)]) (objs:=[])) ?_
   refine qaq ?_
   have hr:=Option.some.inj h
   subst hr
   exact rt0 rfl rfl ⟨rfl,rfl,rfl⟩
 ·have h:=qcu h hb9
  refine qa3 rfl rfl<|qa3 rfl rfl<|qa3 rfl rfl ?_
  refine qar (wk [0,1] (l:=[(2,.ptr 0 0),(3,.ptr 1 0),(10,bv false),(12,.und),(13,.und)]) (objs:=[.box [cxv a_.A,cxv a_.B,cxv a_.C],.box [cxv b_.A,cxv b_.B,cxv b_.C]])) ?_
  refine qa3 rfl rfl<|qa3 rfl rfl<|qa0 hτ rfl rfl rfl<|qa0 hτ rfl rfl rfl<|qa3 rfl rfl<|qa3 rfl rfl<|qa3 rfl rfl<|qa3 rfl rfl ?_
  refine qa3 rfl rfl<|qa0 hτ rfl rfl rfl<|qa0 hτ rfl rfl rfl<|qa4 ?_
  refine qa8 (wk [] (l:=[(4,bv false)]) (objs:=[])) ?_
  refine qaq ?_
  have hr:=Option.some.inj h
  subst hr
  exact rt0 rfl rfl ⟨rfl,rfl,rfl⟩
theorem qkp (n:Nat) (a_:qaa) (b_:qaa) {r:Bool} (h:qel n a_ b_ = some r):qax prog false 54 [.agg [cxv a_.A,cxv a_.B,cxv a_.C],.agg [cxv b_.A,cxv b_.B,cxv b_.C]] [] (fun v o new=>v = (bv r)∧o = []∧new = []):=impl_SamePhases_ok_fr0 false n a_ b_ h
def qj9 (n:Nat) (a_:SBus) (b_:SBus):Option Bool :=
 if a_.qb4 = b_.qb4 then
  (qc7 n a_.Own b_.Own).bind fun x15 =>
  if x15 = true then
   (qc7 n a_.Shared b_.Shared).bind fun x17 =>
   if x17 = true then
    if a_.Kind = b_.Kind then
     (qel n a_.Load b_.Load).bind fun x20 =>
     if x20 = true then
      some (decide (a_.qas = b_.qas))
     else
      some false
    else
     some false
   else
    some false
  else
   some false
 else
  some false
theorem impl_sameBus_ok_fr0 (fr:Bool) (n:Nat) (a_:SBus) (b_:SBus) {r:Bool} (h:qj9 n a_ b_ = some r):qax prog fr 56 [.agg [iv a_.qb4,cxv a_.Own,cxv a_.Shared,iv a_.Kind,cxv a_.Load.A,cxv a_.Load.B,cxv a_.Load.C,iv a_.qas],.agg [iv b_.qb4,cxv b_.Own,cxv b_.Shared,iv b_.Kind,cxv b_.Load.A,cxv b_.Load.B,cxv b_.Load.C,iv b_.qas]] [] (fun v o new=>v = (bv r)∧o = []∧new = []):=by
 refine qaj hτ func56 rfl (by simp) (by simp) ?_
 unfold qj9 at h
 refine qa6<|qa2<|qaf hτ rfl rfl rfl<|qaf hτ rfl rfl rfl<|qa0 hτ rfl rfl rfl<|qa4<|qa6<|qa2 ?_
 refine qa0 hτ rfl rfl rfl<|qa0 hτ rfl rfl rfl<|qa0 hτ rfl rfl rfl<|qa0 hτ rfl rfl rfl ?_
 refine qa0 hτ (v:=bv (decide (a_.qb4 = b_.qb4))) rfl rfl (qim _ _) ?_
 refine qa0 hτ rfl rfl rfl ?_
 refine qay 10 rfl (fun hb14=>?_) (fun hb14=>?_)
 ·have h:=if_t h hb14
  refine qa0 hτ rfl rfl rfl<|qa0 hτ rfl rfl rfl<|qa0 hτ rfl rfl rfl ?_
  refine qar (wk [0,1] (l:=[(2,.ptr 0 0),(3,.ptr 1 0),(10,bv true),(12,cxv a_.Own),(13,.ptr 1 1)]) (objs:=[.box [iv a_.qb4,cxv a_.Own,cxv a_.Shared,iv a_.Kind,cxv a_.Load.A,cxv a_.Load.B,cxv a_.Load.C,iv a_.qas],.box [iv b_.qb4,cxv b_.Own,cxv b_.Shared,iv b_.Kind,cxv b_.Load.A,cxv b_.Load.B,cxv b_.Load.C,iv b_.qas]])) ?_
  refine qa0 hτ rfl rfl rfl ?_
  refine qag h fun x15 hx15 h=>?_
  refine qac hτ false [] rfl rfl rfl (qai func57 rfl rfl) rfl rfl (by simp) ⟨trivial,trivial,trivial⟩ (by trivial) (qe8 n a_.Own b_.Own hx15) ?_
  rintro r0 o0 n0 ⟨rfl,rfl,rfl⟩ -
  refine qa0 hτ rfl rfl rfl<|qa0 hτ rfl rfl rfl ?_
  refine qay 17 rfl (fun hb16=>?_) (fun hb16=>?_)
  ·have h:=qcv h hb16
   refine qa0 hτ rfl rfl rfl<|qa0 hτ rfl rfl rfl<|qa0 hτ rfl rfl rfl<|qa0 hτ rfl rfl rfl ?_
   refine qag h fun x17 hx17 h=>?_
   refine qac hτ false [] rfl rfl rfl (qai func57 rfl rfl) rfl rfl (by simp) ⟨trivial,trivial,trivial⟩ (by trivial) (qe8 n a_.Shared b_.Shared hx17) ?_
   rintro r0 o0 n0 ⟨rfl,rfl,rfl⟩ -
   refine qa0 hτ rfl rfl rfl<|qa0 hτ rfl rfl rfl ?_
   refine qay 24 rfl (fun hb18=>?_) (fun hb18=>?_)
   ·have h:=qcv h hb18
    refine qa0 hτ rfl rfl rfl ?_
    refine qar (wk [0,1] (l:=[(2,.ptr 0 0),(3,.ptr 1 0),(24,bv true),(25,.ptr 0 3)]) (objs:=[.box [iv a_.qb4,cxv a_.Own,cxv a_.Shared,iv a_.Kind,cxv a_.Load.A,cxv a_.Load.B,cxv a_.Load.C,iv a_.qas],.box [iv b_.qb4,cxv b_.Own,cxv b_.Shared,iv b_.Kind,cxv b_.Load.A,cxv b_.Load.B,cxv b_.Load.C,iv b_.qas]])) ?_
    refine qa0 hτ rfl rfl rfl<|qa0 hτ rfl rfl rfl<|qa0 hτ rfl rfl rfl ?_
    refine qa0 hτ (v:=bv (decide (a_.Kind = b_.Kind))) rfl rfl (qim _ _) ?_
    refine qa0 hτ rfl rfl rfl<|qa0 hτ rfl rfl rfl ?_
    refine qay 31 rfl (fun hb19=>?_) (fun hb19=>?_)
    ·have h:=if_t h hb19
     refine qa0 hτ rfl rfl rfl<|qa0 hτ rfl rfl rfl<|qa0 hτ rfl rfl rfl<|qa0 hτ rfl rfl rfl ?_
     refine qag h fun x20 hx20 h=>?_
     refine qac hτ false [] rfl rfl rfl (qai func54 rfl rfl) rfl rfl (by simp) ⟨(by trivial),(by trivial),trivial⟩ (by trivial) (qkp n a_.Load b_.Load hx20) ?_
     rintro r0 o0 n0 ⟨rfl,rfl,rfl⟩ -
     refine qa0 hτ rfl rfl rfl ?_
     refine qar (wk [0,1] (l:=[(2,.ptr 0 0),(3,.ptr 1 0),(37,bv x20)]) (objs:=[.box [iv a_.qb4,cxv a_.Own,cxv a_.Shared,iv a_.Kind,cxv a_.Load.A,cxv a_.Load.B,cxv a_.Load.C,iv a_.qas],.box [iv b_.qb4,cxv b_.Own,cxv b_.Shared,iv b_.Kind,cxv b_.Load.A,cxv b_.Load.B,cxv b_.Load.C,iv b_.qas]])) ?_
     refine qa0 hτ rfl rfl rfl ?_
     refine qay 38 rfl (fun hb21=>?_) (fun hb21=>?_)
     ·have h:=qcv h hb21
      refine qa0 hτ rfl rfl rfl<|qa0 hτ rfl rfl rfl<|qa0 hτ rfl rfl rfl<|qa0 hτ rfl rfl rfl ?_
      refine qa0 hτ (v:=bv (decide (a_.qas = b_.qas))) rfl rfl (qim _ _) ?_
      refine qa0 hτ rfl rfl rfl<|qa0 hτ rfl rfl rfl<|qa4 ?_
      refine qa8 (wk [] (l:=[(4,bv (decide (a_.qas = b_.qas)))]) (objs:=[])) ?_
      refine qaq ?_
      have hr:=Option.some.inj h
      subst hr
      exact rt0 rfl rfl ⟨rfl,rfl,rfl⟩
     ·have h:=qcu h hb21
      refine qa3 rfl rfl<|qa3 rfl rfl<|qa3 rfl rfl<|qa3 rfl rfl<|qa3 rfl rfl<|qa0 hτ rfl rfl rfl<|qa0 hτ rfl rfl rfl<|qa4 ?_
      refine qa8 (wk [] (l:=[(4,bv false)]) (objs:=[])) ?_
      refine qaq ?_
      have hr:=Option.some.inj h
      subst hr
      exact rt0 rfl rfl ⟨rfl,rfl,rfl⟩
    ·have h:=if_f h hb19
     refine qa3 rfl rfl<|qa3 rfl rfl<|qa3 rfl rfl<|qa3 rfl rfl<|qa3 rfl rfl<|qa0 hτ rfl rfl rfl ?_
     refine qar (wk [0,1] (l:=[(2,.ptr 0 0),(3,.ptr 1 0),(37,bv false)]) (objs:=[.box [iv a_.qb4,cxv a_.Own,cxv a_.Shared,iv a_.Kind,cxv a_.Load.A,cxv a_.Load.B,cxv a_.Load.C,iv a_.qas],.box [iv b_.qb4,cxv b_.Own,cxv b_.Shared,iv b_.Kind,cxv b_.Load.A,cxv b_.Load.B,cxv b_.Load.C,iv b_.qas]])) ?_
     refine qa0 hτ rfl rfl rfl<|qa3 rfl rfl<|qa3 rfl rfl<|qa3 rfl rfl<|qa3 rfl rfl<|qa3 rfl rfl<|qa0 hτ rfl rfl rfl<|qa0 hτ rfl rfl rfl ?_
     refine qa4 ?_
     refine qa8 (wk [] (l:=[(4,bv false)]) (objs:=[])) ?_
     refine qaq ?_
     have hr:=Option.some.inj h
     subst hr
     exact rt0 rfl rfl ⟨rfl,rfl,rfl⟩
   ·have h:=qcu h hb18
    refine qa3 rfl rfl ?_
    refine qar (wk [0,1] (l:=[(2,.ptr 0 0),(3,.ptr 1 0),(24,bv false),(25,.und)]) (objs:=[.box [iv a_.qb4,cxv a_.Own,cxv a_.Shared,iv a_.Kind,cxv a_.Load.A,cxv a_.Load.B,cxv a_.Load.C,iv a_.qas],.box [iv b_.qb4,cxv b_.Own,cxv b_.Shared,iv b_.Kind,cxv b_.Load.A,cxv b_.Load.B,cxv b_.Load.C,iv b_.qas]])) ?_
    refine qa3 rfl rfl<|qa3 rfl rfl<|qa3 rfl rfl<|qa3 rfl rfl<|qa0 hτ rfl rfl rfl<|qa0 hτ rfl rfl rfl<|qa3 rfl rfl<|qa3 rfl rfl ?_
    refine qa3 rfl rfl<|qa3 rfl rfl<|qa3 rfl rfl<|qa0 hτ rfl rfl rfl ?_
    refine qar (wk [0,1] (l:=[(2,.ptr 0 0),(3,.ptr 1 0),(37,bv false)]) (objs:=[.box [iv a_.qb4,cxv a_.Own,cxv a_.Shared,iv a_.Kind,cxv a_.Load.A,cxv a_.Load.B,cxv a_.Load.C,iv a_.qas],.box [iv b_.qb4,cxv b_.Own,cxv b_.Shared,iv b_.Kind,cxv b_.Load.A,cxv b_.Load.B,cxv b_.Load.C,iv b_.qas]])) ?_
    refine qa0 hτ rfl rfl rfl<|qa3 rfl rfl<|qa3 rfl rfl<|qa3 rfl rfl<|qa3 rfl rfl<|qa3 rfl rfl<|qa0 hτ rfl rfl rfl<|qa0 hτ rfl rfl rfl ?_
    refine qa4 ?_
    refine qa8 (wk [] (l:=[(4,bv false)]) (objs:=[])) ?_
    refine qaq ?_
    have hr:=Option.some.inj h
    subst hr
    exact rt0 rfl rfl ⟨rfl,rfl,rfl⟩
  ·have h:=qcu h hb16
   refine qa3 rfl rfl<|qa3 rfl rfl<|qa3 rfl rfl<|qa3 rfl rfl<|qa3 rfl rfl<|qa0 hτ rfl rfl rfl<|qa0 hτ rfl rfl rfl<|qa3 rfl rfl ?_
   refine qar (wk [0,1] (l:=[(2,.ptr 0 0),(3,.ptr 1 0),(24,bv false),(25,.und)]) (objs:=[.box [iv a_.qb4,cxv a_.Own,cxv a_.Shared,iv a_.Kind,cxv a_.Load.A,cxv a_.Load.B,cxv a_.Load.C,iv a_.qas],.box [iv b_.qb4,cxv b_.Own,cxv b_.Shared,iv b_.Kind,cxv b_.Load.A,cxv b_.Load.B,cxv b_.Load.C,iv b_.qas]])) ?_
   refine qa3 rfl rfl<|qa3 rfl rfl<|qa3 rfl rfl<|qa3 rfl rfl<|qa0 hτ rfl rfl rfl<|qa0 hτ rfl rfl rfl<|qa3 rfl rfl<|qa3 rfl rfl ?_
   refine qa3 rfl rfl<|qa3 rfl rfl<|qa3 rfl rfl<|qa0 hτ rfl rfl rfl ?_
   refine qar (wk [0,1] (l:=[(2,.ptr 0 0),(3,.ptr 1 0),(37,bv false)]) (objs:=[.box [iv a_.qb4,cxv a_.Own,cxv a_.Shared,iv a_.Kind,cxv a_.Load.A,cxv a_.Load.B,cxv a_.Load.C,iv a_.qas],.box [iv b_.qb4,cxv b_.Own,cxv b_.Shared,iv b_.Kind,cxv b_.Load.A,cxv b_.Load.B,cxv b_.Load.C,iv b_.qas]])) ?_
   refine qa0 hτ rfl rfl rfl<|qa3 rfl rfl<|qa3 rfl rfl<|qa3 rfl rfl<|qa3 rfl rfl<|qa3 rfl rfl<|qa0 hτ rfl rfl rfl<|qa0 hτ rfl rfl rfl ?_
   refine qa4 ?_
   refine qa8 (wk [] (l:=[(4,bv false)]) (objs:=[])) ?_
   refine qaq ?_
   have hr:=Option.some.inj h
   subst hr
   exact rt0 rfl rfl ⟨rfl,rfl,rfl⟩
 ·have h:=if_f h hb14
  refine qa3 rfl rfl<|qa3 rfl rfl<|qa3 rfl rfl ?_
  refine qar (wk [0,1] (l:=[(2,.ptr 0 0),(3,.ptr 1 0),(10,bv false),(12,.und),(13,.und)]) (objs:=[.box [iv a_.qb4,cxv a_.Own,cxv a_.Shared,iv a_.Kind,cxv a_.Load.A,cxv a_.Load.B,cxv a_.Load.C,iv a_.qas],.box [iv b_.qb4,cxv b_.Own,cxv b_.Shared,iv b_.Kind,cxv b_.Load.A,cxv b_.Load.B,cxv b_.Load.C,iv b_.qas]])) ?_
  refine qa3 rfl rfl<|qa3 rfl rfl<|qa0 hτ rfl rfl rfl<|qa0 hτ rfl rfl rfl<|qa3 rfl rfl<|qa3 rfl rfl<|qa3 rfl rfl<|qa3 rfl rfl ?_
  refine qa3 rfl rfl<|qa0 hτ rfl rfl rfl<|qa0 hτ rfl rfl rfl<|qa3 rfl rfl ?_
  refine qar (wk [0,1] (l:=[(2,.ptr 0 0),(3,.ptr 1 0),(24,bv false),(25,.und)]) (objs:=[.box [iv a_.qb4,cxv a_.Own,cxv a_.Shared,iv a_.Kind,cxv a_.Load.A,cxv a_.Load.B,cxv a_.Load.C,iv a_.qas],.box [iv b_.qb4,cxv b_.Own,cxv b_.Shared,iv b_.Kind,cxv b_.Load.A,cxv b_.Load.B,cxv b_.Load.C,iv b_.qas]])) ?_
  refine qa3 rfl rfl<|qa3 rfl rfl<|qa3 rfl rfl<|qa3 rfl rfl<|qa0 hτ rfl rfl rfl<|qa0 hτ rfl rfl rfl<|qa3 rfl rfl<|qa3 rfl rfl ?_
  refine qa3 rfl rfl<|qa3 rfl rfl<|qa3 rfl rfl<|qa0 hτ rfl rfl rfl ?_
  refine qar (wk [0,1] (l:=[(2,.ptr 0 0),(3,.ptr 1 0),(37,bv false)]) (objs:=[.box [iv a_.qb4,cxv a_.Own,cxv a_.Shared,iv a_.Kind,cxv a_.Load.A,cxv a_.Load.B,cxv a_.Load.C,iv a_.qas],.box [iv b_.qb4,cxv b_.Own,cxv b_.Shared,iv b_.Kind,cxv b_.Load.A,cxv b_.Load.B,cxv b_.Load.C,iv b_.qas]])) ?_
  refine qa0 hτ rfl rfl rfl<|qa3 rfl rfl<|qa3 rfl rfl<|qa3 rfl rfl<|qa3 rfl rfl<|qa3 rfl rfl<|qa0 hτ rfl rfl rfl<|qa0 hτ rfl rfl rfl ?_
  refine qa4 ?_
  refine qa8 (wk [] (l:=[(4,bv false)]) (objs:=[])) ?_
  refine qaq ?_
  have hr:=Option.some.inj h
  subst hr
  exact rt0 rfl rfl ⟨rfl,rfl,rfl⟩
theorem impl_sameBus_ok (n:Nat) (a_:SBus) (b_:SBus) {r:Bool} (h:qj9 n a_ b_ = some r):qax prog false 56 [.agg [iv a_.qb4,cxv a_.Own,cxv a_.Shared,iv a_.Kind,cxv a_.Load.A,cxv a_.Load.B,cxv a_.Load.C,iv a_.qas],.agg [iv b_.qb4,cxv b_.Own,cxv b_.Shared,iv b_.Kind,cxv b_.Load.A,cxv b_.Load.B,cxv b_.Load.C,iv b_.qas]] [] (fun v o new=>v = (bv r)∧o = []∧new = []):=impl_sameBus_ok_fr0 false n a_ b_ h
def qd1 (n:Nat) (s1_:List SBus) (s2_:List SBus):Nat→Int→Option Bool
 | 0,_=>none
 | m18 + 1,v13 =>
  if v13 < (s1_.length:Int) then
   (getI s1_ v13).bind fun x24 =>
   (getI s2_ v13).bind fun x25 =>
   (qj9 n x24 x25).bind fun x26 =>
   if x26 = true then
    (qd1 n s1_ s2_ m18) (w64 (v13 + (1:Int)))
   else
    some false
  else
   some true
def qho (n:Nat) (s1_:List SBus) (s2_:List SBus):Option Bool :=
 if (s1_.length:Int) = (s2_.length:Int) then
  qd1 n s1_ s2_ n (0:Int)
 else
  some false
theorem slices_EqualFunc_ok_fr0 (fr:Bool) (n:Nat) (s1_:List SBus) (s2_:List SBus) {r:Bool} (h:qho n s1_ s2_ = some r):qax prog fr 55 [sv qae s1_,sv qae s2_,.func 56 [] []] [] (fun v o new=>v = (bv r)∧o = []∧new = []):=by
 refine qaj hτ func55 rfl (by simp) (by simp) ?_
 unfold qho at h
 refine qa6<|qa2<|qa0 hτ rfl rfl rfl<|qa4<|qa6<|qa6<|qa2<|qa0 hτ rfl rfl rfl ?_
 refine qa0 hτ (v:=iv (s1_.length:Int)) rfl rfl (Eq.trans rfl (qf1 (f:=qae) s1_)) ?_
 refine qa0 hτ rfl rfl rfl ?_
 refine qa0 hτ (v:=iv (s2_.length:Int)) rfl rfl (Eq.trans rfl (qf1 (f:=qae) s2_)) ?_
 refine qa0 hτ (v:=bv (!(decide ((s1_.length:Int) = (s2_.length:Int))))) rfl rfl (qop _ _) ?_
 refine qa4 ?_
 refine qa8 (qbk [] (l:=[(0,sv qae s1_),(1,sv qae s2_),(2,.func 56 [] []),(14,bv (!(decide ((s1_.length:Int) = (s2_.length:Int)))))]) (objs:=[]) rfl (by simp) rfl (by trivial) ⟨rfl,trivial,rfl,trivial,rfl,(by trivial),rfl,trivial,trivial⟩) ?_
 refine qaw rfl (fun hc9=>?_) (fun hc9=>?_)
 ·have hc9:=qi4 hc9
  have h:=if_f h hc9
  refine qa6<|qa2<|qa0 hτ rfl rfl rfl<|qa4 ?_
  refine qa8 (wk [] (l:=[(6,bv false)]) (objs:=[])) ?_
  refine qaq ?_
  have hr:=Option.some.inj h
  subst hr
  exact rt0 rfl rfl ⟨rfl,rfl,rfl⟩
 ·have hc9:=qi3 hc9
  have h:=if_t h hc9
  refine qb1<|qa6<|qa6<|qa2<|qa0 hτ rfl rfl rfl ?_
  refine qa0 hτ (v:=iv (s1_.length:Int)) rfl rfl (Eq.trans rfl (qf1 (f:=qae) s1_)) ?_
  refine qa0 hτ rfl rfl rfl<|qa4<|qb9 ?_
  refine qev (ι:=Nat × Int) (fun (m18,v13)=>St.of [(1,sv qae s2_),(2,.func 56 [] []),(15,sv qae s1_),(16,iv (s1_.length:Int)),(17,iv v13)] [] f55.ntmps 0) (fun (m18,v13)=>qd1 n s1_ s2_ m18 v13 = some r) (fun x=>x.1) (n,(0:Int)) h (qbk [] (l:=[(1,sv qae s2_),(2,.func 56 [] []),(15,sv qae s1_),(16,iv (s1_.length:Int)),(17,iv (0:Int))]) (objs:=[]) rfl (by simp) rfl (by trivial) ⟨rfl,trivial,rfl,(by trivial),rfl,trivial,rfl,trivial,rfl,trivial,trivial⟩) ?_
  rintro ⟨m18,v13⟩ h
  replace h:qd1 n s1_ s2_ m18 v13 = some r:=h
  rcases m18 with _ | m18
  ·rw [qd1] at h;cases h
  rw [qd1] at h
  refine qa6<|qa2<|qa0 hτ rfl rfl rfl<|qa4<|qa6 ?_
  refine qaw rfl (fun hc20=>?_) (fun hc20=>?_)
  ·have h:=if_t h hc20
   refine qb1<|qa6<|qb9<|qa6<|qa2<|qa0 hτ rfl rfl rfl ?_
   refine qag h fun x24 hx24 h=>?_
   refine qgh hτ rfl rfl rfl (qcw hx24).1 (qe7 hx24) rfl ?_
   refine qa0 hτ rfl rfl rfl<|qaf hτ rfl rfl rfl<|qa0 hτ rfl rfl rfl<|qaf hτ rfl rfl rfl<|qa4<|qa6 ?_
   refine qa8 (qbk [0] (l:=[(1,sv qae s2_),(2,.func 56 [] []),(7,iv v13),(8,.ptr 0 0),(15,sv qae s1_),(16,iv (s1_.length:Int)),(17,iv v13)]) (objs:=[.box [iv x24.qb4,cxv x24.Own,cxv x24.Shared,iv x24.Kind,cxv x24.Load.A,cxv x24.Load.B,cxv x24.Load.C,iv x24.qas]]) rfl (by simp) rfl (by trivial) ⟨rfl,trivial,rfl,(by trivial),rfl,trivial,rfl,trivial,rfl,trivial,rfl,trivial,rfl,trivial,trivial⟩) ?_
   refine qa2<|qa0 hτ rfl rfl rfl<|qa0 hτ rfl rfl rfl ?_
   refine qag h fun x25 hx25 h=>?_
   refine qgh hτ rfl rfl rfl (qcw hx25).1 (qe7 hx25) rfl ?_
   refine qa0 hτ rfl rfl rfl<|qaf hτ rfl rfl rfl<|qaf hτ rfl rfl rfl<|qa4<|qa6 ?_
   refine qa8 (qbk [0,1] (l:=[(1,sv qae s2_),(2,.func 56 [] []),(8,.ptr 0 0),(9,.ptr 1 0),(15,sv qae s1_),(16,iv (s1_.length:Int)),(17,iv v13)]) (objs:=[.box [iv x24.qb4,cxv x24.Own,cxv x24.Shared,iv x24.Kind,cxv x24.Load.A,cxv x24.Load.B,cxv x24.Load.C,iv x24.qas],.box [iv x25.qb4,cxv x25.Own,cxv x25.Shared,iv x25.Kind,cxv x25.Load.A,cxv x25.Load.B,cxv x25.Load.C,iv x25.qas]]) rfl (by simp) rfl (by trivial) ⟨rfl,trivial,rfl,(by trivial),rfl,trivial,rfl,trivial,rfl,trivial,rfl,trivial,rfl,trivial,trivial⟩) ?_
   refine qa2<|qa0 hτ rfl rfl rfl<|qa0 hτ rfl rfl rfl<|qa0 hτ rfl rfl rfl ?_
   refine qag h fun x26 hx26 h=>?_
   refine qac hτ false [] rfl rfl rfl (qai func56 rfl rfl) rfl rfl (by simp) ⟨(by trivial),(by trivial),trivial⟩ (by trivial) (impl_sameBus_ok n x24 x25 hx26) ?_
   rintro r0 o0 n0 ⟨rfl,rfl,rfl⟩ -
   refine qa0 hτ rfl rfl rfl<|qa4 ?_
   refine qaw rfl (fun hc27=>?_) (fun hc27=>?_)
   ·have hc27:=qi4 hc27
    have h:=qcu h hc27
    refine qa6<|qa2<|qa0 hτ rfl rfl rfl<|qa4 ?_
    refine qa8 (wk [] (l:=[(6,bv false)]) (objs:=[])) ?_
    refine qaq ?_
    have hr:=Option.some.inj h
    subst hr
    exact rt0 rfl rfl ⟨rfl,rfl,rfl⟩
   ·have hc27:=qi3 hc27
    have h:=qcv h hc27
    refine qb1<|qa2<|qa0 hτ rfl rfl rfl<|qa0 hτ rfl rfl rfl<|qa4 ?_
    exact ⟨(m18,(w64 (v13 + (1:Int)))),h,Nat.lt_succ_self m18,(qbk [] (l:=[(1,sv qae s2_),(2,.func 56 [] []),(15,sv qae s1_),(16,iv (s1_.length:Int)),(17,iv (w64 (v13 + (1:Int))))]) (objs:=[]) rfl (by simp) rfl (by trivial) ⟨rfl,trivial,rfl,(by trivial),rfl,trivial,rfl,trivial,rfl,trivial,trivial⟩)⟩
  ·have h:=if_f h hc20
   refine qe4<|qa6<|qa2<|qa0 hτ rfl rfl rfl<|qa4 ?_
   refine qa8 (wk [] (l:=[(6,bv true)]) (objs:=[])) ?_
   refine qaq ?_
   have hr:=Option.some.inj h
   subst hr
   exact rt0 rfl rfl ⟨rfl,rfl,rfl⟩
theorem slices_EqualFunc_ok (n:Nat) (s1_:List SBus) (s2_:List SBus) {r:Bool} (h:qho n s1_ s2_ = some r):qax prog false 55 [sv qae s1_,sv qae s2_,.func 56 [] []] [] (fun v o new=>v = (bv r)∧o = []∧new = []):=slices_EqualFunc_ok_fr0 false n s1_ s2_ h
def qid (n:Nat) (a_:qb8) (b_:qb8):Option Bool :=
 (qel n a_.Source b_.Source).bind fun x5 =>
 if x5 = true then
  (qho n a_.qa5 b_.qa5).bind fun x7 =>
  some x7
 else
  some false
theorem impl_SameFeeder_ok_fr0 (fr:Bool) (n:Nat) (a_:qb8) (b_:qb8) {r:Bool} (h:qid n a_ b_ = some r):qax prog fr 29 [.agg [cxv a_.Source.A,cxv a_.Source.B,cxv a_.Source.C,sv qae a_.qa5],.agg [cxv b_.Source.A,cxv b_.Source.B,cxv b_.Source.C,sv qae b_.qa5]] [] (fun v o new=>v = (bv r)∧o = []∧new = []):=by
 refine qaj hτ func29 rfl (by simp) (by simp) ?_
 unfold qid at h
 refine qa6<|qa2<|qaf hτ rfl rfl rfl<|qaf hτ rfl rfl rfl<|qa0 hτ rfl rfl rfl<|qa4<|qa6<|qa2 ?_
 refine qa0 hτ rfl rfl rfl<|qa0 hτ rfl rfl rfl<|qa0 hτ rfl rfl rfl<|qa0 hτ rfl rfl rfl ?_
 refine qag h fun x5 hx5 h=>?_
 refine qac hτ false [] rfl rfl rfl (qai func54 rfl rfl) rfl rfl (by simp) ⟨(by trivial),(by trivial),trivial⟩ (by trivial) (qkp n a_.Source b_.Source hx5) ?_
 rintro r0 o0 n0 ⟨rfl,rfl,rfl⟩ -
 refine qa0 hτ rfl rfl rfl ?_
 refine qay 10 rfl (fun hb6=>?_) (fun hb6=>?_)
 ·have h:=qcv h hb6
  refine qa0 hτ rfl rfl rfl<|qa0 hτ rfl rfl rfl<|qa0 hτ rfl rfl rfl ?_
  refine qar (wk [1] (l:=[(10,bv true),(12,sv qae a_.qa5),(13,.ptr 0 3)]) (objs:=[.box [cxv b_.Source.A,cxv b_.Source.B,cxv b_.Source.C,sv qae b_.qa5]])) ?_
  refine qa0 hτ rfl rfl rfl ?_
  refine qag h fun x7 hx7 h=>?_
  refine qac hτ false [] rfl rfl rfl (qai func55 (by kernel_rfl) rfl) rfl rfl (by simp) ⟨trivial,trivial,(by trivial),trivial⟩ (by trivial) (slices_EqualFunc_ok n a_.qa5 b_.qa5 hx7) ?_
  rintro r0 o0 n0 ⟨rfl,rfl,rfl⟩ -
  refine qa0 hτ rfl rfl rfl<|qa0 hτ rfl rfl rfl<|qa4 ?_
  refine qa8 (wk [] (l:=[(4,bv x7)]) (objs:=[])) ?_
  refine qaq ?_
  have hr:=Option.some.inj h
  subst hr
  exact rt0 rfl rfl ⟨rfl,rfl,rfl⟩
 ·have h:=qcu h hb6
  refine qa3 rfl rfl<|qa3 rfl rfl<|qa3 rfl rfl ?_
  refine qar (wk [] (l:=[(10,bv false),(12,.und),(13,.und)]) (objs:=[])) ?_
  refine qa3 rfl rfl<|qa3 rfl rfl<|qa0 hτ rfl rfl rfl<|qa0 hτ rfl rfl rfl<|qa4 ?_
  refine qa8 (wk [] (l:=[(4,bv false)]) (objs:=[])) ?_
  refine qaq ?_
  have hr:=Option.some.inj h
  subst hr
  exact rt0 rfl rfl ⟨rfl,rfl,rfl⟩
theorem impl_SameFeeder_ok (n:Nat) (a_:qb8) (b_:qb8) {r:Bool} (h:qid n a_ b_ = some r):qax prog false 29 [.agg [cxv a_.Source.A,cxv a_.Source.B,cxv a_.Source.C,sv qae a_.qa5],.agg [cxv b_.Source.A,cxv b_.Source.B,cxv b_.Source.C,sv qae b_.qa5]] [] (fun v o new=>v = (bv r)∧o = []∧new = []):=impl_SameFeeder_ok_fr0 false n a_ b_ h
def qja (n:Nat) (a_:STie) (b_:STie):Option Bool :=
 if a_.A = b_.A then
  if a_.B = b_.B then
   (qc7 n a_.Own b_.Own).bind fun x13 =>
   if x13 = true then
    (qc7 n a_.Shared b_.Shared).bind fun x15 =>
    if x15 = true then
     some (decide (a_.Most = b_.Most))
    else
     some false
   else
    some false
  else
   some false
 else
  some false
theorem impl_sameTie_ok_fr0 (fr:Bool) (n:Nat) (a_:STie) (b_:STie) {r:Bool} (h:qja n a_ b_ = some r):qax prog fr 31 [.agg [iv a_.A,iv a_.B,cxv a_.Own,cxv a_.Shared,iv a_.Most],.agg [iv b_.A,iv b_.B,cxv b_.Own,cxv b_.Shared,iv b_.Most]] [] (fun v o new=>v = (bv r)∧o = []∧new = []):=by
 refine qaj hτ func31 rfl (by simp) (by simp) ?_
 unfold qja at h
 refine qa6<|qa2<|qaf hτ rfl rfl rfl<|qaf hτ rfl rfl rfl<|qa0 hτ rfl rfl rfl<|qa4<|qa6<|qa2 ?_
 refine qa0 hτ rfl rfl rfl<|qa0 hτ rfl rfl rfl<|qa0 hτ rfl rfl rfl<|qa0 hτ rfl rfl rfl ?_
 refine qa0 hτ (v:=bv (decide (a_.A = b_.A))) rfl rfl (qim _ _) ?_
 refine qa0 hτ rfl rfl rfl ?_
 refine qay 10 rfl (fun hb11=>?_) (fun hb11=>?_)
 ·have h:=if_t h hb11
  refine qa0 hτ rfl rfl rfl<|qa0 hτ rfl rfl rfl<|qa0 hτ rfl rfl rfl ?_
  refine qar (wk [0,1] (l:=[(2,.ptr 0 0),(3,.ptr 1 0),(10,bv true),(12,iv a_.B),(13,.ptr 1 1)]) (objs:=[.box [iv a_.A,iv a_.B,cxv a_.Own,cxv a_.Shared,iv a_.Most],.box [iv b_.A,iv b_.B,cxv b_.Own,cxv b_.Shared,iv b_.Most]])) ?_
  refine qa0 hτ rfl rfl rfl ?_
  refine qa0 hτ (v:=bv (decide (a_.B = b_.B))) rfl rfl (qim _ _) ?_
  refine qa0 hτ rfl rfl rfl<|qa0 hτ rfl rfl rfl ?_
  refine qay 17 rfl (fun hb12=>?_) (fun hb12=>?_)
  ·have h:=if_t h hb12
   refine qa0 hτ rfl rfl rfl<|qa0 hτ rfl rfl rfl<|qa0 hτ rfl rfl rfl<|qa0 hτ rfl rfl rfl ?_
   refine qag h fun x13 hx13 h=>?_
   refine qac hτ false [] rfl rfl rfl (qai func57 rfl rfl) rfl rfl (by simp) ⟨trivial,trivial,trivial⟩ (by trivial) (qe8 n a_.Own b_.Own hx13) ?_
   rintro r0 o0 n0 ⟨rfl,rfl,rfl⟩ -
   refine qa0 hτ rfl rfl rfl<|qa0 hτ rfl rfl rfl ?_
   refine qay 24 rfl (fun hb14=>?_) (fun hb14=>?_)
   ·have h:=qcv h hb14
    refine qa0 hτ rfl rfl rfl ?_
    refine qar (wk [0,1] (l:=[(2,.ptr 0 0),(3,.ptr 1 0),(24,bv true),(25,.ptr 0 3)]) (objs:=[.box [iv a_.A,iv a_.B,cxv a_.Own,cxv a_.Shared,iv a_.Most],.box [iv b_.A,iv b_.B,cxv b_.Own,cxv b_.Shared,iv b_.Most]])) ?_
    refine qa0 hτ rfl rfl rfl<|qa0 hτ rfl rfl rfl<|qa0 hτ rfl rfl rfl ?_
    refine qag h fun x15 hx15 h=>?_
    refine qac hτ false [] rfl rfl rfl (qai func57 rfl rfl) rfl rfl (by simp) ⟨trivial,trivial,trivial⟩ (by trivial) (qe8 n a_.Shared b_.Shared hx15) ?_
    rintro r0 o0 n0 ⟨rfl,rfl,rfl⟩ -
    refine qa0 hτ rfl rfl rfl<|qa0 hτ rfl rfl rfl ?_
    refine qay 31 rfl (fun hb16=>?_) (fun hb16=>?_)
    ·have h:=qcv h hb16
     refine qa0 hτ rfl rfl rfl<|qa0 hτ rfl rfl rfl<|qa0 hτ rfl rfl rfl<|qa0 hτ rfl rfl rfl ?_
     refine qa0 hτ (v:=bv (decide (a_.Most = b_.Most))) rfl rfl (qim _ _) ?_
     refine qa0 hτ rfl rfl rfl ?_
     refine qar (wk [] (l:=[(37,bv (decide (a_.Most = b_.Most)))]) (objs:=[])) ?_
     refine qa0 hτ rfl rfl rfl<|qa4 ?_
     refine qa8 (wk [] (l:=[(4,bv (decide (a_.Most = b_.Most)))]) (objs:=[])) ?_
     refine qaq ?_
     have hr:=Option.some.inj h
     subst hr
     exact rt0 rfl rfl ⟨rfl,rfl,rfl⟩
    ·have h:=qcu h hb16
     refine qa3 rfl rfl<|qa3 rfl rfl<|qa3 rfl rfl<|qa3 rfl rfl<|qa3 rfl rfl<|qa0 hτ rfl rfl rfl ?_
     refine qar (wk [] (l:=[(37,bv false)]) (objs:=[])) ?_
     refine qa0 hτ rfl rfl rfl<|qa4 ?_
     refine qa8 (wk [] (l:=[(4,bv false)]) (objs:=[])) ?_
     refine qaq ?_
     have hr:=Option.some.inj h
     subst hr
     exact rt0 rfl rfl ⟨rfl,rfl,rfl⟩
   ·have h:=qcu h hb14
    refine qa3 rfl rfl ?_
    refine qar (wk [0,1] (l:=[(2,.ptr 0 0),(3,.ptr 1 0),(24,bv false),(25,.und)]) (objs:=[.box [iv a_.A,iv a_.B,cxv a_.Own,cxv a_.Shared,iv a_.Most],.box [iv b_.A,iv b_.B,cxv b_.Own,cxv b_.Shared,iv b_.Most]])) ?_
    refine qa3 rfl rfl<|qa3 rfl rfl<|qa3 rfl rfl<|qa3 rfl rfl<|qa0 hτ rfl rfl rfl<|qa0 hτ rfl rfl rfl<|qa3 rfl rfl<|qa3 rfl rfl ?_
    refine qa3 rfl rfl<|qa3 rfl rfl<|qa3 rfl rfl<|qa0 hτ rfl rfl rfl ?_
    refine qar (wk [] (l:=[(37,bv false)]) (objs:=[])) ?_
    refine qa0 hτ rfl rfl rfl<|qa4 ?_
    refine qa8 (wk [] (l:=[(4,bv false)]) (objs:=[])) ?_
    refine qaq ?_
    have hr:=Option.some.inj h
    subst hr
    exact rt0 rfl rfl ⟨rfl,rfl,rfl⟩
  ·have h:=if_f h hb12
   refine qa3 rfl rfl<|qa3 rfl rfl<|qa3 rfl rfl<|qa3 rfl rfl<|qa3 rfl rfl<|qa0 hτ rfl rfl rfl<|qa0 hτ rfl rfl rfl<|qa3 rfl rfl ?_
   refine qar (wk [0,1] (l:=[(2,.ptr 0 0),(3,.ptr 1 0),(24,bv false),(25,.und)]) (objs:=[.box [iv a_.A,iv a_.B,cxv a_.Own,cxv a_.Shared,iv a_.Most],.box [iv b_.A,iv b_.B,cxv b_.Own,cxv b_.Shared,iv b_.Most]])) ?_
   refine qa3 rfl rfl<|qa3 rfl rfl<|qa3 rfl rfl<|qa3 rfl rfl<|qa0 hτ rfl rfl rfl<|qa0 hτ rfl rfl rfl<|qa3 rfl rfl<|qa3 rfl rfl ?_
   refine qa3 rfl rfl<|qa3 rfl rfl<|qa3 rfl rfl<|qa0 hτ rfl rfl rfl ?_
   refine qar (wk [] (l:=[(37,bv false)]) (objs:=[])) ?_
   refine qa0 hτ rfl rfl rfl<|qa4 ?_
   refine qa8 (wk [] (l:=[(4,bv false)]) (objs:=[])) ?_
   refine qaq ?_
   have hr:=Option.some.inj h
   subst hr
   exact rt0 rfl rfl ⟨rfl,rfl,rfl⟩
 ·have h:=if_f h hb11
  refine qa3 rfl rfl<|qa3 rfl rfl<|qa3 rfl rfl ?_
  refine qar (wk [0,1] (l:=[(2,.ptr 0 0),(3,.ptr 1 0),(10,bv false),(12,.und),(13,.und)]) (objs:=[.box [iv a_.A,iv a_.B,cxv a_.Own,cxv a_.Shared,iv a_.Most],.box [iv b_.A,iv b_.B,cxv b_.Own,cxv b_.Shared,iv b_.Most]])) ?_
  refine qa3 rfl rfl<|qa3 rfl rfl<|qa0 hτ rfl rfl rfl<|qa0 hτ rfl rfl rfl<|qa3 rfl rfl<|qa3 rfl rfl<|qa3 rfl rfl<|qa3 rfl rfl ?_
  refine qa3 rfl rfl<|qa0 hτ rfl rfl rfl<|qa0 hτ rfl rfl rfl<|qa3 rfl rfl ?_
  refine qar (wk [0,1] (l:=[(2,.ptr 0 0),(3,.ptr 1 0),(24,bv false),(25,.und)]) (objs:=[.box [iv a_.A,iv a_.B,cxv a_.Own,cxv a_.Shared,iv a_.Most],.box [iv b_.A,iv b_.B,cxv b_.Own,cxv b_.Shared,iv b_.Most]])) ?_
  refine qa3 rfl rfl<|qa3 rfl rfl<|qa3 rfl rfl<|qa3 rfl rfl<|qa0 hτ rfl rfl rfl<|qa0 hτ rfl rfl rfl<|qa3 rfl rfl<|qa3 rfl rfl ?_
  refine qa3 rfl rfl<|qa3 rfl rfl<|qa3 rfl rfl<|qa0 hτ rfl rfl rfl ?_
  refine qar (wk [] (l:=[(37,bv false)]) (objs:=[])) ?_
  refine qa0 hτ rfl rfl rfl<|qa4 ?_
  refine qa8 (wk [] (l:=[(4,bv false)]) (objs:=[])) ?_
  refine qaq ?_
  have hr:=Option.some.inj h
  subst hr
  exact rt0 rfl rfl ⟨rfl,rfl,rfl⟩
theorem impl_sameTie_ok (n:Nat) (a_:STie) (b_:STie) {r:Bool} (h:qja n a_ b_ = some r):qax prog false 31 [.agg [iv a_.A,iv a_.B,cxv a_.Own,cxv a_.Shared,iv a_.Most],.agg [iv b_.A,iv b_.B,cxv b_.Own,cxv b_.Shared,iv b_.Most]] [] (fun v o new=>v = (bv r)∧o = []∧new = []):=impl_sameTie_ok_fr0 false n a_ b_ h
def qcj (n:Nat) (s1_:List STie) (s2_:List STie):Nat→Int→Option Bool
 | 0,_=>none
 | m18 + 1,v13 =>
  if v13 < (s1_.length:Int) then
   (getI s1_ v13).bind fun x24 =>
   (getI s2_ v13).bind fun x25 =>
   (qja n x24 x25).bind fun x26 =>
   if x26 = true then
    (qcj n s1_ s2_ m18) (w64 (v13 + (1:Int)))
   else
    some false
  else
   some true
def qge (n:Nat) (s1_:List STie) (s2_:List STie):Option Bool :=
 if (s1_.length:Int) = (s2_.length:Int) then
  qcj n s1_ s2_ n (0:Int)
 else
  some false
theorem slices_EqualFunc_2_ok_fr0 (fr:Bool) (n:Nat) (s1_:List STie) (s2_:List STie) {r:Bool} (h:qge n s1_ s2_ = some r):qax prog fr 30 [sv qah s1_,sv qah s2_,.func 31 [] []] [] (fun v o new=>v = (bv r)∧o = []∧new = []):=by
 refine qaj hτ func30 rfl (by simp) (by simp) ?_
 unfold qge at h
 refine qa6<|qa2<|qa0 hτ rfl rfl rfl<|qa4<|qa6<|qa6<|qa2<|qa0 hτ rfl rfl rfl ?_
 refine qa0 hτ (v:=iv (s1_.length:Int)) rfl rfl (Eq.trans rfl (qf1 (f:=qah) s1_)) ?_
 refine qa0 hτ rfl rfl rfl ?_
 refine qa0 hτ (v:=iv (s2_.length:Int)) rfl rfl (Eq.trans rfl (qf1 (f:=qah) s2_)) ?_
 refine qa0 hτ (v:=bv (!(decide ((s1_.length:Int) = (s2_.length:Int))))) rfl rfl (qop _ _) ?_
 refine qa4 ?_
 refine qa8 (qbk [] (l:=[(0,sv qah s1_),(1,sv qah s2_),(2,.func 31 [] []),(14,bv (!(decide ((s1_.length:Int) = (s2_.length:Int)))))]) (objs:=[]) rfl (by simp) rfl (by trivial) ⟨rfl,trivial,rfl,trivial,rfl,(by trivial),rfl,trivial,trivial⟩) ?_
 refine qaw rfl (fun hc9=>?_) (fun hc9=>?_)
 ·have hc9:=qi4 hc9
  have h:=if_f h hc9
  refine qa6<|qa2<|qa0 hτ rfl rfl rfl<|qa4 ?_
  refine qa8 (wk [] (l:=[(6,bv false)]) (objs:=[])) ?_
  refine qaq ?_
  have hr:=Option.some.inj h
  subst hr
  exact rt0 rfl rfl ⟨rfl,rfl,rfl⟩
 ·have hc9:=qi3 hc9
  have h:=if_t h hc9
  refine qb1<|qa6<|qa6<|qa2<|qa0 hτ rfl rfl rfl ?_
  refine qa0 hτ (v:=iv (s1_.length:Int)) rfl rfl (Eq.trans rfl (qf1 (f:=qah) s1_)) ?_
  refine qa0 hτ rfl rfl rfl<|qa4<|qb9 ?_
  refine qev (ι:=Nat × Int) (fun (m18,v13)=>St.of [(1,sv qah s2_),(2,.func 31 [] []),(15,sv qah s1_),(16,iv (s1_.length:Int)),(17,iv v13)] [] f30.ntmps 0) (fun (m18,v13)=>qcj n s1_ s2_ m18 v13 = some r) (fun x=>x.1) (n,(0:Int)) h (qbk [] (l:=[(1,sv qah s2_),(2,.func 31 [] []),(15,sv qah s1_),(16,iv (s1_.length:Int)),(17,iv (0:Int))]) (objs:=[]) rfl (by simp) rfl (by trivial) ⟨rfl,trivial,rfl,(by trivial),rfl,trivial,rfl,trivial,rfl,trivial,trivial⟩) ?_
  rintro ⟨m18,v13⟩ h
  replace h:qcj n s1_ s2_ m18 v13 = some r:=h
  rcases m18 with _ | m18
  ·rw [qcj] at h;cases h
  rw [qcj] at h
  refine qa6<|qa2<|qa0 hτ rfl rfl rfl<|qa4<|qa6 ?_
  refine qaw rfl (fun hc20=>?_) (fun hc20=>?_)
  ·have h:=if_t h hc20
   refine qb1<|qa6<|qb9<|qa6<|qa2<|qa0 hτ rfl rfl rfl ?_
   refine qag h fun x24 hx24 h=>?_
   refine qgh hτ rfl rfl rfl (qcw hx24).1 (qe7 hx24) rfl ?_
   refine qa0 hτ rfl rfl rfl<|qaf hτ rfl rfl rfl<|qa0 hτ rfl rfl rfl<|qaf hτ rfl rfl rfl<|qa4<|qa6 ?_
   refine qa8 (qbk [0] (l:=[(1,sv qah s2_),(2,.func 31 [] []),(7,iv v13),(8,.ptr 0 0),(15,sv qah s1_),(16,iv (s1_.length:Int)),(17,iv v13)]) (objs:=[.box [iv x24.A,iv x24.B,cxv x24.Own,cxv x24.Shared,iv x24.Most]]) rfl (by simp) rfl (by trivial) ⟨rfl,trivial,rfl,(by trivial),rfl,trivial,rfl,trivial,rfl,trivial,rfl,trivial,rfl,trivial,trivial⟩) ?_
   refine qa2<|qa0 hτ rfl rfl rfl<|qa0 hτ rfl rfl rfl ?_
   refine qag h fun x25 hx25 h=>?_
   refine qgh hτ rfl rfl rfl (qcw hx25).1 (qe7 hx25) rfl ?_
   refine qa0 hτ rfl rfl rfl<|qaf hτ rfl rfl rfl<|qaf hτ rfl rfl rfl<|qa4<|qa6 ?_
   refine qa8 (qbk [0,1] (l:=[(1,sv qah s2_),(2,.func 31 [] []),(8,.ptr 0 0),(9,.ptr 1 0),(15,sv qah s1_),(16,iv (s1_.length:Int)),(17,iv v13)]) (objs:=[.box [iv x24.A,iv x24.B,cxv x24.Own,cxv x24.Shared,iv x24.Most],.box [iv x25.A,iv x25.B,cxv x25.Own,cxv x25.Shared,iv x25.Most]]) rfl (by simp) rfl (by trivial) ⟨rfl,trivial,rfl,(by trivial),rfl,trivial,rfl,trivial,rfl,trivial,rfl,trivial,rfl,trivial,trivial⟩) ?_
   refine qa2<|qa0 hτ rfl rfl rfl<|qa0 hτ rfl rfl rfl<|qa0 hτ rfl rfl rfl ?_
   refine qag h fun x26 hx26 h=>?_
   refine qac hτ false [] rfl rfl rfl (qai func31 rfl rfl) rfl rfl (by simp) ⟨(by trivial),(by trivial),trivial⟩ (by trivial) (impl_sameTie_ok n x24 x25 hx26) ?_
   rintro r0 o0 n0 ⟨rfl,rfl,rfl⟩ -
   refine qa0 hτ rfl rfl rfl<|qa4 ?_
   refine qaw rfl (fun hc27=>?_) (fun hc27=>?_)
   ·have hc27:=qi4 hc27
    have h:=qcu h hc27
    refine qa6<|qa2<|qa0 hτ rfl rfl rfl<|qa4 ?_
    refine qa8 (wk [] (l:=[(6,bv false)]) (objs:=[])) ?_
    refine qaq ?_
    have hr:=Option.some.inj h
    subst hr
    exact rt0 rfl rfl ⟨rfl,rfl,rfl⟩
   ·have hc27:=qi3 hc27
    have h:=qcv h hc27
    refine qb1<|qa2<|qa0 hτ rfl rfl rfl<|qa0 hτ rfl rfl rfl<|qa4 ?_
    exact ⟨(m18,(w64 (v13 + (1:Int)))),h,Nat.lt_succ_self m18,(qbk [] (l:=[(1,sv qah s2_),(2,.func 31 [] []),(15,sv qah s1_),(16,iv (s1_.length:Int)),(17,iv (w64 (v13 + (1:Int))))]) (objs:=[]) rfl (by simp) rfl (by trivial) ⟨rfl,trivial,rfl,(by trivial),rfl,trivial,rfl,trivial,rfl,trivial,trivial⟩)⟩
  ·have h:=if_f h hc20
   refine qe4<|qa6<|qa2<|qa0 hτ rfl rfl rfl<|qa4 ?_
   refine qa8 (wk [] (l:=[(6,bv true)]) (objs:=[])) ?_
   refine qaq ?_
   have hr:=Option.some.inj h
   subst hr
   exact rt0 rfl rfl ⟨rfl,rfl,rfl⟩
theorem slices_EqualFunc_2_ok (n:Nat) (s1_:List STie) (s2_:List STie) {r:Bool} (h:qge n s1_ s2_ = some r):qax prog false 30 [sv qah s1_,sv qah s2_,.func 31 [] []] [] (fun v o new=>v = (bv r)∧o = []∧new = []):=slices_EqualFunc_2_ok_fr0 false n s1_ s2_ h
def qfp (n:Nat) (a_:qbg) (b_:qbg):Option Bool :=
 (qid n a_.qa1 b_.qa1).bind fun x5 =>
 if x5 = true then
  (qge n a_.Ties b_.Ties).bind fun x7 =>
  some x7
 else
  some false
theorem qlk (fr:Bool) (n:Nat) (a_:qbg) (b_:qbg) {r:Bool} (h:qfp n a_ b_ = some r):qax prog fr 12 [.agg [cxv a_.qa1.Source.A,cxv a_.qa1.Source.B,cxv a_.qa1.Source.C,sv qae a_.qa1.qa5,sv qah a_.Ties],.agg [cxv b_.qa1.Source.A,cxv b_.qa1.Source.B,cxv b_.qa1.Source.C,sv qae b_.qa1.qa5,sv qah b_.Ties]] [] (fun v o new=>v = (bv r)∧o = []∧new = []):=by
 refine qaj hτ func12 rfl (by simp) (by simp) ?_
 unfold qfp at h
 refine qa6<|qa2<|qaf hτ rfl rfl rfl<|qaf hτ rfl rfl rfl<|qa0 hτ rfl rfl rfl<|qa4<|qa6<|qa2 ?_
 refine qa0 hτ rfl rfl rfl<|qa0 hτ rfl rfl rfl<|qa0 hτ rfl rfl rfl<|qa0 hτ rfl rfl rfl ?_
 refine qag h fun x5 hx5 h=>?_
 refine qac hτ false [] rfl rfl rfl (qai func29 rfl rfl) rfl rfl (by simp) ⟨(by trivial),(by trivial),trivial⟩ (by trivial) (impl_SameFeeder_ok n a_.qa1 b_.qa1 hx5) ?_
 rintro r0 o0 n0 ⟨rfl,rfl,rfl⟩ -
 refine qa0 hτ rfl rfl rfl ?_
 refine qay 10 rfl (fun hb6=>?_) (fun hb6=>?_)
 ·have h:=qcv h hb6
  refine qa0 hτ rfl rfl rfl<|qa0 hτ rfl rfl rfl<|qa0 hτ rfl rfl rfl ?_
  refine qar (wk [1] (l:=[(10,bv true),(12,sv qah a_.Ties),(13,.ptr 0 4)]) (objs:=[.box [cxv b_.qa1.Source.A,cxv b_.qa1.Source.B,cxv b_.qa1.Source.C,sv qae b_.qa1.qa5,sv qah b_.Ties]])) ?_
  refine qa0 hτ rfl rfl rfl ?_
  refine qag h fun x7 hx7 h=>?_
  refine qac hτ false [] rfl rfl rfl (qai func30 (by kernel_rfl) rfl) rfl rfl (by simp) ⟨trivial,trivial,(by trivial),trivial⟩ (by trivial) (slices_EqualFunc_2_ok n a_.Ties b_.Ties hx7) ?_
  rintro r0 o0 n0 ⟨rfl,rfl,rfl⟩ -
  refine qa0 hτ rfl rfl rfl<|qa0 hτ rfl rfl rfl<|qa4 ?_
  refine qa8 (wk [] (l:=[(4,bv x7)]) (objs:=[])) ?_
  refine qaq ?_
  have hr:=Option.some.inj h
  subst hr
  exact rt0 rfl rfl ⟨rfl,rfl,rfl⟩
 ·have h:=qcu h hb6
  refine qa3 rfl rfl<|qa3 rfl rfl<|qa3 rfl rfl ?_
  refine qar (wk [] (l:=[(10,bv false),(12,.und),(13,.und)]) (objs:=[])) ?_
  refine qa3 rfl rfl<|qa3 rfl rfl<|qa0 hτ rfl rfl rfl<|qa0 hτ rfl rfl rfl<|qa4 ?_
  refine qa8 (wk [] (l:=[(4,bv false)]) (objs:=[])) ?_
  refine qaq ?_
  have hr:=Option.some.inj h
  subst hr
  exact rt0 rfl rfl ⟨rfl,rfl,rfl⟩
theorem impl_SameGrid_ok (n:Nat) (a_:qbg) (b_:qbg) {r:Bool} (h:qfp n a_ b_ = some r):qax prog false 12 [.agg [cxv a_.qa1.Source.A,cxv a_.qa1.Source.B,cxv a_.qa1.Source.C,sv qae a_.qa1.qa5,sv qah a_.Ties],.agg [cxv b_.qa1.Source.A,cxv b_.qa1.Source.B,cxv b_.qa1.Source.C,sv qae b_.qa1.qa5,sv qah b_.Ties]] [] (fun v o new=>v = (bv r)∧o = []∧new = []):=qlk false n a_ b_ h
theorem impl_SameGrid_ok_fr (n:Nat) (a_:qbg) (b_:qbg) {r:Bool} (h:qfp n a_ b_ = some r):qax prog true 12 [.agg [cxv a_.qa1.Source.A,cxv a_.qa1.Source.B,cxv a_.qa1.Source.C,sv qae a_.qa1.qa5,sv qah a_.Ties],.agg [cxv b_.qa1.Source.A,cxv b_.qa1.Source.B,cxv b_.qa1.Source.C,sv qae b_.qa1.qa5,sv qah b_.Ties]] [] (fun v o new=>v = (bv r)∧o = []∧new = []):=qlk true n a_ b_ h
def qcl (n:Nat) (s1_:List qaa) (s2_:List qaa):Nat→Int→Option Bool
 | 0,_=>none
 | m18 + 1,v13 =>
  if v13 < (s1_.length:Int) then
   (getI s1_ v13).bind fun x24 =>
   (getI s2_ v13).bind fun x25 =>
   (qel n x24 x25).bind fun x26 =>
   if x26 = true then
    (qcl n s1_ s2_ m18) (w64 (v13 + (1:Int)))
   else
    some false
  else
   some true
def qf5 (n:Nat) (s1_:List qaa) (s2_:List qaa):Option Bool :=
 if (s1_.length:Int) = (s2_.length:Int) then
  qcl n s1_ s2_ n (0:Int)
 else
  some false
theorem slices_EqualFunc_4_ok_fr0 (fr:Bool) (n:Nat) (s1_:List qaa) (s2_:List qaa) {r:Bool} (h:qf5 n s1_ s2_ = some r):qax prog fr 53 [sv qa7 s1_,sv qa7 s2_,.func 54 [] []] [] (fun v o new=>v = (bv r)∧o = []∧new = []):=by
 refine qaj hτ func53 rfl (by simp) (by simp) ?_
 unfold qf5 at h
 refine qa6<|qa2<|qa0 hτ rfl rfl rfl<|qa4<|qa6<|qa6<|qa2<|qa0 hτ rfl rfl rfl ?_
 refine qa0 hτ (v:=iv (s1_.length:Int)) rfl rfl (Eq.trans rfl (qf1 (f:=qa7) s1_)) ?_
 refine qa0 hτ rfl rfl rfl ?_
 refine qa0 hτ (v:=iv (s2_.length:Int)) rfl rfl (Eq.trans rfl (qf1 (f:=qa7) s2_)) ?_
 refine qa0 hτ (v:=bv (!(decide ((s1_.length:Int) = (s2_.length:Int))))) rfl rfl (qop _ _) ?_
 refine qa4 ?_
 refine qa8 (qbk [] (l:=[(0,sv qa7 s1_),(1,sv qa7 s2_),(2,.func 54 [] []),(14,bv (!(decide ((s1_.length:Int) = (s2_.length:Int)))))]) (objs:=[]) rfl (by simp) rfl (by trivial) ⟨rfl,trivial,rfl,trivial,rfl,(by trivial),rfl,trivial,trivial⟩) ?_
 refine qaw rfl (fun hc9=>?_) (fun hc9=>?_)
 ·have hc9:=qi4 hc9
  have h:=if_f h hc9
  refine qa6<|qa2<|qa0 hτ rfl rfl rfl<|qa4 ?_
  refine qa8 (wk [] (l:=[(6,bv false)]) (objs:=[])) ?_
  refine qaq ?_
  have hr:=Option.some.inj h
  subst hr
  exact rt0 rfl rfl ⟨rfl,rfl,rfl⟩
 ·have hc9:=qi3 hc9
  have h:=if_t h hc9
  refine qb1<|qa6<|qa6<|qa2<|qa0 hτ rfl rfl rfl ?_
  refine qa0 hτ (v:=iv (s1_.length:Int)) rfl rfl (Eq.trans rfl (qf1 (f:=qa7) s1_)) ?_
  refine qa0 hτ rfl rfl rfl<|qa4<|qb9 ?_
  refine qev (ι:=Nat × Int) (fun (m18,v13)=>St.of [(1,sv qa7 s2_),(2,.func 54 [] []),(15,sv qa7 s1_),(16,iv (s1_.length:Int)),(17,iv v13)] [] f53.ntmps 0) (fun (m18,v13)=>qcl n s1_ s2_ m18 v13 = some r) (fun x=>x.1) (n,(0:Int)) h (qbk [] (l:=[(1,sv qa7 s2_),(2,.func 54 [] []),(15,sv qa7 s1_),(16,iv (s1_.length:Int)),(17,iv (0:Int))]) (objs:=[]) rfl (by simp) rfl (by trivial) ⟨rfl,trivial,rfl,(by trivial),rfl,trivial,rfl,trivial,rfl,trivial,trivial⟩) ?_
  rintro ⟨m18,v13⟩ h
  replace h:qcl n s1_ s2_ m18 v13 = some r:=h
  rcases m18 with _ | m18
  ·rw [qcl] at h;cases h
  rw [qcl] at h
  refine qa6<|qa2<|qa0 hτ rfl rfl rfl<|qa4<|qa6 ?_
  refine qaw rfl (fun hc20=>?_) (fun hc20=>?_)
  ·have h:=if_t h hc20
   refine qb1<|qa6<|qb9<|qa6<|qa2<|qa0 hτ rfl rfl rfl ?_
   refine qag h fun x24 hx24 h=>?_
   refine qgh hτ rfl rfl rfl (qcw hx24).1 (qe7 hx24) rfl ?_
   refine qa0 hτ rfl rfl rfl<|qaf hτ rfl rfl rfl<|qa0 hτ rfl rfl rfl<|qaf hτ rfl rfl rfl<|qa4<|qa6 ?_
   refine qa8 (qbk [0] (l:=[(1,sv qa7 s2_),(2,.func 54 [] []),(7,iv v13),(8,.ptr 0 0),(15,sv qa7 s1_),(16,iv (s1_.length:Int)),(17,iv v13)]) (objs:=[.box [cxv x24.A,cxv x24.B,cxv x24.C]]) rfl (by simp) rfl (by trivial) ⟨rfl,trivial,rfl,(by trivial),rfl,trivial,rfl,trivial,rfl,trivial,rfl,trivial,rfl,trivial,trivial⟩) ?_
   refine qa2<|qa0 hτ rfl rfl rfl<|qa0 hτ rfl rfl rfl ?_
   refine qag h fun x25 hx25 h=>?_
   refine qgh hτ rfl rfl rfl (qcw hx25).1 (qe7 hx25) rfl ?_
   refine qa0 hτ rfl rfl rfl<|qaf hτ rfl rfl rfl<|qaf hτ rfl rfl rfl<|qa4<|qa6 ?_
   refine qa8 (qbk [0,1] (l:=[(1,sv qa7 s2_),(2,.func 54 [] []),(8,.ptr 0 0),(9,.ptr 1 0),(15,sv qa7 s1_),(16,iv (s1_.length:Int)),(17,iv v13)]) (objs:=[.box [cxv x24.A,cxv x24.B,cxv x24.C],.box [cxv x25.A,cxv x25.B,cxv x25.C]]) rfl (by simp) rfl (by trivial) ⟨rfl,trivial,rfl,(by trivial),rfl,trivial,rfl,trivial,rfl,trivial,rfl,trivial,rfl,trivial,trivial⟩) ?_
   refine qa2<|qa0 hτ rfl rfl rfl<|qa0 hτ rfl rfl rfl<|qa0 hτ rfl rfl rfl ?_
   refine qag h fun x26 hx26 h=>?_
   refine qac hτ false [] rfl rfl rfl (qai func54 rfl rfl) rfl rfl (by simp) ⟨(by trivial),(by trivial),trivial⟩ (by trivial) (qkp n x24 x25 hx26) ?_
   rintro r0 o0 n0 ⟨rfl,rfl,rfl⟩ -
   refine qa0 hτ rfl rfl rfl<|qa4 ?_
   refine qaw rfl (fun hc27=>?_) (fun hc27=>?_)
   ·have hc27:=qi4 hc27
    have h:=qcu h hc27
    refine qa6<|qa2<|qa0 hτ rfl rfl rfl<|qa4 ?_
    refine qa8 (wk [] (l:=[(6,bv false)]) (objs:=[])) ?_
    refine qaq ?_
    have hr:=Option.some.inj h
    subst hr
    exact rt0 rfl rfl ⟨rfl,rfl,rfl⟩
   ·have hc27:=qi3 hc27
    have h:=qcv h hc27
    refine qb1<|qa2<|qa0 hτ rfl rfl rfl<|qa0 hτ rfl rfl rfl<|qa4 ?_
    exact ⟨(m18,(w64 (v13 + (1:Int)))),h,Nat.lt_succ_self m18,(qbk [] (l:=[(1,sv qa7 s2_),(2,.func 54 [] []),(15,sv qa7 s1_),(16,iv (s1_.length:Int)),(17,iv (w64 (v13 + (1:Int))))]) (objs:=[]) rfl (by simp) rfl (by trivial) ⟨rfl,trivial,rfl,(by trivial),rfl,trivial,rfl,trivial,rfl,trivial,trivial⟩)⟩
  ·have h:=if_f h hc20
   refine qe4<|qa6<|qa2<|qa0 hτ rfl rfl rfl<|qa4 ?_
   refine qa8 (wk [] (l:=[(6,bv true)]) (objs:=[])) ?_
   refine qaq ?_
   have hr:=Option.some.inj h
   subst hr
   exact rt0 rfl rfl ⟨rfl,rfl,rfl⟩
theorem qlg (n:Nat) (s1_:List qaa) (s2_:List qaa) {r:Bool} (h:qf5 n s1_ s2_ = some r):qax prog false 53 [sv qa7 s1_,sv qa7 s2_,.func 54 [] []] [] (fun v o new=>v = (bv r)∧o = []∧new = []):=slices_EqualFunc_4_ok_fr0 false n s1_ s2_ h
def qie (n:Nat) (a_:qav) (b_:qav):Option Bool :=
 (qf5 n a_.qap b_.qap).bind fun x9 =>
 if x9 = true then
  (qf5 n a_.qau b_.qau).bind fun x11 =>
  if x11 = true then
   if a_.Rounds = b_.Rounds then
    some (a_.qdo == b_.qdo)
   else
    some false
  else
   some false
 else
  some false
theorem impl_SameFlow_ok_fr0 (fr:Bool) (n:Nat) (a_:qav) (b_:qav) {r:Bool} (h:qie n a_ b_ = some r):qax prog fr 28 [.agg [sv qa7 a_.qap,sv qa7 a_.qau,iv a_.Rounds,bv a_.qdo],.agg [sv qa7 b_.qap,sv qa7 b_.qau,iv b_.Rounds,bv b_.qdo]] [] (fun v o new=>v = (bv r)∧o = []∧new = []):=by
 refine qaj hτ func28 rfl (by simp) (by simp) ?_
 unfold qie at h
 refine qa6<|qa2<|qaf hτ rfl rfl rfl<|qaf hτ rfl rfl rfl<|qa0 hτ rfl rfl rfl<|qa4<|qa6<|qa2 ?_
 refine qa0 hτ rfl rfl rfl<|qa0 hτ rfl rfl rfl<|qa0 hτ rfl rfl rfl<|qa0 hτ rfl rfl rfl ?_
 refine qag h fun x9 hx9 h=>?_
 refine qac hτ false [] rfl rfl rfl (qai func53 (by kernel_rfl) rfl) rfl rfl (by simp) ⟨trivial,trivial,(by trivial),trivial⟩ (by trivial) (qlg n a_.qap b_.qap hx9) ?_
 rintro r0 o0 n0 ⟨rfl,rfl,rfl⟩ -
 refine qa0 hτ rfl rfl rfl ?_
 refine qay 10 rfl (fun hb10=>?_) (fun hb10=>?_)
 ·have h:=qcv h hb10
  refine qa0 hτ rfl rfl rfl<|qa0 hτ rfl rfl rfl<|qa0 hτ rfl rfl rfl ?_
  refine qar (wk [0,1] (l:=[(2,.ptr 0 0),(3,.ptr 1 0),(10,bv true),(12,sv qa7 a_.qau),(13,.ptr 1 1)]) (objs:=[.box [sv qa7 a_.qap,sv qa7 a_.qau,iv a_.Rounds,bv a_.qdo],.box [sv qa7 b_.qap,sv qa7 b_.qau,iv b_.Rounds,bv b_.qdo]])) ?_
  refine qa0 hτ rfl rfl rfl ?_
  refine qag h fun x11 hx11 h=>?_
  refine qac hτ false [] rfl rfl rfl (qai func53 (by kernel_rfl) rfl) rfl rfl (by simp) ⟨trivial,trivial,(by trivial),trivial⟩ (by trivial) (qlg n a_.qau b_.qau hx11) ?_
  rintro r0 o0 n0 ⟨rfl,rfl,rfl⟩ -
  refine qa0 hτ rfl rfl rfl<|qa0 hτ rfl rfl rfl ?_
  refine qay 17 rfl (fun hb12=>?_) (fun hb12=>?_)
  ·have h:=qcv h hb12
   refine qa0 hτ rfl rfl rfl<|qa0 hτ rfl rfl rfl<|qa0 hτ rfl rfl rfl<|qa0 hτ rfl rfl rfl ?_
   refine qa0 hτ (v:=bv (decide (a_.Rounds = b_.Rounds))) rfl rfl (qim _ _) ?_
   refine qa0 hτ rfl rfl rfl<|qa0 hτ rfl rfl rfl ?_
   refine qay 24 rfl (fun hb13=>?_) (fun hb13=>?_)
   ·have h:=if_t h hb13
    refine qa0 hτ rfl rfl rfl ?_
    refine qar (wk [1,0] (l:=[(3,.ptr 0 0),(24,bv true),(25,.ptr 1 3)]) (objs:=[.box [sv qa7 b_.qap,sv qa7 b_.qau,iv b_.Rounds,bv b_.qdo],.box [sv qa7 a_.qap,sv qa7 a_.qau,iv a_.Rounds,bv a_.qdo]])) ?_
    refine qa0 hτ rfl rfl rfl<|qa0 hτ rfl rfl rfl<|qa0 hτ rfl rfl rfl<|qa0 hτ rfl rfl rfl<|qa0 hτ rfl rfl rfl<|qa0 hτ rfl rfl rfl<|qa4 ?_
    refine qa8 (wk [] (l:=[(4,bv (a_.qdo == b_.qdo))]) (objs:=[])) ?_
    refine qaq ?_
    have hr:=Option.some.inj h
    subst hr
    exact rt0 rfl rfl ⟨rfl,rfl,rfl⟩
   ·have h:=if_f h hb13
    refine qa3 rfl rfl ?_
    refine qar (wk [1] (l:=[(3,.ptr 0 0),(24,bv false),(25,.und)]) (objs:=[.box [sv qa7 b_.qap,sv qa7 b_.qau,iv b_.Rounds,bv b_.qdo]])) ?_
    refine qa3 rfl rfl<|qa3 rfl rfl<|qa3 rfl rfl<|qa3 rfl rfl<|qa0 hτ rfl rfl rfl<|qa0 hτ rfl rfl rfl<|qa4 ?_
    refine qa8 (wk [] (l:=[(4,bv false)]) (objs:=[])) ?_
    refine qaq ?_
    have hr:=Option.some.inj h
    subst hr
    exact rt0 rfl rfl ⟨rfl,rfl,rfl⟩
  ·have h:=qcu h hb12
   refine qa3 rfl rfl<|qa3 rfl rfl<|qa3 rfl rfl<|qa3 rfl rfl<|qa3 rfl rfl<|qa0 hτ rfl rfl rfl<|qa0 hτ rfl rfl rfl<|qa3 rfl rfl ?_
   refine qar (wk [1] (l:=[(3,.ptr 0 0),(24,bv false),(25,.und)]) (objs:=[.box [sv qa7 b_.qap,sv qa7 b_.qau,iv b_.Rounds,bv b_.qdo]])) ?_
   refine qa3 rfl rfl<|qa3 rfl rfl<|qa3 rfl rfl<|qa3 rfl rfl<|qa0 hτ rfl rfl rfl<|qa0 hτ rfl rfl rfl<|qa4 ?_
   refine qa8 (wk [] (l:=[(4,bv false)]) (objs:=[])) ?_
   refine qaq ?_
   have hr:=Option.some.inj h
   subst hr
   exact rt0 rfl rfl ⟨rfl,rfl,rfl⟩
 ·have h:=qcu h hb10
  refine qa3 rfl rfl<|qa3 rfl rfl<|qa3 rfl rfl ?_
  refine qar (wk [0,1] (l:=[(2,.ptr 0 0),(3,.ptr 1 0),(10,bv false),(12,.und),(13,.und)]) (objs:=[.box [sv qa7 a_.qap,sv qa7 a_.qau,iv a_.Rounds,bv a_.qdo],.box [sv qa7 b_.qap,sv qa7 b_.qau,iv b_.Rounds,bv b_.qdo]])) ?_
  refine qa3 rfl rfl<|qa3 rfl rfl<|qa0 hτ rfl rfl rfl<|qa0 hτ rfl rfl rfl<|qa3 rfl rfl<|qa3 rfl rfl<|qa3 rfl rfl<|qa3 rfl rfl ?_
  refine qa3 rfl rfl<|qa0 hτ rfl rfl rfl<|qa0 hτ rfl rfl rfl<|qa3 rfl rfl ?_
  refine qar (wk [1] (l:=[(3,.ptr 0 0),(24,bv false),(25,.und)]) (objs:=[.box [sv qa7 b_.qap,sv qa7 b_.qau,iv b_.Rounds,bv b_.qdo]])) ?_
  refine qa3 rfl rfl<|qa3 rfl rfl<|qa3 rfl rfl<|qa3 rfl rfl<|qa0 hτ rfl rfl rfl<|qa0 hτ rfl rfl rfl<|qa4 ?_
  refine qa8 (wk [] (l:=[(4,bv false)]) (objs:=[])) ?_
  refine qaq ?_
  have hr:=Option.some.inj h
  subst hr
  exact rt0 rfl rfl ⟨rfl,rfl,rfl⟩
theorem impl_SameFlow_ok (n:Nat) (a_:qav) (b_:qav) {r:Bool} (h:qie n a_ b_ = some r):qax prog false 28 [.agg [sv qa7 a_.qap,sv qa7 a_.qau,iv a_.Rounds,bv a_.qdo],.agg [sv qa7 b_.qap,sv qa7 b_.qau,iv b_.Rounds,bv b_.qdo]] [] (fun v o new=>v = (bv r)∧o = []∧new = []):=impl_SameFlow_ok_fr0 false n a_ b_ h
def qck (n:Nat) (s1_:List qav) (s2_:List qav):Nat→Int→Option Bool
 | 0,_=>none
 | m18 + 1,v13 =>
  if v13 < (s1_.length:Int) then
   (getI s1_ v13).bind fun x24 =>
   (getI s2_ v13).bind fun x25 =>
   (qie n x24 x25).bind fun x26 =>
   if x26 = true then
    (qck n s1_ s2_ m18) (w64 (v13 + (1:Int)))
   else
    some false
  else
   some true
def qgf (n:Nat) (s1_:List qav) (s2_:List qav):Option Bool :=
 if (s1_.length:Int) = (s2_.length:Int) then
  qck n s1_ s2_ n (0:Int)
 else
  some false
theorem slices_EqualFunc_3_ok_fr0 (fr:Bool) (n:Nat) (s1_:List qav) (s2_:List qav) {r:Bool} (h:qgf n s1_ s2_ = some r):qax prog fr 27 [sv qad s1_,sv qad s2_,.func 28 [] []] [] (fun v o new=>v = (bv r)∧o = []∧new = []):=by
 refine qaj hτ func27 rfl (by simp) (by simp) ?_
 unfold qgf at h
 refine qa6<|qa2<|qa0 hτ rfl rfl rfl<|qa4<|qa6<|qa6<|qa2<|qa0 hτ rfl rfl rfl ?_
 refine qa0 hτ (v:=iv (s1_.length:Int)) rfl rfl (Eq.trans rfl (qf1 (f:=qad) s1_)) ?_
 refine qa0 hτ rfl rfl rfl ?_
 refine qa0 hτ (v:=iv (s2_.length:Int)) rfl rfl (Eq.trans rfl (qf1 (f:=qad) s2_)) ?_
 refine qa0 hτ (v:=bv (!(decide ((s1_.length:Int) = (s2_.length:Int))))) rfl rfl (qop _ _) ?_
 refine qa4 ?_
 refine qa8 (qbk [] (l:=[(0,sv qad s1_),(1,sv qad s2_),(2,.func 28 [] []),(14,bv (!(decide ((s1_.length:Int) = (s2_.length:Int)))))]) (objs:=[]) rfl (by simp) rfl (by trivial) ⟨rfl,trivial,rfl,trivial,rfl,(by trivial),rfl,trivial,trivial⟩) ?_
 refine qaw rfl (fun hc9=>?_) (fun hc9=>?_)
 ·have hc9:=qi4 hc9
  have h:=if_f h hc9
  refine qa6<|qa2<|qa0 hτ rfl rfl rfl<|qa4 ?_
  refine qa8 (wk [] (l:=[(6,bv false)]) (objs:=[])) ?_
  refine qaq ?_
  have hr:=Option.some.inj h
  subst hr
  exact rt0 rfl rfl ⟨rfl,rfl,rfl⟩
 ·have hc9:=qi3 hc9
  have h:=if_t h hc9
  refine qb1<|qa6<|qa6<|qa2<|qa0 hτ rfl rfl rfl ?_
  refine qa0 hτ (v:=iv (s1_.length:Int)) rfl rfl (Eq.trans rfl (qf1 (f:=qad) s1_)) ?_
  refine qa0 hτ rfl rfl rfl<|qa4<|qb9 ?_
  refine qev (ι:=Nat × Int) (fun (m18,v13)=>St.of [(1,sv qad s2_),(2,.func 28 [] []),(15,sv qad s1_),(16,iv (s1_.length:Int)),(17,iv v13)] [] f27.ntmps 0) (fun (m18,v13)=>qck n s1_ s2_ m18 v13 = some r) (fun x=>x.1) (n,(0:Int)) h (qbk [] (l:=[(1,sv qad s2_),(2,.func 28 [] []),(15,sv qad s1_),(16,iv (s1_.length:Int)),(17,iv (0:Int))]) (objs:=[]) rfl (by simp) rfl (by trivial) ⟨rfl,trivial,rfl,(by trivial),rfl,trivial,rfl,trivial,rfl,trivial,trivial⟩) ?_
  rintro ⟨m18,v13⟩ h
  replace h:qck n s1_ s2_ m18 v13 = some r:=h
  rcases m18 with _ | m18
  ·rw [qck] at h;cases h
  rw [qck] at h
  refine qa6<|qa2<|qa0 hτ rfl rfl rfl<|qa4<|qa6 ?_
  refine qaw rfl (fun hc20=>?_) (fun hc20=>?_)
  ·have h:=if_t h hc20
   refine qb1<|qa6<|qb9<|qa6<|qa2<|qa0 hτ rfl rfl rfl ?_
   refine qag h fun x24 hx24 h=>?_
   refine qgh hτ rfl rfl rfl (qcw hx24).1 (qe7 hx24) rfl ?_
   refine qa0 hτ rfl rfl rfl<|qaf hτ rfl rfl rfl<|qa0 hτ rfl rfl rfl<|qaf hτ rfl rfl rfl<|qa4<|qa6 ?_
   refine qa8 (qbk [0] (l:=[(1,sv qad s2_),(2,.func 28 [] []),(7,iv v13),(8,.ptr 0 0),(15,sv qad s1_),(16,iv (s1_.length:Int)),(17,iv v13)]) (objs:=[.box [sv qa7 x24.qap,sv qa7 x24.qau,iv x24.Rounds,bv x24.qdo]]) rfl (by simp) rfl (by trivial) ⟨rfl,trivial,rfl,(by trivial),rfl,trivial,rfl,trivial,rfl,trivial,rfl,trivial,rfl,trivial,trivial⟩) ?_
   refine qa2<|qa0 hτ rfl rfl rfl<|qa0 hτ rfl rfl rfl ?_
   refine qag h fun x25 hx25 h=>?_
   refine qgh hτ rfl rfl rfl (qcw hx25).1 (qe7 hx25) rfl ?_
   refine qa0 hτ rfl rfl rfl<|qaf hτ rfl rfl rfl<|qaf hτ rfl rfl rfl<|qa4<|qa6 ?_
   refine qa8 (qbk [0,1] (l:=[(1,sv qad s2_),(2,.func 28 [] []),(8,.ptr 0 0),(9,.ptr 1 0),(15,sv qad s1_),(16,iv (s1_.length:Int)),(17,iv v13)]) (objs:=[.box [sv qa7 x24.qap,sv qa7 x24.qau,iv x24.Rounds,bv x24.qdo],.box [sv qa7 x25.qap,sv qa7 x25.qau,iv x25.Rounds,bv x25.qdo]]) rfl (by simp) rfl (by trivial) ⟨rfl,trivial,rfl,(by trivial),rfl,trivial,rfl,trivial,rfl,trivial,rfl,trivial,rfl,trivial,trivial⟩) ?_
   refine qa2<|qa0 hτ rfl rfl rfl<|qa0 hτ rfl rfl rfl<|qa0 hτ rfl rfl rfl ?_
   refine qag h fun x26 hx26 h=>?_
   refine qac hτ false [] rfl rfl rfl (qai func28 rfl rfl) rfl rfl (by simp) ⟨(by trivial),(by trivial),trivial⟩ (by trivial) (impl_SameFlow_ok n x24 x25 hx26) ?_
   rintro r0 o0 n0 ⟨rfl,rfl,rfl⟩ -
   refine qa0 hτ rfl rfl rfl<|qa4 ?_
   refine qaw rfl (fun hc27=>?_) (fun hc27=>?_)
   ·have hc27:=qi4 hc27
    have h:=qcu h hc27
    refine qa6<|qa2<|qa0 hτ rfl rfl rfl<|qa4 ?_
    refine qa8 (wk [] (l:=[(6,bv false)]) (objs:=[])) ?_
    refine qaq ?_
    have hr:=Option.some.inj h
    subst hr
    exact rt0 rfl rfl ⟨rfl,rfl,rfl⟩
   ·have hc27:=qi3 hc27
    have h:=qcv h hc27
    refine qb1<|qa2<|qa0 hτ rfl rfl rfl<|qa0 hτ rfl rfl rfl<|qa4 ?_
    exact ⟨(m18,(w64 (v13 + (1:Int)))),h,Nat.lt_succ_self m18,(qbk [] (l:=[(1,sv qad s2_),(2,.func 28 [] []),(15,sv qad s1_),(16,iv (s1_.length:Int)),(17,iv (w64 (v13 + (1:Int))))]) (objs:=[]) rfl (by simp) rfl (by trivial) ⟨rfl,trivial,rfl,(by trivial),rfl,trivial,rfl,trivial,rfl,trivial,trivial⟩)⟩
  ·have h:=if_f h hc20
   refine qe4<|qa6<|qa2<|qa0 hτ rfl rfl rfl<|qa4 ?_
   refine qa8 (wk [] (l:=[(6,bv true)]) (objs:=[])) ?_
   refine qaq ?_
   have hr:=Option.some.inj h
   subst hr
   exact rt0 rfl rfl ⟨rfl,rfl,rfl⟩
theorem slices_EqualFunc_3_ok (n:Nat) (s1_:List qav) (s2_:List qav) {r:Bool} (h:qgf n s1_ s2_ = some r):qax prog false 27 [sv qad s1_,sv qad s2_,.func 28 [] []] [] (fun v o new=>v = (bv r)∧o = []∧new = []):=slices_EqualFunc_3_ok_fr0 false n s1_ s2_ h
def qgq (n:Nat) (a_:qan) (b_:qan):Option Bool :=
 (qcg n a_).bind fun x11 =>
 if x11 = true then
  (qcg n b_).bind fun x13 =>
  if x13 = true then
   (qfp n a_.Grid b_.Grid).bind fun x15 =>
   if x15 = true then
    (qgf n a_.qa9 b_.qa9).bind fun x17 =>
    some x17
   else
    some false
  else
   some false
 else
  some false
theorem impl_SameRecord_ok_fr0 (fr:Bool) (n:Nat) (a_:qan) (b_:qan) {r:Bool} (h:qgq n a_ b_ = some r):qax prog fr 11 [.agg [cxv a_.Grid.qa1.Source.A,cxv a_.Grid.qa1.Source.B,cxv a_.Grid.qa1.Source.C,sv qae a_.Grid.qa1.qa5,sv qah a_.Grid.Ties,sv qad a_.qa9],.agg [cxv b_.Grid.qa1.Source.A,cxv b_.Grid.qa1.Source.B,cxv b_.Grid.qa1.Source.C,sv qae b_.Grid.qa1.qa5,sv qah b_.Grid.Ties,sv qad b_.qa9]] [] (fun v o new=>v = (bv r)∧o = []∧new = []):=by
 refine qaj hτ func11 rfl (by simp) (by simp) ?_
 unfold qgq at h
 refine qa6<|qa2<|qaf hτ rfl rfl rfl<|qaf hτ rfl rfl rfl<|qa0 hτ rfl rfl rfl<|qa4<|qa6<|qa2 ?_
 refine qa0 hτ rfl rfl rfl ?_
 refine qag h fun x11 hx11 h=>?_
 refine qac hτ false [] rfl rfl rfl (qai func10 rfl rfl) rfl rfl (by simp) ⟨(by trivial),trivial⟩ (by trivial) (qis n a_ hx11) ?_
 rintro r0 o0 n0 ⟨rfl,rfl,rfl⟩ -
 refine qa0 hτ rfl rfl rfl ?_
 refine qay 7 rfl (fun hb12=>?_) (fun hb12=>?_)
 ·have h:=qcv h hb12
  refine qa0 hτ rfl rfl rfl ?_
  refine qag h fun x13 hx13 h=>?_
  refine qac hτ false [] rfl rfl rfl (qai func10 rfl rfl) rfl rfl (by simp) ⟨(by trivial),trivial⟩ (by trivial) (qis n b_ hx13) ?_
  rintro r0 o0 n0 ⟨rfl,rfl,rfl⟩ -
  refine qa0 hτ rfl rfl rfl<|qa0 hτ rfl rfl rfl ?_
  refine qay 11 rfl (fun hb14=>?_) (fun hb14=>?_)
  ·have h:=qcv h hb14
   refine qa0 hτ rfl rfl rfl<|qa0 hτ rfl rfl rfl ?_
   refine qar (qbk [0,1] (l:=[(2,.ptr 0 0),(3,.ptr 1 0),(11,bv true),(13,.agg [cxv a_.Grid.qa1.Source.A,cxv a_.Grid.qa1.Source.B,cxv a_.Grid.qa1.Source.C,sv qae a_.Grid.qa1.qa5,sv qah a_.Grid.Ties])]) (objs:=[.box [cxv a_.Grid.qa1.Source.A,cxv a_.Grid.qa1.Source.B,cxv a_.Grid.qa1.Source.C,sv qae a_.Grid.qa1.qa5,sv qah a_.Grid.Ties,sv qad a_.qa9],.box [cxv b_.Grid.qa1.Source.A,cxv b_.Grid.qa1.Source.B,cxv b_.Grid.qa1.Source.C,sv qae b_.Grid.qa1.qa5,sv qah b_.Grid.Ties,sv qad b_.qa9]]) rfl (by simp) rfl (by trivial) ⟨rfl,trivial,rfl,trivial,rfl,trivial,rfl,(by trivial),trivial⟩) ?_
   refine qa0 hτ rfl rfl rfl<|qa0 hτ rfl rfl rfl ?_
   refine qag h fun x15 hx15 h=>?_
   refine qac hτ false [] rfl rfl rfl (qai func12 rfl rfl) rfl rfl (by simp) ⟨(by trivial),(by trivial),trivial⟩ (by trivial) (impl_SameGrid_ok n a_.Grid b_.Grid hx15) ?_
   rintro r0 o0 n0 ⟨rfl,rfl,rfl⟩ -
   refine qa0 hτ rfl rfl rfl<|qa0 hτ rfl rfl rfl ?_
   refine qay 18 rfl (fun hb16=>?_) (fun hb16=>?_)
   ·have h:=qcv h hb16
    refine qa0 hτ rfl rfl rfl<|qa0 hτ rfl rfl rfl<|qa0 hτ rfl rfl rfl<|qa0 hτ rfl rfl rfl ?_
    refine qag h fun x17 hx17 h=>?_
    refine qac hτ false [] rfl rfl rfl (qai func27 (by kernel_rfl) rfl) rfl rfl (by simp) ⟨trivial,trivial,(by trivial),trivial⟩ (by trivial) (slices_EqualFunc_3_ok n a_.qa9 b_.qa9 hx17) ?_
    rintro r0 o0 n0 ⟨rfl,rfl,rfl⟩ -
    refine qa0 hτ rfl rfl rfl<|qa0 hτ rfl rfl rfl<|qa4 ?_
    refine qa8 (wk [] (l:=[(4,bv x17)]) (objs:=[])) ?_
    refine qaq ?_
    have hr:=Option.some.inj h
    subst hr
    exact rt0 rfl rfl ⟨rfl,rfl,rfl⟩
   ·have h:=qcu h hb16
    refine qa3 rfl rfl<|qa3 rfl rfl<|qa3 rfl rfl<|qa3 rfl rfl<|qa3 rfl rfl<|qa0 hτ rfl rfl rfl<|qa0 hτ rfl rfl rfl<|qa4 ?_
    refine qa8 (wk [] (l:=[(4,bv false)]) (objs:=[])) ?_
    refine qaq ?_
    have hr:=Option.some.inj h
    subst hr
    exact rt0 rfl rfl ⟨rfl,rfl,rfl⟩
  ·have h:=qcu h hb14
   refine qa3 rfl rfl<|qa3 rfl rfl ?_
   refine qar (wk [0,1] (l:=[(2,.ptr 0 0),(3,.ptr 1 0),(11,bv false),(13,.und)]) (objs:=[.box [cxv a_.Grid.qa1.Source.A,cxv a_.Grid.qa1.Source.B,cxv a_.Grid.qa1.Source.C,sv qae a_.Grid.qa1.qa5,sv qah a_.Grid.Ties,sv qad a_.qa9],.box [cxv b_.Grid.qa1.Source.A,cxv b_.Grid.qa1.Source.B,cxv b_.Grid.qa1.Source.C,sv qae b_.Grid.qa1.qa5,sv qah b_.Grid.Ties,sv qad b_.qa9]])) ?_
   refine qa3 rfl rfl<|qa3 rfl rfl<|qa3 rfl rfl<|qa0 hτ rfl rfl rfl<|qa0 hτ rfl rfl rfl<|qa3 rfl rfl<|qa3 rfl rfl<|qa3 rfl rfl ?_
   refine qa3 rfl rfl<|qa3 rfl rfl<|qa0 hτ rfl rfl rfl<|qa0 hτ rfl rfl rfl<|qa4 ?_
   refine qa8 (wk [] (l:=[(4,bv false)]) (objs:=[])) ?_
   refine qaq ?_
   have hr:=Option.some.inj h
   subst hr
   exact rt0 rfl rfl ⟨rfl,rfl,rfl⟩
 ·have h:=qcu h hb12
  refine qa3 rfl rfl<|qa3 rfl rfl<|qa0 hτ rfl rfl rfl<|qa0 hτ rfl rfl rfl<|qa3 rfl rfl<|qa3 rfl rfl ?_
  refine qar (wk [0,1] (l:=[(2,.ptr 0 0),(3,.ptr 1 0),(11,bv false),(13,.und)]) (objs:=[.box [cxv a_.Grid.qa1.Source.A,cxv a_.Grid.qa1.Source.B,cxv a_.Grid.qa1.Source.C,sv qae a_.Grid.qa1.qa5,sv qah a_.Grid.Ties,sv qad a_.qa9],.box [cxv b_.Grid.qa1.Source.A,cxv b_.Grid.qa1.Source.B,cxv b_.Grid.qa1.Source.C,sv qae b_.Grid.qa1.qa5,sv qah b_.Grid.Ties,sv qad b_.qa9]])) ?_
  refine qa3 rfl rfl<|qa3 rfl rfl<|qa3 rfl rfl<|qa0 hτ rfl rfl rfl<|qa0 hτ rfl rfl rfl<|qa3 rfl rfl<|qa3 rfl rfl<|qa3 rfl rfl ?_
  refine qa3 rfl rfl<|qa3 rfl rfl<|qa0 hτ rfl rfl rfl<|qa0 hτ rfl rfl rfl<|qa4 ?_
  refine qa8 (wk [] (l:=[(4,bv false)]) (objs:=[])) ?_
  refine qaq ?_
  have hr:=Option.some.inj h
  subst hr
  exact rt0 rfl rfl ⟨rfl,rfl,rfl⟩
theorem impl_SameRecord_ok_fr (n:Nat) (a_:qan) (b_:qan) {r:Bool} (h:qgq n a_ b_ = some r):qax prog true 11 [.agg [cxv a_.Grid.qa1.Source.A,cxv a_.Grid.qa1.Source.B,cxv a_.Grid.qa1.Source.C,sv qae a_.Grid.qa1.qa5,sv qah a_.Grid.Ties,sv qad a_.qa9],.agg [cxv b_.Grid.qa1.Source.A,cxv b_.Grid.qa1.Source.B,cxv b_.Grid.qa1.Source.C,sv qae b_.Grid.qa1.qa5,sv qah b_.Grid.Ties,sv qad b_.qa9]] [] (fun v o new=>v = (bv r)∧o = []∧new = []):=impl_SameRecord_ok_fr0 true n a_ b_ h
def qk7 (n:Nat) (code_:List Int) (k_:Int) (n_:Int):Option Int :=
 (getI code_ k_).bind fun x7 =>
 grd (n_ ≠ 0) <|
 some ((w64 (x7)).tmod n_)
def qi0 (n:Nat) (code_:List Int) (k_:Int) (n_:Int) (v12:Bool):Option Int :=
 if v12 = true then
  some (0:Int)
 else
  qk7 n code_ k_ n_
def qjm (n:Nat) (code_:List Int) (k_:Int) (n_:Int):Option Int :=
 if n_ ≤ (1:Int) then
  qi0 n code_ k_ n_ true
 else
  qi0 n code_ k_ n_ (decide (k_ ≥ (code_.length:Int)))
theorem laws_r8At_ok_fr0 (fr:Bool) (n:Nat) (code_:List Int) (k_:Int) (n_:Int) {r:Int} (h:qjm n code_ k_ n_ = some r):qax prog fr 13 [sv qal code_,iv k_,iv n_] [] (fun v o new=>v = (iv r)∧o = []∧new = []):=by
 refine qaj hτ func13 rfl (by simp) (by simp) ?_
 unfold qjm at h
 refine qa6<|qa2<|qa0 hτ rfl rfl rfl<|qa4 ?_
 refine qbn (ι:=Unit) (fun _=>St.of [(0,sv qal code_),(1,iv k_),(2,iv n_)] [] f13.ntmps 0) (fun _=>qk7 n code_ k_ n_ = some r) ?_ (fun hk9=>?_)
 ·rintro ⟨⟩ h
  replace h:qk7 n code_ k_ n_ = some r:=h
  unfold qk7 at h
  refine qa6<|qa2<|qa0 hτ rfl rfl rfl<|qa0 hτ rfl rfl rfl ?_
  refine qag h fun x7 hx7 h=>?_
  refine qgh hτ rfl rfl rfl (qcw hx7).1 (qe7 hx7) rfl ?_
  refine qa0 hτ rfl rfl rfl<|qa0 hτ rfl rfl rfl<|qa0 hτ rfl rfl rfl ?_
  refine qcr h fun hg8 h=>?_
  refine qdp hτ rfl rfl rfl hg8 ?_
  refine qa0 hτ rfl rfl rfl<|qa4 ?_
  refine qa8 (wk [] (l:=[(6,iv ((w64 (x7)).tmod n_))]) (objs:=[])) ?_
  refine qaq ?_
  have hr:=Option.some.inj h
  subst hr
  exact rt0 rfl rfl ⟨rfl,rfl,rfl⟩
 ·refine qa6 ?_
  refine qbn (ι:=Bool) (fun v12=>St.of [(0,sv qal code_),(1,iv k_),(2,iv n_),(14,bv v12)] [] f13.ntmps 0) (fun v12=>qi0 n code_ k_ n_ v12 = some r) ?_ (fun hk14=>?_)
  ·rintro v12 h
   replace h:qi0 n code_ k_ n_ v12 = some r:=h
   unfold qi0 at h
   refine qaw rfl (fun hc13=>?_) (fun hc13=>?_)
   ·have h:=qcv h hc13
    refine qa6<|qa2<|qa0 hτ rfl rfl rfl<|qa4 ?_
    refine qa8 (wk [] (l:=[(6,iv (0:Int))]) (objs:=[])) ?_
    refine qaq ?_
    have hr:=Option.some.inj h
    subst hr
    exact rt0 rfl rfl ⟨rfl,rfl,rfl⟩
   ·have h:=qcu h hc13
    refine qb1 ?_
    refine qa8 (wk [] (l:=[(0,sv qal code_),(1,iv k_),(2,iv n_)]) (objs:=[])) ?_
    exact hk9 () h
  ·refine qa6<|qa2<|qa0 hτ rfl rfl rfl<|qa0 hτ rfl rfl rfl<|qa0 hτ rfl rfl rfl ?_
   refine qay 9 rfl (fun hb15=>?_) (fun hb15=>?_)
   ·have h:=if_t h hb15
    refine qa3 rfl rfl<|qa3 rfl rfl<|qa3 rfl rfl<|qa3 rfl rfl<|qa0 hτ rfl rfl rfl<|qa4 ?_
    refine qa8 (wk [] (l:=[(0,sv qal code_),(1,iv k_),(2,iv n_),(14,bv true)]) (objs:=[])) ?_
    exact hk14 true h
   ·have h:=if_f h hb15
    refine qa0 hτ rfl rfl rfl<|qa0 hτ rfl rfl rfl ?_
    refine qa0 hτ (v:=iv (code_.length:Int)) rfl rfl (Eq.trans rfl (qf1 (f:=qal) code_)) ?_
    refine qa0 hτ rfl rfl rfl<|qa0 hτ rfl rfl rfl<|qa4 ?_
    refine qa8 (wk [] (l:=[(0,sv qal code_),(1,iv k_),(2,iv n_),(14,bv (decide (k_ ≥ (code_.length:Int))))]) (objs:=[])) ?_
    exact hk14 (decide (k_ ≥ (code_.length:Int))) h
theorem qnd (n:Nat) (code_:List Int) (k_:Int) (n_:Int) {r:Int} (h:qjm n code_ k_ n_ = some r):qax prog false 13 [sv qal code_,iv k_,iv n_] [] (fun v o new=>v = (iv r)∧o = []∧new = []):=laws_r8At_ok_fr0 false n code_ k_ n_ h
def qk8 (n:Nat) (s_:List SBus):Option (List SBus) :=
 grd (room (([]:List SBus).length + s_.length) 64) <|
 some (([]:List SBus) ++ s_)
theorem slices_Clone_ok_fr0 (fr:Bool) (n:Nat) (s_:List SBus) {r:List SBus} (h:qk8 n s_ = some r):qax prog fr 86 [sv qae s_] [] (fun v o new=>v = .row 0 r.length 0 r.length∧o = []∧new = [.row 8 (r.map qae)]):=by
 refine qaj hτ func86 rfl (by simp) (by simp) ?_
 unfold qk8 at h
 refine qa6<|qa2<|qa0 hτ rfl rfl rfl<|qa4<|qa6<|qa6<|qa2<|qa0 hτ rfl rfl rfl ?_
 refine qq2 rfl rfl (qut hτ rfl rfl rfl rfl rfl) fun q4 hq4=>?_
 refine qa4 ?_
 refine qaw rfl (fun hc5=>?_) (fun hc5=>?_)
 ·have hl:=List.map_eq_nil_iff.1 (hq4 (by simpa using hc5))
  subst hl
  replace h:(some ([]:List SBus)) = some r:=by simpa [grd,room] using h
  refine qa6<|qa2<|qa0 hτ rfl rfl rfl<|qa4 ?_
  refine qa8 (wk [] (l:=[(2,.d (.nils))]) (objs:=[])) ?_
  refine qa8 (qe3 [8] (l':=[(2,.row 0 (([]:List SBus).length) 0 (([]:List SBus).length))]) (objs':=[]) (.cons (.c (.ghost ⟨Nat.le_of_ble_eq_true rfl,Nat.le_of_ble_eq_true rfl⟩)) .nil) .nil) ?_
  refine qaq ?_
  have hr:=Option.some.inj h
  subst hr
  exact qb0 (.inr rfl) [0] (objs':=[]) (new:=[.row 8 (([]:List SBus).map qae)]) rfl (by simp) (by simp) rfl (by trivial) rfl rfl (by trivial) (fun _=>⟨by simp [V.flat,V.qiq,V.qf9,D.flat],(qbl (qdy qjs _) qct)⟩) ⟨rfl,rfl,rfl⟩
 ·refine qb1<|qa6<|qa2<|qaf hτ rfl rfl rfl<|qa0 hτ rfl rfl rfl ?_
  refine qcr h fun hg6 h=>?_
  refine qk4 hτ rfl rfl (Eq.trans rfl (or_append (f:=qae) ([]:List SBus) s_ rfl)) ⟨trivial,qco _,rfl,rfl,(qps (f:=qae) hg6),by decide,(qon (f:=qae) (fun _=>rfl) _)⟩ ?_
  refine qa0 hτ rfl rfl rfl<|qa4 ?_
  refine qa8 (wk [0] (l:=[(2,.row 0 ((([]:List SBus) ++ s_).length) 0 ((([]:List SBus) ++ s_).length))]) (objs:=[.row 8 ((([]:List SBus) ++ s_).map qae)])) ?_
  refine qaq ?_
  have hr:=Option.some.inj h
  subst hr
  exact qb0 (.inr rfl) [0] (objs':=[]) (new:=[.row 8 ((([]:List SBus) ++ s_).map qae)]) rfl (by simp) (by simp) rfl (by trivial) rfl rfl (by trivial) (fun _=>⟨by simp [V.flat,V.qiq,V.qf9,D.flat],(qbl (qdy qjs _) qct)⟩) ⟨rfl,rfl,rfl⟩
theorem slices_Clone_ok (n:Nat) (s_:List SBus) {r:List SBus} (h:qk8 n s_ = some r):qax prog false 86 [sv qae s_] [] (fun v o new=>v = .row 0 r.length 0 r.length∧o = []∧new = [.row 8 (r.map qae)]):=slices_Clone_ok_fr0 false n s_ h
def qhl (n:Nat) (f_:qb8):Option qb8 :=
 (qk8 n f_.qa5).bind fun x2 =>
 some (qb8.mk f_.Source x2)
theorem impl_cloneFeeder_ok_fr0 (fr:Bool) (n:Nat) (f_:qb8) {r:qb8} (h:qhl n f_ = some r):qax prog fr 73 [.agg [cxv f_.Source.A,cxv f_.Source.B,cxv f_.Source.C,sv qae f_.qa5]] [] (fun v o new=>v = .agg [cxv r.Source.A,cxv r.Source.B,cxv r.Source.C,.row 0 r.qa5.length 0 r.qa5.length]∧o = []∧new = [.row 8 (r.qa5.map qae)]):=by
 refine qaj hτ func73 rfl (by simp) (by simp) ?_
 unfold qhl at h
 refine qa6<|qa2<|qaf hτ rfl rfl rfl<|qaf hτ rfl rfl rfl<|qa4<|qa6<|qd4 ?_
 refine qab hτ [0] 0 rfl rfl rfl rfl rfl ?_
 refine qab hτ [0] 1 rfl rfl rfl rfl rfl ?_
 refine qab hτ [0] 2 rfl rfl rfl rfl rfl ?_
 refine qab hτ [0] 3 rfl rfl rfl rfl rfl ?_
 refine qag h fun x2 hx2 h=>?_
 refine qcy hτ false [] [0,1] 4 rfl rfl rfl rfl (qai func86 rfl rfl) rfl rfl (by simp) ⟨trivial,trivial⟩ (by trivial) (slices_Clone_ok n f_.qa5 hx2) ⟨rfl,rfl,trivial⟩ ?_
 refine qab hτ [] 5 rfl rfl rfl rfl rfl ?_
 refine qbj hτ [0,2] 6 rfl rfl rfl rfl ⟨rfl,rfl,trivial⟩ ?_
 refine qcs mixed (by kernel_rfl) ?_
 refine qa8 (wk [1,2] (l:=[(2,.ptr 0 0)]) (objs:=[.box [cxv f_.Source.A,cxv f_.Source.B,cxv f_.Source.C,.row 1 x2.length 0 x2.length],.row 8 (x2.map qae)])) ?_
 refine qaq ?_
 have hr:=Option.some.inj h
 subst hr
 exact qb0 (.inr rfl) [1] (objs':=[]) (new:=[.row 8 (x2.map qae)]) rfl (by simp) (by simp) rfl (by trivial) rfl rfl (by trivial) (fun _=>⟨by simp [V.flat,V.qiq,V.qf9,D.flat],(qbl (qdy qjs _) qct)⟩) ⟨rfl,rfl,rfl⟩
theorem impl_cloneFeeder_ok (n:Nat) (f_:qb8) {r:qb8} (h:qhl n f_ = some r):qax prog false 73 [.agg [cxv f_.Source.A,cxv f_.Source.B,cxv f_.Source.C,sv qae f_.qa5]] [] (fun v o new=>v = .agg [cxv r.Source.A,cxv r.Source.B,cxv r.Source.C,.row 0 r.qa5.length 0 r.qa5.length]∧o = []∧new = [.row 8 (r.qa5.map qae)]):=impl_cloneFeeder_ok_fr0 false n f_ h
def qj3 (n:Nat) (s_:List STie):Option (List STie) :=
 grd (room (([]:List STie).length + s_.length) 40) <|
 some (([]:List STie) ++ s_)
theorem slices_Clone_2_ok_fr0 (fr:Bool) (n:Nat) (s_:List STie) {r:List STie} (h:qj3 n s_ = some r):qax prog fr 74 [sv qah s_] [] (fun v o new=>v = .row 0 r.length 0 r.length∧o = []∧new = [.row 5 (r.map qah)]):=by
 refine qaj hτ func74 rfl (by simp) (by simp) ?_
 unfold qj3 at h
 refine qa6<|qa2<|qa0 hτ rfl rfl rfl<|qa4<|qa6<|qa6<|qa2<|qa0 hτ rfl rfl rfl ?_
 refine qq2 rfl rfl (qut hτ rfl rfl rfl rfl rfl) fun q4 hq4=>?_
 refine qa4 ?_
 refine qaw rfl (fun hc5=>?_) (fun hc5=>?_)
 ·have hl:=List.map_eq_nil_iff.1 (hq4 (by simpa using hc5))
  subst hl
  replace h:(some ([]:List STie)) = some r:=by simpa [grd,room] using h
  refine qa6<|qa2<|qa0 hτ rfl rfl rfl<|qa4 ?_
  refine qa8 (wk [] (l:=[(2,.d (.nils))]) (objs:=[])) ?_
  refine qa8 (qe3 [5] (l':=[(2,.row 0 (([]:List STie).length) 0 (([]:List STie).length))]) (objs':=[]) (.cons (.c (.ghost ⟨Nat.le_of_ble_eq_true rfl,Nat.le_of_ble_eq_true rfl⟩)) .nil) .nil) ?_
  refine qaq ?_
  have hr:=Option.some.inj h
  subst hr
  exact qb0 (.inr rfl) [0] (objs':=[]) (new:=[.row 5 (([]:List STie).map qah)]) rfl (by simp) (by simp) rfl (by trivial) rfl rfl (by trivial) (fun _=>⟨by simp [V.flat,V.qiq,V.qf9,D.flat],(qbl (qdy qki _) qct)⟩) ⟨rfl,rfl,rfl⟩
 ·refine qb1<|qa6<|qa2<|qaf hτ rfl rfl rfl<|qa0 hτ rfl rfl rfl ?_
  refine qcr h fun hg6 h=>?_
  refine qk4 hτ rfl rfl (Eq.trans rfl (or_append (f:=qah) ([]:List STie) s_ rfl)) ⟨trivial,qco _,rfl,rfl,(qps (f:=qah) hg6),by decide,(qon (f:=qah) (fun _=>rfl) _)⟩ ?_
  refine qa0 hτ rfl rfl rfl<|qa4 ?_
  refine qa8 (wk [0] (l:=[(2,.row 0 ((([]:List STie) ++ s_).length) 0 ((([]:List STie) ++ s_).length))]) (objs:=[.row 5 ((([]:List STie) ++ s_).map qah)])) ?_
  refine qaq ?_
  have hr:=Option.some.inj h
  subst hr
  exact qb0 (.inr rfl) [0] (objs':=[]) (new:=[.row 5 ((([]:List STie) ++ s_).map qah)]) rfl (by simp) (by simp) rfl (by trivial) rfl rfl (by trivial) (fun _=>⟨by simp [V.flat,V.qiq,V.qf9,D.flat],(qbl (qdy qki _) qct)⟩) ⟨rfl,rfl,rfl⟩
theorem slices_Clone_2_ok (n:Nat) (s_:List STie) {r:List STie} (h:qj3 n s_ = some r):qax prog false 74 [sv qah s_] [] (fun v o new=>v = .row 0 r.length 0 r.length∧o = []∧new = [.row 5 (r.map qah)]):=slices_Clone_2_ok_fr0 false n s_ h
def qj2 (n:Nat) (g_:qbg):Option qbg :=
 (qhl n g_.qa1).bind fun x3 =>
 (qj3 n g_.Ties).bind fun x4 =>
 some (qbg.mk (qb8.mk x3.Source x3.qa5) x4)
theorem impl_cloneGrid_ok_fr0 (fr:Bool) (n:Nat) (g_:qbg) {r:qbg} (h:qj2 n g_ = some r):qax prog fr 58 [.agg [cxv g_.qa1.Source.A,cxv g_.qa1.Source.B,cxv g_.qa1.Source.C,sv qae g_.qa1.qa5,sv qah g_.Ties]] [] (fun v o new=>v = .agg [cxv r.qa1.Source.A,cxv r.qa1.Source.B,cxv r.qa1.Source.C,.row 0 r.qa1.qa5.length 0 r.qa1.qa5.length,.row 1 r.Ties.length 0 r.Ties.length]∧o = []∧new = [.row 8 (r.qa1.qa5.map qae),.row 5 (r.Ties.map qah)]):=by
 refine qaj hτ func58 rfl (by simp) (by simp) ?_
 unfold qj2 at h
 refine qa6<|qa2<|qaf hτ rfl rfl rfl<|qaf hτ rfl rfl rfl<|qa4<|qa6<|qd4 ?_
 refine qab hτ [0] 0 rfl rfl rfl rfl rfl ?_
 refine qab hτ [0] 1 rfl rfl rfl rfl rfl ?_
 refine qab hτ [0] 3 rfl rfl rfl rfl rfl ?_
 refine qab hτ [0] 4 rfl rfl rfl rfl rfl ?_
 refine qag h fun x3 hx3 h=>?_
 refine qcy hτ false [] [0,1] 2 rfl rfl rfl rfl (qai func73 rfl rfl) rfl rfl (by simp) ⟨(by trivial),trivial⟩ (by trivial) (impl_cloneFeeder_ok n g_.qa1 hx3) ⟨rfl,rfl,trivial⟩ ?_
 refine qag h fun x4 hx4 h=>?_
 refine qcy hτ false [] [0,1,2] 5 rfl rfl rfl rfl (qai func74 rfl rfl) rfl rfl (by simp) ⟨trivial,trivial⟩ (by trivial) (slices_Clone_2_ok n g_.Ties hx4) ⟨rfl,rfl,rfl,trivial⟩ ?_
 refine qab hτ [] 6 rfl rfl rfl rfl rfl ?_
 refine qbj hτ [0,2,3] 7 rfl rfl rfl rfl ⟨rfl,rfl,rfl,trivial⟩ ?_
 refine qcs mixed (by kernel_rfl) ?_
 refine qa8 (wk [1,2,3] (l:=[(2,.ptr 0 0)]) (objs:=[.box [cxv x3.Source.A,cxv x3.Source.B,cxv x3.Source.C,.row 1 x3.qa5.length 0 x3.qa5.length,.row 2 x4.length 0 x4.length],.row 8 (x3.qa5.map qae),.row 5 (x4.map qah)])) ?_
 refine qaq ?_
 have hr:=Option.some.inj h
 subst hr
 exact qb0 (.inr rfl) [1,2] (objs':=[]) (new:=[.row 8 (x3.qa5.map qae),.row 5 (x4.map qah)]) rfl (by simp) (by simp) rfl (by trivial) rfl rfl (by trivial) (fun _=>⟨by simp [V.flat,V.qiq,V.qf9,D.flat],(qbl (qdy qjs _) (qbl (qdy qki _) qct))⟩) ⟨rfl,rfl,rfl⟩
theorem impl_cloneGrid_ok (n:Nat) (g_:qbg) {r:qbg} (h:qj2 n g_ = some r):qax prog false 58 [.agg [cxv g_.qa1.Source.A,cxv g_.qa1.Source.B,cxv g_.qa1.Source.C,sv qae g_.qa1.qa5,sv qah g_.Ties]] [] (fun v o new=>v = .agg [cxv r.qa1.Source.A,cxv r.qa1.Source.B,cxv r.qa1.Source.C,.row 0 r.qa1.qa5.length 0 r.qa1.qa5.length,.row 1 r.Ties.length 0 r.Ties.length]∧o = []∧new = [.row 8 (r.qa1.qa5.map qae),.row 5 (r.Ties.map qah)]):=impl_cloneGrid_ok_fr0 false n g_ h
def qh7 (n:Nat) (s_:List qaa):Option (List qaa) :=
 grd (room (([]:List qaa).length + s_.length) 24) <|
 some (([]:List qaa) ++ s_)
theorem slices_Clone_3_ok_fr0 (fr:Bool) (n:Nat) (s_:List qaa) {r:List qaa} (h:qh7 n s_ = some r):qax prog fr 75 [sv qa7 s_] [] (fun v o new=>v = .row 0 r.length 0 r.length∧o = []∧new = [.row 3 (r.map qa7)]):=by
 refine qaj hτ func75 rfl (by simp) (by simp) ?_
 unfold qh7 at h
 refine qa6<|qa2<|qa0 hτ rfl rfl rfl<|qa4<|qa6<|qa6<|qa2<|qa0 hτ rfl rfl rfl ?_
 refine qq2 rfl rfl (qut hτ rfl rfl rfl rfl rfl) fun q4 hq4=>?_
 refine qa4 ?_
 refine qaw rfl (fun hc5=>?_) (fun hc5=>?_)
 ·have hl:=List.map_eq_nil_iff.1 (hq4 (by simpa using hc5))
  subst hl
  replace h:(some ([]:List qaa)) = some r:=by simpa [grd,room] using h
  refine qa6<|qa2<|qa0 hτ rfl rfl rfl<|qa4 ?_
  refine qa8 (wk [] (l:=[(2,.d (.nils))]) (objs:=[])) ?_
  refine qa8 (qe3 [3] (l':=[(2,.row 0 (([]:List qaa).length) 0 (([]:List qaa).length))]) (objs':=[]) (.cons (.c (.ghost ⟨Nat.le_of_ble_eq_true rfl,Nat.le_of_ble_eq_true rfl⟩)) .nil) .nil) ?_
  refine qaq ?_
  have hr:=Option.some.inj h
  subst hr
  exact qb0 (.inr rfl) [0] (objs':=[]) (new:=[.row 3 (([]:List qaa).map qa7)]) rfl (by simp) (by simp) rfl (by trivial) rfl rfl (by trivial) (fun _=>⟨by simp [V.flat,V.qiq,V.qf9,D.flat],(qbl (qdy qhe _) qct)⟩) ⟨rfl,rfl,rfl⟩
 ·refine qb1<|qa6<|qa2<|qaf hτ rfl rfl rfl<|qa0 hτ rfl rfl rfl ?_
  refine qcr h fun hg6 h=>?_
  refine qk4 hτ rfl rfl (Eq.trans rfl (or_append (f:=qa7) ([]:List qaa) s_ rfl)) ⟨trivial,qco _,rfl,rfl,(qps (f:=qa7) hg6),by decide,(qon (f:=qa7) (fun _=>rfl) _)⟩ ?_
  refine qa0 hτ rfl rfl rfl<|qa4 ?_
  refine qa8 (wk [0] (l:=[(2,.row 0 ((([]:List qaa) ++ s_).length) 0 ((([]:List qaa) ++ s_).length))]) (objs:=[.row 3 ((([]:List qaa) ++ s_).map qa7)])) ?_
  refine qaq ?_
  have hr:=Option.some.inj h
  subst hr
  exact qb0 (.inr rfl) [0] (objs':=[]) (new:=[.row 3 ((([]:List qaa) ++ s_).map qa7)]) rfl (by simp) (by simp) rfl (by trivial) rfl rfl (by trivial) (fun _=>⟨by simp [V.flat,V.qiq,V.qf9,D.flat],(qbl (qdy qhe _) qct)⟩) ⟨rfl,rfl,rfl⟩
theorem qmp (n:Nat) (s_:List qaa) {r:List qaa} (h:qh7 n s_ = some r):qax prog false 75 [sv qa7 s_] [] (fun v o new=>v = .row 0 r.length 0 r.length∧o = []∧new = [.row 3 (r.map qa7)]):=slices_Clone_3_ok_fr0 false n s_ h
def qj1 (n:Nat) (flow_:qav):Option qav :=
 (qh7 n flow_.qap).bind fun x3 =>
 (qh7 n flow_.qau).bind fun x4 =>
 some (qav.mk x3 x4 flow_.Rounds flow_.qdo)
theorem impl_cloneFlow_ok (n:Nat) (flow_:qav) {r:qav} (h:qj1 n flow_ = some r):qax prog false 59 [.agg [sv qa7 flow_.qap,sv qa7 flow_.qau,iv flow_.Rounds,bv flow_.qdo]] [] (fun v o new=>v = .agg [sv qa7 r.qap,sv qa7 r.qau,iv r.Rounds,bv r.qdo]∧o = []∧new = []):=by
 refine qaj hτ func59 rfl (by simp) (by simp) ?_
 unfold qj1 at h
 refine qa6<|qa2<|qaf hτ rfl rfl rfl<|qaf hτ rfl rfl rfl<|qa4<|qa6<|qd4 ?_
 refine qab hτ [0] 0 rfl rfl rfl rfl rfl ?_
 refine qab hτ [0] 1 rfl rfl rfl rfl rfl ?_
 refine qab hτ [0] 3 rfl rfl rfl rfl rfl ?_
 refine qab hτ [0] 4 rfl rfl rfl rfl rfl ?_
 refine qag h fun x3 hx3 h=>?_
 refine qcy hτ false [] [0,1] 2 rfl rfl rfl rfl (qai func75 rfl rfl) rfl rfl (by simp) ⟨trivial,trivial⟩ (by trivial) (qmp n flow_.qap hx3) ⟨rfl,rfl,trivial⟩ ?_
 refine qab hτ [0] 6 rfl rfl rfl rfl rfl ?_
 refine qag h fun x4 hx4 h=>?_
 refine qcy hτ false [] [0,1,2] 5 rfl rfl rfl rfl (qai func75 rfl rfl) rfl rfl (by simp) ⟨trivial,trivial⟩ (by trivial) (qmp n flow_.qau hx4) ⟨rfl,rfl,rfl,trivial⟩ ?_
 refine qbj hτ [1,2,3] 7 rfl rfl rfl rfl ⟨rfl,rfl,rfl,trivial⟩ ?_
 refine qab hτ [0] 8 rfl rfl rfl rfl rfl ?_
 refine qbj hτ [1,2,3] 9 rfl rfl rfl rfl ⟨rfl,rfl,rfl,trivial⟩ ?_
 refine qcs mixed (by kernel_rfl) ?_
 refine qa6 ?_
 refine qa8 (wk [0,2,3,1] (l:=[(1,.ptr 0 0),(2,.ptr 3 0)]) (objs:=[.box [.row 1 x3.length 0 x3.length,.row 2 x4.length 0 x4.length,iv flow_.Rounds,bv flow_.qdo],.row 3 (x3.map qa7),.row 3 (x4.map qa7),.box [.d (.nils),.d (.nils),iv (0:Int),bv false]])) ?_
 refine qa2<|qa0 hτ rfl rfl rfl<|qaf hτ rfl rfl rfl<|qa4 ?_
 refine qa8 (qbk [3] (l:=[(2,.ptr 0 0)]) (objs:=[.box [sv qa7 x3,sv qa7 x4,iv flow_.Rounds,bv flow_.qdo]]) rfl (by simp) (qak (qqa (qak (qbx (f:=qa7) (j:=1) (sz:=3) x3 rfl rfl rfl) (qak (qbx (f:=qa7) (j:=2) (sz:=3) x4 rfl rfl rfl) (qak rfl (qak rfl qc9))))) qc9) ⟨⟨(qby (f:=qa7) (j:=1) (sz:=3) x3 rfl rfl rfl),(qby (f:=qa7) (j:=2) (sz:=3) x4 rfl rfl rfl),trivial,trivial⟩,trivial⟩ ⟨rfl,trivial,trivial⟩) ?_
 refine qaq ?_
 have hr:=Option.some.inj h
 subst hr
 exact qb0 (.inr rfl) [] (objs':=[]) (new:=[]) rfl (by simp) (by simp) rfl (by trivial) rfl rfl (by trivial) (fun h=>nomatch h) ⟨rfl,rfl,rfl⟩
def qjg (n:Nat) (x19:qbg) (v37:List SBus) (v38:List STie) (v39:List qav) (v40:List qav):Option qan :=
 some (qan.mk (qbg.mk (qb8.mk x19.qa1.Source x19.qa1.qa5) x19.Ties) v40)
def qe1 (n:Nat) (flows_:List qav) (x19:qbg):Nat→List SBus→List STie→List qav→List qav→Int→Option qan
 | 0,_,_,_,_,_=>none
 | m59 + 1,v46,v47,v48,v49,v50 =>
  if v50 < (flows_.length:Int) then
   (getI flows_ v50).bind fun x62 =>
   (qj1 n x62).bind fun x63 =>
   grd (room (v49.length + 1) 64) <|
   (qe1 n flows_ x19 m59) v46 v47 v48 (v49 ++ [x63]) (w64 (v50 + (1:Int)))
  else
   qjg n x19 v46 v47 v48 v49
def qkt (n:Nat) (g_:qbg) (flows_:List qav):Option qan :=
 (qj2 n g_).bind fun x19 =>
 qe1 n flows_ x19 n ([]:List SBus) ([]:List STie) ([]:List qav) ([]:List qav) (0:Int)
theorem impl_recordOf_ok (n:Nat) (g_:qbg) (flows_:List qav) {r:qan} (h:qkt n g_ flows_ = some r):qax prog false 34 [.agg [cxv g_.qa1.Source.A,cxv g_.qa1.Source.B,cxv g_.qa1.Source.C,sv qae g_.qa1.qa5,sv qah g_.Ties],sv qad flows_] [] (fun v o new=>v = .agg [cxv r.Grid.qa1.Source.A,cxv r.Grid.qa1.Source.B,cxv r.Grid.qa1.Source.C,.row 0 r.Grid.qa1.qa5.length 0 r.Grid.qa1.qa5.length,.row 1 r.Grid.Ties.length 0 r.Grid.Ties.length,.row 2 r.qa9.length 0 r.qa9.length]∧o = []∧new = [.row 8 (r.Grid.qa1.qa5.map qae),.row 5 (r.Grid.Ties.map qah),.row 4 (r.qa9.map qad)]):=by
 refine qaj hτ func34 rfl (by simp) (by simp) ?_
 unfold qkt at h
 refine qa6<|qa2<|qaf hτ rfl rfl rfl<|qaf hτ rfl rfl rfl<|qa4<|qa6<|qa2<|qa0 hτ rfl rfl rfl ?_
 refine qag h fun x19 hx19 h=>?_
 refine qac hτ false [] rfl rfl rfl (qai func58 rfl rfl) rfl rfl (by simp) ⟨(by trivial),trivial⟩ (by trivial) (impl_cloneGrid_ok n g_ hx19) ?_
 rintro r0 o0 n0 ⟨rfl,rfl,rfl⟩ -
 refine qa0 hτ rfl rfl rfl<|qaf hτ rfl rfl rfl<|qaf hτ rfl rfl rfl<|qa4 ?_
 refine qbn (ι:=List SBus × List STie × List qav × List qav) (fun (v37,v38,v39,v40)=>St.of [(4,.ptr 0 0),(5,.ptr 4 0)] [.box [.d (.cx .f32 (0:Nat) (0:Nat)),.d (.cx .f32 (0:Nat) (0:Nat)),.d (.cx .f32 (0:Nat) (0:Nat)),.row 1 v37.length 0 v37.length,.row 2 v38.length 0 v38.length,.row 3 v39.length 0 v39.length],.row 8 (v37.map qae),.row 5 (v38.map qah),.row 4 (v39.map qad),.box [cxv x19.qa1.Source.A,cxv x19.qa1.Source.B,cxv x19.qa1.Source.C,.row 5 x19.qa1.qa5.length 0 x19.qa1.qa5.length,.row 6 x19.Ties.length 0 x19.Ties.length,.row 7 v40.length 0 v40.length],.row 8 (x19.qa1.qa5.map qae),.row 5 (x19.Ties.map qah),.row 4 (v40.map qad)] f34.ntmps 0) (fun (v37,v38,v39,v40)=>qjg n x19 v37 v38 v39 v40 = some r) ?_ (fun hk41=>?_)
 ·rintro ⟨v37,v38,v39,v40⟩ h
  replace h:qjg n x19 v37 v38 v39 v40 = some r:=h
  unfold qjg at h
  refine qa6<|qa2<|qa0 hτ rfl rfl rfl<|qaf hτ rfl rfl rfl<|qa4 ?_
  refine qa8 (wk [0,5,6,7] (l:=[(4,.ptr 0 0)]) (objs:=[.box [cxv x19.qa1.Source.A,cxv x19.qa1.Source.B,cxv x19.qa1.Source.C,.row 1 x19.qa1.qa5.length 0 x19.qa1.qa5.length,.row 2 x19.Ties.length 0 x19.Ties.length,.row 3 v40.length 0 v40.length],.row 8 (x19.qa1.qa5.map qae),.row 5 (x19.Ties.map qah),.row 4 (v40.map qad)])) ?_
  refine qaq ?_
  have hr:=Option.some.inj h
  subst hr
  exact qb0 (.inr rfl) [1,2,3] (objs':=[]) (new:=[.row 8 (x19.qa1.qa5.map qae),.row 5 (x19.Ties.map qah),.row 4 (v40.map qad)]) rfl (by simp) (by simp) rfl (by trivial) rfl rfl (by trivial) (fun h=>nomatch h) ⟨rfl,rfl,rfl⟩
 ·refine qa6<|qa6 ?_
  refine qa8 (wk [1,4,2,3] (l:=[(1,sv qad flows_),(4,.ptr 0 0),(5,.ptr 1 0)]) (objs:=[.box [.d (.cx .f32 (0:Nat) (0:Nat)),.d (.cx .f32 (0:Nat) (0:Nat)),.d (.cx .f32 (0:Nat) (0:Nat)),.d (.nils),.d (.nils),.d (.nils)],.box [cxv x19.qa1.Source.A,cxv x19.qa1.Source.B,cxv x19.qa1.Source.C,.row 2 x19.qa1.qa5.length 0 x19.qa1.qa5.length,.row 3 x19.Ties.length 0 x19.Ties.length,.d (.nils)],.row 8 (x19.qa1.qa5.map qae),.row 5 (x19.Ties.map qah)])) ?_
  refine qa2<|qa0 hτ rfl rfl rfl ?_
  refine qa0 hτ (v:=iv (flows_.length:Int)) rfl rfl (Eq.trans rfl (qf1 (f:=qad) flows_)) ?_
  refine qa0 hτ rfl rfl rfl<|qa4<|qb9 ?_
  refine qev (ι:=Nat × List SBus × List STie × List qav × List qav × Int) (fun (m59,v46,v47,v48,v49,v50)=>St.of [(4,.ptr 0 0),(5,.ptr 4 0),(11,sv qad flows_),(12,iv (flows_.length:Int)),(13,iv v50)] [.box [.d (.cx .f32 (0:Nat) (0:Nat)),.d (.cx .f32 (0:Nat) (0:Nat)),.d (.cx .f32 (0:Nat) (0:Nat)),.row 1 v46.length 0 v46.length,.row 2 v47.length 0 v47.length,.row 3 v48.length 0 v48.length],.row 8 (v46.map qae),.row 5 (v47.map qah),.row 4 (v48.map qad),.box [cxv x19.qa1.Source.A,cxv x19.qa1.Source.B,cxv x19.qa1.Source.C,.row 5 x19.qa1.qa5.length 0 x19.qa1.qa5.length,.row 6 x19.Ties.length 0 x19.Ties.length,.row 7 v49.length 0 v49.length],.row 8 (x19.qa1.qa5.map qae),.row 5 (x19.Ties.map qah),.row 4 (v49.map qad)] f34.ntmps 0) (fun (m59,v46,v47,v48,v49,v50)=>qe1 n flows_ x19 m59 v46 v47 v48 v49 v50 = some r) (fun x=>x.1) (n,([]:List SBus),([]:List STie),([]:List qav),([]:List qav),(0:Int)) h (Weak.trans (Weak.trans (wk [0,1,2,3] (l:=[(4,.ptr 0 0),(5,.ptr 1 0),(11,sv qad flows_),(12,iv (flows_.length:Int)),(13,iv (0:Int))]) (objs:=[.box [.d (.cx .f32 (0:Nat) (0:Nat)),.d (.cx .f32 (0:Nat) (0:Nat)),.d (.cx .f32 (0:Nat) (0:Nat)),.d (.nils),.d (.nils),.d (.nils)],.box [cxv x19.qa1.Source.A,cxv x19.qa1.Source.B,cxv x19.qa1.Source.C,.row 2 x19.qa1.qa5.length 0 x19.qa1.qa5.length,.row 3 x19.Ties.length 0 x19.Ties.length,.d (.nils)],.row 8 (x19.qa1.qa5.map qae),.row 5 (x19.Ties.map qah)])) (qe3 [8,5,4,4] (l':=[(4,.ptr 0 0),(5,.ptr 1 0),(11,sv qad flows_),(12,iv (flows_.length:Int)),(13,iv (0:Int))]) (objs':=[.box [.d (.cx .f32 (0:Nat) (0:Nat)),.d (.cx .f32 (0:Nat) (0:Nat)),.d (.cx .f32 (0:Nat) (0:Nat)),.row 4 (([]:List SBus).length) 0 (([]:List SBus).length),.row 5 (([]:List STie).length) 0 (([]:List STie).length),.row 6 (([]:List qav).length) 0 (([]:List qav).length)],.box [cxv x19.qa1.Source.A,cxv x19.qa1.Source.B,cxv x19.qa1.Source.C,.row 2 x19.qa1.qa5.length 0 x19.qa1.qa5.length,.row 3 x19.Ties.length 0 x19.Ties.length,.row 7 (([]:List qav).length) 0 (([]:List qav).length)],.row 8 (x19.qa1.qa5.map qae),.row 5 (x19.Ties.map qah)]) (.cons (.c (.refl _)) (.cons (.c (.refl _)) (.cons (.c (.refl _)) (.cons (.c (.refl _)) (.cons (.c (.refl _)) .nil))))) (.cons (.box (.cons (.refl _) (.cons (.refl _) (.cons (.refl _) (.cons (.ghost ⟨Nat.le_of_ble_eq_true rfl,Nat.le_of_ble_eq_true rfl⟩) (.cons (.ghost ⟨Nat.le_of_ble_eq_true rfl,Nat.le_of_ble_eq_true rfl⟩) (.cons (.ghost ⟨Nat.le_of_ble_eq_true rfl,Nat.le_of_ble_eq_true rfl⟩) .nil))))))) (.cons (.box (.cons (.refl _) (.cons (.refl _) (.cons (.refl _) (.cons (.refl _) (.cons (.refl _) (.cons (.ghost ⟨Nat.le_of_ble_eq_true rfl,Nat.le_of_ble_eq_true rfl⟩) .nil))))))) (.cons (.refl _) (.cons (.refl _) .nil)))))) (wk [0,4,5,6,1,2,3,7] (l:=[(4,.ptr 0 0),(5,.ptr 4 0),(11,sv qad flows_),(12,iv (flows_.length:Int)),(13,iv (0:Int))]) (objs:=[.box [.d (.cx .f32 (0:Nat) (0:Nat)),.d (.cx .f32 (0:Nat) (0:Nat)),.d (.cx .f32 (0:Nat) (0:Nat)),.row 1 (([]:List SBus).length) 0 (([]:List SBus).length),.row 2 (([]:List STie).length) 0 (([]:List STie).length),.row 3 (([]:List qav).length) 0 (([]:List qav).length)],.row 8 (([]:List SBus).map qae),.row 5 (([]:List STie).map qah),.row 4 (([]:List qav).map qad),.box [cxv x19.qa1.Source.A,cxv x19.qa1.Source.B,cxv x19.qa1.Source.C,.row 5 x19.qa1.qa5.length 0 x19.qa1.qa5.length,.row 6 x19.Ties.length 0 x19.Ties.length,.row 7 (([]:List qav).length) 0 (([]:List qav).length)],.row 8 (x19.qa1.qa5.map qae),.row 5 (x19.Ties.map qah),.row 4 (([]:List qav).map qad)]))) ?_
  rintro ⟨m59,v46,v47,v48,v49,v50⟩ h
  replace h:qe1 n flows_ x19 m59 v46 v47 v48 v49 v50 = some r:=h
  rcases m59 with _ | m59
  ·rw [qe1] at h;cases h
  rw [qe1] at h
  refine qa6<|qa2<|qa0 hτ rfl rfl rfl<|qa4<|qa6 ?_
  refine qaw rfl (fun hc61=>?_) (fun hc61=>?_)
  ·have h:=if_t h hc61
   refine qb1<|qa6<|qb9<|qa6<|qa2 ?_
   refine qag h fun x62 hx62 h=>?_
   refine qgh hτ rfl rfl rfl (qcw hx62).1 (qe7 hx62) rfl ?_
   refine qa0 hτ rfl rfl rfl<|qaf hτ rfl rfl rfl<|qaf hτ rfl rfl rfl<|qa4<|qd4 ?_
   refine qab hτ [4] 0 rfl rfl rfl rfl rfl ?_
   refine qab hτ [4] 1 rfl rfl rfl rfl rfl ?_
   refine qab hτ [8] 2 rfl rfl rfl rfl rfl ?_
   refine qag h fun x63 hx63 h=>?_
   refine qcy hτ false [] [0,1,2,3,4,5,6,7,8] 3 rfl rfl rfl rfl (qai func59 rfl rfl) rfl rfl (by simp) ⟨(by trivial),trivial⟩ (by trivial) (impl_cloneFlow_ok n x62 hx63) ⟨rfl,rfl,rfl,rfl,rfl,rfl,rfl,rfl,rfl,trivial⟩ ?_
   refine qbj hτ [0,1,2,3,4,5,6,7,8] 4 rfl rfl rfl rfl ⟨rfl,rfl,rfl,rfl,rfl,rfl,rfl,rfl,rfl,trivial⟩ ?_
   refine qcr h fun hg64 h=>?_
   refine qjr hτ [0,1,2,3,4,5,6,8,9] 5 rfl rfl rfl (Eq.trans rfl (or_append (f:=qad) v49 [x63] rfl)) ⟨⟨rfl,Nat.le_of_ble_eq_true rfl⟩,qco _,rfl,rfl,hg64,by decide,(all1 rfl)⟩ ⟨rfl,rfl,rfl,rfl,rfl,rfl,rfl,rfl,rfl,trivial⟩ ?_
   refine qab hτ [4] 6 rfl rfl rfl rfl rfl ?_
   refine qbj hτ [0,1,2,3,5,6,7,8,9] 7 rfl rfl rfl rfl ⟨rfl,rfl,rfl,rfl,rfl,rfl,rfl,rfl,rfl,trivial⟩ ?_
   refine qcs mixed (by kernel_rfl) ?_
   refine qa8 (wk [0,1,2,3,4,5,6,7] (l:=[(4,.ptr 0 0),(5,.ptr 4 0),(11,sv qad flows_),(12,iv (flows_.length:Int)),(13,iv v50)]) (objs:=[.box [.d (.cx .f32 (0:Nat) (0:Nat)),.d (.cx .f32 (0:Nat) (0:Nat)),.d (.cx .f32 (0:Nat) (0:Nat)),.row 1 v46.length 0 v46.length,.row 2 v47.length 0 v47.length,.row 3 v48.length 0 v48.length],.row 8 (v46.map qae),.row 5 (v47.map qah),.row 4 (v48.map qad),.box [cxv x19.qa1.Source.A,cxv x19.qa1.Source.B,cxv x19.qa1.Source.C,.row 5 x19.qa1.qa5.length 0 x19.qa1.qa5.length,.row 6 x19.Ties.length 0 x19.Ties.length,.row 7 ((v49 ++ [x63]).length) 0 ((v49 ++ [x63]).length)],.row 8 (x19.qa1.qa5.map qae),.row 5 (x19.Ties.map qah),.row 4 ((v49 ++ [x63]).map qad)])) ?_
   refine qa2<|qa0 hτ rfl rfl rfl<|qa0 hτ rfl rfl rfl<|qa4 ?_
   exact ⟨(m59,v46,v47,v48,(v49 ++ [x63]),(w64 (v50 + (1:Int)))),h,Nat.lt_succ_self m59,(wk [0,1,2,3,4,5,6,7] (l:=[(4,.ptr 0 0),(5,.ptr 4 0),(11,sv qad flows_),(12,iv (flows_.length:Int)),(13,iv (w64 (v50 + (1:Int))))]) (objs:=[.box [.d (.cx .f32 (0:Nat) (0:Nat)),.d (.cx .f32 (0:Nat) (0:Nat)),.d (.cx .f32 (0:Nat) (0:Nat)),.row 1 v46.length 0 v46.length,.row 2 v47.length 0 v47.length,.row 3 v48.length 0 v48.length],.row 8 (v46.map qae),.row 5 (v47.map qah),.row 4 (v48.map qad),.box [cxv x19.qa1.Source.A,cxv x19.qa1.Source.B,cxv x19.qa1.Source.C,.row 5 x19.qa1.qa5.length 0 x19.qa1.qa5.length,.row 6 x19.Ties.length 0 x19.Ties.length,.row 7 ((v49 ++ [x63]).length) 0 ((v49 ++ [x63]).length)],.row 8 (x19.qa1.qa5.map qae),.row 5 (x19.Ties.map qah),.row 4 ((v49 ++ [x63]).map qad)]))⟩
  ·have h:=if_f h hc61
   refine qe4 ?_
   refine qa8 (wk [0,1,2,3,4,5,6,7] (l:=[(4,.ptr 0 0),(5,.ptr 4 0)]) (objs:=[.box [.d (.cx .f32 (0:Nat) (0:Nat)),.d (.cx .f32 (0:Nat) (0:Nat)),.d (.cx .f32 (0:Nat) (0:Nat)),.row 1 v46.length 0 v46.length,.row 2 v47.length 0 v47.length,.row 3 v48.length 0 v48.length],.row 8 (v46.map qae),.row 5 (v47.map qah),.row 4 (v48.map qad),.box [cxv x19.qa1.Source.A,cxv x19.qa1.Source.B,cxv x19.qa1.Source.C,.row 5 x19.qa1.qa5.length 0 x19.qa1.qa5.length,.row 6 x19.Ties.length 0 x19.Ties.length,.row 7 v49.length 0 v49.length],.row 8 (x19.qa1.qa5.map qae),.row 5 (x19.Ties.map qah),.row 4 (v49.map qad)])) ?_
   exact hk41 (v46,v47,v48,v49) h
def qfq (n:Nat) (r_:qan) (from_:Int) (count_:Int):Option (qan × Bool) :=
 grd (0 ≤ from_∧from_ ≤ (w64 (from_ + count_))∧(w64 (from_ + count_)) ≤ (r_.qa9.length:Int)) <|
 (qkt n r_.Grid (sub r_.qa9 from_ (w64 (from_ + count_)))).bind fun x16 =>
 some ((qan.mk (qbg.mk (qb8.mk x16.Grid.qa1.Source x16.Grid.qa1.qa5) x16.Grid.Ties) x16.qa9),true)
def qde (n:Nat) (r_:qan) (from_:Int) (count_:Int) (v24:Bool):Option (qan × Bool) :=
 if v24 = true then
  some ((qan.mk (qbg.mk (qb8.mk (qaa.mk (Cx.mk (0:Nat) (0:Nat)) (Cx.mk (0:Nat) (0:Nat)) (Cx.mk (0:Nat) (0:Nat))) ([]:List SBus)) ([]:List STie)) ([]:List qav)),false)
 else
  qfq n r_ from_ count_
def qhi (n:Nat) (r_:qan) (from_:Int) (count_:Int):Option (qan × Bool) :=
 (qcg n r_).bind fun x27 =>
 if x27 = true then
  (qdg n from_ (0:Int) (r_.qa9.length:Int)).bind fun x29 =>
  if x29 = true then
   (qdg n count_ (0:Int) (w64 ((r_.qa9.length:Int) - from_))).bind fun x31 =>
   qde n r_ from_ count_ (!x31)
  else
   qde n r_ from_ count_ true
 else
  qde n r_ from_ count_ true
theorem impl_SliceRecord_ok (n:Nat) (r_:qan) (from_:Int) (count_:Int) {r:qan × Bool} (h:qhi n r_ from_ count_ = some r):qax prog false 15 [.agg [cxv r_.Grid.qa1.Source.A,cxv r_.Grid.qa1.Source.B,cxv r_.Grid.qa1.Source.C,sv qae r_.Grid.qa1.qa5,sv qah r_.Grid.Ties,sv qad r_.qa9],iv from_,iv count_] [] (fun v o new=>v = .tup [.agg [cxv r.1.Grid.qa1.Source.A,cxv r.1.Grid.qa1.Source.B,cxv r.1.Grid.qa1.Source.C,.row 0 r.1.Grid.qa1.qa5.length 0 r.1.Grid.qa1.qa5.length,.row 1 r.1.Grid.Ties.length 0 r.1.Grid.Ties.length,.row 2 r.1.qa9.length 0 r.1.qa9.length],bv r.2]∧o = []∧new = [.row 8 (r.1.Grid.qa1.qa5.map qae),.row 5 (r.1.Grid.Ties.map qah),.row 4 (r.1.qa9.map qad)]):=by
 refine qaj hτ func15 rfl (by simp) (by simp) ?_
 unfold qhi at h
 refine qa6<|qa2<|qaf hτ rfl rfl rfl<|qaf hτ rfl rfl rfl<|qa0 hτ rfl rfl rfl<|qa4<|qa6<|qa2 ?_
 refine qa0 hτ rfl rfl rfl<|qa0 hτ rfl rfl rfl ?_
 refine qa0 hτ (v:=iv (r_.qa9.length:Int)) rfl rfl (Eq.trans rfl (qf1 (f:=qad) r_.qa9)) ?_
 refine qa0 hτ rfl rfl rfl<|qa4 ?_
 refine qbn (ι:=Unit) (fun _=>St.of [(1,iv from_),(2,iv count_),(3,.ptr 0 0),(6,.ptr 1 0)] [.box [cxv r_.Grid.qa1.Source.A,cxv r_.Grid.qa1.Source.B,cxv r_.Grid.qa1.Source.C,sv qae r_.Grid.qa1.qa5,sv qah r_.Grid.Ties,sv qad r_.qa9],.box [.d (.cx .f32 (0:Nat) (0:Nat)),.d (.cx .f32 (0:Nat) (0:Nat)),.d (.cx .f32 (0:Nat) (0:Nat)),.d (.nils),.d (.nils),.d (.nils)]] f15.ntmps 0) (fun _=>qfq n r_ from_ count_ = some r) ?_ (fun hk17=>?_)
 ·rintro ⟨⟩ h
  replace h:qfq n r_ from_ count_ = some r:=h
  unfold qfq at h
  refine qa6<|qd4 ?_
  refine qab hτ [0] 0 rfl rfl rfl rfl rfl ?_
  refine qab hτ [0] 1 rfl rfl rfl rfl rfl ?_
  refine qab hτ [0] 2 rfl rfl rfl rfl rfl ?_
  refine qab hτ [0] 3 rfl rfl rfl rfl rfl ?_
  refine qab hτ [] 4 rfl rfl rfl rfl rfl ?_
  refine qab hτ [] 5 rfl rfl rfl rfl rfl ?_
  refine qab hτ [] 6 rfl rfl rfl rfl rfl ?_
  refine qab hτ [] 7 rfl rfl rfl rfl rfl ?_
  refine qcr h fun hg15 h=>?_
  refine qfj hτ (v:=.d (.sl false ((sub r_.qa9 from_ (w64 (from_ + count_))).map qad))) [] 8 rfl rfl rfl rfl (Eq.trans rfl (or_dsub (f:=qad) r_.qa9 from_ (w64 (from_ + count_)))) (dsub_need (f:=qad) (fun _=>rfl) hg15) ?_
  refine qag h fun x16 hx16 h=>?_
  refine qcy hτ false [] [0,1] 9 rfl rfl rfl rfl (qai func34 rfl rfl) rfl rfl (by simp) ⟨(by trivial),trivial,trivial⟩ (by trivial) (impl_recordOf_ok n r_.Grid (sub r_.qa9 from_ (w64 (from_ + count_))) hx16) ⟨rfl,rfl,trivial⟩ ?_
  refine qbj hτ [0,2,3,4] 10 rfl rfl rfl rfl ⟨rfl,rfl,rfl,rfl,trivial⟩ ?_
  refine qab hτ [] 11 rfl rfl rfl rfl rfl ?_
  refine qcs mixed (by kernel_rfl) ?_
  refine qa8 (wk [1,2,3,4] (l:=[(6,.ptr 0 0),(7,bv true)]) (objs:=[.box [cxv x16.Grid.qa1.Source.A,cxv x16.Grid.qa1.Source.B,cxv x16.Grid.qa1.Source.C,.row 1 x16.Grid.qa1.qa5.length 0 x16.Grid.qa1.qa5.length,.row 2 x16.Grid.Ties.length 0 x16.Grid.Ties.length,.row 3 x16.qa9.length 0 x16.qa9.length],.row 8 (x16.Grid.qa1.qa5.map qae),.row 5 (x16.Grid.Ties.map qah),.row 4 (x16.qa9.map qad)])) ?_
  refine qaq ?_
  have hr:=Option.some.inj h
  subst hr
  exact qb0 (.inr rfl) [1,2,3] (objs':=[]) (new:=[.row 8 (x16.Grid.qa1.qa5.map qae),.row 5 (x16.Grid.Ties.map qah),.row 4 (x16.qa9.map qad)]) rfl (by simp) (by simp) rfl (by trivial) rfl rfl (by trivial) (fun h=>nomatch h) ⟨rfl,rfl,rfl⟩
 ·refine qa6 ?_
  refine qbn (ι:=Bool) (fun v24=>St.of [(1,iv from_),(2,iv count_),(3,.ptr 0 0),(6,.ptr 1 0),(28,bv v24)] [.box [cxv r_.Grid.qa1.Source.A,cxv r_.Grid.qa1.Source.B,cxv r_.Grid.qa1.Source.C,sv qae r_.Grid.qa1.qa5,sv qah r_.Grid.Ties,sv qad r_.qa9],.box [.d (.cx .f32 (0:Nat) (0:Nat)),.d (.cx .f32 (0:Nat) (0:Nat)),.d (.cx .f32 (0:Nat) (0:Nat)),.d (.nils),.d (.nils),.d (.nils)]] f15.ntmps 0) (fun v24=>qde n r_ from_ count_ v24 = some r) ?_ (fun hk26=>?_)
  ·rintro v24 h
   replace h:qde n r_ from_ count_ v24 = some r:=h
   unfold qde at h
   refine qaw rfl (fun hc25=>?_) (fun hc25=>?_)
   ·have h:=qcv h hc25
    refine qa6<|qa2<|qa0 hτ rfl rfl rfl<|qaf hτ rfl rfl rfl<|qa0 hτ rfl rfl rfl<|qa4 ?_
    refine qa8 (wk [1] (l:=[(6,.ptr 0 0),(7,bv false)]) (objs:=[.box [.d (.cx .f32 (0:Nat) (0:Nat)),.d (.cx .f32 (0:Nat) (0:Nat)),.d (.cx .f32 (0:Nat) (0:Nat)),.d (.nils),.d (.nils),.d (.nils)]])) ?_
    refine qa8 (qe3 [8,5,4] (l':=[(6,.ptr 0 0),(7,bv false)]) (objs':=[.box [.d (.cx .f32 (0:Nat) (0:Nat)),.d (.cx .f32 (0:Nat) (0:Nat)),.d (.cx .f32 (0:Nat) (0:Nat)),.row 1 (([]:List SBus).length) 0 (([]:List SBus).length),.row 2 (([]:List STie).length) 0 (([]:List STie).length),.row 3 (([]:List qav).length) 0 (([]:List qav).length)]]) (.cons (.c (.refl _)) (.cons (.c (.refl _)) .nil)) (.cons (.box (.cons (.refl _) (.cons (.refl _) (.cons (.refl _) (.cons (.ghost ⟨Nat.le_of_ble_eq_true rfl,Nat.le_of_ble_eq_true rfl⟩) (.cons (.ghost ⟨Nat.le_of_ble_eq_true rfl,Nat.le_of_ble_eq_true rfl⟩) (.cons (.ghost ⟨Nat.le_of_ble_eq_true rfl,Nat.le_of_ble_eq_true rfl⟩) .nil))))))) .nil)) ?_
    refine qaq ?_
    have hr:=Option.some.inj h
    subst hr
    exact qb0 (.inr rfl) [1,2,3] (objs':=[]) (new:=[.row 8 (([]:List SBus).map qae),.row 5 (([]:List STie).map qah),.row 4 (([]:List qav).map qad)]) rfl (by simp) (by simp) rfl (by trivial) rfl rfl (by trivial) (fun h=>nomatch h) ⟨rfl,rfl,rfl⟩
   ·have h:=qcu h hc25
    refine qb1 ?_
    refine qa8 (wk [0,1] (l:=[(1,iv from_),(2,iv count_),(3,.ptr 0 0),(6,.ptr 1 0)]) (objs:=[.box [cxv r_.Grid.qa1.Source.A,cxv r_.Grid.qa1.Source.B,cxv r_.Grid.qa1.Source.C,sv qae r_.Grid.qa1.qa5,sv qah r_.Grid.Ties,sv qad r_.qa9],.box [.d (.cx .f32 (0:Nat) (0:Nat)),.d (.cx .f32 (0:Nat) (0:Nat)),.d (.cx .f32 (0:Nat) (0:Nat)),.d (.nils),.d (.nils),.d (.nils)]])) ?_
    exact hk17 () h
  ·refine qa6 ?_
   refine qa8 (wk [0,1] (l:=[(1,iv from_),(2,iv count_),(3,.ptr 0 0),(6,.ptr 1 0),(8,iv (r_.qa9.length:Int))]) (objs:=[.box [cxv r_.Grid.qa1.Source.A,cxv r_.Grid.qa1.Source.B,cxv r_.Grid.qa1.Source.C,sv qae r_.Grid.qa1.qa5,sv qah r_.Grid.Ties,sv qad r_.qa9],.box [.d (.cx .f32 (0:Nat) (0:Nat)),.d (.cx .f32 (0:Nat) (0:Nat)),.d (.cx .f32 (0:Nat) (0:Nat)),.d (.nils),.d (.nils),.d (.nils)]])) ?_
   refine qa2<|qa0 hτ rfl rfl rfl ?_
   refine qag h fun x27 hx27 h=>?_
   refine qac hτ false [] rfl rfl rfl (qai func10 rfl rfl) rfl rfl (by simp) ⟨(by trivial),trivial⟩ (by trivial) (qis n r_ hx27) ?_
   rintro r0 o0 n0 ⟨rfl,rfl,rfl⟩ -
   refine qa0 hτ rfl rfl rfl<|qa0 hτ rfl rfl rfl ?_
   refine qay 15 rfl (fun hb28=>?_) (fun hb28=>?_)
   ·have hb28:=qi4 hb28
    have h:=qcu h hb28
    refine qa3 rfl rfl<|qa3 rfl rfl<|qa3 rfl rfl<|qa3 rfl rfl<|qa0 hτ rfl rfl rfl<|qa0 hτ rfl rfl rfl<|qa3 rfl rfl<|qa3 rfl rfl ?_
    refine qar (wk [0,1] (l:=[(1,iv from_),(2,iv count_),(3,.ptr 0 0),(6,.ptr 1 0),(21,bv true),(22,.und),(23,.und)]) (objs:=[.box [cxv r_.Grid.qa1.Source.A,cxv r_.Grid.qa1.Source.B,cxv r_.Grid.qa1.Source.C,sv qae r_.Grid.qa1.qa5,sv qah r_.Grid.Ties,sv qad r_.qa9],.box [.d (.cx .f32 (0:Nat) (0:Nat)),.d (.cx .f32 (0:Nat) (0:Nat)),.d (.cx .f32 (0:Nat) (0:Nat)),.d (.nils),.d (.nils),.d (.nils)]])) ?_
    refine qa3 rfl rfl<|qa3 rfl rfl<|qa3 rfl rfl<|qa3 rfl rfl<|qa0 hτ rfl rfl rfl<|qa4 ?_
    refine qa8 (wk [0,1] (l:=[(1,iv from_),(2,iv count_),(3,.ptr 0 0),(6,.ptr 1 0),(28,bv true)]) (objs:=[.box [cxv r_.Grid.qa1.Source.A,cxv r_.Grid.qa1.Source.B,cxv r_.Grid.qa1.Source.C,sv qae r_.Grid.qa1.qa5,sv qah r_.Grid.Ties,sv qad r_.qa9],.box [.d (.cx .f32 (0:Nat) (0:Nat)),.d (.cx .f32 (0:Nat) (0:Nat)),.d (.cx .f32 (0:Nat) (0:Nat)),.d (.nils),.d (.nils),.d (.nils)]])) ?_
    exact hk26 true h
   ·have hb28:=qi3 hb28
    have h:=qcv h hb28
    refine qa0 hτ rfl rfl rfl<|qa0 hτ rfl rfl rfl ?_
    refine qag h fun x29 hx29 h=>?_
    refine qac hτ false [] rfl rfl rfl (qai func33 rfl rfl) rfl rfl (by simp) ⟨trivial,trivial,trivial,trivial⟩ (by trivial) (qfa n from_ (0:Int) (r_.qa9.length:Int) hx29) ?_
    rintro r0 o0 n0 ⟨rfl,rfl,rfl⟩ -
    refine qa0 hτ rfl rfl rfl<|qa0 hτ rfl rfl rfl<|qa0 hτ rfl rfl rfl ?_
    refine qay 21 rfl (fun hb30=>?_) (fun hb30=>?_)
    ·have hb30:=qi4 hb30
     have h:=qcu h hb30
     refine qa3 rfl rfl<|qa3 rfl rfl ?_
     refine qar (wk [0,1] (l:=[(1,iv from_),(2,iv count_),(3,.ptr 0 0),(6,.ptr 1 0),(21,bv true),(22,.und),(23,.und)]) (objs:=[.box [cxv r_.Grid.qa1.Source.A,cxv r_.Grid.qa1.Source.B,cxv r_.Grid.qa1.Source.C,sv qae r_.Grid.qa1.qa5,sv qah r_.Grid.Ties,sv qad r_.qa9],.box [.d (.cx .f32 (0:Nat) (0:Nat)),.d (.cx .f32 (0:Nat) (0:Nat)),.d (.cx .f32 (0:Nat) (0:Nat)),.d (.nils),.d (.nils),.d (.nils)]])) ?_
     refine qa3 rfl rfl<|qa3 rfl rfl<|qa3 rfl rfl<|qa3 rfl rfl<|qa0 hτ rfl rfl rfl<|qa4 ?_
     refine qa8 (wk [0,1] (l:=[(1,iv from_),(2,iv count_),(3,.ptr 0 0),(6,.ptr 1 0),(28,bv true)]) (objs:=[.box [cxv r_.Grid.qa1.Source.A,cxv r_.Grid.qa1.Source.B,cxv r_.Grid.qa1.Source.C,sv qae r_.Grid.qa1.qa5,sv qah r_.Grid.Ties,sv qad r_.qa9],.box [.d (.cx .f32 (0:Nat) (0:Nat)),.d (.cx .f32 (0:Nat) (0:Nat)),.d (.cx .f32 (0:Nat) (0:Nat)),.d (.nils),.d (.nils),.d (.nils)]])) ?_
     exact hk26 true h
    ·have hb30:=qi3 hb30
     have h:=qcv h hb30
     refine qa0 hτ rfl rfl rfl<|qa0 hτ rfl rfl rfl ?_
     refine qar (wk [0,1] (l:=[(1,iv from_),(2,iv count_),(3,.ptr 0 0),(6,.ptr 1 0),(21,bv false),(22,iv count_),(23,iv (r_.qa9.length:Int))]) (objs:=[.box [cxv r_.Grid.qa1.Source.A,cxv r_.Grid.qa1.Source.B,cxv r_.Grid.qa1.Source.C,sv qae r_.Grid.qa1.qa5,sv qah r_.Grid.Ties,sv qad r_.qa9],.box [.d (.cx .f32 (0:Nat) (0:Nat)),.d (.cx .f32 (0:Nat) (0:Nat)),.d (.cx .f32 (0:Nat) (0:Nat)),.d (.nils),.d (.nils),.d (.nils)]])) ?_
     refine qa0 hτ rfl rfl rfl<|qa0 hτ rfl rfl rfl ?_
     refine qag h fun x31 hx31 h=>?_
     refine qac hτ false [] rfl rfl rfl (qai func33 rfl rfl) rfl rfl (by simp) ⟨trivial,trivial,trivial,trivial⟩ (by trivial) (qfa n count_ (0:Int) (w64 ((r_.qa9.length:Int) - from_)) hx31) ?_
     rintro r0 o0 n0 ⟨rfl,rfl,rfl⟩ -
     refine qa0 hτ rfl rfl rfl<|qa0 hτ rfl rfl rfl<|qa4 ?_
     refine qa8 (wk [0,1] (l:=[(1,iv from_),(2,iv count_),(3,.ptr 0 0),(6,.ptr 1 0),(28,bv (!x31))]) (objs:=[.box [cxv r_.Grid.qa1.Source.A,cxv r_.Grid.qa1.Source.B,cxv r_.Grid.qa1.Source.C,sv qae r_.Grid.qa1.qa5,sv qah r_.Grid.Ties,sv qad r_.qa9],.box [.d (.cx .f32 (0:Nat) (0:Nat)),.d (.cx .f32 (0:Nat) (0:Nat)),.d (.cx .f32 (0:Nat) (0:Nat)),.d (.nils),.d (.nils),.d (.nils)]])) ?_
     exact hk26 (!x31) h
end Go.Proofs.YtiegopnofbgoaaaGreat.AWN
