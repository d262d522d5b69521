/- Models and contracts, printed by program. -/
import Derived.Test.YtdnkjocenbepaaaFnBanksD
set_option linter.unusedVariables false
set_option linter.unusedSimpArgs false
set_option linter.unusedSectionVars false
set_option maxHeartbeats 2000000
namespace Go.Proofs.Ytdnkjocenbepaaa.AWN
open Go Go.Proofs.Try
def qeo (n:Nat) (k135:Int→Option Bool) (v126:Int):Option Bool :=
  k135 (w64 (v126 + (1:Int)))
def qcw (n:Nat) (k135:Int→Option Bool) (v126:Int) (v150:Bool):Option Bool :=
  if v150 = true then
    some false
  else
    qeo n k135 v126
def qav (n:Nat) (x74:Int × Bool) (v119:List Nat):Nat→Int→Option Bool
  | 0,_=>none
  | m134 + 1,v126 =>
    if v126 < (v119.length:Int) then
      (getI v119 v126).bind fun x153 =>
      (getI v119 x74.1).bind fun x154 =>
      if (fcmp .gtr .f32 x153 x154) = true then
        qcw n (qav n x74 v119 m134) v126 true
      else
        if v126 < x74.1 then
          qcw n (qav n x74 v119 m134) v126 (fcmp .eql .f32 x153 x154)
        else
          qcw n (qav n x74 v119 m134) v126 false
    else
      some true
def qdt (n:Nat) (x74:Int × Bool) (v119:List Nat):Option Bool :=
  qav n x74 v119 n (0:Int)
def qep (n:Nat) (k200:List SBus→List Nat→Int→Option Bool) (v176:List SBus) (v178:Int) (v219:List Nat):Option Bool :=
  k200 v176 v219 (w64 (v178 + (1:Int)))
def qe7 (n:Nat) (k200:List SBus→List Nat→Int→Option Bool) (v176:List SBus) (v177:List Nat) (v178:Int) (x235:Int × Nat × Bool):Option Bool :=
  grd (room (v177.length + 1) 4) <|
  qep n k200 v176 v178 (v177 ++ [x235.2.1])
def qcl (n:Nat) (k200:List SBus→List Nat→Int→Option Bool) (v176:List SBus) (v177:List Nat) (v178:Int) (x235:Int × Nat × Bool) (v244:Bool):Option Bool :=
  if v244 = true then
    some false
  else
    qe7 n k200 v176 v177 v178 x235
def qeq (n:Nat) (k200:List SBus→List Nat→Int→Option Bool) (v176:List SBus) (v177:List Nat) (v178:Int) (v225:qak):Option Bool :=
  (qct n v225).bind fun x233 =>
  (qf3 n v225 x233.1 (3:Int)).bind fun x234 =>
  (qe4 n v225 (qg1.mk x234.1.qat x234.1.qbj x234.1.Rounds x234.1.qgf)).bind fun x235 =>
  if x233.2 = true then
    if x234.2 = true then
      qcl n k200 v176 v177 v178 x235 (!x235.2.2)
    else
      qcl n k200 v176 v177 v178 x235 true
  else
    qcl n k200 v176 v177 v178 x235 true
def qc9 (n:Nat) (k200:List SBus→List Nat→Int→Option Bool) (v176:List SBus) (v177:List Nat) (v178:Int) (v225:qak) (v256:Bool):Option Bool :=
  if v256 = true then
    some false
  else
    qeq n k200 v176 v177 v178 v225
def qcx (n:Nat) (x70:Int) (k200:List SBus→List Nat→Int→Option Bool) (v176:List SBus) (v177:List Nat) (v178:Int) (v225:qak) (v226:Bool):Option Bool :=
  if v226 = true then
    (qbh n v225).bind fun x260 =>
    if x260 = true then
      if (v225.qa8.length:Int) = (w64 ((v176.length:Int) + (1:Int))) then
        (getI v225.qa8 (v176.length:Int)).bind fun x263 =>
        qc9 n k200 v176 v177 v178 v225 (!(decide (x263.qaw = x70)))
      else
        qc9 n k200 v176 v177 v178 v225 true
    else
      qc9 n k200 v176 v177 v178 v225 true
  else
    qc9 n k200 v176 v177 v178 v225 true
def qan (n:Nat) (x69:qak) (x70:Int) (x71:Int) (x72:Int) (x73:Int) (x74:Int × Bool):Nat→List SBus→List Nat→Int→Option Bool
  | 0,_,_,_=>none
  | m199 + 1,v176,v177,v178 =>
    if v178 < ([(qa1 .quo .f32 (FloatKind.nearest .f32 (w64 ((1:Int) + x71))) (1115684864:Nat)),(qa1 .quo .f32 (FloatKind.nearest .f32 (w64 ((1:Int) + x72))) (1107296256:Nat)),(qa1 .quo .f32 (FloatKind.nearest .f32 (w64 ((1:Int) + x73))) (1098907648:Nat))].length:Int) then
      (getI [(qa1 .quo .f32 (FloatKind.nearest .f32 (w64 ((1:Int) + x71))) (1115684864:Nat)),(qa1 .quo .f32 (FloatKind.nearest .f32 (w64 ((1:Int) + x72))) (1107296256:Nat)),(qa1 .quo .f32 (FloatKind.nearest .f32 (w64 ((1:Int) + x73))) (1098907648:Nat))] v178).bind fun x265 =>
      (qdp n (qak.mk x69.Source v176) x70 x265).bind fun x266 =>
      qcx n x70 (qan n x69 x70 x71 x72 x73 x74 m199) v176 v177 v178 x266.1 x266.2
    else
      qdt n x74 v177
def qen (n:Nat) (x69:qak) (x70:Int) (x71:Int) (x72:Int) (x73:Int) (x74:Int × Bool):Option Bool :=
  qan n x69 x70 x71 x72 x73 x74 n x69.qa8 ([]:List Nat) (0:Int)
def qcm (n:Nat) (x69:qak) (x70:Int) (x71:Int) (x72:Int) (x73:Int) (x74:Int × Bool) (v271:Bool):Option Bool :=
  if v271 = true then
    some false
  else
    qen n x69 x70 x71 x72 x73 x74
def qfu (n:Nat) (code_:List Int) (more_:List Int):Option Bool :=
  (qf6 n code_ more_).bind fun x67 =>
  if x67 = true then
    some true
  else
    (qf7 n code_).bind fun x69 =>
    (qe8 n more_ (0:Int) (x69.qa8.length:Int)).bind fun x70 =>
    (qe8 n more_ (1:Int) (9:Int)).bind fun x71 =>
    (qe8 n more_ (2:Int) (9:Int)).bind fun x72 =>
    (qe8 n more_ (3:Int) (9:Int)).bind fun x73 =>
    (qek n (qak.mk x69.Source x69.qa8) x70 [(qa1 .quo .f32 (FloatKind.nearest .f32 (w64 ((1:Int) + x71))) (1115684864:Nat)),(qa1 .quo .f32 (FloatKind.nearest .f32 (w64 ((1:Int) + x72))) (1107296256:Nat)),(qa1 .quo .f32 (FloatKind.nearest .f32 (w64 ((1:Int) + x73))) (1098907648:Nat))] (3:Int)).bind fun x74 =>
    if x74.2 = true then
      if x74.1 < (0:Int) then
        qcm n x69 x70 x71 x72 x73 x74 true
      else
        qcm n x69 x70 x71 x72 x73 x74 (decide (x74.1 ≥ ([(qa1 .quo .f32 (FloatKind.nearest .f32 (w64 ((1:Int) + x71))) (1115684864:Nat)),(qa1 .quo .f32 (FloatKind.nearest .f32 (w64 ((1:Int) + x72))) (1107296256:Nat)),(qa1 .quo .f32 (FloatKind.nearest .f32 (w64 ((1:Int) + x73))) (1098907648:Nat))].length:Int)))
    else
      qcm n x69 x70 x71 x72 x73 x74 true
theorem laws_FnBanks_ok_fr0 (fr:Bool) (n:Nat) (code_:List Int) (more_:List Int) {r:Bool} (h:qfu n code_ more_ = some r):qay prog fr 3 [.d (.sl false (code_.map qbb)),.d (.sl false (more_.map qbb))] [] (fun v o new=>v = .d (.bool r)∧o = []∧new = []):=by
  refine qai hτ func3 rfl (by simp) (by simp) ?_
  unfold qfu at h
  refine qa7 ?_
  refine qa2 ?_
  refine qa0 hτ rfl rfl rfl ?_
  refine qa4 ?_
  refine qa7 ?_
  refine qa7 ?_
  refine qa2 ?_
  refine qa0 hτ rfl rfl rfl ?_
  refine qa0 hτ rfl rfl rfl ?_
  refine qab h fun x67 hx67 h=>?_
  refine qad hτ false [] rfl rfl rfl (qaf func8 rfl rfl) rfl rfl (by simp) ⟨trivial,trivial,trivial⟩ (by trivial) (laws_b10Long_ok n code_ more_ hx67) ?_
  rintro r0 o0 n0 ⟨rfl,rfl,rfl⟩ -
  refine qa4 ?_
  refine qaz rfl (fun hc68=>?_) (fun hc68=>?_)
  · have h:=qdl h hc68
    refine qa7 ?_
    refine qa2 ?_
    refine qa0 hτ rfl rfl rfl ?_
    refine qa4 ?_
    refine qa9 (qa3 [] (l:=[(4,.d (.bool true))]) (objs:=[]) rfl (by simp) rfl (by trivial) ⟨rfl,trivial,trivial⟩) ?_
    refine qar ?_
    have hr:=Option.some.inj h
    subst hr
    exact qah (.inr rfl) [] (objs':=[]) (new:=[]) rfl (by simp) (by simp) rfl (by trivial) rfl rfl (by trivial) (fun _=>⟨by simp [V.flat,V.qbd,V.qb6,D.flat],qal⟩) ⟨rfl,rfl,rfl⟩
  · have h:=qdk h hc68
    refine qb4 ?_
    refine qa7 ?_
    refine qa2 ?_
    refine qa0 hτ rfl rfl rfl ?_
    refine qab h fun x69 hx69 h=>?_
    refine qad hτ false [] rfl rfl rfl (qaf func9 rfl rfl) rfl rfl (by simp) ⟨trivial,trivial⟩ (by trivial) (spec_B10Mild_ok n code_ hx69) ?_
    rintro r0 o0 n0 ⟨rfl,rfl,rfl⟩ -
    refine qaj hτ rfl rfl rfl ?_
    refine qaj hτ rfl rfl rfl ?_
    refine qa4 ?_
    refine qa7 ?_
    refine qa9 (qa3 [1,0] (l:=[(1,.d (.sl false (more_.map qbb))),(5,.ptr 0 0)]) (objs:=[.box [.d (.cx .f32 x69.Source.A.re x69.Source.A.im),.d (.cx .f32 x69.Source.B.re x69.Source.B.im),.d (.cx .f32 x69.Source.C.re x69.Source.C.im),.row 1 x69.qa8.length 0 x69.qa8.length],.row 8 (x69.qa8.map qae)]) rfl (by simp) rfl (by trivial) ⟨rfl,trivial,rfl,trivial,trivial⟩) ?_
    refine qa2 ?_
    refine qa0 hτ rfl rfl rfl ?_
    refine qa0 hτ rfl rfl rfl ?_
    refine qa0 hτ rfl rfl rfl ?_
    refine qda hτ rfl rfl rfl (qbu _) ?_
    refine qab h fun x70 hx70 h=>?_
    refine qad hτ false [] rfl rfl rfl (qaf func10 rfl rfl) rfl rfl (by simp) ⟨trivial,trivial,trivial,trivial⟩ (by trivial) (qhm n more_ (0:Int) (x69.qa8.length:Int) hx70) ?_
    rintro r0 o0 n0 ⟨rfl,rfl,rfl⟩ -
    refine qa0 hτ rfl rfl rfl ?_
    refine qa4 ?_
    refine qa7 ?_
    refine qa9 (qa3 [0,1] (l:=[(1,.d (.sl false (more_.map qbb))),(5,.ptr 0 0),(6,.d (.int .i64 x70))]) (objs:=[.box [.d (.cx .f32 x69.Source.A.re x69.Source.A.im),.d (.cx .f32 x69.Source.B.re x69.Source.B.im),.d (.cx .f32 x69.Source.C.re x69.Source.C.im),.row 1 x69.qa8.length 0 x69.qa8.length],.row 8 (x69.qa8.map qae)]) rfl (by simp) rfl (by trivial) ⟨rfl,trivial,rfl,trivial,rfl,trivial,trivial⟩) ?_
    refine qa2 ?_
    refine qa0 hτ rfl rfl rfl ?_
    refine qab h fun x71 hx71 h=>?_
    refine qad hτ false [] rfl rfl rfl (qaf func10 rfl rfl) rfl rfl (by simp) ⟨trivial,trivial,trivial,trivial⟩ (by trivial) (qhm n more_ (1:Int) (9:Int) hx71) ?_
    rintro r0 o0 n0 ⟨rfl,rfl,rfl⟩ -
    refine qa0 hτ rfl rfl rfl ?_
    refine qa0 hτ rfl rfl rfl ?_
    refine qa0 hτ rfl rfl rfl ?_
    refine qa0 hτ rfl rfl rfl ?_
    refine qab h fun x72 hx72 h=>?_
    refine qad hτ false [] rfl rfl rfl (qaf func10 rfl rfl) rfl rfl (by simp) ⟨trivial,trivial,trivial,trivial⟩ (by trivial) (qhm n more_ (2:Int) (9:Int) hx72) ?_
    rintro r0 o0 n0 ⟨rfl,rfl,rfl⟩ -
    refine qa0 hτ rfl rfl rfl ?_
    refine qa0 hτ rfl rfl rfl ?_
    refine qa0 hτ rfl rfl rfl ?_
    refine qa0 hτ rfl rfl rfl ?_
    refine qab h fun x73 hx73 h=>?_
    refine qad hτ false [] rfl rfl rfl (qaf func10 rfl rfl) rfl rfl (by simp) ⟨trivial,trivial,trivial,trivial⟩ (by trivial) (qhm n more_ (3:Int) (9:Int) hx73) ?_
    rintro r0 o0 n0 ⟨rfl,rfl,rfl⟩ -
    refine qb2 (qa3 [0,1] (l:=[(5,.ptr 0 0),(6,.d (.int .i64 x70)),(36,.d (.fl .f32 (qa1 .quo .f32 (FloatKind.nearest .f32 (w64 ((1:Int) + x71))) (1115684864:Nat)))),(41,.d (.fl .f32 (qa1 .quo .f32 (FloatKind.nearest .f32 (w64 ((1:Int) + x72))) (1107296256:Nat)))),(43,.d (.int .i64 x73))]) (objs:=[.box [.d (.cx .f32 x69.Source.A.re x69.Source.A.im),.d (.cx .f32 x69.Source.B.re x69.Source.B.im),.d (.cx .f32 x69.Source.C.re x69.Source.C.im),.row 1 x69.qa8.length 0 x69.qa8.length],.row 8 (x69.qa8.map qae)]) rfl (by simp) rfl (by trivial) ⟨rfl,trivial,rfl,trivial,rfl,trivial,rfl,trivial,rfl,trivial,trivial⟩) ?_
    refine qa0 hτ rfl rfl rfl ?_
    refine qa0 hτ rfl rfl rfl ?_
    refine qa0 hτ rfl rfl rfl ?_
    refine qpr hτ 1 3 (([(qa1 .quo .f32 (FloatKind.nearest .f32 (w64 ((1:Int) + x71))) (1115684864:Nat)),(qa1 .quo .f32 (FloatKind.nearest .f32 (w64 ((1:Int) + x72))) (1107296256:Nat)),(qa1 .quo .f32 (FloatKind.nearest .f32 (w64 ((1:Int) + x73))) (1098907648:Nat))]:List Nat).map qag) rfl rfl (by kernel_rfl) ?_
    refine qa0 hτ rfl rfl rfl ?_
    refine qa4 ?_
    refine qa7 ?_
    refine qa2 ?_
    refine qa0 hτ rfl rfl rfl ?_
    refine qa0 hτ rfl rfl rfl ?_
    refine qa0 hτ rfl rfl rfl ?_
    refine qb2 (qa3 [0,1,2] (l:=[(5,.ptr 0 0),(6,.d (.int .i64 x70)),(7,.row 2 ([(qa1 .quo .f32 (FloatKind.nearest .f32 (w64 ((1:Int) + x71))) (1115684864:Nat)),(qa1 .quo .f32 (FloatKind.nearest .f32 (w64 ((1:Int) + x72))) (1107296256:Nat)),(qa1 .quo .f32 (FloatKind.nearest .f32 (w64 ((1:Int) + x73))) (1098907648:Nat))].length) 0 ([(qa1 .quo .f32 (FloatKind.nearest .f32 (w64 ((1:Int) + x71))) (1115684864:Nat)),(qa1 .quo .f32 (FloatKind.nearest .f32 (w64 ((1:Int) + x72))) (1107296256:Nat)),(qa1 .quo .f32 (FloatKind.nearest .f32 (w64 ((1:Int) + x73))) (1098907648:Nat))].length)),(49,.agg [.d (.cx .f32 x69.Source.A.re x69.Source.A.im),.d (.cx .f32 x69.Source.B.re x69.Source.B.im),.d (.cx .f32 x69.Source.C.re x69.Source.C.im),.row 1 x69.qa8.length 0 x69.qa8.length]),(50,.d (.int .i64 x70)),(51,.row 2 ([(qa1 .quo .f32 (FloatKind.nearest .f32 (w64 ((1:Int) + x71))) (1115684864:Nat)),(qa1 .quo .f32 (FloatKind.nearest .f32 (w64 ((1:Int) + x72))) (1107296256:Nat)),(qa1 .quo .f32 (FloatKind.nearest .f32 (w64 ((1:Int) + x73))) (1098907648:Nat))].length) 0 ([(qa1 .quo .f32 (FloatKind.nearest .f32 (w64 ((1:Int) + x71))) (1115684864:Nat)),(qa1 .quo .f32 (FloatKind.nearest .f32 (w64 ((1:Int) + x72))) (1107296256:Nat)),(qa1 .quo .f32 (FloatKind.nearest .f32 (w64 ((1:Int) + x73))) (1098907648:Nat))].length))]) (objs:=[.box [.d (.cx .f32 x69.Source.A.re x69.Source.A.im),.d (.cx .f32 x69.Source.B.re x69.Source.B.im),.d (.cx .f32 x69.Source.C.re x69.Source.C.im),.row 1 x69.qa8.length 0 x69.qa8.length],.row 8 (x69.qa8.map qae),.row 1 ([(qa1 .quo .f32 (FloatKind.nearest .f32 (w64 ((1:Int) + x71))) (1115684864:Nat)),(qa1 .quo .f32 (FloatKind.nearest .f32 (w64 ((1:Int) + x72))) (1107296256:Nat)),(qa1 .quo .f32 (FloatKind.nearest .f32 (w64 ((1:Int) + x73))) (1098907648:Nat))].map qag)]) rfl (by simp) rfl (by trivial) ⟨rfl,trivial,rfl,trivial,rfl,trivial,rfl,(by trivial),rfl,trivial,rfl,trivial,trivial⟩) ?_
    refine qab h fun x74 hx74 h=>?_
    refine qad hτ true [] rfl rfl rfl (qaf func11 rfl rfl) (qax (qpa (qax rfl (qax rfl (qax rfl (qax (qit (f:=qae) (j:=1) (sz:=8) x69.qa8 rfl rfl rfl) qfp))))) (qax rfl (qax (qhl (f:=qag) (j:=2) (sz:=1) [(qa1 .quo .f32 (FloatKind.nearest .f32 (w64 ((1:Int) + x71))) (1115684864:Nat)),(qa1 .quo .f32 (FloatKind.nearest .f32 (w64 ((1:Int) + x72))) (1107296256:Nat)),(qa1 .quo .f32 (FloatKind.nearest .f32 (w64 ((1:Int) + x73))) (1098907648:Nat))] rfl rfl rfl) (qax rfl qfp)))) rfl (by simp) ⟨⟨trivial,trivial,trivial,(qiu (f:=qae) (j:=1) (sz:=8) x69.qa8 rfl rfl rfl)⟩,trivial,(qgl (f:=qag) (j:=2) (sz:=1) [(qa1 .quo .f32 (FloatKind.nearest .f32 (w64 ((1:Int) + x71))) (1115684864:Nat)),(qa1 .quo .f32 (FloatKind.nearest .f32 (w64 ((1:Int) + x72))) (1107296256:Nat)),(qa1 .quo .f32 (FloatKind.nearest .f32 (w64 ((1:Int) + x73))) (1098907648:Nat))] rfl rfl rfl),trivial,trivial⟩ (by trivial) (impl_BestBank_ok_fr n (qak.mk x69.Source x69.qa8) x70 [(qa1 .quo .f32 (FloatKind.nearest .f32 (w64 ((1:Int) + x71))) (1115684864:Nat)),(qa1 .quo .f32 (FloatKind.nearest .f32 (w64 ((1:Int) + x72))) (1107296256:Nat)),(qa1 .quo .f32 (FloatKind.nearest .f32 (w64 ((1:Int) + x73))) (1098907648:Nat))] (3:Int) hx74) ?_
    rintro r0 o0 n0 ⟨rfl,rfl,rfl⟩ -
    refine qa0 hτ rfl rfl rfl ?_
    refine qa0 hτ rfl rfl rfl ?_
    refine qa0 hτ rfl rfl rfl ?_
    refine qa0 hτ rfl rfl rfl ?_
    refine qa0 hτ rfl rfl rfl ?_
    refine qa4 ?_
    refine qc0 (ι:=Unit) (fun _=>St.of [(5,.ptr 0 0),(6,.d (.int .i64 x70)),(7,.row 2 ([(qa1 .quo .f32 (FloatKind.nearest .f32 (w64 ((1:Int) + x71))) (1115684864:Nat)),(qa1 .quo .f32 (FloatKind.nearest .f32 (w64 ((1:Int) + x72))) (1107296256:Nat)),(qa1 .quo .f32 (FloatKind.nearest .f32 (w64 ((1:Int) + x73))) (1098907648:Nat))].length) 0 ([(qa1 .quo .f32 (FloatKind.nearest .f32 (w64 ((1:Int) + x71))) (1115684864:Nat)),(qa1 .quo .f32 (FloatKind.nearest .f32 (w64 ((1:Int) + x72))) (1107296256:Nat)),(qa1 .quo .f32 (FloatKind.nearest .f32 (w64 ((1:Int) + x73))) (1098907648:Nat))].length)),(8,.d (.int .i64 x74.1))] [.box [.d (.cx .f32 x69.Source.A.re x69.Source.A.im),.d (.cx .f32 x69.Source.B.re x69.Source.B.im),.d (.cx .f32 x69.Source.C.re x69.Source.C.im),.row 1 x69.qa8.length 0 x69.qa8.length],.row 8 (x69.qa8.map qae),.row 1 ([(qa1 .quo .f32 (FloatKind.nearest .f32 (w64 ((1:Int) + x71))) (1115684864:Nat)),(qa1 .quo .f32 (FloatKind.nearest .f32 (w64 ((1:Int) + x72))) (1107296256:Nat)),(qa1 .quo .f32 (FloatKind.nearest .f32 (w64 ((1:Int) + x73))) (1098907648:Nat))].map qag)] f3.ntmps 0) (fun _=>qen n x69 x70 x71 x72 x73 x74 = some r) ?_ (fun hk267=>?_)
    · rintro ⟨⟩ h
      replace h:qen n x69 x70 x71 x72 x73 x74 = some r:=h
      unfold qen at h
      refine qa7 ?_
      refine qa2 ?_
      refine qaj hτ rfl rfl rfl ?_
      refine qa0 hτ rfl rfl rfl ?_
      refine qa4 ?_
      refine qc0 (ι:=List Nat) (fun v119=>St.of [(8,.d (.int .i64 x74.1)),(10,.row 0 v119.length 0 v119.length)] [.row 1 (v119.map qag)] f3.ntmps 0) (fun v119=>qdt n x74 v119 = some r) ?_ (fun hk157=>?_)
      · rintro v119 h
        replace h:qdt n x74 v119 = some r:=h
        unfold qdt at h
        refine qa7 ?_
        refine qa7 ?_
        refine qa2 ?_
        refine qa0 hτ rfl rfl rfl ?_
        refine qda hτ rfl rfl rfl (qbu _) ?_
        refine qa0 hτ rfl rfl rfl ?_
        refine qa4 ?_
        refine qbo ?_
        refine qgj (ι:=Nat × Int) (fun (m134,v126)=>St.of [(8,.d (.int .i64 x74.1)),(10,.row 0 v119.length 0 v119.length),(146,.d (.int .i64 (v119.length:Int))),(147,.d (.int .i64 v126))] [.row 1 (v119.map qag)] f3.ntmps 0) (fun (m134,v126)=>qav n x74 v119 m134 v126 = some r) (fun x=>x.1) (n,(0:Int)) h (qa3 [0] (l:=[(8,.d (.int .i64 x74.1)),(10,.row 0 v119.length 0 v119.length),(146,.d (.int .i64 (v119.length:Int))),(147,.d (.int .i64 (0:Int)))]) (objs:=[.row 1 (v119.map qag)]) rfl (by simp) rfl (by trivial) ⟨rfl,trivial,rfl,trivial,rfl,trivial,rfl,trivial,trivial⟩) ?_
        rintro ⟨m134,v126⟩ h
        replace h:qav n x74 v119 m134 v126 = some r:=h
        rcases m134 with _ | m134
        · rw [qav] at h;cases h
        rw [qav] at h
        refine qa7 ?_
        refine qa2 ?_
        refine qa0 hτ rfl rfl rfl ?_
        refine qa4 ?_
        refine qa7 ?_
        refine qaz rfl (fun hc136=>?_) (fun hc136=>?_)
        · have h:=if_t h hc136
          refine qb4 ?_
          refine qc0 (ι:=Unit) (fun _=>St.of [(8,.d (.int .i64 x74.1)),(10,.row 0 v119.length 0 v119.length),(146,.d (.int .i64 (v119.length:Int))),(147,.d (.int .i64 v126))] [.row 1 (v119.map qag)] f3.ntmps 0) (fun _=>qeo n (qav n x74 v119 m134) v126 = some r) ?_ (fun hk143=>?_)
          · rintro ⟨⟩ h
            replace h:qeo n (qav n x74 v119 m134) v126 = some r:=h
            unfold qeo at h
            refine qa2 ?_
            refine qa0 hτ rfl rfl rfl ?_
            refine qa0 hτ rfl rfl rfl ?_
            refine qa4 ?_
            exact ⟨(m134,(w64 (v126 + (1:Int)))),h,Nat.lt_succ_self m134,(qa3 [0] (l:=[(8,.d (.int .i64 x74.1)),(10,.row 0 v119.length 0 v119.length),(146,.d (.int .i64 (v119.length:Int))),(147,.d (.int .i64 (w64 (v126 + (1:Int)))))]) (objs:=[.row 1 (v119.map qag)]) rfl (by simp) rfl (by trivial) ⟨rfl,trivial,rfl,trivial,rfl,trivial,rfl,trivial,trivial⟩)⟩
          · refine qa7 ?_
            refine qbo ?_
            refine qa7 ?_
            refine qa2 ?_
            refine qa0 hτ rfl rfl rfl ?_
            refine qa0 hτ rfl rfl rfl ?_
            refine qa4 ?_
            refine qc0 (ι:=Bool) (fun v150=>St.of [(8,.d (.int .i64 x74.1)),(10,.row 0 v119.length 0 v119.length),(146,.d (.int .i64 (v119.length:Int))),(147,.d (.int .i64 v126)),(174,.d (.bool v150))] [.row 1 (v119.map qag)] f3.ntmps 0) (fun v150=>qcw n (qav n x74 v119 m134) v126 v150 = some r) ?_ (fun hk152=>?_)
            · rintro v150 h
              replace h:qcw n (qav n x74 v119 m134) v126 v150 = some r:=h
              unfold qcw at h
              refine qaz rfl (fun hc151=>?_) (fun hc151=>?_)
              · have h:=qdl h hc151
                refine qa7 ?_
                refine qa2 ?_
                refine qa0 hτ rfl rfl rfl ?_
                refine qa4 ?_
                refine qa9 (qa3 [] (l:=[(4,.d (.bool false))]) (objs:=[]) rfl (by simp) rfl (by trivial) ⟨rfl,trivial,trivial⟩) ?_
                refine qar ?_
                have hr:=Option.some.inj h
                subst hr
                exact qah (.inr rfl) [] (objs':=[]) (new:=[]) rfl (by simp) (by simp) rfl (by trivial) rfl rfl (by trivial) (fun _=>⟨by simp [V.flat,V.qbd,V.qb6,D.flat],qal⟩) ⟨rfl,rfl,rfl⟩
              · have h:=qdk h hc151
                refine qb4 ?_
                refine qa9 (qa3 [0] (l:=[(8,.d (.int .i64 x74.1)),(10,.row 0 v119.length 0 v119.length),(146,.d (.int .i64 (v119.length:Int))),(147,.d (.int .i64 v126))]) (objs:=[.row 1 (v119.map qag)]) rfl (by simp) rfl (by trivial) ⟨rfl,trivial,rfl,trivial,rfl,trivial,rfl,trivial,trivial⟩) ?_
                exact hk143 () h
            · refine qa7 ?_
              refine qdj ?_
              refine qac hτ [] 0 rfl rfl rfl rfl rfl ?_
              refine qac hτ [] 1 rfl rfl rfl rfl rfl ?_
              refine qab h fun x153 hx153 h=>?_
              refine qgh hτ [0] 2 rfl rfl rfl rfl rfl (qg0 hx153) ?_
              refine qgg hτ [0] 3 rfl rfl rfl rfl rfl (qbu _) (qhi hx153) rfl ?_
              refine qac hτ [] 4 rfl rfl rfl rfl rfl ?_
              refine qac hτ [] 5 rfl rfl rfl rfl rfl ?_
              refine qab h fun x154 hx154 h=>?_
              refine qgh hτ [0] 6 rfl rfl rfl rfl rfl (qg0 hx154) ?_
              refine qgg hτ [0] 7 rfl rfl rfl rfl rfl (qbu _) (qhi hx154) rfl ?_
              refine qac hτ [] 8 rfl rfl rfl rfl rfl ?_
              refine qac hτ [] 9 rfl rfl rfl rfl rfl ?_
              refine qo5 159 rfl (fun hb155=>?_) (fun hb155=>?_)
              · have h:=qdl h hb155
                refine qcg 10 rfl rfl rfl ?_
                refine qcg 11 rfl rfl rfl ?_
                refine qcg 12 rfl rfl rfl ?_
                refine qcg 13 rfl rfl rfl ?_
                refine qcg 14 rfl rfl rfl ?_
                refine qcg 15 rfl rfl rfl ?_
                refine qcg 16 rfl rfl rfl ?_
                refine qcg 17 rfl rfl rfl ?_
                refine qcg 18 rfl rfl rfl ?_
                refine qcg 19 rfl rfl rfl ?_
                refine qcg 20 rfl rfl rfl ?_
                refine qcg 21 rfl rfl rfl ?_
                refine qcg 22 rfl rfl rfl ?_
                refine qcg 23 rfl rfl rfl ?_
                refine qac hτ [] 24 rfl rfl rfl rfl rfl ?_
                refine qe1 mixed (by kernel_rfl) ?_
                refine qa9 (qa3 [0] (l:=[(8,.d (.int .i64 x74.1)),(10,.row 0 v119.length 0 v119.length),(146,.d (.int .i64 (v119.length:Int))),(147,.d (.int .i64 v126)),(174,.d (.bool true))]) (objs:=[.row 1 (v119.map qag)]) rfl (by simp) rfl (by trivial) ⟨rfl,trivial,rfl,trivial,rfl,trivial,rfl,trivial,rfl,trivial,trivial⟩) ?_
                exact hk152 true h
              · have h:=qdk h hb155
                refine qac hτ [] 10 rfl rfl rfl rfl rfl ?_
                refine qac hτ [] 11 rfl rfl rfl rfl rfl ?_
                refine qac hτ [] 12 rfl rfl rfl rfl rfl ?_
                refine qac hτ [] 13 rfl rfl rfl rfl rfl ?_
                refine qo5 163 rfl (fun hb156=>?_) (fun hb156=>?_)
                · have h:=if_t h hb156
                  refine qac hτ [] 14 rfl rfl rfl rfl rfl ?_
                  refine qac hτ [] 15 rfl rfl rfl rfl rfl ?_
                  refine qgh hτ [0] 16 rfl rfl rfl rfl rfl (qg0 hx153) ?_
                  refine qgg hτ [0] 17 rfl rfl rfl rfl rfl (qbu _) (qhi hx153) rfl ?_
                  refine qac hτ [] 18 rfl rfl rfl rfl rfl ?_
                  refine qac hτ [] 19 rfl rfl rfl rfl rfl ?_
                  refine qgh hτ [0] 20 rfl rfl rfl rfl rfl (qg0 hx154) ?_
                  refine qgg hτ [0] 21 rfl rfl rfl rfl rfl (qbu _) (qhi hx154) rfl ?_
                  refine qac hτ [] 22 rfl rfl rfl rfl rfl ?_
                  refine qac hτ [] 23 rfl rfl rfl rfl rfl ?_
                  refine qac hτ [] 24 rfl rfl rfl rfl rfl ?_
                  refine qe1 mixed (by kernel_rfl) ?_
                  refine qa9 (qa3 [0] (l:=[(8,.d (.int .i64 x74.1)),(10,.row 0 v119.length 0 v119.length),(146,.d (.int .i64 (v119.length:Int))),(147,.d (.int .i64 v126)),(174,.d (.bool (fcmp .eql .f32 x153 x154)))]) (objs:=[.row 1 (v119.map qag)]) rfl (by simp) rfl (by trivial) ⟨rfl,trivial,rfl,trivial,rfl,trivial,rfl,trivial,rfl,trivial,trivial⟩) ?_
                  exact hk152 (fcmp .eql .f32 x153 x154) h
                · have h:=if_f h hb156
                  refine qcg 14 rfl rfl rfl ?_
                  refine qcg 15 rfl rfl rfl ?_
                  refine qcg 16 rfl rfl rfl ?_
                  refine qcg 17 rfl rfl rfl ?_
                  refine qcg 18 rfl rfl rfl ?_
                  refine qcg 19 rfl rfl rfl ?_
                  refine qcg 20 rfl rfl rfl ?_
                  refine qcg 21 rfl rfl rfl ?_
                  refine qcg 22 rfl rfl rfl ?_
                  refine qac hτ [] 23 rfl rfl rfl rfl rfl ?_
                  refine qac hτ [] 24 rfl rfl rfl rfl rfl ?_
                  refine qe1 mixed (by kernel_rfl) ?_
                  refine qa9 (qa3 [0] (l:=[(8,.d (.int .i64 x74.1)),(10,.row 0 v119.length 0 v119.length),(146,.d (.int .i64 (v119.length:Int))),(147,.d (.int .i64 v126)),(174,.d (.bool false))]) (objs:=[.row 1 (v119.map qag)]) rfl (by simp) rfl (by trivial) ⟨rfl,trivial,rfl,trivial,rfl,trivial,rfl,trivial,rfl,trivial,trivial⟩) ?_
                  exact hk152 false h
        · have h:=if_f h hc136
          refine qgi ?_
          refine qa7 ?_
          refine qa2 ?_
          refine qa0 hτ rfl rfl rfl ?_
          refine qa4 ?_
          refine qa9 (qa3 [] (l:=[(4,.d (.bool true))]) (objs:=[]) rfl (by simp) rfl (by trivial) ⟨rfl,trivial,trivial⟩) ?_
          refine qar ?_
          have hr:=Option.some.inj h
          subst hr
          exact qah (.inr rfl) [] (objs':=[]) (new:=[]) rfl (by simp) (by simp) rfl (by trivial) rfl rfl (by trivial) (fun _=>⟨by simp [V.flat,V.qbd,V.qb6,D.flat],qal⟩) ⟨rfl,rfl,rfl⟩
      · refine qa7 ?_
        refine qa7 ?_
        refine qa2 ?_
        refine qa0 hτ rfl rfl rfl ?_
        refine qda hτ rfl rfl rfl (qbu _) ?_
        refine qa0 hτ rfl rfl rfl ?_
        refine qa4 ?_
        refine qbo ?_
        refine qgj (ι:=Nat × List SBus × List Nat × Int) (fun (m199,v176,v177,v178)=>St.of [(5,.ptr 0 0),(6,.d (.int .i64 x70)),(7,.row 1 ([(qa1 .quo .f32 (FloatKind.nearest .f32 (w64 ((1:Int) + x71))) (1115684864:Nat)),(qa1 .quo .f32 (FloatKind.nearest .f32 (w64 ((1:Int) + x72))) (1107296256:Nat)),(qa1 .quo .f32 (FloatKind.nearest .f32 (w64 ((1:Int) + x73))) (1098907648:Nat))].length) 0 ([(qa1 .quo .f32 (FloatKind.nearest .f32 (w64 ((1:Int) + x71))) (1115684864:Nat)),(qa1 .quo .f32 (FloatKind.nearest .f32 (w64 ((1:Int) + x72))) (1107296256:Nat)),(qa1 .quo .f32 (FloatKind.nearest .f32 (w64 ((1:Int) + x73))) (1098907648:Nat))].length)),(8,.d (.int .i64 x74.1)),(10,.row 2 v177.length 0 v177.length),(69,.d (.int .i64 ([(qa1 .quo .f32 (FloatKind.nearest .f32 (w64 ((1:Int) + x71))) (1115684864:Nat)),(qa1 .quo .f32 (FloatKind.nearest .f32 (w64 ((1:Int) + x72))) (1107296256:Nat)),(qa1 .quo .f32 (FloatKind.nearest .f32 (w64 ((1:Int) + x73))) (1098907648:Nat))].length:Int))),(70,.d (.int .i64 v178))] [.box [.d (.cx .f32 x69.Source.A.re x69.Source.A.im),.d (.cx .f32 x69.Source.B.re x69.Source.B.im),.d (.cx .f32 x69.Source.C.re x69.Source.C.im),.d (.sl false (v176.map qae))],.row 1 ([(qa1 .quo .f32 (FloatKind.nearest .f32 (w64 ((1:Int) + x71))) (1115684864:Nat)),(qa1 .quo .f32 (FloatKind.nearest .f32 (w64 ((1:Int) + x72))) (1107296256:Nat)),(qa1 .quo .f32 (FloatKind.nearest .f32 (w64 ((1:Int) + x73))) (1098907648:Nat))].map qag),.row 1 (v177.map qag)] f3.ntmps 0) (fun (m199,v176,v177,v178)=>qan n x69 x70 x71 x72 x73 x74 m199 v176 v177 v178 = some r) (fun x=>x.1) (n,x69.qa8,([]:List Nat),(0:Int)) h (qa3 [0,2,3] (l:=[(5,.ptr 0 0),(6,.d (.int .i64 x70)),(7,.row 1 ([(qa1 .quo .f32 (FloatKind.nearest .f32 (w64 ((1:Int) + x71))) (1115684864:Nat)),(qa1 .quo .f32 (FloatKind.nearest .f32 (w64 ((1:Int) + x72))) (1107296256:Nat)),(qa1 .quo .f32 (FloatKind.nearest .f32 (w64 ((1:Int) + x73))) (1098907648:Nat))].length) 0 ([(qa1 .quo .f32 (FloatKind.nearest .f32 (w64 ((1:Int) + x71))) (1115684864:Nat)),(qa1 .quo .f32 (FloatKind.nearest .f32 (w64 ((1:Int) + x72))) (1107296256:Nat)),(qa1 .quo .f32 (FloatKind.nearest .f32 (w64 ((1:Int) + x73))) (1098907648:Nat))].length)),(8,.d (.int .i64 x74.1)),(10,.row 2 (([]:List Nat).length) 0 (([]:List Nat).length)),(69,.d (.int .i64 ([(qa1 .quo .f32 (FloatKind.nearest .f32 (w64 ((1:Int) + x71))) (1115684864:Nat)),(qa1 .quo .f32 (FloatKind.nearest .f32 (w64 ((1:Int) + x72))) (1107296256:Nat)),(qa1 .quo .f32 (FloatKind.nearest .f32 (w64 ((1:Int) + x73))) (1098907648:Nat))].length:Int))),(70,.d (.int .i64 (0:Int)))]) (objs:=[.box [.d (.cx .f32 x69.Source.A.re x69.Source.A.im),.d (.cx .f32 x69.Source.B.re x69.Source.B.im),.d (.cx .f32 x69.Source.C.re x69.Source.C.im),.d (.sl false (x69.qa8.map qae))],.row 1 ([(qa1 .quo .f32 (FloatKind.nearest .f32 (w64 ((1:Int) + x71))) (1115684864:Nat)),(qa1 .quo .f32 (FloatKind.nearest .f32 (w64 ((1:Int) + x72))) (1107296256:Nat)),(qa1 .quo .f32 (FloatKind.nearest .f32 (w64 ((1:Int) + x73))) (1098907648:Nat))].map qag),.row 1 (([]:List Nat).map qag)]) rfl (by simp) (qax (qp9 (qax rfl (qax rfl (qax rfl (qax (qit (f:=qae) (j:=1) (sz:=8) x69.qa8 rfl rfl rfl) qfp))))) (qax rfl (qax rfl qfp))) ⟨⟨trivial,trivial,trivial,(qiu (f:=qae) (j:=1) (sz:=8) x69.qa8 rfl rfl rfl)⟩,trivial,trivial,trivial⟩ ⟨rfl,trivial,rfl,trivial,rfl,trivial,rfl,trivial,rfl,trivial,rfl,trivial,rfl,trivial,trivial⟩) ?_
        rintro ⟨m199,v176,v177,v178⟩ h
        replace h:qan n x69 x70 x71 x72 x73 x74 m199 v176 v177 v178 = some r:=h
        rcases m199 with _ | m199
        · rw [qan] at h;cases h
        rw [qan] at h
        refine qa7 ?_
        refine qa2 ?_
        refine qa0 hτ rfl rfl rfl ?_
        refine qa4 ?_
        refine qa7 ?_
        refine qaz rfl (fun hc201=>?_) (fun hc201=>?_)
        · have h:=if_t h hc201
          refine qb4 ?_
          refine qc0 (ι:=List Nat) (fun v219=>St.of [(5,.ptr 0 0),(6,.d (.int .i64 x70)),(7,.row 1 ([(qa1 .quo .f32 (FloatKind.nearest .f32 (w64 ((1:Int) + x71))) (1115684864:Nat)),(qa1 .quo .f32 (FloatKind.nearest .f32 (w64 ((1:Int) + x72))) (1107296256:Nat)),(qa1 .quo .f32 (FloatKind.nearest .f32 (w64 ((1:Int) + x73))) (1098907648:Nat))].length) 0 ([(qa1 .quo .f32 (FloatKind.nearest .f32 (w64 ((1:Int) + x71))) (1115684864:Nat)),(qa1 .quo .f32 (FloatKind.nearest .f32 (w64 ((1:Int) + x72))) (1107296256:Nat)),(qa1 .quo .f32 (FloatKind.nearest .f32 (w64 ((1:Int) + x73))) (1098907648:Nat))].length)),(8,.d (.int .i64 x74.1)),(10,.row 2 v219.length 0 v219.length),(69,.d (.int .i64 ([(qa1 .quo .f32 (FloatKind.nearest .f32 (w64 ((1:Int) + x71))) (1115684864:Nat)),(qa1 .quo .f32 (FloatKind.nearest .f32 (w64 ((1:Int) + x72))) (1107296256:Nat)),(qa1 .quo .f32 (FloatKind.nearest .f32 (w64 ((1:Int) + x73))) (1098907648:Nat))].length:Int))),(70,.d (.int .i64 v178))] [.box [.d (.cx .f32 x69.Source.A.re x69.Source.A.im),.d (.cx .f32 x69.Source.B.re x69.Source.B.im),.d (.cx .f32 x69.Source.C.re x69.Source.C.im),.d (.sl false (v176.map qae))],.row 1 ([(qa1 .quo .f32 (FloatKind.nearest .f32 (w64 ((1:Int) + x71))) (1115684864:Nat)),(qa1 .quo .f32 (FloatKind.nearest .f32 (w64 ((1:Int) + x72))) (1107296256:Nat)),(qa1 .quo .f32 (FloatKind.nearest .f32 (w64 ((1:Int) + x73))) (1098907648:Nat))].map qag),.row 1 (v219.map qag)] f3.ntmps 0) (fun v219=>qep n (qan n x69 x70 x71 x72 x73 x74 m199) v176 v178 v219 = some r) ?_ (fun hk220=>?_)
          · rintro v219 h
            replace h:qep n (qan n x69 x70 x71 x72 x73 x74 m199) v176 v178 v219 = some r:=h
            unfold qep at h
            refine qa2 ?_
            refine qa0 hτ rfl rfl rfl ?_
            refine qa0 hτ rfl rfl rfl ?_
            refine qa4 ?_
            exact ⟨(m199,v176,v219,(w64 (v178 + (1:Int)))),h,Nat.lt_succ_self m199,(qa3 [0,1,2] (l:=[(5,.ptr 0 0),(6,.d (.int .i64 x70)),(7,.row 1 ([(qa1 .quo .f32 (FloatKind.nearest .f32 (w64 ((1:Int) + x71))) (1115684864:Nat)),(qa1 .quo .f32 (FloatKind.nearest .f32 (w64 ((1:Int) + x72))) (1107296256:Nat)),(qa1 .quo .f32 (FloatKind.nearest .f32 (w64 ((1:Int) + x73))) (1098907648:Nat))].length) 0 ([(qa1 .quo .f32 (FloatKind.nearest .f32 (w64 ((1:Int) + x71))) (1115684864:Nat)),(qa1 .quo .f32 (FloatKind.nearest .f32 (w64 ((1:Int) + x72))) (1107296256:Nat)),(qa1 .quo .f32 (FloatKind.nearest .f32 (w64 ((1:Int) + x73))) (1098907648:Nat))].length)),(8,.d (.int .i64 x74.1)),(10,.row 2 v219.length 0 v219.length),(69,.d (.int .i64 ([(qa1 .quo .f32 (FloatKind.nearest .f32 (w64 ((1:Int) + x71))) (1115684864:Nat)),(qa1 .quo .f32 (FloatKind.nearest .f32 (w64 ((1:Int) + x72))) (1107296256:Nat)),(qa1 .quo .f32 (FloatKind.nearest .f32 (w64 ((1:Int) + x73))) (1098907648:Nat))].length:Int))),(70,.d (.int .i64 (w64 (v178 + (1:Int)))))]) (objs:=[.box [.d (.cx .f32 x69.Source.A.re x69.Source.A.im),.d (.cx .f32 x69.Source.B.re x69.Source.B.im),.d (.cx .f32 x69.Source.C.re x69.Source.C.im),.d (.sl false (v176.map qae))],.row 1 ([(qa1 .quo .f32 (FloatKind.nearest .f32 (w64 ((1:Int) + x71))) (1115684864:Nat)),(qa1 .quo .f32 (FloatKind.nearest .f32 (w64 ((1:Int) + x72))) (1107296256:Nat)),(qa1 .quo .f32 (FloatKind.nearest .f32 (w64 ((1:Int) + x73))) (1098907648:Nat))].map qag),.row 1 (v219.map qag)]) rfl (by simp) rfl (by trivial) ⟨rfl,trivial,rfl,trivial,rfl,trivial,rfl,trivial,rfl,trivial,rfl,trivial,rfl,trivial,trivial⟩)⟩
          · refine qa7 ?_
            refine qbo ?_
            refine qa7 ?_
            refine qa2 ?_
            refine qa0 hτ rfl rfl rfl ?_
            refine qa0 hτ rfl rfl rfl ?_
            refine qa4 ?_
            refine qc0 (ι:=qak × Bool) (fun (v225,v226)=>St.of [(5,.ptr 0 0),(6,.d (.int .i64 x70)),(7,.row 1 ([(qa1 .quo .f32 (FloatKind.nearest .f32 (w64 ((1:Int) + x71))) (1115684864:Nat)),(qa1 .quo .f32 (FloatKind.nearest .f32 (w64 ((1:Int) + x72))) (1107296256:Nat)),(qa1 .quo .f32 (FloatKind.nearest .f32 (w64 ((1:Int) + x73))) (1098907648:Nat))].length) 0 ([(qa1 .quo .f32 (FloatKind.nearest .f32 (w64 ((1:Int) + x71))) (1115684864:Nat)),(qa1 .quo .f32 (FloatKind.nearest .f32 (w64 ((1:Int) + x72))) (1107296256:Nat)),(qa1 .quo .f32 (FloatKind.nearest .f32 (w64 ((1:Int) + x73))) (1098907648:Nat))].length)),(8,.d (.int .i64 x74.1)),(10,.row 2 v177.length 0 v177.length),(12,.ptr 3 0),(13,.d (.bool v226)),(69,.d (.int .i64 ([(qa1 .quo .f32 (FloatKind.nearest .f32 (w64 ((1:Int) + x71))) (1115684864:Nat)),(qa1 .quo .f32 (FloatKind.nearest .f32 (w64 ((1:Int) + x72))) (1107296256:Nat)),(qa1 .quo .f32 (FloatKind.nearest .f32 (w64 ((1:Int) + x73))) (1098907648:Nat))].length:Int))),(70,.d (.int .i64 v178))] [.box [.d (.cx .f32 x69.Source.A.re x69.Source.A.im),.d (.cx .f32 x69.Source.B.re x69.Source.B.im),.d (.cx .f32 x69.Source.C.re x69.Source.C.im),.d (.sl false (v176.map qae))],.row 1 ([(qa1 .quo .f32 (FloatKind.nearest .f32 (w64 ((1:Int) + x71))) (1115684864:Nat)),(qa1 .quo .f32 (FloatKind.nearest .f32 (w64 ((1:Int) + x72))) (1107296256:Nat)),(qa1 .quo .f32 (FloatKind.nearest .f32 (w64 ((1:Int) + x73))) (1098907648:Nat))].map qag),.row 1 (v177.map qag),.box [.d (.cx .f32 v225.Source.A.re v225.Source.A.im),.d (.cx .f32 v225.Source.B.re v225.Source.B.im),.d (.cx .f32 v225.Source.C.re v225.Source.C.im),.d (.sl false (v225.qa8.map qae))]] f3.ntmps 0) (fun (v225,v226)=>qcx n x70 (qan n x69 x70 x71 x72 x73 x74 m199) v176 v177 v178 v225 v226 = some r) ?_ (fun hk264=>?_)
            · rintro ⟨v225,v226⟩ h
              replace h:qcx n x70 (qan n x69 x70 x71 x72 x73 x74 m199) v176 v177 v178 v225 v226 = some r:=h
              unfold qcx at h
              refine qc0 (ι:=Unit) (fun _=>St.of [(5,.ptr 0 0),(6,.d (.int .i64 x70)),(7,.row 1 ([(qa1 .quo .f32 (FloatKind.nearest .f32 (w64 ((1:Int) + x71))) (1115684864:Nat)),(qa1 .quo .f32 (FloatKind.nearest .f32 (w64 ((1:Int) + x72))) (1107296256:Nat)),(qa1 .quo .f32 (FloatKind.nearest .f32 (w64 ((1:Int) + x73))) (1098907648:Nat))].length) 0 ([(qa1 .quo .f32 (FloatKind.nearest .f32 (w64 ((1:Int) + x71))) (1115684864:Nat)),(qa1 .quo .f32 (FloatKind.nearest .f32 (w64 ((1:Int) + x72))) (1107296256:Nat)),(qa1 .quo .f32 (FloatKind.nearest .f32 (w64 ((1:Int) + x73))) (1098907648:Nat))].length)),(8,.d (.int .i64 x74.1)),(10,.row 2 v177.length 0 v177.length),(12,.ptr 3 0),(69,.d (.int .i64 ([(qa1 .quo .f32 (FloatKind.nearest .f32 (w64 ((1:Int) + x71))) (1115684864:Nat)),(qa1 .quo .f32 (FloatKind.nearest .f32 (w64 ((1:Int) + x72))) (1107296256:Nat)),(qa1 .quo .f32 (FloatKind.nearest .f32 (w64 ((1:Int) + x73))) (1098907648:Nat))].length:Int))),(70,.d (.int .i64 v178))] [.box [.d (.cx .f32 x69.Source.A.re x69.Source.A.im),.d (.cx .f32 x69.Source.B.re x69.Source.B.im),.d (.cx .f32 x69.Source.C.re x69.Source.C.im),.d (.sl false (v176.map qae))],.row 1 ([(qa1 .quo .f32 (FloatKind.nearest .f32 (w64 ((1:Int) + x71))) (1115684864:Nat)),(qa1 .quo .f32 (FloatKind.nearest .f32 (w64 ((1:Int) + x72))) (1107296256:Nat)),(qa1 .quo .f32 (FloatKind.nearest .f32 (w64 ((1:Int) + x73))) (1098907648:Nat))].map qag),.row 1 (v177.map qag),.box [.d (.cx .f32 v225.Source.A.re v225.Source.A.im),.d (.cx .f32 v225.Source.B.re v225.Source.B.im),.d (.cx .f32 v225.Source.C.re v225.Source.C.im),.d (.sl false (v225.qa8.map qae))]] f3.ntmps 0) (fun _=>qeq n (qan n x69 x70 x71 x72 x73 x74 m199) v176 v177 v178 v225 = some r) ?_ (fun hk249=>?_)
              · rintro ⟨⟩ h
                replace h:qeq n (qan n x69 x70 x71 x72 x73 x74 m199) v176 v177 v178 v225 = some r:=h
                unfold qeq at h
                refine qa7 ?_
                refine qa2 ?_
                refine qa0 hτ rfl rfl rfl ?_
                refine qab h fun x233 hx233 h=>?_
                refine qad hτ false [] rfl rfl rfl (qaf func14 rfl rfl) rfl rfl (by simp) ⟨(by trivial),trivial⟩ (by trivial) (impl_FlatVoltages_ok n v225 hx233) ?_
                rintro r0 o0 n0 ⟨rfl,rfl,rfl⟩ -
                refine qa0 hτ rfl rfl rfl ?_
                refine qa0 hτ rfl rfl rfl ?_
                refine qa0 hτ rfl rfl rfl ?_
                refine qa0 hτ rfl rfl rfl ?_
                refine qa0 hτ rfl rfl rfl ?_
                refine qa4 ?_
                refine qa7 ?_
                refine qa9 (qa3 [0,1,2,3,4] (l:=[(5,.ptr 0 0),(6,.d (.int .i64 x70)),(7,.row 1 ([(qa1 .quo .f32 (FloatKind.nearest .f32 (w64 ((1:Int) + x71))) (1115684864:Nat)),(qa1 .quo .f32 (FloatKind.nearest .f32 (w64 ((1:Int) + x72))) (1107296256:Nat)),(qa1 .quo .f32 (FloatKind.nearest .f32 (w64 ((1:Int) + x73))) (1098907648:Nat))].length) 0 ([(qa1 .quo .f32 (FloatKind.nearest .f32 (w64 ((1:Int) + x71))) (1115684864:Nat)),(qa1 .quo .f32 (FloatKind.nearest .f32 (w64 ((1:Int) + x72))) (1107296256:Nat)),(qa1 .quo .f32 (FloatKind.nearest .f32 (w64 ((1:Int) + x73))) (1098907648:Nat))].length)),(8,.d (.int .i64 x74.1)),(10,.row 2 v177.length 0 v177.length),(12,.ptr 3 0),(14,.row 4 x233.1.length 0 x233.1.length),(15,.d (.bool x233.2)),(69,.d (.int .i64 ([(qa1 .quo .f32 (FloatKind.nearest .f32 (w64 ((1:Int) + x71))) (1115684864:Nat)),(qa1 .quo .f32 (FloatKind.nearest .f32 (w64 ((1:Int) + x72))) (1107296256:Nat)),(qa1 .quo .f32 (FloatKind.nearest .f32 (w64 ((1:Int) + x73))) (1098907648:Nat))].length:Int))),(70,.d (.int .i64 v178))]) (objs:=[.box [.d (.cx .f32 x69.Source.A.re x69.Source.A.im),.d (.cx .f32 x69.Source.B.re x69.Source.B.im),.d (.cx .f32 x69.Source.C.re x69.Source.C.im),.d (.sl false (v176.map qae))],.row 1 ([(qa1 .quo .f32 (FloatKind.nearest .f32 (w64 ((1:Int) + x71))) (1115684864:Nat)),(qa1 .quo .f32 (FloatKind.nearest .f32 (w64 ((1:Int) + x72))) (1107296256:Nat)),(qa1 .quo .f32 (FloatKind.nearest .f32 (w64 ((1:Int) + x73))) (1098907648:Nat))].map qag),.row 1 (v177.map qag),.box [.d (.cx .f32 v225.Source.A.re v225.Source.A.im),.d (.cx .f32 v225.Source.B.re v225.Source.B.im),.d (.cx .f32 v225.Source.C.re v225.Source.C.im),.d (.sl false (v225.qa8.map qae))],.row 3 (x233.1.map qa6)]) rfl (by simp) rfl (by trivial) ⟨rfl,trivial,rfl,trivial,rfl,trivial,rfl,trivial,rfl,trivial,rfl,trivial,rfl,trivial,rfl,trivial,rfl,trivial,rfl,trivial,trivial⟩) ?_
                refine qa2 ?_
                refine qa0 hτ rfl rfl rfl ?_
                refine qa0 hτ rfl rfl rfl ?_
                refine qb2 (qa3 [0,1,2,3] (l:=[(5,.ptr 0 0),(6,.d (.int .i64 x70)),(7,.row 1 ([(qa1 .quo .f32 (FloatKind.nearest .f32 (w64 ((1:Int) + x71))) (1115684864:Nat)),(qa1 .quo .f32 (FloatKind.nearest .f32 (w64 ((1:Int) + x72))) (1107296256:Nat)),(qa1 .quo .f32 (FloatKind.nearest .f32 (w64 ((1:Int) + x73))) (1098907648:Nat))].length) 0 ([(qa1 .quo .f32 (FloatKind.nearest .f32 (w64 ((1:Int) + x71))) (1115684864:Nat)),(qa1 .quo .f32 (FloatKind.nearest .f32 (w64 ((1:Int) + x72))) (1107296256:Nat)),(qa1 .quo .f32 (FloatKind.nearest .f32 (w64 ((1:Int) + x73))) (1098907648:Nat))].length)),(8,.d (.int .i64 x74.1)),(10,.row 2 v177.length 0 v177.length),(12,.ptr 3 0),(15,.d (.bool x233.2)),(69,.d (.int .i64 ([(qa1 .quo .f32 (FloatKind.nearest .f32 (w64 ((1:Int) + x71))) (1115684864:Nat)),(qa1 .quo .f32 (FloatKind.nearest .f32 (w64 ((1:Int) + x72))) (1107296256:Nat)),(qa1 .quo .f32 (FloatKind.nearest .f32 (w64 ((1:Int) + x73))) (1098907648:Nat))].length:Int))),(70,.d (.int .i64 v178)),(118,.agg [.d (.cx .f32 v225.Source.A.re v225.Source.A.im),.d (.cx .f32 v225.Source.B.re v225.Source.B.im),.d (.cx .f32 v225.Source.C.re v225.Source.C.im),.d (.sl false (v225.qa8.map qae))]),(119,.d (.sl false (x233.1.map qa6)))]) (objs:=[.box [.d (.cx .f32 x69.Source.A.re x69.Source.A.im),.d (.cx .f32 x69.Source.B.re x69.Source.B.im),.d (.cx .f32 x69.Source.C.re x69.Source.C.im),.d (.sl false (v176.map qae))],.row 1 ([(qa1 .quo .f32 (FloatKind.nearest .f32 (w64 ((1:Int) + x71))) (1115684864:Nat)),(qa1 .quo .f32 (FloatKind.nearest .f32 (w64 ((1:Int) + x72))) (1107296256:Nat)),(qa1 .quo .f32 (FloatKind.nearest .f32 (w64 ((1:Int) + x73))) (1098907648:Nat))].map qag),.row 1 (v177.map qag),.box [.d (.cx .f32 v225.Source.A.re v225.Source.A.im),.d (.cx .f32 v225.Source.B.re v225.Source.B.im),.d (.cx .f32 v225.Source.C.re v225.Source.C.im),.d (.sl false (v225.qa8.map qae))]]) rfl (by simp) rfl (by trivial) ⟨rfl,trivial,rfl,trivial,rfl,trivial,rfl,trivial,rfl,trivial,rfl,trivial,rfl,trivial,rfl,trivial,rfl,trivial,rfl,(by trivial),(qhl (f:=qa6) (j:=4) (sz:=3) x233.1 rfl rfl rfl),(qgl (f:=qa6) (j:=4) (sz:=3) x233.1 rfl rfl rfl),trivial⟩) ?_
                refine qab h fun x234 hx234 h=>?_
                refine qad hτ false [] rfl rfl rfl (qaf func15 rfl rfl) rfl rfl (by simp) ⟨(by trivial),trivial,trivial,trivial⟩ (by trivial) (impl_RunSweeps_ok n v225 x233.1 (3:Int) hx234) ?_
                rintro r0 o0 n0 ⟨rfl,rfl,rfl⟩ -
                refine qa0 hτ rfl rfl rfl ?_
                refine qa0 hτ rfl rfl rfl ?_
                refine qa0 hτ rfl rfl rfl ?_
                refine qaj hτ rfl rfl rfl ?_
                refine qaj hτ rfl rfl rfl ?_
                refine qa0 hτ rfl rfl rfl ?_
                refine qa4 ?_
                refine qa7 ?_
                refine qa9 (qa3 [0,1,2,3,5,4] (l:=[(5,.ptr 0 0),(6,.d (.int .i64 x70)),(7,.row 1 ([(qa1 .quo .f32 (FloatKind.nearest .f32 (w64 ((1:Int) + x71))) (1115684864:Nat)),(qa1 .quo .f32 (FloatKind.nearest .f32 (w64 ((1:Int) + x72))) (1107296256:Nat)),(qa1 .quo .f32 (FloatKind.nearest .f32 (w64 ((1:Int) + x73))) (1098907648:Nat))].length) 0 ([(qa1 .quo .f32 (FloatKind.nearest .f32 (w64 ((1:Int) + x71))) (1115684864:Nat)),(qa1 .quo .f32 (FloatKind.nearest .f32 (w64 ((1:Int) + x72))) (1107296256:Nat)),(qa1 .quo .f32 (FloatKind.nearest .f32 (w64 ((1:Int) + x73))) (1098907648:Nat))].length)),(8,.d (.int .i64 x74.1)),(10,.row 2 v177.length 0 v177.length),(12,.ptr 3 0),(15,.d (.bool x233.2)),(16,.ptr 4 0),(17,.d (.bool x234.2)),(69,.d (.int .i64 ([(qa1 .quo .f32 (FloatKind.nearest .f32 (w64 ((1:Int) + x71))) (1115684864:Nat)),(qa1 .quo .f32 (FloatKind.nearest .f32 (w64 ((1:Int) + x72))) (1107296256:Nat)),(qa1 .quo .f32 (FloatKind.nearest .f32 (w64 ((1:Int) + x73))) (1098907648:Nat))].length:Int))),(70,.d (.int .i64 v178))]) (objs:=[.box [.d (.cx .f32 x69.Source.A.re x69.Source.A.im),.d (.cx .f32 x69.Source.B.re x69.Source.B.im),.d (.cx .f32 x69.Source.C.re x69.Source.C.im),.d (.sl false (v176.map qae))],.row 1 ([(qa1 .quo .f32 (FloatKind.nearest .f32 (w64 ((1:Int) + x71))) (1115684864:Nat)),(qa1 .quo .f32 (FloatKind.nearest .f32 (w64 ((1:Int) + x72))) (1107296256:Nat)),(qa1 .quo .f32 (FloatKind.nearest .f32 (w64 ((1:Int) + x73))) (1098907648:Nat))].map qag),.row 1 (v177.map qag),.box [.d (.cx .f32 v225.Source.A.re v225.Source.A.im),.d (.cx .f32 v225.Source.B.re v225.Source.B.im),.d (.cx .f32 v225.Source.C.re v225.Source.C.im),.d (.sl false (v225.qa8.map qae))],.box [.row 5 x234.1.qat.length 0 x234.1.qat.length,.d (.sl false (x234.1.qbj.map qa6)),.d (.int .i64 x234.1.Rounds),.d (.bool x234.1.qgf)],.row 3 (x234.1.qat.map qa6)]) rfl (by simp) rfl (by trivial) ⟨rfl,trivial,rfl,trivial,rfl,trivial,rfl,trivial,rfl,trivial,rfl,trivial,rfl,trivial,rfl,trivial,rfl,trivial,rfl,trivial,rfl,trivial,trivial⟩) ?_
                refine qa2 ?_
                refine qa0 hτ rfl rfl rfl ?_
                refine qa0 hτ rfl rfl rfl ?_
                refine qb2 (qa3 [0,1,2,5] (l:=[(5,.ptr 0 0),(6,.d (.int .i64 x70)),(7,.row 1 ([(qa1 .quo .f32 (FloatKind.nearest .f32 (w64 ((1:Int) + x71))) (1115684864:Nat)),(qa1 .quo .f32 (FloatKind.nearest .f32 (w64 ((1:Int) + x72))) (1107296256:Nat)),(qa1 .quo .f32 (FloatKind.nearest .f32 (w64 ((1:Int) + x73))) (1098907648:Nat))].length) 0 ([(qa1 .quo .f32 (FloatKind.nearest .f32 (w64 ((1:Int) + x71))) (1115684864:Nat)),(qa1 .quo .f32 (FloatKind.nearest .f32 (w64 ((1:Int) + x72))) (1107296256:Nat)),(qa1 .quo .f32 (FloatKind.nearest .f32 (w64 ((1:Int) + x73))) (1098907648:Nat))].length)),(8,.d (.int .i64 x74.1)),(10,.row 2 v177.length 0 v177.length),(15,.d (.bool x233.2)),(17,.d (.bool x234.2)),(69,.d (.int .i64 ([(qa1 .quo .f32 (FloatKind.nearest .f32 (w64 ((1:Int) + x71))) (1115684864:Nat)),(qa1 .quo .f32 (FloatKind.nearest .f32 (w64 ((1:Int) + x72))) (1107296256:Nat)),(qa1 .quo .f32 (FloatKind.nearest .f32 (w64 ((1:Int) + x73))) (1098907648:Nat))].length:Int))),(70,.d (.int .i64 v178)),(124,.agg [.d (.cx .f32 v225.Source.A.re v225.Source.A.im),.d (.cx .f32 v225.Source.B.re v225.Source.B.im),.d (.cx .f32 v225.Source.C.re v225.Source.C.im),.d (.sl false (v225.qa8.map qae))]),(125,.agg [.row 3 x234.1.qat.length 0 x234.1.qat.length,.d (.sl false (x234.1.qbj.map qa6)),.d (.int .i64 x234.1.Rounds),.d (.bool x234.1.qgf)])]) (objs:=[.box [.d (.cx .f32 x69.Source.A.re x69.Source.A.im),.d (.cx .f32 x69.Source.B.re x69.Source.B.im),.d (.cx .f32 x69.Source.C.re x69.Source.C.im),.d (.sl false (v176.map qae))],.row 1 ([(qa1 .quo .f32 (FloatKind.nearest .f32 (w64 ((1:Int) + x71))) (1115684864:Nat)),(qa1 .quo .f32 (FloatKind.nearest .f32 (w64 ((1:Int) + x72))) (1107296256:Nat)),(qa1 .quo .f32 (FloatKind.nearest .f32 (w64 ((1:Int) + x73))) (1098907648:Nat))].map qag),.row 1 (v177.map qag),.row 3 (x234.1.qat.map qa6)]) rfl (by simp) rfl (by trivial) ⟨rfl,trivial,rfl,trivial,rfl,trivial,rfl,trivial,rfl,trivial,rfl,trivial,rfl,trivial,rfl,trivial,rfl,trivial,rfl,(by trivial),rfl,(by trivial),trivial⟩) ?_
                refine qab h fun x235 hx235 h=>?_
                refine qad hτ true [] rfl rfl rfl (qaf func16 rfl rfl) (qax rfl (qax (qpa (qax (qit (f:=qa6) (j:=3) (sz:=3) x234.1.qat rfl rfl rfl) (qax rfl (qax rfl (qax rfl qfp))))) qfp)) rfl (by simp) ⟨(by trivial),⟨(qiu (f:=qa6) (j:=3) (sz:=3) x234.1.qat rfl rfl rfl),trivial,trivial,trivial⟩,trivial⟩ (by trivial) (impl_LowestBus_ok_fr n v225 (qg1.mk x234.1.qat x234.1.qbj x234.1.Rounds x234.1.qgf) hx235) ?_
                rintro r0 o0 n0 ⟨rfl,rfl,rfl⟩ -
                refine qa0 hτ rfl rfl rfl ?_
                refine qa0 hτ rfl rfl rfl ?_
                refine qa0 hτ rfl rfl rfl ?_
                refine qa0 hτ rfl rfl rfl ?_
                refine qa0 hτ rfl rfl rfl ?_
                refine qa0 hτ rfl rfl rfl ?_
                refine qa0 hτ rfl rfl rfl ?_
                refine qa4 ?_
                refine qc0 (ι:=Unit) (fun _=>St.of [(5,.ptr 0 0),(6,.d (.int .i64 x70)),(7,.row 1 ([(qa1 .quo .f32 (FloatKind.nearest .f32 (w64 ((1:Int) + x71))) (1115684864:Nat)),(qa1 .quo .f32 (FloatKind.nearest .f32 (w64 ((1:Int) + x72))) (1107296256:Nat)),(qa1 .quo .f32 (FloatKind.nearest .f32 (w64 ((1:Int) + x73))) (1098907648:Nat))].length) 0 ([(qa1 .quo .f32 (FloatKind.nearest .f32 (w64 ((1:Int) + x71))) (1115684864:Nat)),(qa1 .quo .f32 (FloatKind.nearest .f32 (w64 ((1:Int) + x72))) (1107296256:Nat)),(qa1 .quo .f32 (FloatKind.nearest .f32 (w64 ((1:Int) + x73))) (1098907648:Nat))].length)),(8,.d (.int .i64 x74.1)),(10,.row 2 v177.length 0 v177.length),(19,.d (.fl .f32 x235.2.1)),(69,.d (.int .i64 ([(qa1 .quo .f32 (FloatKind.nearest .f32 (w64 ((1:Int) + x71))) (1115684864:Nat)),(qa1 .quo .f32 (FloatKind.nearest .f32 (w64 ((1:Int) + x72))) (1107296256:Nat)),(qa1 .quo .f32 (FloatKind.nearest .f32 (w64 ((1:Int) + x73))) (1098907648:Nat))].length:Int))),(70,.d (.int .i64 v178))] [.box [.d (.cx .f32 x69.Source.A.re x69.Source.A.im),.d (.cx .f32 x69.Source.B.re x69.Source.B.im),.d (.cx .f32 x69.Source.C.re x69.Source.C.im),.d (.sl false (v176.map qae))],.row 1 ([(qa1 .quo .f32 (FloatKind.nearest .f32 (w64 ((1:Int) + x71))) (1115684864:Nat)),(qa1 .quo .f32 (FloatKind.nearest .f32 (w64 ((1:Int) + x72))) (1107296256:Nat)),(qa1 .quo .f32 (FloatKind.nearest .f32 (w64 ((1:Int) + x73))) (1098907648:Nat))].map qag),.row 1 (v177.map qag)] f3.ntmps 0) (fun _=>qe7 n (qan n x69 x70 x71 x72 x73 x74 m199) v176 v177 v178 x235 = some r) ?_ (fun hk240=>?_)
                · rintro ⟨⟩ h
                  replace h:qe7 n (qan n x69 x70 x71 x72 x73 x74 m199) v176 v177 v178 x235 = some r:=h
                  unfold qe7 at h
                  refine qa2 ?_
                  refine qa0 hτ rfl rfl rfl ?_
                  refine qa0 hτ rfl rfl rfl ?_
                  refine qaj hτ rfl rfl rfl ?_
                  refine qcq h fun hg239 h=>?_
                  refine qhs hτ rfl rfl (Eq.trans rfl (or_append (f:=qag) v177 [x235.2.1] rfl)) ⟨⟨rfl,Nat.le_of_ble_eq_true rfl⟩,qbu _,rfl,rfl,hg239,by decide,(all1 rfl)⟩ ?_
                  refine qa0 hτ rfl rfl rfl ?_
                  refine qa4 ?_
                  refine qa9 (qa3 [0,1,2] (l:=[(5,.ptr 0 0),(6,.d (.int .i64 x70)),(7,.row 1 ([(qa1 .quo .f32 (FloatKind.nearest .f32 (w64 ((1:Int) + x71))) (1115684864:Nat)),(qa1 .quo .f32 (FloatKind.nearest .f32 (w64 ((1:Int) + x72))) (1107296256:Nat)),(qa1 .quo .f32 (FloatKind.nearest .f32 (w64 ((1:Int) + x73))) (1098907648:Nat))].length) 0 ([(qa1 .quo .f32 (FloatKind.nearest .f32 (w64 ((1:Int) + x71))) (1115684864:Nat)),(qa1 .quo .f32 (FloatKind.nearest .f32 (w64 ((1:Int) + x72))) (1107296256:Nat)),(qa1 .quo .f32 (FloatKind.nearest .f32 (w64 ((1:Int) + x73))) (1098907648:Nat))].length)),(8,.d (.int .i64 x74.1)),(10,.row 2 ((v177 ++ [x235.2.1]).length) 0 ((v177 ++ [x235.2.1]).length)),(69,.d (.int .i64 ([(qa1 .quo .f32 (FloatKind.nearest .f32 (w64 ((1:Int) + x71))) (1115684864:Nat)),(qa1 .quo .f32 (FloatKind.nearest .f32 (w64 ((1:Int) + x72))) (1107296256:Nat)),(qa1 .quo .f32 (FloatKind.nearest .f32 (w64 ((1:Int) + x73))) (1098907648:Nat))].length:Int))),(70,.d (.int .i64 v178))]) (objs:=[.box [.d (.cx .f32 x69.Source.A.re x69.Source.A.im),.d (.cx .f32 x69.Source.B.re x69.Source.B.im),.d (.cx .f32 x69.Source.C.re x69.Source.C.im),.d (.sl false (v176.map qae))],.row 1 ([(qa1 .quo .f32 (FloatKind.nearest .f32 (w64 ((1:Int) + x71))) (1115684864:Nat)),(qa1 .quo .f32 (FloatKind.nearest .f32 (w64 ((1:Int) + x72))) (1107296256:Nat)),(qa1 .quo .f32 (FloatKind.nearest .f32 (w64 ((1:Int) + x73))) (1098907648:Nat))].map qag),.row 1 ((v177 ++ [x235.2.1]).map qag)]) rfl (by simp) rfl (by trivial) ⟨rfl,trivial,rfl,trivial,rfl,trivial,rfl,trivial,rfl,trivial,rfl,trivial,rfl,trivial,trivial⟩) ?_
                  exact hk220 (v177 ++ [x235.2.1]) h
                · refine qa7 ?_
                  refine qc0 (ι:=Bool) (fun v244=>St.of [(5,.ptr 0 0),(6,.d (.int .i64 x70)),(7,.row 1 ([(qa1 .quo .f32 (FloatKind.nearest .f32 (w64 ((1:Int) + x71))) (1115684864:Nat)),(qa1 .quo .f32 (FloatKind.nearest .f32 (w64 ((1:Int) + x72))) (1107296256:Nat)),(qa1 .quo .f32 (FloatKind.nearest .f32 (w64 ((1:Int) + x73))) (1098907648:Nat))].length) 0 ([(qa1 .quo .f32 (FloatKind.nearest .f32 (w64 ((1:Int) + x71))) (1115684864:Nat)),(qa1 .quo .f32 (FloatKind.nearest .f32 (w64 ((1:Int) + x72))) (1107296256:Nat)),(qa1 .quo .f32 (FloatKind.nearest .f32 (w64 ((1:Int) + x73))) (1098907648:Nat))].length)),(8,.d (.int .i64 x74.1)),(10,.row 2 v177.length 0 v177.length),(19,.d (.fl .f32 x235.2.1)),(69,.d (.int .i64 ([(qa1 .quo .f32 (FloatKind.nearest .f32 (w64 ((1:Int) + x71))) (1115684864:Nat)),(qa1 .quo .f32 (FloatKind.nearest .f32 (w64 ((1:Int) + x72))) (1107296256:Nat)),(qa1 .quo .f32 (FloatKind.nearest .f32 (w64 ((1:Int) + x73))) (1098907648:Nat))].length:Int))),(70,.d (.int .i64 v178)),(139,.d (.bool v244))] [.box [.d (.cx .f32 x69.Source.A.re x69.Source.A.im),.d (.cx .f32 x69.Source.B.re x69.Source.B.im),.d (.cx .f32 x69.Source.C.re x69.Source.C.im),.d (.sl false (v176.map qae))],.row 1 ([(qa1 .quo .f32 (FloatKind.nearest .f32 (w64 ((1:Int) + x71))) (1115684864:Nat)),(qa1 .quo .f32 (FloatKind.nearest .f32 (w64 ((1:Int) + x72))) (1107296256:Nat)),(qa1 .quo .f32 (FloatKind.nearest .f32 (w64 ((1:Int) + x73))) (1098907648:Nat))].map qag),.row 1 (v177.map qag)] f3.ntmps 0) (fun v244=>qcl n (qan n x69 x70 x71 x72 x73 x74 m199) v176 v177 v178 x235 v244 = some r) ?_ (fun hk246=>?_)
                  · rintro v244 h
                    replace h:qcl n (qan n x69 x70 x71 x72 x73 x74 m199) v176 v177 v178 x235 v244 = some r:=h
                    unfold qcl at h
                    refine qaz rfl (fun hc245=>?_) (fun hc245=>?_)
                    · have h:=qdl h hc245
                      refine qa7 ?_
                      refine qa2 ?_
                      refine qa0 hτ rfl rfl rfl ?_
                      refine qa4 ?_
                      refine qa9 (qa3 [] (l:=[(4,.d (.bool false))]) (objs:=[]) rfl (by simp) rfl (by trivial) ⟨rfl,trivial,trivial⟩) ?_
                      refine qar ?_
                      have hr:=Option.some.inj h
                      subst hr
                      exact qah (.inr rfl) [] (objs':=[]) (new:=[]) rfl (by simp) (by simp) rfl (by trivial) rfl rfl (by trivial) (fun _=>⟨by simp [V.flat,V.qbd,V.qb6,D.flat],qal⟩) ⟨rfl,rfl,rfl⟩
                    · have h:=qdk h hc245
                      refine qb4 ?_
                      refine qa9 (qa3 [0,1,2] (l:=[(5,.ptr 0 0),(6,.d (.int .i64 x70)),(7,.row 1 ([(qa1 .quo .f32 (FloatKind.nearest .f32 (w64 ((1:Int) + x71))) (1115684864:Nat)),(qa1 .quo .f32 (FloatKind.nearest .f32 (w64 ((1:Int) + x72))) (1107296256:Nat)),(qa1 .quo .f32 (FloatKind.nearest .f32 (w64 ((1:Int) + x73))) (1098907648:Nat))].length) 0 ([(qa1 .quo .f32 (FloatKind.nearest .f32 (w64 ((1:Int) + x71))) (1115684864:Nat)),(qa1 .quo .f32 (FloatKind.nearest .f32 (w64 ((1:Int) + x72))) (1107296256:Nat)),(qa1 .quo .f32 (FloatKind.nearest .f32 (w64 ((1:Int) + x73))) (1098907648:Nat))].length)),(8,.d (.int .i64 x74.1)),(10,.row 2 v177.length 0 v177.length),(19,.d (.fl .f32 x235.2.1)),(69,.d (.int .i64 ([(qa1 .quo .f32 (FloatKind.nearest .f32 (w64 ((1:Int) + x71))) (1115684864:Nat)),(qa1 .quo .f32 (FloatKind.nearest .f32 (w64 ((1:Int) + x72))) (1107296256:Nat)),(qa1 .quo .f32 (FloatKind.nearest .f32 (w64 ((1:Int) + x73))) (1098907648:Nat))].length:Int))),(70,.d (.int .i64 v178))]) (objs:=[.box [.d (.cx .f32 x69.Source.A.re x69.Source.A.im),.d (.cx .f32 x69.Source.B.re x69.Source.B.im),.d (.cx .f32 x69.Source.C.re x69.Source.C.im),.d (.sl false (v176.map qae))],.row 1 ([(qa1 .quo .f32 (FloatKind.nearest .f32 (w64 ((1:Int) + x71))) (1115684864:Nat)),(qa1 .quo .f32 (FloatKind.nearest .f32 (w64 ((1:Int) + x72))) (1107296256:Nat)),(qa1 .quo .f32 (FloatKind.nearest .f32 (w64 ((1:Int) + x73))) (1098907648:Nat))].map qag),.row 1 (v177.map qag)]) rfl (by simp) rfl (by trivial) ⟨rfl,trivial,rfl,trivial,rfl,trivial,rfl,trivial,rfl,trivial,rfl,trivial,rfl,trivial,rfl,trivial,trivial⟩) ?_
                      exact hk240 () h
                  · refine qa7 ?_
                    refine qa9 (qa3 [0,1,2] (l:=[(5,.ptr 0 0),(6,.d (.int .i64 x70)),(7,.row 1 ([(qa1 .quo .f32 (FloatKind.nearest .f32 (w64 ((1:Int) + x71))) (1115684864:Nat)),(qa1 .quo .f32 (FloatKind.nearest .f32 (w64 ((1:Int) + x72))) (1107296256:Nat)),(qa1 .quo .f32 (FloatKind.nearest .f32 (w64 ((1:Int) + x73))) (1098907648:Nat))].length) 0 ([(qa1 .quo .f32 (FloatKind.nearest .f32 (w64 ((1:Int) + x71))) (1115684864:Nat)),(qa1 .quo .f32 (FloatKind.nearest .f32 (w64 ((1:Int) + x72))) (1107296256:Nat)),(qa1 .quo .f32 (FloatKind.nearest .f32 (w64 ((1:Int) + x73))) (1098907648:Nat))].length)),(8,.d (.int .i64 x74.1)),(10,.row 2 v177.length 0 v177.length),(15,.d (.bool x233.2)),(17,.d (.bool x234.2)),(19,.d (.fl .f32 x235.2.1)),(20,.d (.bool x235.2.2)),(69,.d (.int .i64 ([(qa1 .quo .f32 (FloatKind.nearest .f32 (w64 ((1:Int) + x71))) (1115684864:Nat)),(qa1 .quo .f32 (FloatKind.nearest .f32 (w64 ((1:Int) + x72))) (1107296256:Nat)),(qa1 .quo .f32 (FloatKind.nearest .f32 (w64 ((1:Int) + x73))) (1098907648:Nat))].length:Int))),(70,.d (.int .i64 v178))]) (objs:=[.box [.d (.cx .f32 x69.Source.A.re x69.Source.A.im),.d (.cx .f32 x69.Source.B.re x69.Source.B.im),.d (.cx .f32 x69.Source.C.re x69.Source.C.im),.d (.sl false (v176.map qae))],.row 1 ([(qa1 .quo .f32 (FloatKind.nearest .f32 (w64 ((1:Int) + x71))) (1115684864:Nat)),(qa1 .quo .f32 (FloatKind.nearest .f32 (w64 ((1:Int) + x72))) (1107296256:Nat)),(qa1 .quo .f32 (FloatKind.nearest .f32 (w64 ((1:Int) + x73))) (1098907648:Nat))].map qag),.row 1 (v177.map qag)]) rfl (by simp) rfl (by trivial) ⟨rfl,trivial,rfl,trivial,rfl,trivial,rfl,trivial,rfl,trivial,rfl,trivial,rfl,trivial,rfl,trivial,rfl,trivial,rfl,trivial,rfl,trivial,trivial⟩) ?_
                    refine qa2 ?_
                    refine qa0 hτ rfl rfl rfl ?_
                    refine qa0 hτ rfl rfl rfl ?_
                    refine qa0 hτ rfl rfl rfl ?_
                    refine qba 132 rfl (fun hb247=>?_) (fun hb247=>?_)
                    · have hb247:=qil hb247
                      have h:=qdk h hb247
                      refine qaa rfl rfl ?_
                      refine qaa rfl rfl ?_
                      refine qa0 hτ rfl rfl rfl ?_
                      refine qa0 hτ rfl rfl rfl ?_
                      refine qaa rfl rfl ?_
                      refine qaa rfl rfl ?_
                      refine qa0 hτ rfl rfl rfl ?_
                      refine qa4 ?_
                      refine qa9 (qa3 [0,1,2] (l:=[(5,.ptr 0 0),(6,.d (.int .i64 x70)),(7,.row 1 ([(qa1 .quo .f32 (FloatKind.nearest .f32 (w64 ((1:Int) + x71))) (1115684864:Nat)),(qa1 .quo .f32 (FloatKind.nearest .f32 (w64 ((1:Int) + x72))) (1107296256:Nat)),(qa1 .quo .f32 (FloatKind.nearest .f32 (w64 ((1:Int) + x73))) (1098907648:Nat))].length) 0 ([(qa1 .quo .f32 (FloatKind.nearest .f32 (w64 ((1:Int) + x71))) (1115684864:Nat)),(qa1 .quo .f32 (FloatKind.nearest .f32 (w64 ((1:Int) + x72))) (1107296256:Nat)),(qa1 .quo .f32 (FloatKind.nearest .f32 (w64 ((1:Int) + x73))) (1098907648:Nat))].length)),(8,.d (.int .i64 x74.1)),(10,.row 2 v177.length 0 v177.length),(19,.d (.fl .f32 x235.2.1)),(69,.d (.int .i64 ([(qa1 .quo .f32 (FloatKind.nearest .f32 (w64 ((1:Int) + x71))) (1115684864:Nat)),(qa1 .quo .f32 (FloatKind.nearest .f32 (w64 ((1:Int) + x72))) (1107296256:Nat)),(qa1 .quo .f32 (FloatKind.nearest .f32 (w64 ((1:Int) + x73))) (1098907648:Nat))].length:Int))),(70,.d (.int .i64 v178)),(139,.d (.bool true))]) (objs:=[.box [.d (.cx .f32 x69.Source.A.re x69.Source.A.im),.d (.cx .f32 x69.Source.B.re x69.Source.B.im),.d (.cx .f32 x69.Source.C.re x69.Source.C.im),.d (.sl false (v176.map qae))],.row 1 ([(qa1 .quo .f32 (FloatKind.nearest .f32 (w64 ((1:Int) + x71))) (1115684864:Nat)),(qa1 .quo .f32 (FloatKind.nearest .f32 (w64 ((1:Int) + x72))) (1107296256:Nat)),(qa1 .quo .f32 (FloatKind.nearest .f32 (w64 ((1:Int) + x73))) (1098907648:Nat))].map qag),.row 1 (v177.map qag)]) rfl (by simp) rfl (by trivial) ⟨rfl,trivial,rfl,trivial,rfl,trivial,rfl,trivial,rfl,trivial,rfl,trivial,rfl,trivial,rfl,trivial,rfl,trivial,trivial⟩) ?_
                      exact hk246 true h
                    · have hb247:=qik hb247
                      have h:=qdl h hb247
                      refine qa0 hτ rfl rfl rfl ?_
                      refine qa0 hτ rfl rfl rfl ?_
                      refine qa0 hτ rfl rfl rfl ?_
                      refine qa0 hτ rfl rfl rfl ?_
                      refine qba 136 rfl (fun hb248=>?_) (fun hb248=>?_)
                      · have hb248:=qil hb248
                        have h:=qdk h hb248
                        refine qaa rfl rfl ?_
                        refine qaa rfl rfl ?_
                        refine qa0 hτ rfl rfl rfl ?_
                        refine qa4 ?_
                        refine qa9 (qa3 [0,1,2] (l:=[(5,.ptr 0 0),(6,.d (.int .i64 x70)),(7,.row 1 ([(qa1 .quo .f32 (FloatKind.nearest .f32 (w64 ((1:Int) + x71))) (1115684864:Nat)),(qa1 .quo .f32 (FloatKind.nearest .f32 (w64 ((1:Int) + x72))) (1107296256:Nat)),(qa1 .quo .f32 (FloatKind.nearest .f32 (w64 ((1:Int) + x73))) (1098907648:Nat))].length) 0 ([(qa1 .quo .f32 (FloatKind.nearest .f32 (w64 ((1:Int) + x71))) (1115684864:Nat)),(qa1 .quo .f32 (FloatKind.nearest .f32 (w64 ((1:Int) + x72))) (1107296256:Nat)),(qa1 .quo .f32 (FloatKind.nearest .f32 (w64 ((1:Int) + x73))) (1098907648:Nat))].length)),(8,.d (.int .i64 x74.1)),(10,.row 2 v177.length 0 v177.length),(19,.d (.fl .f32 x235.2.1)),(69,.d (.int .i64 ([(qa1 .quo .f32 (FloatKind.nearest .f32 (w64 ((1:Int) + x71))) (1115684864:Nat)),(qa1 .quo .f32 (FloatKind.nearest .f32 (w64 ((1:Int) + x72))) (1107296256:Nat)),(qa1 .quo .f32 (FloatKind.nearest .f32 (w64 ((1:Int) + x73))) (1098907648:Nat))].length:Int))),(70,.d (.int .i64 v178)),(139,.d (.bool true))]) (objs:=[.box [.d (.cx .f32 x69.Source.A.re x69.Source.A.im),.d (.cx .f32 x69.Source.B.re x69.Source.B.im),.d (.cx .f32 x69.Source.C.re x69.Source.C.im),.d (.sl false (v176.map qae))],.row 1 ([(qa1 .quo .f32 (FloatKind.nearest .f32 (w64 ((1:Int) + x71))) (1115684864:Nat)),(qa1 .quo .f32 (FloatKind.nearest .f32 (w64 ((1:Int) + x72))) (1107296256:Nat)),(qa1 .quo .f32 (FloatKind.nearest .f32 (w64 ((1:Int) + x73))) (1098907648:Nat))].map qag),.row 1 (v177.map qag)]) rfl (by simp) rfl (by trivial) ⟨rfl,trivial,rfl,trivial,rfl,trivial,rfl,trivial,rfl,trivial,rfl,trivial,rfl,trivial,rfl,trivial,rfl,trivial,trivial⟩) ?_
                        exact hk246 true h
                      · have hb248:=qik hb248
                        have h:=qdl h hb248
                        refine qa0 hτ rfl rfl rfl ?_
                        refine qa0 hτ rfl rfl rfl ?_
                        refine qa0 hτ rfl rfl rfl ?_
                        refine qa4 ?_
                        refine qa9 (qa3 [0,1,2] (l:=[(5,.ptr 0 0),(6,.d (.int .i64 x70)),(7,.row 1 ([(qa1 .quo .f32 (FloatKind.nearest .f32 (w64 ((1:Int) + x71))) (1115684864:Nat)),(qa1 .quo .f32 (FloatKind.nearest .f32 (w64 ((1:Int) + x72))) (1107296256:Nat)),(qa1 .quo .f32 (FloatKind.nearest .f32 (w64 ((1:Int) + x73))) (1098907648:Nat))].length) 0 ([(qa1 .quo .f32 (FloatKind.nearest .f32 (w64 ((1:Int) + x71))) (1115684864:Nat)),(qa1 .quo .f32 (FloatKind.nearest .f32 (w64 ((1:Int) + x72))) (1107296256:Nat)),(qa1 .quo .f32 (FloatKind.nearest .f32 (w64 ((1:Int) + x73))) (1098907648:Nat))].length)),(8,.d (.int .i64 x74.1)),(10,.row 2 v177.length 0 v177.length),(19,.d (.fl .f32 x235.2.1)),(69,.d (.int .i64 ([(qa1 .quo .f32 (FloatKind.nearest .f32 (w64 ((1:Int) + x71))) (1115684864:Nat)),(qa1 .quo .f32 (FloatKind.nearest .f32 (w64 ((1:Int) + x72))) (1107296256:Nat)),(qa1 .quo .f32 (FloatKind.nearest .f32 (w64 ((1:Int) + x73))) (1098907648:Nat))].length:Int))),(70,.d (.int .i64 v178)),(139,.d (.bool (!x235.2.2)))]) (objs:=[.box [.d (.cx .f32 x69.Source.A.re x69.Source.A.im),.d (.cx .f32 x69.Source.B.re x69.Source.B.im),.d (.cx .f32 x69.Source.C.re x69.Source.C.im),.d (.sl false (v176.map qae))],.row 1 ([(qa1 .quo .f32 (FloatKind.nearest .f32 (w64 ((1:Int) + x71))) (1115684864:Nat)),(qa1 .quo .f32 (FloatKind.nearest .f32 (w64 ((1:Int) + x72))) (1107296256:Nat)),(qa1 .quo .f32 (FloatKind.nearest .f32 (w64 ((1:Int) + x73))) (1098907648:Nat))].map qag),.row 1 (v177.map qag)]) rfl (by simp) rfl (by trivial) ⟨rfl,trivial,rfl,trivial,rfl,trivial,rfl,trivial,rfl,trivial,rfl,trivial,rfl,trivial,rfl,trivial,rfl,trivial,trivial⟩) ?_
                        exact hk246 (!x235.2.2) h
              · refine qa7 ?_
                refine qc0 (ι:=Bool) (fun v256=>St.of [(5,.ptr 0 0),(6,.d (.int .i64 x70)),(7,.row 1 ([(qa1 .quo .f32 (FloatKind.nearest .f32 (w64 ((1:Int) + x71))) (1115684864:Nat)),(qa1 .quo .f32 (FloatKind.nearest .f32 (w64 ((1:Int) + x72))) (1107296256:Nat)),(qa1 .quo .f32 (FloatKind.nearest .f32 (w64 ((1:Int) + x73))) (1098907648:Nat))].length) 0 ([(qa1 .quo .f32 (FloatKind.nearest .f32 (w64 ((1:Int) + x71))) (1115684864:Nat)),(qa1 .quo .f32 (FloatKind.nearest .f32 (w64 ((1:Int) + x72))) (1107296256:Nat)),(qa1 .quo .f32 (FloatKind.nearest .f32 (w64 ((1:Int) + x73))) (1098907648:Nat))].length)),(8,.d (.int .i64 x74.1)),(10,.row 2 v177.length 0 v177.length),(12,.ptr 3 0),(69,.d (.int .i64 ([(qa1 .quo .f32 (FloatKind.nearest .f32 (w64 ((1:Int) + x71))) (1115684864:Nat)),(qa1 .quo .f32 (FloatKind.nearest .f32 (w64 ((1:Int) + x72))) (1107296256:Nat)),(qa1 .quo .f32 (FloatKind.nearest .f32 (w64 ((1:Int) + x73))) (1098907648:Nat))].length:Int))),(70,.d (.int .i64 v178)),(111,.d (.bool v256))] [.box [.d (.cx .f32 x69.Source.A.re x69.Source.A.im),.d (.cx .f32 x69.Source.B.re x69.Source.B.im),.d (.cx .f32 x69.Source.C.re x69.Source.C.im),.d (.sl false (v176.map qae))],.row 1 ([(qa1 .quo .f32 (FloatKind.nearest .f32 (w64 ((1:Int) + x71))) (1115684864:Nat)),(qa1 .quo .f32 (FloatKind.nearest .f32 (w64 ((1:Int) + x72))) (1107296256:Nat)),(qa1 .quo .f32 (FloatKind.nearest .f32 (w64 ((1:Int) + x73))) (1098907648:Nat))].map qag),.row 1 (v177.map qag),.box [.d (.cx .f32 v225.Source.A.re v225.Source.A.im),.d (.cx .f32 v225.Source.B.re v225.Source.B.im),.d (.cx .f32 v225.Source.C.re v225.Source.C.im),.d (.sl false (v225.qa8.map qae))]] f3.ntmps 0) (fun v256=>qc9 n (qan n x69 x70 x71 x72 x73 x74 m199) v176 v177 v178 v225 v256 = some r) ?_ (fun hk258=>?_)
                · rintro v256 h
                  replace h:qc9 n (qan n x69 x70 x71 x72 x73 x74 m199) v176 v177 v178 v225 v256 = some r:=h
                  unfold qc9 at h
                  refine qaz rfl (fun hc257=>?_) (fun hc257=>?_)
                  · have h:=qdl h hc257
                    refine qa7 ?_
                    refine qa2 ?_
                    refine qa0 hτ rfl rfl rfl ?_
                    refine qa4 ?_
                    refine qa9 (qa3 [] (l:=[(4,.d (.bool false))]) (objs:=[]) rfl (by simp) rfl (by trivial) ⟨rfl,trivial,trivial⟩) ?_
                    refine qar ?_
                    have hr:=Option.some.inj h
                    subst hr
                    exact qah (.inr rfl) [] (objs':=[]) (new:=[]) rfl (by simp) (by simp) rfl (by trivial) rfl rfl (by trivial) (fun _=>⟨by simp [V.flat,V.qbd,V.qb6,D.flat],qal⟩) ⟨rfl,rfl,rfl⟩
                  · have h:=qdk h hc257
                    refine qb4 ?_
                    refine qa9 (qa3 [0,1,2,3] (l:=[(5,.ptr 0 0),(6,.d (.int .i64 x70)),(7,.row 1 ([(qa1 .quo .f32 (FloatKind.nearest .f32 (w64 ((1:Int) + x71))) (1115684864:Nat)),(qa1 .quo .f32 (FloatKind.nearest .f32 (w64 ((1:Int) + x72))) (1107296256:Nat)),(qa1 .quo .f32 (FloatKind.nearest .f32 (w64 ((1:Int) + x73))) (1098907648:Nat))].length) 0 ([(qa1 .quo .f32 (FloatKind.nearest .f32 (w64 ((1:Int) + x71))) (1115684864:Nat)),(qa1 .quo .f32 (FloatKind.nearest .f32 (w64 ((1:Int) + x72))) (1107296256:Nat)),(qa1 .quo .f32 (FloatKind.nearest .f32 (w64 ((1:Int) + x73))) (1098907648:Nat))].length)),(8,.d (.int .i64 x74.1)),(10,.row 2 v177.length 0 v177.length),(12,.ptr 3 0),(69,.d (.int .i64 ([(qa1 .quo .f32 (FloatKind.nearest .f32 (w64 ((1:Int) + x71))) (1115684864:Nat)),(qa1 .quo .f32 (FloatKind.nearest .f32 (w64 ((1:Int) + x72))) (1107296256:Nat)),(qa1 .quo .f32 (FloatKind.nearest .f32 (w64 ((1:Int) + x73))) (1098907648:Nat))].length:Int))),(70,.d (.int .i64 v178))]) (objs:=[.box [.d (.cx .f32 x69.Source.A.re x69.Source.A.im),.d (.cx .f32 x69.Source.B.re x69.Source.B.im),.d (.cx .f32 x69.Source.C.re x69.Source.C.im),.d (.sl false (v176.map qae))],.row 1 ([(qa1 .quo .f32 (FloatKind.nearest .f32 (w64 ((1:Int) + x71))) (1115684864:Nat)),(qa1 .quo .f32 (FloatKind.nearest .f32 (w64 ((1:Int) + x72))) (1107296256:Nat)),(qa1 .quo .f32 (FloatKind.nearest .f32 (w64 ((1:Int) + x73))) (1098907648:Nat))].map qag),.row 1 (v177.map qag),.box [.d (.cx .f32 v225.Source.A.re v225.Source.A.im),.d (.cx .f32 v225.Source.B.re v225.Source.B.im),.d (.cx .f32 v225.Source.C.re v225.Source.C.im),.d (.sl false (v225.qa8.map qae))]]) rfl (by simp) rfl (by trivial) ⟨rfl,trivial,rfl,trivial,rfl,trivial,rfl,trivial,rfl,trivial,rfl,trivial,rfl,trivial,rfl,trivial,trivial⟩) ?_
                    exact hk249 () h
                · refine qa7 ?_
                  refine qa2 ?_
                  refine qa0 hτ rfl rfl rfl ?_
                  refine qa0 hτ rfl rfl rfl ?_
                  refine qa0 hτ rfl rfl rfl ?_
                  refine qba 85 rfl (fun hb259=>?_) (fun hb259=>?_)
                  · have hb259:=qil hb259
                    have h:=qdk h hb259
                    refine qaa rfl rfl ?_
                    refine qaa rfl rfl ?_
                    refine qaa rfl rfl ?_
                    refine qa0 hτ rfl rfl rfl ?_
                    refine qa0 hτ rfl rfl rfl ?_
                    refine qaa rfl rfl ?_
                    refine qaa rfl rfl ?_
                    refine qaa rfl rfl ?_
                    refine qaa rfl rfl ?_
                    refine qb2 (qa3 [0,1,2,3] (l:=[(5,.ptr 0 0),(6,.d (.int .i64 x70)),(7,.row 1 ([(qa1 .quo .f32 (FloatKind.nearest .f32 (w64 ((1:Int) + x71))) (1115684864:Nat)),(qa1 .quo .f32 (FloatKind.nearest .f32 (w64 ((1:Int) + x72))) (1107296256:Nat)),(qa1 .quo .f32 (FloatKind.nearest .f32 (w64 ((1:Int) + x73))) (1098907648:Nat))].length) 0 ([(qa1 .quo .f32 (FloatKind.nearest .f32 (w64 ((1:Int) + x71))) (1115684864:Nat)),(qa1 .quo .f32 (FloatKind.nearest .f32 (w64 ((1:Int) + x72))) (1107296256:Nat)),(qa1 .quo .f32 (FloatKind.nearest .f32 (w64 ((1:Int) + x73))) (1098907648:Nat))].length)),(8,.d (.int .i64 x74.1)),(10,.row 2 v177.length 0 v177.length),(12,.ptr 3 0),(69,.d (.int .i64 ([(qa1 .quo .f32 (FloatKind.nearest .f32 (w64 ((1:Int) + x71))) (1115684864:Nat)),(qa1 .quo .f32 (FloatKind.nearest .f32 (w64 ((1:Int) + x72))) (1107296256:Nat)),(qa1 .quo .f32 (FloatKind.nearest .f32 (w64 ((1:Int) + x73))) (1098907648:Nat))].length:Int))),(70,.d (.int .i64 v178)),(90,.d (.bool true)),(93,.und),(94,.und)]) (objs:=[.box [.d (.cx .f32 x69.Source.A.re x69.Source.A.im),.d (.cx .f32 x69.Source.B.re x69.Source.B.im),.d (.cx .f32 x69.Source.C.re x69.Source.C.im),.d (.sl false (v176.map qae))],.row 1 ([(qa1 .quo .f32 (FloatKind.nearest .f32 (w64 ((1:Int) + x71))) (1115684864:Nat)),(qa1 .quo .f32 (FloatKind.nearest .f32 (w64 ((1:Int) + x72))) (1107296256:Nat)),(qa1 .quo .f32 (FloatKind.nearest .f32 (w64 ((1:Int) + x73))) (1098907648:Nat))].map qag),.row 1 (v177.map qag),.box [.d (.cx .f32 v225.Source.A.re v225.Source.A.im),.d (.cx .f32 v225.Source.B.re v225.Source.B.im),.d (.cx .f32 v225.Source.C.re v225.Source.C.im),.d (.sl false (v225.qa8.map qae))]]) rfl (by simp) rfl (by trivial) ⟨rfl,trivial,rfl,trivial,rfl,trivial,rfl,trivial,rfl,trivial,rfl,trivial,rfl,trivial,rfl,trivial,rfl,trivial,rfl,trivial,rfl,trivial,trivial⟩) ?_
                    refine qaa rfl rfl ?_
                    refine qaa rfl rfl ?_
                    refine qaa rfl rfl ?_
                    refine qaa rfl rfl ?_
                    refine qa0 hτ rfl rfl rfl ?_
                    refine qa0 hτ rfl rfl rfl ?_
                    refine qaa rfl rfl ?_
                    refine qaa rfl rfl ?_
                    refine qaa rfl rfl ?_
                    refine qaa rfl rfl ?_
                    refine qaa rfl rfl ?_
                    refine qaa rfl rfl ?_
                    refine qb2 (qa3 [0,1,2,3] (l:=[(5,.ptr 0 0),(6,.d (.int .i64 x70)),(7,.row 1 ([(qa1 .quo .f32 (FloatKind.nearest .f32 (w64 ((1:Int) + x71))) (1115684864:Nat)),(qa1 .quo .f32 (FloatKind.nearest .f32 (w64 ((1:Int) + x72))) (1107296256:Nat)),(qa1 .quo .f32 (FloatKind.nearest .f32 (w64 ((1:Int) + x73))) (1098907648:Nat))].length) 0 ([(qa1 .quo .f32 (FloatKind.nearest .f32 (w64 ((1:Int) + x71))) (1115684864:Nat)),(qa1 .quo .f32 (FloatKind.nearest .f32 (w64 ((1:Int) + x72))) (1107296256:Nat)),(qa1 .quo .f32 (FloatKind.nearest .f32 (w64 ((1:Int) + x73))) (1098907648:Nat))].length)),(8,.d (.int .i64 x74.1)),(10,.row 2 v177.length 0 v177.length),(12,.ptr 3 0),(69,.d (.int .i64 ([(qa1 .quo .f32 (FloatKind.nearest .f32 (w64 ((1:Int) + x71))) (1115684864:Nat)),(qa1 .quo .f32 (FloatKind.nearest .f32 (w64 ((1:Int) + x72))) (1107296256:Nat)),(qa1 .quo .f32 (FloatKind.nearest .f32 (w64 ((1:Int) + x73))) (1098907648:Nat))].length:Int))),(70,.d (.int .i64 v178)),(100,.d (.bool true)),(106,.und)]) (objs:=[.box [.d (.cx .f32 x69.Source.A.re x69.Source.A.im),.d (.cx .f32 x69.Source.B.re x69.Source.B.im),.d (.cx .f32 x69.Source.C.re x69.Source.C.im),.d (.sl false (v176.map qae))],.row 1 ([(qa1 .quo .f32 (FloatKind.nearest .f32 (w64 ((1:Int) + x71))) (1115684864:Nat)),(qa1 .quo .f32 (FloatKind.nearest .f32 (w64 ((1:Int) + x72))) (1107296256:Nat)),(qa1 .quo .f32 (FloatKind.nearest .f32 (w64 ((1:Int) + x73))) (1098907648:Nat))].map qag),.row 1 (v177.map qag),.box [.d (.cx .f32 v225.Source.A.re v225.Source.A.im),.d (.cx .f32 v225.Source.B.re v225.Source.B.im),.d (.cx .f32 v225.Source.C.re v225.Source.C.im),.d (.sl false (v225.qa8.map qae))]]) rfl (by simp) rfl (by trivial) ⟨rfl,trivial,rfl,trivial,rfl,trivial,rfl,trivial,rfl,trivial,rfl,trivial,rfl,trivial,rfl,trivial,rfl,trivial,rfl,trivial,trivial⟩) ?_
                    refine qaa rfl rfl ?_
                    refine qaa rfl rfl ?_
                    refine qaa rfl rfl ?_
                    refine qaa rfl rfl ?_
                    refine qa0 hτ rfl rfl rfl ?_
                    refine qa4 ?_
                    refine qa9 (qa3 [0,1,2,3] (l:=[(5,.ptr 0 0),(6,.d (.int .i64 x70)),(7,.row 1 ([(qa1 .quo .f32 (FloatKind.nearest .f32 (w64 ((1:Int) + x71))) (1115684864:Nat)),(qa1 .quo .f32 (FloatKind.nearest .f32 (w64 ((1:Int) + x72))) (1107296256:Nat)),(qa1 .quo .f32 (FloatKind.nearest .f32 (w64 ((1:Int) + x73))) (1098907648:Nat))].length) 0 ([(qa1 .quo .f32 (FloatKind.nearest .f32 (w64 ((1:Int) + x71))) (1115684864:Nat)),(qa1 .quo .f32 (FloatKind.nearest .f32 (w64 ((1:Int) + x72))) (1107296256:Nat)),(qa1 .quo .f32 (FloatKind.nearest .f32 (w64 ((1:Int) + x73))) (1098907648:Nat))].length)),(8,.d (.int .i64 x74.1)),(10,.row 2 v177.length 0 v177.length),(12,.ptr 3 0),(69,.d (.int .i64 ([(qa1 .quo .f32 (FloatKind.nearest .f32 (w64 ((1:Int) + x71))) (1115684864:Nat)),(qa1 .quo .f32 (FloatKind.nearest .f32 (w64 ((1:Int) + x72))) (1107296256:Nat)),(qa1 .quo .f32 (FloatKind.nearest .f32 (w64 ((1:Int) + x73))) (1098907648:Nat))].length:Int))),(70,.d (.int .i64 v178)),(111,.d (.bool true))]) (objs:=[.box [.d (.cx .f32 x69.Source.A.re x69.Source.A.im),.d (.cx .f32 x69.Source.B.re x69.Source.B.im),.d (.cx .f32 x69.Source.C.re x69.Source.C.im),.d (.sl false (v176.map qae))],.row 1 ([(qa1 .quo .f32 (FloatKind.nearest .f32 (w64 ((1:Int) + x71))) (1115684864:Nat)),(qa1 .quo .f32 (FloatKind.nearest .f32 (w64 ((1:Int) + x72))) (1107296256:Nat)),(qa1 .quo .f32 (FloatKind.nearest .f32 (w64 ((1:Int) + x73))) (1098907648:Nat))].map qag),.row 1 (v177.map qag),.box [.d (.cx .f32 v225.Source.A.re v225.Source.A.im),.d (.cx .f32 v225.Source.B.re v225.Source.B.im),.d (.cx .f32 v225.Source.C.re v225.Source.C.im),.d (.sl false (v225.qa8.map qae))]]) rfl (by simp) rfl (by trivial) ⟨rfl,trivial,rfl,trivial,rfl,trivial,rfl,trivial,rfl,trivial,rfl,trivial,rfl,trivial,rfl,trivial,rfl,trivial,trivial⟩) ?_
                    exact hk258 true h
                  · have hb259:=qik hb259
                    have h:=qdl h hb259
                    refine qa0 hτ rfl rfl rfl ?_
                    refine qab h fun x260 hx260 h=>?_
                    refine qad hτ false [] rfl rfl rfl (qaf func13 rfl rfl) rfl rfl (by simp) ⟨(by trivial),trivial⟩ (by trivial) (qcr n v225 hx260) ?_
                    rintro r0 o0 n0 ⟨rfl,rfl,rfl⟩ -
                    refine qa0 hτ rfl rfl rfl ?_
                    refine qa0 hτ rfl rfl rfl ?_
                    refine qa0 hτ rfl rfl rfl ?_
                    refine qba 90 rfl (fun hb261=>?_) (fun hb261=>?_)
                    · have hb261:=qil hb261
                      have h:=qdk h hb261
                      refine qaa rfl rfl ?_
                      refine qaa rfl rfl ?_
                      refine qaa rfl rfl ?_
                      refine qaa rfl rfl ?_
                      refine qb2 (qa3 [0,1,2,3] (l:=[(5,.ptr 0 0),(6,.d (.int .i64 x70)),(7,.row 1 ([(qa1 .quo .f32 (FloatKind.nearest .f32 (w64 ((1:Int) + x71))) (1115684864:Nat)),(qa1 .quo .f32 (FloatKind.nearest .f32 (w64 ((1:Int) + x72))) (1107296256:Nat)),(qa1 .quo .f32 (FloatKind.nearest .f32 (w64 ((1:Int) + x73))) (1098907648:Nat))].length) 0 ([(qa1 .quo .f32 (FloatKind.nearest .f32 (w64 ((1:Int) + x71))) (1115684864:Nat)),(qa1 .quo .f32 (FloatKind.nearest .f32 (w64 ((1:Int) + x72))) (1107296256:Nat)),(qa1 .quo .f32 (FloatKind.nearest .f32 (w64 ((1:Int) + x73))) (1098907648:Nat))].length)),(8,.d (.int .i64 x74.1)),(10,.row 2 v177.length 0 v177.length),(12,.ptr 3 0),(69,.d (.int .i64 ([(qa1 .quo .f32 (FloatKind.nearest .f32 (w64 ((1:Int) + x71))) (1115684864:Nat)),(qa1 .quo .f32 (FloatKind.nearest .f32 (w64 ((1:Int) + x72))) (1107296256:Nat)),(qa1 .quo .f32 (FloatKind.nearest .f32 (w64 ((1:Int) + x73))) (1098907648:Nat))].length:Int))),(70,.d (.int .i64 v178)),(90,.d (.bool true)),(93,.und),(94,.und)]) (objs:=[.box [.d (.cx .f32 x69.Source.A.re x69.Source.A.im),.d (.cx .f32 x69.Source.B.re x69.Source.B.im),.d (.cx .f32 x69.Source.C.re x69.Source.C.im),.d (.sl false (v176.map qae))],.row 1 ([(qa1 .quo .f32 (FloatKind.nearest .f32 (w64 ((1:Int) + x71))) (1115684864:Nat)),(qa1 .quo .f32 (FloatKind.nearest .f32 (w64 ((1:Int) + x72))) (1107296256:Nat)),(qa1 .quo .f32 (FloatKind.nearest .f32 (w64 ((1:Int) + x73))) (1098907648:Nat))].map qag),.row 1 (v177.map qag),.box [.d (.cx .f32 v225.Source.A.re v225.Source.A.im),.d (.cx .f32 v225.Source.B.re v225.Source.B.im),.d (.cx .f32 v225.Source.C.re v225.Source.C.im),.d (.sl false (v225.qa8.map qae))]]) rfl (by simp) rfl (by trivial) ⟨rfl,trivial,rfl,trivial,rfl,trivial,rfl,trivial,rfl,trivial,rfl,trivial,rfl,trivial,rfl,trivial,rfl,trivial,rfl,trivial,rfl,trivial,trivial⟩) ?_
                      refine qaa rfl rfl ?_
                      refine qaa rfl rfl ?_
                      refine qaa rfl rfl ?_
                      refine qaa rfl rfl ?_
                      refine qa0 hτ rfl rfl rfl ?_
                      refine qa0 hτ rfl rfl rfl ?_
                      refine qaa rfl rfl ?_
                      refine qaa rfl rfl ?_
                      refine qaa rfl rfl ?_
                      refine qaa rfl rfl ?_
                      refine qaa rfl rfl ?_
                      refine qaa rfl rfl ?_
                      refine qb2 (qa3 [0,1,2,3] (l:=[(5,.ptr 0 0),(6,.d (.int .i64 x70)),(7,.row 1 ([(qa1 .quo .f32 (FloatKind.nearest .f32 (w64 ((1:Int) + x71))) (1115684864:Nat)),(qa1 .quo .f32 (FloatKind.nearest .f32 (w64 ((1:Int) + x72))) (1107296256:Nat)),(qa1 .quo .f32 (FloatKind.nearest .f32 (w64 ((1:Int) + x73))) (1098907648:Nat))].length) 0 ([(qa1 .quo .f32 (FloatKind.nearest .f32 (w64 ((1:Int) + x71))) (1115684864:Nat)),(qa1 .quo .f32 (FloatKind.nearest .f32 (w64 ((1:Int) + x72))) (1107296256:Nat)),(qa1 .quo .f32 (FloatKind.nearest .f32 (w64 ((1:Int) + x73))) (1098907648:Nat))].length)),(8,.d (.int .i64 x74.1)),(10,.row 2 v177.length 0 v177.length),(12,.ptr 3 0),(69,.d (.int .i64 ([(qa1 .quo .f32 (FloatKind.nearest .f32 (w64 ((1:Int) + x71))) (1115684864:Nat)),(qa1 .quo .f32 (FloatKind.nearest .f32 (w64 ((1:Int) + x72))) (1107296256:Nat)),(qa1 .quo .f32 (FloatKind.nearest .f32 (w64 ((1:Int) + x73))) (1098907648:Nat))].length:Int))),(70,.d (.int .i64 v178)),(100,.d (.bool true)),(106,.und)]) (objs:=[.box [.d (.cx .f32 x69.Source.A.re x69.Source.A.im),.d (.cx .f32 x69.Source.B.re x69.Source.B.im),.d (.cx .f32 x69.Source.C.re x69.Source.C.im),.d (.sl false (v176.map qae))],.row 1 ([(qa1 .quo .f32 (FloatKind.nearest .f32 (w64 ((1:Int) + x71))) (1115684864:Nat)),(qa1 .quo .f32 (FloatKind.nearest .f32 (w64 ((1:Int) + x72))) (1107296256:Nat)),(qa1 .quo .f32 (FloatKind.nearest .f32 (w64 ((1:Int) + x73))) (1098907648:Nat))].map qag),.row 1 (v177.map qag),.box [.d (.cx .f32 v225.Source.A.re v225.Source.A.im),.d (.cx .f32 v225.Source.B.re v225.Source.B.im),.d (.cx .f32 v225.Source.C.re v225.Source.C.im),.d (.sl false (v225.qa8.map qae))]]) rfl (by simp) rfl (by trivial) ⟨rfl,trivial,rfl,trivial,rfl,trivial,rfl,trivial,rfl,trivial,rfl,trivial,rfl,trivial,rfl,trivial,rfl,trivial,rfl,trivial,trivial⟩) ?_
                      refine qaa rfl rfl ?_
                      refine qaa rfl rfl ?_
                      refine qaa rfl rfl ?_
                      refine qaa rfl rfl ?_
                      refine qa0 hτ rfl rfl rfl ?_
                      refine qa4 ?_
                      refine qa9 (qa3 [0,1,2,3] (l:=[(5,.ptr 0 0),(6,.d (.int .i64 x70)),(7,.row 1 ([(qa1 .quo .f32 (FloatKind.nearest .f32 (w64 ((1:Int) + x71))) (1115684864:Nat)),(qa1 .quo .f32 (FloatKind.nearest .f32 (w64 ((1:Int) + x72))) (1107296256:Nat)),(qa1 .quo .f32 (FloatKind.nearest .f32 (w64 ((1:Int) + x73))) (1098907648:Nat))].length) 0 ([(qa1 .quo .f32 (FloatKind.nearest .f32 (w64 ((1:Int) + x71))) (1115684864:Nat)),(qa1 .quo .f32 (FloatKind.nearest .f32 (w64 ((1:Int) + x72))) (1107296256:Nat)),(qa1 .quo .f32 (FloatKind.nearest .f32 (w64 ((1:Int) + x73))) (1098907648:Nat))].length)),(8,.d (.int .i64 x74.1)),(10,.row 2 v177.length 0 v177.length),(12,.ptr 3 0),(69,.d (.int .i64 ([(qa1 .quo .f32 (FloatKind.nearest .f32 (w64 ((1:Int) + x71))) (1115684864:Nat)),(qa1 .quo .f32 (FloatKind.nearest .f32 (w64 ((1:Int) + x72))) (1107296256:Nat)),(qa1 .quo .f32 (FloatKind.nearest .f32 (w64 ((1:Int) + x73))) (1098907648:Nat))].length:Int))),(70,.d (.int .i64 v178)),(111,.d (.bool true))]) (objs:=[.box [.d (.cx .f32 x69.Source.A.re x69.Source.A.im),.d (.cx .f32 x69.Source.B.re x69.Source.B.im),.d (.cx .f32 x69.Source.C.re x69.Source.C.im),.d (.sl false (v176.map qae))],.row 1 ([(qa1 .quo .f32 (FloatKind.nearest .f32 (w64 ((1:Int) + x71))) (1115684864:Nat)),(qa1 .quo .f32 (FloatKind.nearest .f32 (w64 ((1:Int) + x72))) (1107296256:Nat)),(qa1 .quo .f32 (FloatKind.nearest .f32 (w64 ((1:Int) + x73))) (1098907648:Nat))].map qag),.row 1 (v177.map qag),.box [.d (.cx .f32 v225.Source.A.re v225.Source.A.im),.d (.cx .f32 v225.Source.B.re v225.Source.B.im),.d (.cx .f32 v225.Source.C.re v225.Source.C.im),.d (.sl false (v225.qa8.map qae))]]) rfl (by simp) rfl (by trivial) ⟨rfl,trivial,rfl,trivial,rfl,trivial,rfl,trivial,rfl,trivial,rfl,trivial,rfl,trivial,rfl,trivial,rfl,trivial,trivial⟩) ?_
                      exact hk258 true h
                    · have hb261:=qik hb261
                      have h:=qdl h hb261
                      refine qa0 hτ rfl rfl rfl ?_
                      refine qa0 hτ rfl rfl rfl ?_
                      refine qa0 hτ (v:=.d (.int .i64 (v225.qa8.length:Int))) rfl rfl (Eq.trans rfl (qfb (f:=qae) v225.qa8)) ?_
                      refine qa0 hτ rfl rfl rfl ?_
                      refine qb2 (qa3 [0,1,2,3] (l:=[(5,.ptr 0 0),(6,.d (.int .i64 x70)),(7,.row 1 ([(qa1 .quo .f32 (FloatKind.nearest .f32 (w64 ((1:Int) + x71))) (1115684864:Nat)),(qa1 .quo .f32 (FloatKind.nearest .f32 (w64 ((1:Int) + x72))) (1107296256:Nat)),(qa1 .quo .f32 (FloatKind.nearest .f32 (w64 ((1:Int) + x73))) (1098907648:Nat))].length) 0 ([(qa1 .quo .f32 (FloatKind.nearest .f32 (w64 ((1:Int) + x71))) (1115684864:Nat)),(qa1 .quo .f32 (FloatKind.nearest .f32 (w64 ((1:Int) + x72))) (1107296256:Nat)),(qa1 .quo .f32 (FloatKind.nearest .f32 (w64 ((1:Int) + x73))) (1098907648:Nat))].length)),(8,.d (.int .i64 x74.1)),(10,.row 2 v177.length 0 v177.length),(12,.ptr 3 0),(69,.d (.int .i64 ([(qa1 .quo .f32 (FloatKind.nearest .f32 (w64 ((1:Int) + x71))) (1115684864:Nat)),(qa1 .quo .f32 (FloatKind.nearest .f32 (w64 ((1:Int) + x72))) (1107296256:Nat)),(qa1 .quo .f32 (FloatKind.nearest .f32 (w64 ((1:Int) + x73))) (1098907648:Nat))].length:Int))),(70,.d (.int .i64 v178)),(90,.d (.bool false)),(93,.d (.int .i64 (v225.qa8.length:Int))),(94,.ptr 0 3)]) (objs:=[.box [.d (.cx .f32 x69.Source.A.re x69.Source.A.im),.d (.cx .f32 x69.Source.B.re x69.Source.B.im),.d (.cx .f32 x69.Source.C.re x69.Source.C.im),.d (.sl false (v176.map qae))],.row 1 ([(qa1 .quo .f32 (FloatKind.nearest .f32 (w64 ((1:Int) + x71))) (1115684864:Nat)),(qa1 .quo .f32 (FloatKind.nearest .f32 (w64 ((1:Int) + x72))) (1107296256:Nat)),(qa1 .quo .f32 (FloatKind.nearest .f32 (w64 ((1:Int) + x73))) (1098907648:Nat))].map qag),.row 1 (v177.map qag),.box [.d (.cx .f32 v225.Source.A.re v225.Source.A.im),.d (.cx .f32 v225.Source.B.re v225.Source.B.im),.d (.cx .f32 v225.Source.C.re v225.Source.C.im),.d (.sl false (v225.qa8.map qae))]]) rfl (by simp) rfl (by trivial) ⟨rfl,trivial,rfl,trivial,rfl,trivial,rfl,trivial,rfl,trivial,rfl,trivial,rfl,trivial,rfl,trivial,rfl,trivial,rfl,trivial,rfl,trivial,trivial⟩) ?_
                      refine qa0 hτ rfl rfl rfl ?_
                      refine qa0 hτ (v:=.d (.int .i64 (v176.length:Int))) rfl rfl (Eq.trans rfl (qfb (f:=qae) v176)) ?_
                      refine qa0 hτ rfl rfl rfl ?_
                      refine qa0 hτ (v:=.d (.bool (!(decide ((v225.qa8.length:Int) = (w64 ((v176.length:Int) + (1:Int)))))))) rfl rfl (qrf _ _) ?_
                      refine qa0 hτ rfl rfl rfl ?_
                      refine qa0 hτ rfl rfl rfl ?_
                      refine qba 100 rfl (fun hb262=>?_) (fun hb262=>?_)
                      · have hb262:=qil hb262
                        have h:=if_f h hb262
                        refine qaa rfl rfl ?_
                        refine qaa rfl rfl ?_
                        refine qaa rfl rfl ?_
                        refine qaa rfl rfl ?_
                        refine qaa rfl rfl ?_
                        refine qaa rfl rfl ?_
                        refine qb2 (qa3 [0,1,2,3] (l:=[(5,.ptr 0 0),(6,.d (.int .i64 x70)),(7,.row 1 ([(qa1 .quo .f32 (FloatKind.nearest .f32 (w64 ((1:Int) + x71))) (1115684864:Nat)),(qa1 .quo .f32 (FloatKind.nearest .f32 (w64 ((1:Int) + x72))) (1107296256:Nat)),(qa1 .quo .f32 (FloatKind.nearest .f32 (w64 ((1:Int) + x73))) (1098907648:Nat))].length) 0 ([(qa1 .quo .f32 (FloatKind.nearest .f32 (w64 ((1:Int) + x71))) (1115684864:Nat)),(qa1 .quo .f32 (FloatKind.nearest .f32 (w64 ((1:Int) + x72))) (1107296256:Nat)),(qa1 .quo .f32 (FloatKind.nearest .f32 (w64 ((1:Int) + x73))) (1098907648:Nat))].length)),(8,.d (.int .i64 x74.1)),(10,.row 2 v177.length 0 v177.length),(12,.ptr 3 0),(69,.d (.int .i64 ([(qa1 .quo .f32 (FloatKind.nearest .f32 (w64 ((1:Int) + x71))) (1115684864:Nat)),(qa1 .quo .f32 (FloatKind.nearest .f32 (w64 ((1:Int) + x72))) (1107296256:Nat)),(qa1 .quo .f32 (FloatKind.nearest .f32 (w64 ((1:Int) + x73))) (1098907648:Nat))].length:Int))),(70,.d (.int .i64 v178)),(100,.d (.bool true)),(106,.und)]) (objs:=[.box [.d (.cx .f32 x69.Source.A.re x69.Source.A.im),.d (.cx .f32 x69.Source.B.re x69.Source.B.im),.d (.cx .f32 x69.Source.C.re x69.Source.C.im),.d (.sl false (v176.map qae))],.row 1 ([(qa1 .quo .f32 (FloatKind.nearest .f32 (w64 ((1:Int) + x71))) (1115684864:Nat)),(qa1 .quo .f32 (FloatKind.nearest .f32 (w64 ((1:Int) + x72))) (1107296256:Nat)),(qa1 .quo .f32 (FloatKind.nearest .f32 (w64 ((1:Int) + x73))) (1098907648:Nat))].map qag),.row 1 (v177.map qag),.box [.d (.cx .f32 v225.Source.A.re v225.Source.A.im),.d (.cx .f32 v225.Source.B.re v225.Source.B.im),.d (.cx .f32 v225.Source.C.re v225.Source.C.im),.d (.sl false (v225.qa8.map qae))]]) rfl (by simp) rfl (by trivial) ⟨rfl,trivial,rfl,trivial,rfl,trivial,rfl,trivial,rfl,trivial,rfl,trivial,rfl,trivial,rfl,trivial,rfl,trivial,rfl,trivial,trivial⟩) ?_
                        refine qaa rfl rfl ?_
                        refine qaa rfl rfl ?_
                        refine qaa rfl rfl ?_
                        refine qaa rfl rfl ?_
                        refine qa0 hτ rfl rfl rfl ?_
                        refine qa4 ?_
                        refine qa9 (qa3 [0,1,2,3] (l:=[(5,.ptr 0 0),(6,.d (.int .i64 x70)),(7,.row 1 ([(qa1 .quo .f32 (FloatKind.nearest .f32 (w64 ((1:Int) + x71))) (1115684864:Nat)),(qa1 .quo .f32 (FloatKind.nearest .f32 (w64 ((1:Int) + x72))) (1107296256:Nat)),(qa1 .quo .f32 (FloatKind.nearest .f32 (w64 ((1:Int) + x73))) (1098907648:Nat))].length) 0 ([(qa1 .quo .f32 (FloatKind.nearest .f32 (w64 ((1:Int) + x71))) (1115684864:Nat)),(qa1 .quo .f32 (FloatKind.nearest .f32 (w64 ((1:Int) + x72))) (1107296256:Nat)),(qa1 .quo .f32 (FloatKind.nearest .f32 (w64 ((1:Int) + x73))) (1098907648:Nat))].length)),(8,.d (.int .i64 x74.1)),(10,.row 2 v177.length 0 v177.length),(12,.ptr 3 0),(69,.d (.int .i64 ([(qa1 .quo .f32 (FloatKind.nearest .f32 (w64 ((1:Int) + x71))) (1115684864:Nat)),(qa1 .quo .f32 (FloatKind.nearest .f32 (w64 ((1:Int) + x72))) (1107296256:Nat)),(qa1 .quo .f32 (FloatKind.nearest .f32 (w64 ((1:Int) + x73))) (1098907648:Nat))].length:Int))),(70,.d (.int .i64 v178)),(111,.d (.bool true))]) (objs:=[.box [.d (.cx .f32 x69.Source.A.re x69.Source.A.im),.d (.cx .f32 x69.Source.B.re x69.Source.B.im),.d (.cx .f32 x69.Source.C.re x69.Source.C.im),.d (.sl false (v176.map qae))],.row 1 ([(qa1 .quo .f32 (FloatKind.nearest .f32 (w64 ((1:Int) + x71))) (1115684864:Nat)),(qa1 .quo .f32 (FloatKind.nearest .f32 (w64 ((1:Int) + x72))) (1107296256:Nat)),(qa1 .quo .f32 (FloatKind.nearest .f32 (w64 ((1:Int) + x73))) (1098907648:Nat))].map qag),.row 1 (v177.map qag),.box [.d (.cx .f32 v225.Source.A.re v225.Source.A.im),.d (.cx .f32 v225.Source.B.re v225.Source.B.im),.d (.cx .f32 v225.Source.C.re v225.Source.C.im),.d (.sl false (v225.qa8.map qae))]]) rfl (by simp) rfl (by trivial) ⟨rfl,trivial,rfl,trivial,rfl,trivial,rfl,trivial,rfl,trivial,rfl,trivial,rfl,trivial,rfl,trivial,rfl,trivial,trivial⟩) ?_
                        exact hk258 true h
                      · have hb262:=qik hb262
                        have h:=if_t h hb262
                        refine qa0 hτ rfl rfl rfl ?_
                        refine qa0 hτ rfl rfl rfl ?_
                        refine qa0 hτ rfl rfl rfl ?_
                        refine qa0 hτ rfl rfl rfl ?_
                        refine qa0 hτ (v:=.d (.int .i64 (v176.length:Int))) rfl rfl (Eq.trans rfl (qfb (f:=qae) v176)) ?_
                        refine qab h fun x263 hx263 h=>?_
                        refine qh0 hτ rfl rfl rfl (qei hx263).1 (qfz hx263) rfl ?_
                        refine qb2 (qa3 [0,1,2,3] (l:=[(5,.ptr 0 0),(6,.d (.int .i64 x70)),(7,.row 1 ([(qa1 .quo .f32 (FloatKind.nearest .f32 (w64 ((1:Int) + x71))) (1115684864:Nat)),(qa1 .quo .f32 (FloatKind.nearest .f32 (w64 ((1:Int) + x72))) (1107296256:Nat)),(qa1 .quo .f32 (FloatKind.nearest .f32 (w64 ((1:Int) + x73))) (1098907648:Nat))].length) 0 ([(qa1 .quo .f32 (FloatKind.nearest .f32 (w64 ((1:Int) + x71))) (1115684864:Nat)),(qa1 .quo .f32 (FloatKind.nearest .f32 (w64 ((1:Int) + x72))) (1107296256:Nat)),(qa1 .quo .f32 (FloatKind.nearest .f32 (w64 ((1:Int) + x73))) (1098907648:Nat))].length)),(8,.d (.int .i64 x74.1)),(10,.row 2 v177.length 0 v177.length),(12,.ptr 3 0),(69,.d (.int .i64 ([(qa1 .quo .f32 (FloatKind.nearest .f32 (w64 ((1:Int) + x71))) (1115684864:Nat)),(qa1 .quo .f32 (FloatKind.nearest .f32 (w64 ((1:Int) + x72))) (1107296256:Nat)),(qa1 .quo .f32 (FloatKind.nearest .f32 (w64 ((1:Int) + x73))) (1098907648:Nat))].length:Int))),(70,.d (.int .i64 v178)),(100,.d (.bool false)),(106,.rop [.int .i64 x263.qaw,.cx .f32 x263.Own.re x263.Own.im,.cx .f32 x263.Shared.re x263.Shared.im,.int .i64 x263.Kind,.cx .f32 x263.Load.A.re x263.Load.A.im,.cx .f32 x263.Load.B.re x263.Load.B.im,.cx .f32 x263.Load.C.re x263.Load.C.im,.int .i64 x263.qap] 0)]) (objs:=[.box [.d (.cx .f32 x69.Source.A.re x69.Source.A.im),.d (.cx .f32 x69.Source.B.re x69.Source.B.im),.d (.cx .f32 x69.Source.C.re x69.Source.C.im),.d (.sl false (v176.map qae))],.row 1 ([(qa1 .quo .f32 (FloatKind.nearest .f32 (w64 ((1:Int) + x71))) (1115684864:Nat)),(qa1 .quo .f32 (FloatKind.nearest .f32 (w64 ((1:Int) + x72))) (1107296256:Nat)),(qa1 .quo .f32 (FloatKind.nearest .f32 (w64 ((1:Int) + x73))) (1098907648:Nat))].map qag),.row 1 (v177.map qag),.box [.d (.cx .f32 v225.Source.A.re v225.Source.A.im),.d (.cx .f32 v225.Source.B.re v225.Source.B.im),.d (.cx .f32 v225.Source.C.re v225.Source.C.im),.d (.sl false (v225.qa8.map qae))]]) rfl (by simp) rfl (by trivial) ⟨rfl,trivial,rfl,trivial,rfl,trivial,rfl,trivial,rfl,trivial,rfl,trivial,rfl,trivial,rfl,trivial,rfl,trivial,rfl,trivial,trivial⟩) ?_
                        refine qa0 hτ rfl rfl rfl ?_
                        refine qa0 hτ rfl rfl rfl ?_
                        refine qa0 hτ rfl rfl rfl ?_
                        refine qa0 hτ (v:=.d (.bool (!(decide (x263.qaw = x70))))) rfl rfl (qrf _ _) ?_
                        refine qa0 hτ rfl rfl rfl ?_
                        refine qa4 ?_
                        refine qa9 (qa3 [0,1,2,3] (l:=[(5,.ptr 0 0),(6,.d (.int .i64 x70)),(7,.row 1 ([(qa1 .quo .f32 (FloatKind.nearest .f32 (w64 ((1:Int) + x71))) (1115684864:Nat)),(qa1 .quo .f32 (FloatKind.nearest .f32 (w64 ((1:Int) + x72))) (1107296256:Nat)),(qa1 .quo .f32 (FloatKind.nearest .f32 (w64 ((1:Int) + x73))) (1098907648:Nat))].length) 0 ([(qa1 .quo .f32 (FloatKind.nearest .f32 (w64 ((1:Int) + x71))) (1115684864:Nat)),(qa1 .quo .f32 (FloatKind.nearest .f32 (w64 ((1:Int) + x72))) (1107296256:Nat)),(qa1 .quo .f32 (FloatKind.nearest .f32 (w64 ((1:Int) + x73))) (1098907648:Nat))].length)),(8,.d (.int .i64 x74.1)),(10,.row 2 v177.length 0 v177.length),(12,.ptr 3 0),(69,.d (.int .i64 ([(qa1 .quo .f32 (FloatKind.nearest .f32 (w64 ((1:Int) + x71))) (1115684864:Nat)),(qa1 .quo .f32 (FloatKind.nearest .f32 (w64 ((1:Int) + x72))) (1107296256:Nat)),(qa1 .quo .f32 (FloatKind.nearest .f32 (w64 ((1:Int) + x73))) (1098907648:Nat))].length:Int))),(70,.d (.int .i64 v178)),(111,.d (.bool (!(decide (x263.qaw = x70)))))]) (objs:=[.box [.d (.cx .f32 x69.Source.A.re x69.Source.A.im),.d (.cx .f32 x69.Source.B.re x69.Source.B.im),.d (.cx .f32 x69.Source.C.re x69.Source.C.im),.d (.sl false (v176.map qae))],.row 1 ([(qa1 .quo .f32 (FloatKind.nearest .f32 (w64 ((1:Int) + x71))) (1115684864:Nat)),(qa1 .quo .f32 (FloatKind.nearest .f32 (w64 ((1:Int) + x72))) (1107296256:Nat)),(qa1 .quo .f32 (FloatKind.nearest .f32 (w64 ((1:Int) + x73))) (1098907648:Nat))].map qag),.row 1 (v177.map qag),.box [.d (.cx .f32 v225.Source.A.re v225.Source.A.im),.d (.cx .f32 v225.Source.B.re v225.Source.B.im),.d (.cx .f32 v225.Source.C.re v225.Source.C.im),.d (.sl false (v225.qa8.map qae))]]) rfl (by simp) rfl (by trivial) ⟨rfl,trivial,rfl,trivial,rfl,trivial,rfl,trivial,rfl,trivial,rfl,trivial,rfl,trivial,rfl,trivial,rfl,trivial,trivial⟩) ?_
                        exact hk258 (!(decide (x263.qaw = x70))) h
            · refine qa7 ?_
              refine qme mixed ?_
              refine qac hτ [0] 0 rfl rfl rfl rfl rfl ?_
              refine qac hτ [] 1 rfl rfl rfl rfl rfl ?_
              refine qac hτ [] 2 rfl rfl rfl rfl rfl ?_
              refine qac hτ [] 3 rfl rfl rfl rfl rfl ?_
              refine qab h fun x265 hx265 h=>?_
              refine qgh hτ [1] 4 rfl rfl rfl rfl rfl (qg0 hx265) ?_
              refine qgg hτ [1] 5 rfl rfl rfl rfl rfl (qbu _) (qhi hx265) rfl ?_
              refine qjv [6,10] (by kernel_rfl) fun _ hfs=>⟨?_,?_,trivial⟩
              · refine qab h fun x266 hx266 h=>?_
                refine qb8 hτ false [] [0,1,2] 6 rfl rfl rfl rfl (qaf func12 rfl rfl) rfl rfl (by simp) ⟨(by trivial),trivial,trivial,trivial⟩ (by trivial) (qhx n (qak.mk x69.Source v176) x70 x265 hx266) ⟨rfl,rfl,rfl,trivial⟩ ?_
                refine qfc hfs (by kernel_rfl) fun _=>?_
                refine qac hτ [] 7 rfl rfl rfl rfl rfl ?_
                refine qac hτ [] 8 rfl rfl rfl rfl rfl ?_
                refine qac hτ [] 9 rfl rfl rfl rfl rfl ?_
                refine qbs hτ [0,1,2] 10 rfl rfl rfl rfl ⟨rfl,rfl,rfl,trivial⟩ ?_
                refine qbs hτ [0,1,2] 11 rfl rfl rfl rfl ⟨rfl,rfl,rfl,trivial⟩ ?_
                refine qac hτ [] 12 rfl rfl rfl rfl rfl ?_
                refine qh8 (by kernel_rfl) ?_
                refine qa9 (qa3 [0,1,2,3] (l:=[(5,.ptr 0 0),(6,.d (.int .i64 x70)),(7,.row 1 ([(qa1 .quo .f32 (FloatKind.nearest .f32 (w64 ((1:Int) + x71))) (1115684864:Nat)),(qa1 .quo .f32 (FloatKind.nearest .f32 (w64 ((1:Int) + x72))) (1107296256:Nat)),(qa1 .quo .f32 (FloatKind.nearest .f32 (w64 ((1:Int) + x73))) (1098907648:Nat))].length) 0 ([(qa1 .quo .f32 (FloatKind.nearest .f32 (w64 ((1:Int) + x71))) (1115684864:Nat)),(qa1 .quo .f32 (FloatKind.nearest .f32 (w64 ((1:Int) + x72))) (1107296256:Nat)),(qa1 .quo .f32 (FloatKind.nearest .f32 (w64 ((1:Int) + x73))) (1098907648:Nat))].length)),(8,.d (.int .i64 x74.1)),(10,.row 2 v177.length 0 v177.length),(12,.ptr 3 0),(13,.d (.bool x266.2)),(69,.d (.int .i64 ([(qa1 .quo .f32 (FloatKind.nearest .f32 (w64 ((1:Int) + x71))) (1115684864:Nat)),(qa1 .quo .f32 (FloatKind.nearest .f32 (w64 ((1:Int) + x72))) (1107296256:Nat)),(qa1 .quo .f32 (FloatKind.nearest .f32 (w64 ((1:Int) + x73))) (1098907648:Nat))].length:Int))),(70,.d (.int .i64 v178))]) (objs:=[.box [.d (.cx .f32 x69.Source.A.re x69.Source.A.im),.d (.cx .f32 x69.Source.B.re x69.Source.B.im),.d (.cx .f32 x69.Source.C.re x69.Source.C.im),.d (.sl false (v176.map qae))],.row 1 ([(qa1 .quo .f32 (FloatKind.nearest .f32 (w64 ((1:Int) + x71))) (1115684864:Nat)),(qa1 .quo .f32 (FloatKind.nearest .f32 (w64 ((1:Int) + x72))) (1107296256:Nat)),(qa1 .quo .f32 (FloatKind.nearest .f32 (w64 ((1:Int) + x73))) (1098907648:Nat))].map qag),.row 1 (v177.map qag),.box [.d (.cx .f32 x266.1.Source.A.re x266.1.Source.A.im),.d (.cx .f32 x266.1.Source.B.re x266.1.Source.B.im),.d (.cx .f32 x266.1.Source.C.re x266.1.Source.C.im),.d (.sl false (x266.1.qa8.map qae))]]) rfl (by simp) rfl (by trivial) ⟨rfl,trivial,rfl,trivial,rfl,trivial,rfl,trivial,rfl,trivial,rfl,trivial,rfl,trivial,rfl,trivial,rfl,trivial,trivial⟩) ?_
                exact hk264 (x266.1,x266.2) h
              · refine qbs hτ [0,1,2] 10 rfl rfl rfl rfl ⟨rfl,rfl,rfl,trivial⟩ ?_
                refine qfc hfs (by kernel_rfl) fun _=>?_
                refine qab h fun x266 hx266 h=>?_
                refine qb8 hτ false [] [0,1,2,3] 6 rfl rfl rfl rfl (qaf func12 rfl rfl) rfl rfl (by simp) ⟨(by trivial),trivial,trivial,trivial⟩ (by trivial) (qhx n (qak.mk x69.Source v176) x70 x265 hx266) ⟨rfl,rfl,rfl,rfl,trivial⟩ ?_
                refine qac hτ [] 7 rfl rfl rfl rfl rfl ?_
                refine qac hτ [] 8 rfl rfl rfl rfl rfl ?_
                refine qac hτ [] 9 rfl rfl rfl rfl rfl ?_
                refine qbs hτ [0,1,2] 11 rfl rfl rfl rfl ⟨rfl,rfl,rfl,trivial⟩ ?_
                refine qac hτ [] 12 rfl rfl rfl rfl rfl ?_
                refine qh8 (by kernel_rfl) ?_
                refine qa9 (qa3 [0,1,2,3] (l:=[(5,.ptr 0 0),(6,.d (.int .i64 x70)),(7,.row 1 ([(qa1 .quo .f32 (FloatKind.nearest .f32 (w64 ((1:Int) + x71))) (1115684864:Nat)),(qa1 .quo .f32 (FloatKind.nearest .f32 (w64 ((1:Int) + x72))) (1107296256:Nat)),(qa1 .quo .f32 (FloatKind.nearest .f32 (w64 ((1:Int) + x73))) (1098907648:Nat))].length) 0 ([(qa1 .quo .f32 (FloatKind.nearest .f32 (w64 ((1:Int) + x71))) (1115684864:Nat)),(qa1 .quo .f32 (FloatKind.nearest .f32 (w64 ((1:Int) + x72))) (1107296256:Nat)),(qa1 .quo .f32 (FloatKind.nearest .f32 (w64 ((1:Int) + x73))) (1098907648:Nat))].length)),(8,.d (.int .i64 x74.1)),(10,.row 2 v177.length 0 v177.length),(12,.ptr 3 0),(13,.d (.bool x266.2)),(69,.d (.int .i64 ([(qa1 .quo .f32 (FloatKind.nearest .f32 (w64 ((1:Int) + x71))) (1115684864:Nat)),(qa1 .quo .f32 (FloatKind.nearest .f32 (w64 ((1:Int) + x72))) (1107296256:Nat)),(qa1 .quo .f32 (FloatKind.nearest .f32 (w64 ((1:Int) + x73))) (1098907648:Nat))].length:Int))),(70,.d (.int .i64 v178))]) (objs:=[.box [.d (.cx .f32 x69.Source.A.re x69.Source.A.im),.d (.cx .f32 x69.Source.B.re x69.Source.B.im),.d (.cx .f32 x69.Source.C.re x69.Source.C.im),.d (.sl false (v176.map qae))],.row 1 ([(qa1 .quo .f32 (FloatKind.nearest .f32 (w64 ((1:Int) + x71))) (1115684864:Nat)),(qa1 .quo .f32 (FloatKind.nearest .f32 (w64 ((1:Int) + x72))) (1107296256:Nat)),(qa1 .quo .f32 (FloatKind.nearest .f32 (w64 ((1:Int) + x73))) (1098907648:Nat))].map qag),.row 1 (v177.map qag),.box [.d (.cx .f32 x266.1.Source.A.re x266.1.Source.A.im),.d (.cx .f32 x266.1.Source.B.re x266.1.Source.B.im),.d (.cx .f32 x266.1.Source.C.re x266.1.Source.C.im),.d (.sl false (x266.1.qa8.map qae))]]) rfl (by simp) rfl (by trivial) ⟨rfl,trivial,rfl,trivial,rfl,trivial,rfl,trivial,rfl,trivial,rfl,trivial,rfl,trivial,rfl,trivial,rfl,trivial,trivial⟩) ?_
                exact hk264 (x266.1,x266.2) h
        · have h:=if_f h hc201
          refine qgi ?_
          refine qa9 (qa3 [2] (l:=[(8,.d (.int .i64 x74.1)),(10,.row 0 v177.length 0 v177.length)]) (objs:=[.row 1 (v177.map qag)]) rfl (by simp) rfl (by trivial) ⟨rfl,trivial,rfl,trivial,trivial⟩) ?_
          exact hk157 v177 h
    · refine qa7 ?_
      refine qc0 (ι:=Bool) (fun v271=>St.of [(5,.ptr 0 0),(6,.d (.int .i64 x70)),(7,.row 2 ([(qa1 .quo .f32 (FloatKind.nearest .f32 (w64 ((1:Int) + x71))) (1115684864:Nat)),(qa1 .quo .f32 (FloatKind.nearest .f32 (w64 ((1:Int) + x72))) (1107296256:Nat)),(qa1 .quo .f32 (FloatKind.nearest .f32 (w64 ((1:Int) + x73))) (1098907648:Nat))].length) 0 ([(qa1 .quo .f32 (FloatKind.nearest .f32 (w64 ((1:Int) + x71))) (1115684864:Nat)),(qa1 .quo .f32 (FloatKind.nearest .f32 (w64 ((1:Int) + x72))) (1107296256:Nat)),(qa1 .quo .f32 (FloatKind.nearest .f32 (w64 ((1:Int) + x73))) (1098907648:Nat))].length)),(8,.d (.int .i64 x74.1)),(66,.d (.bool v271))] [.box [.d (.cx .f32 x69.Source.A.re x69.Source.A.im),.d (.cx .f32 x69.Source.B.re x69.Source.B.im),.d (.cx .f32 x69.Source.C.re x69.Source.C.im),.row 1 x69.qa8.length 0 x69.qa8.length],.row 8 (x69.qa8.map qae),.row 1 ([(qa1 .quo .f32 (FloatKind.nearest .f32 (w64 ((1:Int) + x71))) (1115684864:Nat)),(qa1 .quo .f32 (FloatKind.nearest .f32 (w64 ((1:Int) + x72))) (1107296256:Nat)),(qa1 .quo .f32 (FloatKind.nearest .f32 (w64 ((1:Int) + x73))) (1098907648:Nat))].map qag)] f3.ntmps 0) (fun v271=>qcm n x69 x70 x71 x72 x73 x74 v271 = some r) ?_ (fun hk273=>?_)
      · rintro v271 h
        replace h:qcm n x69 x70 x71 x72 x73 x74 v271 = some r:=h
        unfold qcm at h
        refine qaz rfl (fun hc272=>?_) (fun hc272=>?_)
        · have h:=qdl h hc272
          refine qa7 ?_
          refine qa2 ?_
          refine qa0 hτ rfl rfl rfl ?_
          refine qa4 ?_
          refine qa9 (qa3 [] (l:=[(4,.d (.bool false))]) (objs:=[]) rfl (by simp) rfl (by trivial) ⟨rfl,trivial,trivial⟩) ?_
          refine qar ?_
          have hr:=Option.some.inj h
          subst hr
          exact qah (.inr rfl) [] (objs':=[]) (new:=[]) rfl (by simp) (by simp) rfl (by trivial) rfl rfl (by trivial) (fun _=>⟨by simp [V.flat,V.qbd,V.qb6,D.flat],qal⟩) ⟨rfl,rfl,rfl⟩
        · have h:=qdk h hc272
          refine qb4 ?_
          refine qa9 (qa3 [0,1,2] (l:=[(5,.ptr 0 0),(6,.d (.int .i64 x70)),(7,.row 2 ([(qa1 .quo .f32 (FloatKind.nearest .f32 (w64 ((1:Int) + x71))) (1115684864:Nat)),(qa1 .quo .f32 (FloatKind.nearest .f32 (w64 ((1:Int) + x72))) (1107296256:Nat)),(qa1 .quo .f32 (FloatKind.nearest .f32 (w64 ((1:Int) + x73))) (1098907648:Nat))].length) 0 ([(qa1 .quo .f32 (FloatKind.nearest .f32 (w64 ((1:Int) + x71))) (1115684864:Nat)),(qa1 .quo .f32 (FloatKind.nearest .f32 (w64 ((1:Int) + x72))) (1107296256:Nat)),(qa1 .quo .f32 (FloatKind.nearest .f32 (w64 ((1:Int) + x73))) (1098907648:Nat))].length)),(8,.d (.int .i64 x74.1))]) (objs:=[.box [.d (.cx .f32 x69.Source.A.re x69.Source.A.im),.d (.cx .f32 x69.Source.B.re x69.Source.B.im),.d (.cx .f32 x69.Source.C.re x69.Source.C.im),.row 1 x69.qa8.length 0 x69.qa8.length],.row 8 (x69.qa8.map qae),.row 1 ([(qa1 .quo .f32 (FloatKind.nearest .f32 (w64 ((1:Int) + x71))) (1115684864:Nat)),(qa1 .quo .f32 (FloatKind.nearest .f32 (w64 ((1:Int) + x72))) (1107296256:Nat)),(qa1 .quo .f32 (FloatKind.nearest .f32 (w64 ((1:Int) + x73))) (1098907648:Nat))].map qag)]) rfl (by simp) rfl (by trivial) ⟨rfl,trivial,rfl,trivial,rfl,trivial,rfl,trivial,trivial⟩) ?_
          exact hk267 () h
      · refine qa7 ?_
        refine qa9 (qa3 [0,1,2] (l:=[(5,.ptr 0 0),(6,.d (.int .i64 x70)),(7,.row 2 ([(qa1 .quo .f32 (FloatKind.nearest .f32 (w64 ((1:Int) + x71))) (1115684864:Nat)),(qa1 .quo .f32 (FloatKind.nearest .f32 (w64 ((1:Int) + x72))) (1107296256:Nat)),(qa1 .quo .f32 (FloatKind.nearest .f32 (w64 ((1:Int) + x73))) (1098907648:Nat))].length) 0 ([(qa1 .quo .f32 (FloatKind.nearest .f32 (w64 ((1:Int) + x71))) (1115684864:Nat)),(qa1 .quo .f32 (FloatKind.nearest .f32 (w64 ((1:Int) + x72))) (1107296256:Nat)),(qa1 .quo .f32 (FloatKind.nearest .f32 (w64 ((1:Int) + x73))) (1098907648:Nat))].length)),(8,.d (.int .i64 x74.1)),(9,.d (.bool x74.2))]) (objs:=[.box [.d (.cx .f32 x69.Source.A.re x69.Source.A.im),.d (.cx .f32 x69.Source.B.re x69.Source.B.im),.d (.cx .f32 x69.Source.C.re x69.Source.C.im),.row 1 x69.qa8.length 0 x69.qa8.length],.row 8 (x69.qa8.map qae),.row 1 ([(qa1 .quo .f32 (FloatKind.nearest .f32 (w64 ((1:Int) + x71))) (1115684864:Nat)),(qa1 .quo .f32 (FloatKind.nearest .f32 (w64 ((1:Int) + x72))) (1107296256:Nat)),(qa1 .quo .f32 (FloatKind.nearest .f32 (w64 ((1:Int) + x73))) (1098907648:Nat))].map qag)]) rfl (by simp) rfl (by trivial) ⟨rfl,trivial,rfl,trivial,rfl,trivial,rfl,trivial,rfl,trivial,trivial⟩) ?_
        refine qa2 ?_
        refine qa0 hτ rfl rfl rfl ?_
        refine qa0 hτ rfl rfl rfl ?_
        refine qa0 hτ rfl rfl rfl ?_
        refine qba 57 rfl (fun hb274=>?_) (fun hb274=>?_)
        · have hb274:=qil hb274
          have h:=qdk h hb274
          refine qaa rfl rfl ?_
          refine qaa rfl rfl ?_
          refine qa0 hτ rfl rfl rfl ?_
          refine qa0 hτ rfl rfl rfl ?_
          refine qaa rfl rfl ?_
          refine qaa rfl rfl ?_
          refine qaa rfl rfl ?_
          refine qaa rfl rfl ?_
          refine qa0 hτ rfl rfl rfl ?_
          refine qa4 ?_
          refine qa9 (qa3 [0,1,2] (l:=[(5,.ptr 0 0),(6,.d (.int .i64 x70)),(7,.row 2 ([(qa1 .quo .f32 (FloatKind.nearest .f32 (w64 ((1:Int) + x71))) (1115684864:Nat)),(qa1 .quo .f32 (FloatKind.nearest .f32 (w64 ((1:Int) + x72))) (1107296256:Nat)),(qa1 .quo .f32 (FloatKind.nearest .f32 (w64 ((1:Int) + x73))) (1098907648:Nat))].length) 0 ([(qa1 .quo .f32 (FloatKind.nearest .f32 (w64 ((1:Int) + x71))) (1115684864:Nat)),(qa1 .quo .f32 (FloatKind.nearest .f32 (w64 ((1:Int) + x72))) (1107296256:Nat)),(qa1 .quo .f32 (FloatKind.nearest .f32 (w64 ((1:Int) + x73))) (1098907648:Nat))].length)),(8,.d (.int .i64 x74.1)),(66,.d (.bool true))]) (objs:=[.box [.d (.cx .f32 x69.Source.A.re x69.Source.A.im),.d (.cx .f32 x69.Source.B.re x69.Source.B.im),.d (.cx .f32 x69.Source.C.re x69.Source.C.im),.row 1 x69.qa8.length 0 x69.qa8.length],.row 8 (x69.qa8.map qae),.row 1 ([(qa1 .quo .f32 (FloatKind.nearest .f32 (w64 ((1:Int) + x71))) (1115684864:Nat)),(qa1 .quo .f32 (FloatKind.nearest .f32 (w64 ((1:Int) + x72))) (1107296256:Nat)),(qa1 .quo .f32 (FloatKind.nearest .f32 (w64 ((1:Int) + x73))) (1098907648:Nat))].map qag)]) rfl (by simp) rfl (by trivial) ⟨rfl,trivial,rfl,trivial,rfl,trivial,rfl,trivial,rfl,trivial,trivial⟩) ?_
          exact hk273 true h
        · have hb274:=qik hb274
          have h:=qdl h hb274
          refine qa0 hτ rfl rfl rfl ?_
          refine qa0 hτ rfl rfl rfl ?_
          refine qa0 hτ rfl rfl rfl ?_
          refine qa0 hτ rfl rfl rfl ?_
          refine qba 61 rfl (fun hb275=>?_) (fun hb275=>?_)
          · have h:=if_t h hb275
            refine qaa rfl rfl ?_
            refine qaa rfl rfl ?_
            refine qaa rfl rfl ?_
            refine qaa rfl rfl ?_
            refine qa0 hτ rfl rfl rfl ?_
            refine qa4 ?_
            refine qa9 (qa3 [0,1,2] (l:=[(5,.ptr 0 0),(6,.d (.int .i64 x70)),(7,.row 2 ([(qa1 .quo .f32 (FloatKind.nearest .f32 (w64 ((1:Int) + x71))) (1115684864:Nat)),(qa1 .quo .f32 (FloatKind.nearest .f32 (w64 ((1:Int) + x72))) (1107296256:Nat)),(qa1 .quo .f32 (FloatKind.nearest .f32 (w64 ((1:Int) + x73))) (1098907648:Nat))].length) 0 ([(qa1 .quo .f32 (FloatKind.nearest .f32 (w64 ((1:Int) + x71))) (1115684864:Nat)),(qa1 .quo .f32 (FloatKind.nearest .f32 (w64 ((1:Int) + x72))) (1107296256:Nat)),(qa1 .quo .f32 (FloatKind.nearest .f32 (w64 ((1:Int) + x73))) (1098907648:Nat))].length)),(8,.d (.int .i64 x74.1)),(66,.d (.bool true))]) (objs:=[.box [.d (.cx .f32 x69.Source.A.re x69.Source.A.im),.d (.cx .f32 x69.Source.B.re x69.Source.B.im),.d (.cx .f32 x69.Source.C.re x69.Source.C.im),.row 1 x69.qa8.length 0 x69.qa8.length],.row 8 (x69.qa8.map qae),.row 1 ([(qa1 .quo .f32 (FloatKind.nearest .f32 (w64 ((1:Int) + x71))) (1115684864:Nat)),(qa1 .quo .f32 (FloatKind.nearest .f32 (w64 ((1:Int) + x72))) (1107296256:Nat)),(qa1 .quo .f32 (FloatKind.nearest .f32 (w64 ((1:Int) + x73))) (1098907648:Nat))].map qag)]) rfl (by simp) rfl (by trivial) ⟨rfl,trivial,rfl,trivial,rfl,trivial,rfl,trivial,rfl,trivial,trivial⟩) ?_
            exact hk273 true h
          · have h:=if_f h hb275
            refine qa0 hτ rfl rfl rfl ?_
            refine qa0 hτ rfl rfl rfl ?_
            refine qda hτ rfl rfl rfl (qbu _) ?_
            refine qa0 hτ rfl rfl rfl ?_
            refine qa0 hτ rfl rfl rfl ?_
            refine qa4 ?_
            refine qa9 (qa3 [0,1,2] (l:=[(5,.ptr 0 0),(6,.d (.int .i64 x70)),(7,.row 2 ([(qa1 .quo .f32 (FloatKind.nearest .f32 (w64 ((1:Int) + x71))) (1115684864:Nat)),(qa1 .quo .f32 (FloatKind.nearest .f32 (w64 ((1:Int) + x72))) (1107296256:Nat)),(qa1 .quo .f32 (FloatKind.nearest .f32 (w64 ((1:Int) + x73))) (1098907648:Nat))].length) 0 ([(qa1 .quo .f32 (FloatKind.nearest .f32 (w64 ((1:Int) + x71))) (1115684864:Nat)),(qa1 .quo .f32 (FloatKind.nearest .f32 (w64 ((1:Int) + x72))) (1107296256:Nat)),(qa1 .quo .f32 (FloatKind.nearest .f32 (w64 ((1:Int) + x73))) (1098907648:Nat))].length)),(8,.d (.int .i64 x74.1)),(66,.d (.bool (decide (x74.1 ≥ ([(qa1 .quo .f32 (FloatKind.nearest .f32 (w64 ((1:Int) + x71))) (1115684864:Nat)),(qa1 .quo .f32 (FloatKind.nearest .f32 (w64 ((1:Int) + x72))) (1107296256:Nat)),(qa1 .quo .f32 (FloatKind.nearest .f32 (w64 ((1:Int) + x73))) (1098907648:Nat))].length:Int)))))]) (objs:=[.box [.d (.cx .f32 x69.Source.A.re x69.Source.A.im),.d (.cx .f32 x69.Source.B.re x69.Source.B.im),.d (.cx .f32 x69.Source.C.re x69.Source.C.im),.row 1 x69.qa8.length 0 x69.qa8.length],.row 8 (x69.qa8.map qae),.row 1 ([(qa1 .quo .f32 (FloatKind.nearest .f32 (w64 ((1:Int) + x71))) (1115684864:Nat)),(qa1 .quo .f32 (FloatKind.nearest .f32 (w64 ((1:Int) + x72))) (1107296256:Nat)),(qa1 .quo .f32 (FloatKind.nearest .f32 (w64 ((1:Int) + x73))) (1098907648:Nat))].map qag)]) rfl (by simp) rfl (by trivial) ⟨rfl,trivial,rfl,trivial,rfl,trivial,rfl,trivial,rfl,trivial,trivial⟩) ?_
            exact hk273 (decide (x74.1 ≥ ([(qa1 .quo .f32 (FloatKind.nearest .f32 (w64 ((1:Int) + x71))) (1115684864:Nat)),(qa1 .quo .f32 (FloatKind.nearest .f32 (w64 ((1:Int) + x72))) (1107296256:Nat)),(qa1 .quo .f32 (FloatKind.nearest .f32 (w64 ((1:Int) + x73))) (1098907648:Nat))].length:Int))) h
theorem laws_FnBanks_ok (n:Nat) (code_:List Int) (more_:List Int) {r:Bool} (h:qfu n code_ more_ = some r):qay prog false 3 [.d (.sl false (code_.map qbb)),.d (.sl false (more_.map qbb))] [] (fun v o new=>v = .d (.bool r)∧o = []∧new = []):=laws_FnBanks_ok_fr0 false n code_ more_ h
end Go.Proofs.Ytdnkjocenbepaaa.AWN

namespace Go.Proofs.Ytdnkjocenbepaaa.AWN
open Go
theorem qdg {n:Int} (h0:-9223372036854775808 ≤ n) (h1:n < 9223372036854775808):w64 n = n:=by
  show IntKind.wrap .i64 n = n
  simp only [IntKind.wrap,IntKind.signed,IntKind.bits]
  simp
  omega
theorem u64_id {n:Int} (h0:0 ≤ n) (h1:n < 18446744073709551616):IntKind.wrap .u64 n = n:=by
  simp only [IntKind.wrap,IntKind.signed,IntKind.bits]
  simp
  omega
theorem qs5 (x:Int):0 ≤ qcb .and .u64 x 255∧qcb .and .u64 x 255 ≤ 255:=by
  unfold qcb
  have h:((BitVec.ofInt 64 x &&& BitVec.ofInt 64 255).toNat:Int) ≤ 255:=by
    rw [BitVec.toNat_and]
    have:(BitVec.ofInt 64 255).toNat = 255:=by decide
    rw [this]
    have:=@Nat.and_le_right (BitVec.ofInt 64 x).toNat 255
    omega
  show 0 ≤ IntKind.wrap .u64 ((BitVec.ofInt 64 x &&& BitVec.ofInt 64 255).toNat:Int)∧IntKind.wrap .u64 ((BitVec.ofInt 64 x &&& BitVec.ofInt 64 255).toNat:Int) ≤ 255
  rw [u64_id (by omega) (by omega)]
  omega
theorem qr6 {α:Type} {l:List α} {i:Int} (h0:0 ≤ i) (h1:i < l.length):∃ x,getI l i = some x∧x ∈ l∧l[i.toNat]? = some x:=by
  have hlt:i.toNat < l.length:=by omega
  refine ⟨l[i.toNat],?_,List.getElem_mem _,List.getElem?_eq_getElem hlt⟩
  unfold getI
  rw [if_pos h0,List.getElem?_eq_getElem hlt]
structure Src (s:qco) (b:Int):Prop where
  low:0 ≤ s.at_
  high:s.at_ ≤ b
  byte:∀ x ∈ s.code,0 ≤ x∧x < 256
theorem Src.mono {s:qco} {b c:Int} (h:Src s b) (hbc:b ≤ c):Src s c:=⟨h.low,by have:=h.high;omega,h.byte⟩
theorem qoo (n:Nat) {s:qco} {b:Int} (h:Src s b) (hb:b ≤ 1000000):∃ v s',qdf n s = some (v,s')∧0 ≤ v∧v ≤ 255∧Src s' (b + 1):=by
  have h1:=h.low
  have h2:=h.high
  have hj:∀ v:Int,0 ≤ v→v ≤ 255→∃ v' s',qbx n s v = some (v',s')∧0 ≤ v'∧v' ≤ 255∧Src s' (b + 1):=by
    intro v hv0 hv1
    unfold qbx
    have hw:w64 (s.at_ + 1) = s.at_ + 1:=qdg (by omega) (by omega)
    split
    · exact ⟨v,_,rfl,hv0,hv1,⟨by show 0 ≤ w64 _;rw [hw];omega,by show w64 _ ≤ _;rw [hw];omega,h.byte⟩⟩
    · refine ⟨_,_,rfl,?_,?_,⟨by show 0 ≤ w64 _;rw [hw];omega,by show w64 _ ≤ _;rw [hw];omega,h.byte⟩⟩
      · have:=qs5 ((IntKind.wrap .u64 ((IntKind.wrap .u64 ((IntKind.wrap .u64 (s.seed * (6364136223846793005:Int))) + (IntKind.wrap .u64 (v)))) + (1442695040888963407:Int))).fdiv (2 ^ min (40:Int).toNat (IntKind.bits .u64)))
        generalize qcb .and .u64 _ _ = z at *
        rw [qdg (by omega) (by omega)];exact this.1
      · have:=qs5 ((IntKind.wrap .u64 ((IntKind.wrap .u64 ((IntKind.wrap .u64 (s.seed * (6364136223846793005:Int))) + (IntKind.wrap .u64 (v)))) + (1442695040888963407:Int))).fdiv (2 ^ min (40:Int).toNat (IntKind.bits .u64)))
        generalize qcb .and .u64 _ _ = z at *
        rw [qdg (by omega) (by omega)];exact this.2
  unfold qdf
  split
  · rename_i hlt
    obtain ⟨x,hx,hm,_⟩:=qr6 h1 hlt
    rw [hx]
    have hb:=h.byte x hm
    simp only [Option.bind_some]
    rw [qdg (by omega) (by omega)]
    exact hj x (by omega) (by omega)
  · exact hj 0 (by omega) (by omega)
theorem pick_some (n:Nat) {s:qco} {b:Int} (h:Src s b) (hb:b ≤ 900000) (k:Int) (hk:k ≤ 100000):∃ v s',qau n s k = some (v,s')∧0 ≤ v∧(v < k ∨ v = 0)∧Src s' (b + 2):=by
  unfold qau
  split
  · exact ⟨0,s,rfl,by omega,by omega,h.mono (by omega)⟩
  · rename_i hk1
    have hj:∀ (v:Int) (s':qco),0 ≤ v→Src s' (b + 2)→∃ v' s'',qby n k s'.code s'.at_ s'.seed v = some (v',s'')∧0 ≤ v'∧(v' < k ∨ v' = 0)∧Src s'' (b + 2):=by
      intro v s' hv hs
      unfold qby grd
      rw [if_pos (show k ≠ 0 by omega)]
      refine ⟨_,_,rfl,?_,?_,hs⟩
      · rw [Int.tmod_eq_emod_of_nonneg hv];exact Int.emod_nonneg _ (by omega)
      · left;rw [Int.tmod_eq_emod_of_nonneg hv];exact Int.emod_lt_of_pos _ (by omega)
    obtain ⟨v1,s1,e1,a1,b1,c1⟩:=qoo n h (by omega)
    rw [e1]
    simp only [Option.bind_some]
    split
    · obtain ⟨v2,s2,e2,a2,b2,c2⟩:=qoo n c1 (by omega)
      rw [e2]
      simp only [Option.bind_some]
      rw [qdg (n:=v1 * 256) (by omega) (by omega),qdg (by omega) (by omega)]
      exact hj _ s2 (by omega) (c2.mono (by omega))
    · exact hj _ s1 a1 (c1.mono (by omega))
theorem qi5 (n:Nat) {s:qco} {b:Int} (h:Src s b) (hb:b ≤ 900000) (k:Int) (hk0:1 ≤ k) (hk:k ≤ 100000):∃ v s',qau n s k = some (v,s')∧0 ≤ v∧v < k∧Src s' (b + 2):=by
  obtain ⟨v,s',e,h1,h2,h3⟩:=pick_some n h hb k hk
  exact ⟨v,s',e,h1,by omega,h3⟩
end Go.Proofs.Ytdnkjocenbepaaa.AWN

namespace Go.Proofs.Ytdnkjocenbepaaa.AWN
open Go
structure qm9 (i:Nat) (x:SBus):Prop where
  root:i = 0→x.qaw = -1∧x.Own = ⟨0,0⟩∧x.Shared = ⟨0,0⟩
  up:0 < i→0 ≤ x.qaw∧x.qaw < i
  kind:0 ≤ x.Kind∧x.Kind < 3
  cust:0 ≤ x.qap∧x.qap < 30
structure VF (l:List SBus):Prop where
  one:1 ≤ l.length
  six:l.length ≤ 7
  bus:∀ i x,l[i]? = some x→qm9 i x
theorem snoc_ok {bl:List SBus} {x:SBus} (h:∀ i y,bl[i]? = some y→qm9 i y) (hx:qm9 bl.length x):∀ i y,(bl ++ [x])[i]? = some y→qm9 i y:=by
  intro i y hy
  rcases Nat.lt_or_ge i bl.length with hlt | hge
  · rw [List.getElem?_append_left hlt] at hy;exact h i y hy
  · rw [List.getElem?_append_right hge] at hy
    have:i - bl.length = 0:=by
      rcases Nat.eq_zero_or_pos (i - bl.length) with h0 | h0
      · exact h0
      · rw [List.getElem?_eq_none (by simp;omega)] at hy;cases hy
    rw [this] at hy
    simp at hy
    subst hy
    have:i = bl.length:=by omega
    rw [this];exact hx
theorem src_new {code:List Int} (h:∀ x ∈ code,0 ≤ x∧x < 256):Src (qco.mk code 0 0) 0:=⟨by simp,by simp,h⟩
end Go.Proofs.Ytdnkjocenbepaaa.AWN

namespace Go.Proofs.Ytdnkjocenbepaaa.AWN
open Go
/-! ### Lists of places -/
theorem qeh {α:Type} {l:List α} {i:Nat} {x:α} (h:l[i]? = some x):getI l (i:Int) = some x:=by
  unfold getI
  rw [if_pos (by omega),show ((i:Int)).toNat = i by omega,h]
/-! ### A list turned around -/
/-! ### Paths -/
def par (l:List SBus) (i:Nat):Nat:=((l[i]?.map SBus.qaw).getD 0).toNat
def cust (l:List SBus) (i:Nat):Int:=(l[i]?.map SBus.qap).getD 0
section
variable {l:List SBus} (hv:VF l)
include hv
theorem bus_at {i:Nat} (h:i < l.length):∃ x,l[i]? = some x∧qm9 i x∧x.qap = cust l i∧(0 < i→x.qaw = (par l i:Int)∧par l i < i):=by
  refine ⟨l[i],List.getElem?_eq_getElem h,hv.bus i _ (List.getElem?_eq_getElem h),by simp [cust,h],fun h0=>?_⟩
  have:=(hv.bus i _ (List.getElem?_eq_getElem h)).up h0
  have e:par l i = (l[i]).qaw.toNat:=by simp [par,h]
  rw [e];omega
end
end Go.Proofs.Ytdnkjocenbepaaa.AWN

namespace Go.Proofs.Ytdnkjocenbepaaa.AWN
open Go
theorem zero_eq:fcmp .eql .f32 0 0 = true:=by kernel_rfl
theorem qlm (n:Nat) (x a b:Int) (h:a ≤ x∧x ≤ b):qck n x a b = some true:=by
  unfold qck
  rw [if_pos (by omega),decide_eq_true h.2]
section
variable {f:qak} (hv:VF f.qa8)
include hv
theorem qqh (n:Nat):∀ (m k:Nat),k ≤ f.qa8.length→f.qa8.length - k < m→qaq n f m (k:Int) = some true
  | 0,k,_,h=>by omega
  | m + 1,k,hk,hm=>by
    have h6:=hv.six
    have h1:=hv.one
    unfold qaq
    split
    · rename_i hlt
      have hlt':k < f.qa8.length:=by omega
      obtain ⟨x,hx,hb,hc,hp⟩:=bus_at hv hlt'
      rw [qeh hx]
      simp only [Option.bind_some]
      unfold qgo
      rw [qlm n x.Kind 0 2 (by have:=hb.kind;omega)]
      simp only [Option.bind_some,if_true]
      rw [qlm n x.qap 0 1000000 (by have:=hb.cust;omega)]
      simp only [Option.bind_some]
      have ih:=qqh n m (k + 1) (by omega) (by omega)
      have e:((k + 1:Nat):Int) = (k:Int) + 1:=by omega
      rw [e] at ih
      unfold qcd
      rw [if_neg (by simp)]
      have j3:qcc n (qaq n f m) k = some true:=by
        unfold qcc
        rw [qdg (by omega) (by omega)];exact ih
      split
      · rename_i h0
        have hk0:k = 0:=by omega
        obtain ⟨r1,r2,r3⟩:=hb.root hk0
        rw [if_pos r1,r2,r3]
        simp only [zero_eq,Bool.and_self,if_true]
        unfold qbi
        rw [if_neg (by simp),if_neg (by omega)]
        unfold qbw
        rw [if_neg (by simp)]
        exact j3
      · rename_i h0
        have hk0:0 < k:=by omega
        obtain ⟨p1,p2⟩:=hp hk0
        unfold qbi
        rw [if_neg (by simp),if_pos (by omega),qdg (by omega) (by omega),qlm n x.qaw 0 ((k:Int) - 1) (by omega)]
        simp only [Option.bind_some]
        unfold qbw
        rw [if_neg (by simp)]
        exact j3
    · rename_i hge
      unfold qd4
      rw [qlm n (f.qa8.length:Int) 1 16 (by omega)]
      rfl
theorem qn9:qbh 100 f = some true:=by
  have h6:=hv.six
  exact qqh hv 100 100 0 (Nat.zero_le _) (by omega)
theorem qpz {b:Nat} (hb:b < f.qa8.length):qds 100 f (b:Int) = some true:=by
  have h6:=hv.six
  unfold qds
  rw [qn9 hv]
  simp only [Option.bind_some,if_true]
  rw [qdg (by omega) (by omega),qlm 100 (b:Int) 0 ((f.qa8.length:Int) - 1) (by omega)]
  rfl
/-! ### What is below is counted once -/
end
end Go.Proofs.Ytdnkjocenbepaaa.AWN

namespace Go.Proofs.Ytdnkjocenbepaaa.AWN
open Go
section
variable {f:qak} (hv:VF f.qa8)
include hv
end
end Go.Proofs.Ytdnkjocenbepaaa.AWN

namespace Go.Proofs.Ytdnkjocenbepaaa.AWN
open Go Ieee
def fwB (k:FloatKind) (w:Nat):Bool:=decide (w < 2 * k.format.signWeight) && (match k.format.read w with | .number ..=>true | _=>false)
theorem qmp {k:FloatKind} {w:Nat} (h:fwB k w = true):FW k w:=by
  unfold fwB at h
  rw [Bool.and_eq_true] at h
  obtain ⟨h1,h2⟩:=h
  refine ⟨of_decide_eq_true h1,?_⟩
  revert h2
  generalize hd:k.format.read w = d
  cases d with
  | number s m p=>intro _;exact ⟨s,m,p,hd⟩
  | _=>intro h;cases h
def bdB (k:FloatKind) (w:Nat) (a b:Rat):Bool:=fwB k w && decide (a ≤ qv k w) && decide (qv k w ≤ b)
theorem qqt {k:FloatKind} {w:Nat} {a b:Rat} (h:bdB k w a b = true):Bd k w a b:=by
  unfold bdB at h
  simp only [Bool.and_eq_true] at h
  exact ⟨qmp h.1.1,of_decide_eq_true h.1.2,of_decide_eq_true h.2⟩
theorem qko:Bd .f32 0 0 0:=qqt (by kernel_rfl)
structure ImpOk (x:SBus):Prop where
  o1:Bd .f32 x.Own.re 0 (1/4)
  o2:Bd .f32 x.Own.im 0 (1/4)
  s1:Bd .f32 x.Shared.re 0 0
  s2:Bd .f32 x.Shared.im 0 (1/8)
  lo:x.qaw = -1 ∨ 1/16 ≤ qv .f32 x.Own.re
end Go.Proofs.Ytdnkjocenbepaaa.AWN

namespace Go.Proofs.Ytdnkjocenbepaaa.AWN
open Go Ieee
theorem qrn:ulp .f32 = 1 / 16777216:=rfl
theorem qs0:ulp .f64 = 1 / 9007199254740992:=rfl
theorem qjg:tiny = 1 / 1000000000000000000000000000000:=rfl
theorem qjf:huge = 1000000000000000000000000000000:=rfl
def Ab (x B:Rat):Prop:=x ≤ B∧-x ≤ B
theorem Ab.mul {x y B C:Rat} (h1:Ab x B) (h2:Ab y C):Ab (x * y) (B * C):=by
  obtain ⟨a,b⟩:=h1;obtain ⟨c,d⟩:=h2
  have:=qi6 (x:=x) (y:=y) (B:=B) (C:=C) (by grind) a (by grind) c
  exact this
theorem Ab.nonneg {x B:Rat} (h:Ab x B):0 ≤ B:=by obtain ⟨a,b⟩:=h;grind
theorem Ab.div {z N w d:Rat} (h:Ab (z * N) (w * d)) (hd:0 < d) (hN:d ≤ N):Ab z w:=by
  obtain ⟨a,b⟩:=h
  have hw:0 ≤ w * d:=by grind
  have hw0:0 ≤ w:=by
    apply Rat.le_of_mul_le_mul_right (c:=d) _ hd
    grind
  have hwN:w * d ≤ w * N:=Rat.mul_le_mul_of_nonneg_left hN hw0
  have hN0:0 < N:=by grind
  exact ⟨Rat.le_of_mul_le_mul_right (c:=N) (by grind) hN0,Rat.le_of_mul_le_mul_right (c:=N) (by grind) hN0⟩
structure CB (x:Cx) (B:Rat):Prop where
  r:FW .f32 x.re
  i:FW .f32 x.im
  rb:Ab (qv .f32 x.re) B
  ib:Ab (qv .f32 x.im) B
theorem qkm (n:Nat) {x:Cx} {B:Rat} (h:CB x B):∃ a b,qeg n x = some (a,b)∧FW .f64 a∧FW .f64 b∧qv .f64 a = qv .f32 x.re∧qv .f64 b = qv .f32 x.im:=by
  obtain ⟨a,e1,w1,h1⟩:=qsc h.r
  obtain ⟨b,e2,w2,h2⟩:=qsc h.i
  refine ⟨a,b,?_,w1,w2,h1,h2⟩
  unfold qeg
  rw [e1,Option.bind_some,e2,Option.bind_some]
theorem qqm {a b c d:Nat} (ha:FW .f64 a) (hb:FW .f64 b) (hc:FW .f64 c) (hd:FW .f64 d) {P:Rat} (h1:Ab (qv .f64 a * qv .f64 b) P) (h2:Ab (qv .f64 c * qv .f64 d) P) (hP:P ≤ 1000000000000) :
    (FW .f64 (qa1 .sub .f64 (qa1 .mul .f64 a b) (qa1 .mul .f64 c d))∧Ab (qv .f64 (qa1 .sub .f64 (qa1 .mul .f64 a b) (qa1 .mul .f64 c d)) - (qv .f64 a * qv .f64 b - qv .f64 c * qv .f64 d)) (P / 1000000000000000 + 4 * tiny)) ∧
    (FW .f64 (qa1 .add .f64 (qa1 .mul .f64 a b) (qa1 .mul .f64 c d))∧Ab (qv .f64 (qa1 .add .f64 (qa1 .mul .f64 a b) (qa1 .mul .f64 c d)) - (qv .f64 a * qv .f64 b + qv .f64 c * qv .f64 d)) (P / 1000000000000000 + 4 * tiny)):=by
  have hP0:=h1.nonneg
  obtain ⟨u1,u2⟩:=h1
  obtain ⟨v1,v2⟩:=h2
  obtain ⟨w1,e1,e2⟩:=qry ha hb (M:=P) (by rw [qjf];grind) u1 u2
  obtain ⟨w2,e3,e4⟩:=qry hc hd (M:=P) (by rw [qjf];grind) v1 v2
  rw [qs0,qjg] at e1 e2 e3 e4
  obtain ⟨w3,e5,e6⟩:=qsq w1 w2 (M:=3 * P + 1 / 10000000000000000000000000) (by rw [qjf];grind) (by grind) (by grind)
  obtain ⟨w4,e7,e8⟩:=qsp w1 w2 (M:=3 * P + 1 / 10000000000000000000000000) (by rw [qjf];grind) (by grind) (by grind)
  rw [qs0,qjg] at e5 e6 e7 e8
  rw [qjg]
  exact ⟨⟨w3,by grind,by grind⟩,⟨w4,by grind,by grind⟩⟩
end Go.Proofs.Ytdnkjocenbepaaa.AWN

namespace Go.Proofs.Ytdnkjocenbepaaa.AWN
open Go Ieee
theorem Ab.mono {x B C:Rat} (h:Ab x B) (hBC:B ≤ C):Ab x C:=⟨Rat.le_trans h.1 hBC,Rat.le_trans h.2 hBC⟩
theorem Ab.qsw {x B:Rat} (hB:0 ≤ B) (h:x * x ≤ B * B):Ab x B:=⟨qhf hB h,qhf hB (by grind)⟩
theorem true_quot {xr xi yr yi T m:Rat} (hm:0 < m) (hN:m ≤ yr * yr + yi * yi) (hT:0 ≤ T) (hx:xr * xr + xi * xi ≤ T * T * (yr * yr + yi * yi)) :
    ∃ tr ti:Rat,tr * yr - ti * yi = xr∧tr * yi + ti * yr = xi∧tr * (yr * yr + yi * yi) = xr * yr + xi * yi∧ti * (yr * yr + yi * yi) = xi * yr - xr * yi∧Ab tr T∧Ab ti T:=by
  have hN0:0 < yr * yr + yi * yi:=by grind
  obtain ⟨N,hNe⟩:∃ N,N = yr * yr + yi * yi:=⟨_,rfl⟩
  have hd:∀ z:Rat,z / N * N = z:=by
    intro z
    rw [Rat.div_def,Rat.mul_assoc,Rat.inv_mul_cancel _ (by grind)];grind
  have h1:=hd (xr * yr + xi * yi)
  have h2:=hd (xi * yr - xr * yi)
  rw [← hNe] at hN0 hx hN ⊢
  generalize (xr * yr + xi * yi) / N = tr at h1
  generalize (xi * yr - xr * yi) / N = ti at h2
  have e1:tr * yr - ti * yi = xr:=qhp (c:=N) hN0 (by grind)
  have e2:tr * yi + ti * yr = xi:=qhp (c:=N) hN0 (by grind)
  have e3:tr * tr + ti * ti ≤ T * T:=by
    apply Rat.le_of_mul_le_mul_right (c:=N) _ hN0
    have:(tr * tr + ti * ti) * N = xr * xr + xi * xi:=by rw [← e1,← e2,hNe];grind
    rw [this];exact hx
  have q1:0 ≤ tr * tr:=by
    rcases (Rat.le_total:tr ≤ 0 ∨ 0 ≤ tr) with h | h
    · have:=Rat.mul_nonneg (show 0 ≤ -tr by grind) (show 0 ≤ -tr by grind);grind
    · exact Rat.mul_nonneg h h
  have q2:0 ≤ ti * ti:=by
    rcases (Rat.le_total:ti ≤ 0 ∨ 0 ≤ ti) with h | h
    · have:=Rat.mul_nonneg (show 0 ≤ -ti by grind) (show 0 ≤ -ti by grind);grind
    · exact Rat.mul_nonneg h h
  exact ⟨tr,ti,e1,e2,h1,h2,Ab.qsw hT (by grind),Ab.qsw hT (by grind)⟩
/-! ### Finite numbers -/
theorem isFin_some (n:Nat) {x:Nat} (h:FW .f32 x):qel n x = some true:=by
  obtain ⟨w,e⟩:=sub_self_zero h
  unfold qel
  rw [qsy w (qqo .f32).1,e,(qqo .f32).2];simp
/-! ### Lengths -/
theorem qoj (f:Format) {Z p:Int} (h:0 ≤ Z):0 ≤ kz f Z p:=by
  unfold kz
  split <;> omega
theorem qot {k:FloatKind} {x:Nat} (h:FW k x) (hk:0 ≤ key k.format x):0 ≤ qv k x:=by
  have:=(qoi (qqo k).1 h).2
  rw [(qqo k).2] at this
  apply this.1
  have:key k.format 0 = 0:=by cases k <;> rfl
  rw [this];exact hk
theorem qm4 {k:FloatKind} {x:Nat} (hx:FW k x) (hw:FW k (qa1 .mul k x x)):0 ≤ qv k (qa1 .mul k x x):=by
  apply qot hw
  rw [(qpv hx hx).2]
  apply qoj
  rcases Int.le_total 0 (vz k.format x) with h | h
  · exact Int.mul_nonneg h h
  · exact Int.mul_nonneg_of_nonpos_of_nonpos h h
theorem qp2 {k:FloatKind} {x:Nat} (h:0 ≤ qv k x):0 ≤ vz k.format x:=by
  unfold qv at h
  have hp:=qhe k.format.leastPlace
  rcases Int.le_total 0 (vz k.format x) with h1 | h1
  · exact h1
  · have h2:(vz k.format x:Rat) ≤ 0:=by exact_mod_cast h1
    rcases Int.lt_or_eq_of_le h1 with h3 | h3
    · exfalso
      have h4:(vz k.format x:Rat) < 0:=by exact_mod_cast h3
      have:=Rat.mul_pos (show 0 < -(vz k.format x:Rat) by grind) hp
      grind
    · omega
theorem add_nonneg_q {k:FloatKind} {x y:Nat} (hx:FW k x) (hy:FW k y) (h1:0 ≤ qv k x) (h2:0 ≤ qv k y) (hw:FW k (qa1 .add k x y)):0 ≤ qv k (qa1 .add k x y):=by
  apply qot hw
  rw [(qpu hx hy).2]
  apply qoj
  have:=qp2 h1;have:=qp2 h2;omega
theorem qpe (n:Nat) {x:Cx} {B:Rat} (hx:CB x B) (h1:B ≤ 1000000):∃ r,qbt n x = some r∧FW .f32 r∧Ab (qv .f32 r) (B * (3 / 2) + 1 / 1000000000000):=by
  obtain ⟨a,b,f1,wa,wb,ha,hb⟩:=qkm n hx
  have hB0:=hx.rb.nonneg
  have p1:=hx.rb.mul hx.rb
  have p2:=hx.ib.mul hx.ib
  have hBB:=Rat.mul_nonneg hB0 (show 0 ≤ 1000000 - B by grind)
  obtain ⟨_,s,t⟩:=qqm wa wa wb wb (P:=B * B) (by rw [ha];exact p1) (by rw [hb];exact p2) (by grind)
  rw [ha,hb] at t
  obtain ⟨v1,u1⟩:=qry wa wa (M:=B * B) (by rw [qjf];grind) (by rw [ha];exact p1.1) (by rw [ha];exact p1.2)
  obtain ⟨v2,u2⟩:=qry wb wb (M:=B * B) (by rw [qjf];grind) (by rw [hb];exact p2.1) (by rw [hb];exact p2.2)
  have nn:=add_nonneg_q v1 v2 (qm4 wa v1) (qm4 wb v2) s
  obtain ⟨w,g1,g2⟩:=sqrt_le_q s nn (B:=B * (1.45) + 1 / 10000000000000) (by grind) (by rw [qjf];grind) (by
    have:=t.1;have:=p1.1;have:=p2.1;rw [qjg] at *
    have h3:(B * (1.45) + 1 / 10000000000000) * (B * (1.45) + 1 / 10000000000000) = B * B * (1.45 * 1.45) + B * (2 * 1.45 / 10000000000000) + 1 / 100000000000000000000000000:=by grind
    rw [h3]
    grind)
  rw [qs0,qjg] at g1 g2
  obtain ⟨r,e1,w1,i1,i2⟩:=ql4 w (M:=B * (1.46) + 1 / 1000000000000) (by rw [qjf];grind) (by grind) (by grind)
  rw [qrn,qjg] at i1 i2
  refine ⟨r,?_,w1,by grind,by grind⟩
  unfold qbt qff qi2
  simp only [f1,Option.bind_some,e1]
end Go.Proofs.Ytdnkjocenbepaaa.AWN

namespace Go.Proofs.Ytdnkjocenbepaaa.AWN
open Go Ieee
set_option linter.unusedSectionVars false
section
variable {f:qak} (hv:VF f.qa8) (hi:∀ y ∈ f.qa8,ImpOk y)
include hv hi
end
def addC (x y:Cx):Cx:=Cx.mk (qa1 .add .f32 x.re y.re) (qa1 .add .f32 x.im y.im)
def subC (x y:Cx):Cx:=Cx.mk (qa1 .sub .f32 x.re y.re) (qa1 .sub .f32 x.im y.im)
/-! ### The three phases -/
def S3:Rat:=14529495 / 16777216
theorem Bd.eq {k:FloatKind} {x:Nat} {a:Rat} (h:Bd k x a a):qv k x = a:=Rat.le_antisymm h.hi h.lo
end Go.Proofs.Ytdnkjocenbepaaa.AWN

namespace Go.Proofs.Ytdnkjocenbepaaa.AWN
open Go Ieee
def cv (x:Cx):Cq:=⟨qv .f32 x.re,qv .f32 x.im⟩
structure FC (x:Cx):Prop where
  r:FW .f32 x.re
  i:FW .f32 x.im
theorem FC.cb {x:Cx} {B:Rat} (h:FC x) (hB:Mo (cv x) B):CB x B:=⟨h.r,h.i,hB.re,hB.im⟩
theorem addM {x y:Cx} {B C E:Rat} (fx:FC x) (fy:FC y) (hx:Mo (cv x) B) (hy:Mo (cv y) C) (hM:B + C ≤ 1000000000) (hE:(B + C) / 10000000 + 1 / 100000000000000000000 ≤ E) :
    FC (addC x y)∧Mo (cv (addC x y) - (cv x + cv y)) E:=by
  have hs:=hx.add hy
  have h0:=hs.pos
  obtain ⟨w1,r1,r2⟩:=qsp fx.r fy.r (M:=B + C) (by rw [qjf];grind) hs.re.1 hs.re.2
  obtain ⟨w2,r3,r4⟩:=qsp fx.i fy.i (M:=B + C) (by rw [qjf];grind) hs.im.1 hs.im.2
  rw [qrn,qjg] at r1 r2 r3 r4
  refine ⟨⟨w1,w2⟩,Mo.of (w:=(B + C) / 16777216 + 1 / 1000000000000000000000000000000) ?_ ?_ ?_ ?_ ?_⟩ <;> (try simp only [cv,addC,qky,qkx,qjn,qjm]) <;> grind
theorem subM {x y:Cx} {B C E:Rat} (fx:FC x) (fy:FC y) (hx:Mo (cv x) B) (hy:Mo (cv y) C) (hM:B + C ≤ 1000000000) (hE:(B + C) / 10000000 + 1 / 100000000000000000000 ≤ E) :
    FC (subC x y)∧Mo (cv (subC x y) - (cv x - cv y)) E:=by
  have hs:=hx.sub hy
  have h0:=hs.pos
  obtain ⟨w1,r1,r2⟩:=qsq fx.r fy.r (M:=B + C) (by rw [qjf];grind) hs.re.1 hs.re.2
  obtain ⟨w2,r3,r4⟩:=qsq fx.i fy.i (M:=B + C) (by rw [qjf];grind) hs.im.1 hs.im.2
  rw [qrn,qjg] at r1 r2 r3 r4
  refine ⟨⟨w1,w2⟩,Mo.of (w:=(B + C) / 16777216 + 1 / 1000000000000000000000000000000) ?_ ?_ ?_ ?_ ?_⟩ <;> (try simp only [cv,subC,qky,qkx,qjn,qjm]) <;> grind
theorem mulM (n:Nat) {x y:Cx} {B C D E:Rat} (fx:FC x) (fy:FC y) (hx:Mo (cv x) B) (hy:Mo (cv y) C) (hD:B * C ≤ D) (h1:D ≤ 1000000000) (hE:D / 10000000 + 1 / 10000000000000000000 ≤ E) :
    ∃ r,qbz n x y = some r∧FC r∧Mo (cv r - cv x * cv y) E:=by
  have cx:=fx.cb hx
  have cy:=fy.cb hy
  obtain ⟨a,b,e1,wa,wb,ha,hb⟩:=qkm n cx
  obtain ⟨c,d,e2,wc,wd,hc,hd⟩:=qkm n cy
  have up:∀ {z:Rat},Ab z (B * C)→Ab z D:=fun h=>⟨Rat.le_trans h.1 hD,Rat.le_trans h.2 hD⟩
  obtain ⟨⟨s1,t1⟩,_⟩:=qqm wa wc wb wd (P:=D) (by rw [ha,hc];exact up (cx.rb.mul cy.rb)) (by rw [hb,hd];exact up (cx.ib.mul cy.ib)) (by grind)
  obtain ⟨_,s2,t2⟩:=qqm wa wd wb wc (P:=D) (by rw [ha,hd];exact up (cx.rb.mul cy.ib)) (by rw [hb,hc];exact up (cx.ib.mul cy.rb)) (by grind)
  rw [ha,hb,hc,hd] at t1 t2
  have hp:=(hx.mul hy).mono hD
  have p1:=hp.re;have p2:=hp.im
  unfold cv at p1 p2
  simp only [qky,qkx,qjn,qjm,qnf,qne,qle,qmb] at p1 p2
  have hD0:=hp.pos
  obtain ⟨f1,f2⟩:=t1;obtain ⟨g1,g2⟩:=t2
  obtain ⟨a1,a2⟩:=p1;obtain ⟨b1,b2⟩:=p2
  rw [qjg] at f1 f2 g1 g2
  obtain ⟨r1,e3,w3,i1,i2⟩:=ql4 s1 (M:=D + D / 1000000 + 1 / 10000000000000000000000000) (by rw [qjf];grind) (by grind) (by grind)
  obtain ⟨r2,e4,w4,j1,j2⟩:=ql4 s2 (M:=D + D / 1000000 + 1 / 10000000000000000000000000) (by rw [qjf];grind) (by grind) (by grind)
  rw [qrn,qjg] at i1 i2 j1 j2
  refine ⟨⟨r1,r2⟩,?_,⟨w3,w4⟩,Mo.of (w:=D / 15000000 + 1 / 100000000000000000000) ?_ ?_ ?_ ?_ ?_⟩
  · unfold qbz
    simp only [e1,e2,e3,e4,Option.bind_some]
  all_goals (try simp only [cv,qle,qmb,qjn,qjm]) <;> grind
theorem qn4 {a p:Nat} (wa:FW .f64 a) (wp:FW .f64 p) {A N t T m eA eN e:Rat} (ht:t * N = A) (hT:Ab t T) (hm:0 < m) (hN:m ≤ N) (hA:Ab (qv .f64 a - A) eA) (hP:Ab (qv .f64 p - N) eN) (hs:eN ≤ m / 2) (hE:eA + T * eN ≤ e * (m / 2)) (he:e ≤ 1000000) (hT2:T ≤ 1000000) :
    ∃ r,qhg .f64 .f32 (qa1 .quo .f64 a p) = some r∧FW .f32 r∧Ab (qv .f32 r - t) (e + (T + e) / 15000000 + 1 / 10000000000000000000):=by
  have hp:m / 2 ≤ qv .f64 p:=by have:=hP.2;grind
  have hp0:0 < qv .f64 p:=by grind
  have hq:qv .f64 a / qv .f64 p * qv .f64 p = qv .f64 a:=by
    rw [Rat.div_def,Rat.mul_assoc,Rat.inv_mul_cancel _ (by grind)];grind
  generalize qv .f64 a / qv .f64 p = q at hq
  have hd:Ab ((q - t) * qv .f64 p) (e * (m / 2)):=by
    have h1:=hT.mul hP
    have h2:(q - t) * qv .f64 p = (qv .f64 a - A) - t * (qv .f64 p - N):=by rw [← ht,← hq];grind
    rw [h2]
    exact ⟨by have:=hA.1;have:=h1.2;grind,by have:=hA.2;have:=h1.1;grind⟩
  have hqt:=hd.div (by grind) hp
  have hT0:=hT.nonneg
  have he0:=hqt.nonneg
  obtain ⟨t1,t2⟩:=hT
  obtain ⟨d1,d2⟩:=hqt
  obtain ⟨w,r1,r2⟩:=q_quo wa wp (q:=q) (M:=T + e) (by rw [qjf];grind) (by grind) hq (by grind) (by grind)
  rw [qs0,qjg] at r1 r2
  obtain ⟨r,e1,w1,i1,i2⟩:=ql4 w (M:=(T + e) * (1 + 1 / 1000000) + 1 / 10000000000000000000000000) (by rw [qjf];grind) (by grind) (by grind)
  rw [qrn,qjg] at i1 i2
  exact ⟨r,e1,w1,by grind,by grind⟩
theorem quotM (n:Nat) {x y:Cx} {B C T m P E:Rat} (fx:FC x) (fy:FC y) (hx:Mo (cv x) B) (hy:Mo (cv y) C) (hm:0 < m) (hN:m ≤ n2 (cv y)) (hT:0 ≤ T)
    (hxy:n2 (cv x) ≤ T * T * n2 (cv y)) (hP1:B * C ≤ P) (hP2:C * C ≤ P) (hP:P ≤ 1000000000) (hs:P / 1000000000000000 + 4 * tiny ≤ m / 2) (hE:(1 + T) * (P / 1000000000000000 + 4 * tiny) ≤ 1 / 10000000 * (m / 2)) (hT2:T ≤ 1000000) (hE2:T / 10000000 + 2 / 10000000 ≤ E) :
    ∃ (r:Cx) (t:Cq),qbe n x y = some r∧FC r∧t * cv y = cv x∧Mo t T∧Mo (cv r - t) E:=by
  have cx:=fx.cb hx
  have cy:=fy.cb hy
  obtain ⟨tr,ti,e1,e2,e3,e4,b1,b2⟩:=true_quot hm hN hT hxy
  obtain ⟨a,b,f1,wa,wb,ha,hb⟩:=qkm n cx
  obtain ⟨cw,cneg⟩:=qsz fy.i
  have nib:Ab (-qv .f32 y.im) C:=⟨cy.ib.2,by have:=cy.ib.1;grind⟩
  have hcy:CB (Cx.mk y.re (fneg .f32 y.im)) C:=⟨fy.r,cw,cy.rb,by dsimp only;rw [cneg];exact nib⟩
  obtain ⟨c,d,f2,wc,wd,hc,hd⟩:=qkm n hcy
  obtain ⟨c',d',f3,wc',wd',hc',hd'⟩:=qkm n cy
  dsimp only at hc hd
  rw [cneg] at hd
  have up1:∀ {z:Rat},Ab z (B * C)→Ab z P:=fun h=>h.mono hP1
  have up2:∀ {z:Rat},Ab z (C * C)→Ab z P:=fun h=>h.mono hP2
  obtain ⟨⟨s1,t1⟩,_⟩:=qqm wa wc wb wd (P:=P) (by rw [ha,hc];exact up1 (cx.rb.mul cy.rb)) (by rw [hb,hd];exact up1 (cx.ib.mul nib)) (by grind)
  obtain ⟨_,s2,t2⟩:=qqm wa wd wb wc (P:=P) (by rw [ha,hd];exact up1 (cx.rb.mul nib)) (by rw [hb,hc];exact up1 (cx.ib.mul cy.rb)) (by grind)
  obtain ⟨_,s3,t3⟩:=qqm wc' wc' wd' wd' (P:=P) (by rw [hc'];exact up2 (cy.rb.mul cy.rb)) (by rw [hd'];exact up2 (cy.ib.mul cy.ib)) (by grind)
  rw [ha,hb,hc,hd] at t1 t2
  rw [hc',hd'] at t3
  have t1:Ab (qv .f64 (qa1 .sub .f64 (qa1 .mul .f64 a c) (qa1 .mul .f64 b d)) - (qv .f32 x.re * qv .f32 y.re + qv .f32 x.im * qv .f32 y.im)) (P / 1000000000000000 + 4 * tiny):=⟨by have:=t1.1;grind,by have:=t1.2;grind⟩
  have t2:Ab (qv .f64 (qa1 .add .f64 (qa1 .mul .f64 a d) (qa1 .mul .f64 b c)) - (qv .f32 x.im * qv .f32 y.re - qv .f32 x.re * qv .f32 y.im)) (P / 1000000000000000 + 4 * tiny):=⟨by have:=t2.1;grind,by have:=t2.2;grind⟩
  have hN':m ≤ qv .f32 y.re * qv .f32 y.re + qv .f32 y.im * qv .f32 y.im:=hN
  obtain ⟨r1,g1,w1,i1⟩:=qn4 (e:=1 / 10000000) s1 s3 e3 b1 hm hN' t1 t3 hs (by grind) (by grind) hT2
  obtain ⟨r2,g2,w2,i2⟩:=qn4 (e:=1 / 10000000) s2 s3 e4 b2 hm hN' t2 t3 hs (by grind) (by grind) hT2
  refine ⟨⟨r1,r2⟩,⟨tr,ti⟩,?_,⟨w1,w2⟩,?_,⟨hT,?_⟩,?_⟩
  · unfold qbe qci qff
    simp only [f1,f2,f3,Option.bind_some,g1,g2]
  · exact qld (by simp only [qky,qkx,qjn,qjm,qnf,qne,qle,qmb];exact e1) (by simp only [qky,qkx,qjn,qjm,qnf,qne,qle,qmb];exact e2)
  · apply Rat.le_of_mul_le_mul_right (c:=n2 (cv y)) _ (by grind)
    have:n2 (⟨tr,ti⟩:Cq) * n2 (cv y) = n2 (cv x):=by
      rw [← qsa];congr 1
      exact qld (by simp only [qky,qkx,qjn,qjm,qnf,qne,qle,qmb];exact e1) (by simp only [qky,qkx,qjn,qjm,qnf,qne,qle,qmb];exact e2)
    rw [this];exact hxy
  · obtain ⟨u1,u2⟩:=i1;obtain ⟨u3,u4⟩:=i2
    refine Mo.of (w:=1 / 10000000 + (T + 1 / 10000000) / 15000000 + 1 / 10000000000000000000) ?_ ?_ ?_ ?_ ?_
    all_goals (try simp only [cv,qle,qmb,qjn,qjm]) <;> grind
/-! ### The three phases -/
def a1:Cq:=⟨-(1/2),S3⟩
def a2:Cq:=⟨-(1/2),-S3⟩
theorem qnt {x a:Cq} {B e:Rat} (h:Mo (x - a) e) (ha:Mo a B):Mo x (B + e):=by
  have:=ha.add h
  have e1:a + (x - a) = x:=qld (by simp only [qky,qkx,qjn,qjm,qnf,qne,qle,qmb];grind) (by simp only [qky,qkx,qjn,qjm,qnf,qne,qle,qmb];grind)
  rw [e1] at this;exact this
end Go.Proofs.Ytdnkjocenbepaaa.AWN

namespace Go.Proofs.Ytdnkjocenbepaaa.AWN
open Go Ieee
theorem fc0:FC ⟨0,0⟩:=⟨qko.wk,qko.wk⟩
theorem cv0:cv ⟨0,0⟩ = ⟨0,0⟩:=qld qko.eq qko.eq
theorem mo0:Mo (⟨0,0⟩:Cq) 0:=⟨by decide,by decide +kernel⟩
theorem mo00:Mo (cv ⟨0,0⟩) 0:=by rw [cv0];exact mo0
def perW (v:Int) (d:Nat):Nat:=qa1 .quo .f32 (FloatKind.nearest .f32 v) d
theorem qq8 {v:Int} (h0:0 ≤ v) (h1:v ≤ 4):Bd .f32 (perW v 1115684864) (v / 64) (v / 64):=by
  have:v = 0 ∨ v = 1 ∨ v = 2 ∨ v = 3 ∨ v = 4:=by omega
  apply qqt
  rcases this with rfl | rfl | rfl | rfl | rfl <;> kernel_rfl
theorem qnu {v:Int} (h0:0 ≤ v) (h1:v ≤ 8):Bd .f32 (perW v 1082130432) (v / 4) (v / 4):=by
  have:v = 0 ∨ v = 1 ∨ v = 2 ∨ v = 3 ∨ v = 4 ∨ v = 5 ∨ v = 6 ∨ v = 7 ∨ v = 8:=by omega
  apply qqt
  rcases this with rfl | rfl | rfl | rfl | rfl | rfl | rfl | rfl | rfl <;> kernel_rfl
structure CM (x:Cx) (B:Rat):Prop where
  f:FC x
  m:Mo (cv x) B
theorem CM.mono {x:Cx} {B C:Rat} (h:CM x B) (hb:B ≤ C):CM x C:=⟨h.f,h.m.mono hb⟩
theorem cm0:CM ⟨0,0⟩ 0:=⟨fc0,mo00⟩
theorem qrr {a b:Nat} {x y B:Rat} (ha:Bd .f32 a x x) (hb:Bd .f32 b y y) (h0:0 ≤ x) (h1:0 ≤ y) (hB:0 ≤ B) (h:x * x + y * y ≤ B * B):CM ⟨a,b⟩ B:=by
  refine ⟨⟨ha.wk,hb.wk⟩,Mo.of2 (a:=x) (b:=y) ?_ ?_ ?_ ?_ hB h⟩
  · exact ha.hi
  · have:=ha.lo;unfold cv;dsimp only;grind
  · exact hb.hi
  · have:=hb.lo;unfold cv;dsimp only;grind
structure Mild (x:SBus):Prop where
  own:CM x.Own (782 / 10000)
  sh:x.Shared = ⟨0,0⟩
  a:CM x.Load.A (207 / 100)
  b:CM x.Load.B (207 / 100)
  c:CM x.Load.C (207 / 100)
  kind:x.Kind = 0 ∨ x.Kind = 1
def qsj (k:Int):Cx:=Cx.mk (FloatKind.nearest .f32 (w64 ((16:Int) + k))) (0:Nat)
structure SrcM (p:qa5):Prop where
  a:CM p.A (311 / 10)
  b:CM p.B (311 / 10)
  c:CM p.C (311 / 10)
  la:1599 / 100 * (1599 / 100) ≤ n2 (cv p.A)
  lb:1599 / 100 * (1599 / 100) ≤ n2 (cv p.B)
  lc:1599 / 100 * (1599 / 100) ≤ n2 (cv p.C)
def cmB (x:Cx):Bool:=fwB .f32 x.re && fwB .f32 x.im && decide (n2 (cv x) ≤ 311 / 10 * (311 / 10)) && decide (1599 / 100 * (1599 / 100) ≤ n2 (cv x))
theorem qqz {x:Cx} (h:cmB x = true):CM x (311 / 10)∧1599 / 100 * (1599 / 100) ≤ n2 (cv x):=by
  unfold cmB at h
  simp only [Bool.and_eq_true] at h
  exact ⟨⟨⟨qmp h.1.1.1,qmp h.1.1.2⟩,by grind,of_decide_eq_true h.1.2⟩,of_decide_eq_true h.2⟩
def evB (k:Int):Bool:=match qdq 100 (qsj k) with | some p=>cmB p.A && cmB p.B && cmB p.C | none=>false
theorem evB_0:evB 0 = true:=by kernel_rfl
theorem evB_1:evB 1 = true:=by kernel_rfl
theorem evB_2:evB 2 = true:=by kernel_rfl
theorem evB_3:evB 3 = true:=by kernel_rfl
theorem evB_4:evB 4 = true:=by kernel_rfl
theorem evB_5:evB 5 = true:=by kernel_rfl
theorem evB_6:evB 6 = true:=by kernel_rfl
theorem evB_7:evB 7 = true:=by kernel_rfl
theorem evB_8:evB 8 = true:=by kernel_rfl
theorem evB_9:evB 9 = true:=by kernel_rfl
theorem evB_10:evB 10 = true:=by kernel_rfl
theorem evB_11:evB 11 = true:=by kernel_rfl
theorem evB_12:evB 12 = true:=by kernel_rfl
theorem evB_13:evB 13 = true:=by kernel_rfl
theorem evB_14:evB 14 = true:=by kernel_rfl
theorem evB_15:evB 15 = true:=by kernel_rfl
theorem evY_some {k:Int} (h0:0 ≤ k) (h1:k < 16):∃ p,qdq 100 (qsj k) = some p∧SrcM p:=by
  have h:evB k = true:=by
    have:k = 0 ∨ k = 1 ∨ k = 2 ∨ k = 3 ∨ k = 4 ∨ k = 5 ∨ k = 6 ∨ k = 7 ∨ k = 8 ∨ k = 9 ∨ k = 10 ∨ k = 11 ∨ k = 12 ∨ k = 13 ∨ k = 14 ∨ k = 15:=by omega
    rcases this with rfl | rfl | rfl | rfl | rfl | rfl | rfl | rfl | rfl | rfl | rfl | rfl | rfl | rfl | rfl | rfl
    · exact evB_0
    · exact evB_1
    · exact evB_2
    · exact evB_3
    · exact evB_4
    · exact evB_5
    · exact evB_6
    · exact evB_7
    · exact evB_8
    · exact evB_9
    · exact evB_10
    · exact evB_11
    · exact evB_12
    · exact evB_13
    · exact evB_14
    · exact evB_15
  unfold evB at h
  revert h
  generalize qdq 100 (qsj k) = o
  cases o with
  | none=>intro h;cases h
  | some p =>
    intro h
    simp only [Bool.and_eq_true] at h
    obtain ⟨a1,a2⟩:=qqz h.1.1
    obtain ⟨b1,b2⟩:=qqz h.1.2
    obtain ⟨c1,c2⟩:=qqz h.2
    exact ⟨p,rfl,a1,b1,c1,a2,b2,c2⟩
theorem qrc (S:qa5):∀ (m:Nat) (s:qco) (b:Int) (bl:List SBus) (c:Int),Src s b→b ≤ 1000 + 100 * bl.length→0 ≤ c→c ≤ 5→(bl.length:Int) + c ≤ 6→1 ≤ bl.length→c < m→(∀ i y,bl[i]? = some y→qm9 i y)→(∀ y ∈ bl,Mild y)→(∀ y,bl[0]? = some y→y.Load = ⟨⟨0,0⟩,⟨0,0⟩,⟨0,0⟩⟩) →
    ∃ l,qce 100 S m s.code s.at_ s.seed bl c = some (qak.mk S l)∧(l.length ≤ 6∧1 ≤ l.length)∧(∀ i y,l[i]? = some y→qm9 i y)∧(∀ y ∈ l,Mild y)∧∀ y,l[0]? = some y→y.Load = ⟨⟨0,0⟩,⟨0,0⟩,⟨0,0⟩⟩
  | 0,s,b,bl,c,_,_,_,_,_,_,h,_,_,_=>by omega
  | m + 1,s,b,bl,c,hs,hb,hc0,hc5,hlen,hl1,hm,hok,hmi,hrt=>by
    unfold qce
    by_cases hgt:c > 0
    · rw [if_pos hgt]
      obtain ⟨v1,s1,e1,a1,b1,h1⟩:=qi5 100 hs (by omega) (bl.length:Int) (by omega) (by omega)
      obtain ⟨v2,s2,e2,a2,b2,h2⟩:=qi5 100 h1 (by omega) 4 (by omega) (by omega)
      obtain ⟨v3,s3,e3,a3,b3,h3⟩:=qi5 100 h2 (by omega) 4 (by omega) (by omega)
      obtain ⟨v4,s4,e4,a4,b4,h4⟩:=qi5 100 h3 (by omega) 2 (by omega) (by omega)
      obtain ⟨v5,s5,e5,a5,b5,h5⟩:=qi5 100 h4 (by omega) 9 (by omega) (by omega)
      obtain ⟨v6,s6,e6,a6,b6,h6⟩:=qi5 100 h5 (by omega) 3 (by omega) (by omega)
      obtain ⟨v7,s7,e7,a7,b7,h7⟩:=qi5 100 h6 (by omega) 9 (by omega) (by omega)
      obtain ⟨v8,s8,e8,a8,b8,h8⟩:=qi5 100 h7 (by omega) 9 (by omega) (by omega)
      obtain ⟨v9,s9,e9,a9,b9,h9⟩:=qi5 100 h8 (by omega) 30 (by omega) (by omega)
      have e1':qau 100 (qco.mk s.code s.at_ s.seed) (bl.length:Int) = some (v1,s1):=e1
      rw [e1',Option.bind_some]
      dsimp only
      rw [e2,Option.bind_some]
      dsimp only
      rw [e3,Option.bind_some]
      dsimp only
      rw [e4,Option.bind_some]
      dsimp only
      rw [e5,Option.bind_some]
      dsimp only
      rw [e6,Option.bind_some]
      dsimp only
      rw [e7,Option.bind_some]
      dsimp only
      rw [e8,Option.bind_some]
      dsimp only
      rw [e9,Option.bind_some]
      dsimp only
      unfold grd
      rw [if_pos (show room (bl.length + 1) 64 by unfold room;omega),qdg (n:=1 + v2) (by omega) (by omega),qdg (n:=c - 1) (by omega) (by omega)]
      have q4:(v4:Int) = 0 ∨ v4 = 1:=by omega
      apply qrc S m s9 (b + 18) _ (c - 1) (h9.mono (by omega)) (by simp;omega) (by omega) (by omega) (by simp;omega) (by simp) (by omega)
      · exact snoc_ok hok ⟨fun h=>by omega,fun _=>⟨a1,b1⟩,⟨a4,by dsimp only;omega⟩,⟨a9,b9⟩⟩
      · intro y hy
        rcases List.mem_append.1 hy with h | h
        · exact hmi y h
        · rw [List.mem_singleton.1 h]
          have r2:((1 + v2:Int):Rat) ≤ 4:=by exact_mod_cast (show 1 + v2 ≤ 4 by omega)
          have r2':(0:Rat) ≤ ((1 + v2:Int):Rat):=by exact_mod_cast (show 0 ≤ 1 + v2 by omega)
          have r3:(v3:Rat) ≤ 3:=by exact_mod_cast (show v3 ≤ 3 by omega)
          have r3':(0:Rat) ≤ (v3:Rat):=by exact_mod_cast a3
          have r5:(v5:Rat) ≤ 8:=by exact_mod_cast (show v5 ≤ 8 by omega)
          have r5':(0:Rat) ≤ (v5:Rat):=by exact_mod_cast a5
          have r6:(v6:Rat) ≤ 2:=by exact_mod_cast (show v6 ≤ 2 by omega)
          have r6':(0:Rat) ≤ (v6:Rat):=by exact_mod_cast a6
          have r7:(v7:Rat) ≤ 8:=by exact_mod_cast (show v7 ≤ 8 by omega)
          have r7':(0:Rat) ≤ (v7:Rat):=by exact_mod_cast a7
          have r8:(v8:Rat) ≤ 8:=by exact_mod_cast (show v8 ≤ 8 by omega)
          have r8':(0:Rat) ≤ (v8:Rat):=by exact_mod_cast a8
          have sq:∀ {x k:Rat},0 ≤ x→x ≤ k→x * x ≤ k * k:=fun h1 h2=>qin h1 h2 h1 h2
          have p2:=sq r2' r2;have p3:=sq r3' r3;have p5:=sq r5' r5;have p6:=sq r6' r6;have p7:=sq r7' r7;have p8:=sq r8' r8
          refine ⟨?_,rfl,?_,?_,?_,q4⟩
          · exact qrr (qq8 (v:=1 + v2) (by omega) (by omega)) (qq8 (v:=v3) (by omega) (by omega)) (by grind) (by grind) (by grind) (by grind)
          · exact qrr (qnu (v:=v5) (by omega) (by omega)) (qnu (v:=v6) (by omega) (by omega)) (by grind) (by grind) (by grind) (by grind)
          · exact qrr (qnu (v:=v7) (by omega) (by omega)) qko (by grind) (by grind) (by grind) (by grind)
          · exact qrr (qnu (v:=v8) (by omega) (by omega)) qko (by grind) (by grind) (by grind) (by grind)
      · intro y hy
        rw [List.getElem?_append_left (by omega)] at hy
        exact hrt y hy
    · rw [if_neg hgt]
      exact ⟨bl,rfl,⟨by omega,hl1⟩,hok,hmi,hrt⟩
theorem mild_some {code:List Int} (hc:∀ x ∈ code,0 ≤ x∧x < 256):∃ f:qak,qf7 100 code = some f∧SrcM f.Source∧(f.qa8.length ≤ 6∧1 ≤ f.qa8.length)∧(∀ i y,f.qa8[i]? = some y→qm9 i y)∧(∀ y ∈ f.qa8,Mild y)∧∀ y,f.qa8[0]? = some y→y.Load = ⟨⟨0,0⟩,⟨0,0⟩,⟨0,0⟩⟩:=by
  have h:=src_new hc
  obtain ⟨v,s1,e1,a1,b1,h1⟩:=qi5 100 h (by omega) 16 (by omega) (by omega)
  obtain ⟨p,e2,hp⟩:=evY_some a1 b1
  obtain ⟨w,s4,e4,a4,b4,h4⟩:=qi5 100 h1 (by omega) 5 (by omega) (by omega)
  obtain ⟨l,e5,h5,h6,h7⟩:=qrc p 100 s4 4 [SBus.mk (-1) ⟨0,0⟩ ⟨0,0⟩ 0 (qa5.mk ⟨0,0⟩ ⟨0,0⟩ ⟨0,0⟩) 0] (1 + w) h4 (by simp) (by omega) (by omega) (by simp;omega) (by simp) (by omega) (by
    intro i y hy
    have hi:i = 0:=by
      rcases Nat.eq_zero_or_pos i with h | h
      · exact h
      · rw [List.getElem?_eq_none (by simp;omega)] at hy;cases hy
    subst hi
    simp at hy
    subst hy
    exact ⟨fun _=>⟨rfl,rfl,rfl⟩,fun h=>by omega,by decide,by decide⟩) (by
    intro y hy
    rw [List.mem_singleton.1 hy]
    exact ⟨cm0.mono (by decide +kernel),rfl,cm0.mono (by decide +kernel),cm0.mono (by decide +kernel),cm0.mono (by decide +kernel),.inl rfl⟩) (by intro y hy;simp at hy;subst hy;rfl)
  refine ⟨qak.mk p l,?_,hp,h5,h6,h7⟩
  unfold qf7 qh4
  simp only [Option.bind_some]
  rw [e1]
  simp only [Option.bind_some]
  have e2':qdq 100 (Cx.mk (FloatKind.nearest .f32 (w64 ((16:Int) + v))) (0:Nat)) = some p:=e2
  rw [e2']
  simp only [Option.bind_some]
  rw [e4]
  simp only [Option.bind_some]
  rw [qdg (by omega) (by omega)]
  exact e5
end Go.Proofs.Ytdnkjocenbepaaa.AWN

namespace Go.Proofs.Ytdnkjocenbepaaa.AWN
open Go Ieee
structure PB (p:qa5) (B:Rat):Prop where
  a:CM p.A B
  b:CM p.B B
  c:CM p.C B
theorem PB.mono {p:qa5} {B C:Rat} (h:PB p B) (hb:B ≤ C):PB p C:=⟨h.a.mono hb,h.b.mono hb,h.c.mono hb⟩
theorem CM.pos {x:Cx} {B:Rat} (h:CM x B):0 ≤ B:=h.m.pos
theorem qo2 {x y:Cx} {b c e:Rat} (hx:CM x b) (hy:CM y c) (hM:b + c ≤ 1000000) (he:b + c + (b + c) / 10000000 + 1 / 100000000000000000000 ≤ e):CM (addC x y) e:=by
  have:=hx.pos;have:=hy.pos
  obtain ⟨f,n⟩:=addM hx.f hy.f hx.m hy.m (E:=(b + c) / 10000000 + 1 / 100000000000000000000) (by grind) (by grind)
  exact ⟨f,(qnt n (hx.m.add hy.m)).mono (by grind)⟩
theorem qs9 (n:Nat) {x y:Cx} {b c e:Rat} (hx:CM x b) (hy:CM y c) (hM:b * c ≤ 1000000) (he:b * c + (b * c) / 10000000 + 1 / 10000000000000000000 ≤ e):∃ r,qbz n x y = some r∧CM r e:=by
  have:=hx.pos;have:=hy.pos
  obtain ⟨r,e1,f,n1⟩:=mulM n hx.f hy.f hx.m hy.m (D:=b * c) (E:=(b * c) / 10000000 + 1 / 10000000000000000000) Rat.le_refl (by grind) (by grind)
  exact ⟨r,e1,f,(qnt n1 (hx.m.mul hy.m)).mono (by grind)⟩
theorem hxy_of {x d:Cq} {B T m:Rat} (hx:Mo x B) (hT:0 ≤ T) (hm:0 ≤ m) (hB:B ≤ T * m) (hd:m * m ≤ n2 d):n2 x ≤ T * T * n2 d:=by
  have h1:=hx.sq
  have h2:=qin hx.pos hB hx.pos hB
  have h3:=Rat.mul_nonneg (qfq T) (show 0 ≤ n2 d - m * m by grind)
  grind
theorem qrh (n:Nat) {x y:Cx} {B C T m P E:Rat} (hx:CM x B) (hy:CM y C) (hm:0 < m) (hl:m * m ≤ n2 (cv y)) (hT:0 ≤ T) (hB:B ≤ T * m)
    (hP1:B * C ≤ P) (hP2:C * C ≤ P) (hP:P ≤ 1000000000) (hs:P / 1000000000000000 + 4 * tiny ≤ m * m / 2) (hE:(1 + T) * (P / 1000000000000000 + 4 * tiny) ≤ 1 / 10000000 * (m * m / 2)) (hT2:T ≤ 1000000) (hE2:T + T / 10000000 + 2 / 10000000 ≤ E) :
    ∃ r,qbe n x y = some r∧CM r E:=by
  obtain ⟨r,t,e1,f,_,mt,nt⟩:=quotM n hx.f hy.f hx.m hy.m (Rat.mul_pos hm hm) hl hT (hxy_of hx.m hT (Rat.le_of_lt hm) hB hl) hP1 hP2 hP hs hE hT2 (E:=T / 10000000 + 2 / 10000000) (by grind)
  exact ⟨r,e1,f,(qnt nt mt).mono (by grind)⟩
def far:Rat:=1477 / 100
structure VN (v s:Cx) (R:Rat):Prop where
  f:FC v
  n:Mo (cv v - cv s) R
structure PN (v s:qa5) (R:Rat):Prop where
  a:VN v.A s.A R
  b:VN v.B s.B R
  c:VN v.C s.C R
theorem VN.cm {v s:Cx} {R:Rat} (h:VN v s R) (hs:CM s (311 / 10)):CM v (311 / 10 + R):=⟨h.f,qnt h.n hs.m⟩
theorem VN.lo {v s:Cx} (h:VN v s far) (hs:1599 / 100 * (1599 / 100) ≤ n2 (cv s)):121 / 100 * (121 / 100) ≤ n2 (cv v):=by
  -- otherwise the source were short
  rcases (Rat.le_total:n2 (cv v) ≤ 121 / 100 * (121 / 100) ∨ 121 / 100 * (121 / 100) ≤ n2 (cv v)) with h1 | h1
  · exfalso
    have m1:Mo (cv v) (121 / 100):=⟨by grind,h1⟩
    have m2:=m1.sub h.n
    have e:cv v - (cv v - cv s) = cv s:=qld (by simp only [qjn];grind) (by simp only [qjm];grind)
    rw [e] at m2
    have:=m2.sq
    unfold far at this
    grind
  · exact h1
def qqj (s:Cx) (load:Cx) (x:SBus) (b:Rat):Prop:=∀ v,VN v s far→∃ j,qb5 100 load v x = some j∧CM j b
theorem eql0:fcmp .eql .f32 0 0 = true:=by kernel_rfl
theorem qln {s load:Cx} {x:SBus} (hs:CM s (311 / 10)) (hl:1599 / 100 * (1599 / 100) ≤ n2 (cv s)) (h:CM load (207 / 100)) (hk:x.Kind = 0 ∨ x.Kind = 1):qqj s load x (208 / 100):=by
  intro v hv
  unfold qb5
  split
  · exact ⟨_,rfl,cm0.mono (by grind)⟩
  · rcases hk with hk | hk
    · rw [if_pos hk]
      obtain ⟨r,e,c⟩:=qrh 100 h (hv.cm hs) (m:=121 / 100) (T:=1711 / 1000) (P:=2200) (E:=1712 / 1000) (by grind) (hv.lo hl) (by grind) (by grind) (by unfold far;grind) (by unfold far;grind) (by grind) (by rw [qjg];grind) (by rw [qjg];grind) (by grind) (by grind)
      rw [e,Option.bind_some]
      unfold qci
      rw [Option.bind_some]
      obtain ⟨w,q⟩:=qsz c.f.i
      refine ⟨_,rfl,⟨c.f.r,w⟩,⟨by grind,?_⟩⟩
      have h1:=c.m.sq
      unfold n2 cv at *
      dsimp only at *
      rw [q]
      grind
    · rw [if_neg (by omega),if_pos hk]
      exact ⟨load,rfl,h.mono (by grind)⟩
theorem qnq {s load:Cx} {x:SBus} (hs:CM s (311 / 10)) (h:CM load 65) (hl:177 / 100 * (177 / 100) ≤ n2 (cv load)) (hk:x.Kind = 2):qqj s load x (263 / 10):=by
  intro v hv
  unfold qb5
  split
  · exact ⟨_,rfl,cm0.mono (by grind)⟩
  · have k0:¬x.Kind = 0:=by omega
    have k1:¬x.Kind = 1:=by omega
    rw [if_neg k0,if_neg k1]
    obtain ⟨r,e,c⟩:=qrh 100 (hv.cm hs) h (m:=177 / 100) (T:=2592 / 100) (P:=5000) (E:=263 / 10) (by grind) hl (by grind) (by unfold far;grind) (by unfold far;grind) (by grind) (by grind) (by rw [qjg];grind) (by rw [qjg];grind) (by grind) (by grind)
    rw [e,Option.bind_some]
    exact ⟨r,rfl,c⟩
structure NB (S:qa5) (x:SBus) (z t:Rat):Prop where
  own:CM x.Own z
  sh:x.Shared = ⟨0,0⟩
  la:qqj S.A x.Load.A x t
  lb:qqj S.B x.Load.B x t
  lc:qqj S.C x.Load.C x t
theorem Mild.nb {S:qa5} {x:SBus} (hS:SrcM S) (h:Mild x):NB S x (782 / 10000) (208 / 100) :=
  ⟨h.own,h.sh,qln hS.a hS.la h.a h.kind,qln hS.b hS.lb h.b h.kind,qln hS.c hS.lc h.c h.kind⟩
def psum (b:Nat→Rat):Nat→Rat
  | 0=>b 0
  | i + 1=>psum b i + b (i + 1)
theorem qlv {b:Nat→Rat} (h:∀ k,0 ≤ b k):∀ i,0 ≤ psum b i
  | 0=>h 0
  | i + 1=>by have:=qlv h i;have:=h (i + 1);unfold psum;grind
theorem qph {b:Nat→Rat} (h:∀ k,0 ≤ b k):∀ (i k:Nat),k ≤ i→b k ≤ psum b i
  | 0,k,hk=>by rw [show k = 0 by omega];exact Rat.le_refl
  | i + 1,k,hk=>by
    unfold psum
    rcases Nat.lt_or_ge k (i + 1) with h1 | h1
    · have:=qph h i k (by omega);have:=h (i + 1);grind
    · rw [show k = i + 1 by omega];have:=qlv h i;grind
theorem qq9 (b:Nat→Rat) (p:Nat) (x:Rat):∀ i,p ≤ i→psum (fun k=>if k = p then x else b k) i = psum b i - b p + x
  | 0,hp=>by have:p = 0:=by omega
             subst this;unfold psum;rw [if_pos rfl];grind
  | i + 1,hp=>by
    unfold psum
    rcases Nat.lt_or_ge p (i + 1) with h1 | h1
    · rw [qq9 b p x i (by omega),if_neg (by omega)];grind
    · have:p = i + 1:=by omega
      subst this
      rw [if_pos rfl]
      have:∀ j,j < i + 1→psum (fun k=>if k = i + 1 then x else b k) j = psum b j:=by
        intro j hj
        induction j with
        | zero=>unfold psum;rw [if_neg (by omega)]
        | succ j ih=>unfold psum;rw [ih (by omega),if_neg (by omega)]
      rw [this i (by omega)];grind
structure NF (f:qak) (z b ρ:Nat→Rat):Prop where
  src:SrcM f.Source
  one:1 ≤ f.qa8.length
  top:f.qa8.length ≤ 7
  ok:∀ i y,f.qa8[i]? = some y→qm9 i y
  nb:∀ i y,f.qa8[i]? = some y→NB f.Source y (z i) (b i)
  pos:∀ k,0 ≤ b k
  sum:psum b (f.qa8.length - 1) ≤ 374 / 10
  zlo:∀ k,0 ≤ z k
  zhi:∀ k,z k ≤ 782 / 10000
  r0:∀ k,0 ≤ ρ k
  rfar:∀ k,k < f.qa8.length→ρ k ≤ far
  step:∀ i y,f.qa8[i]? = some y→0 < i→ρ y.qaw.toNat + z i * (375 / 10) + 1 / 1000 ≤ ρ i
structure VL (f:qak) (v:List qa5):Prop where
  len:v.length = f.qa8.length
  at':∀ (i:Nat) (p:qa5),v[i]? = some p→PN p f.Source far
section
variable {f:qak} {z b ρ:Nat→Rat} (hf:NF f z b ρ)
include hf
theorem qq1 {v:List qa5} (hv:VL f v):∀ (m:Nat) (l:List qa5),l.length ≤ f.qa8.length→f.qa8.length - l.length < m→(∀ (k:Nat) (p:qa5),l[k]? = some p→PB p (b k)) →
    ∃ l',qbl 100 f v m l (l.length:Int) = some l'∧l'.length = f.qa8.length∧∀ (k:Nat) (p:qa5),l'[k]? = some p→PB p (b k)
  | 0,l,_,h,_=>by omega
  | m + 1,l,hl,hm,hok=>by
    have h7:=hf.top
    unfold qbl
    by_cases hlt:l.length < f.qa8.length
    · rw [if_pos (by omega)]
      obtain ⟨x,hx⟩:∃ x,f.qa8[l.length]? = some x:=⟨_,List.getElem?_eq_getElem hlt⟩
      obtain ⟨p,hp⟩:∃ p,v[l.length]? = some p:=⟨_,List.getElem?_eq_getElem (by rw [hv.len];exact hlt)⟩
      rw [qeh hx,Option.bind_some,qeh hp,Option.bind_some]
      have hn:=hf.nb _ _ hx
      have hpn:=hv.at' _ _ hp
      obtain ⟨ja,ea,ca⟩:=hn.la _ hpn.a
      obtain ⟨jb,eb,cb⟩:=hn.lb _ hpn.b
      obtain ⟨jc,ec,cc⟩:=hn.lc _ hpn.c
      have e:qcn 100 x p = some (qa5.mk ja jb jc):=by
        unfold qcn qi1
        rw [ea,Option.bind_some,eb,Option.bind_some,ec,Option.bind_some,Option.bind_some]
      rw [e,Option.bind_some]
      unfold grd
      rw [if_pos (show room (l.length + 1) 24 by unfold room;omega)]
      have e2:w64 ((l.length:Int) + 1) = ((l ++ [qa5.mk ja jb jc]).length:Int):=by rw [qdg (by omega) (by omega)];simp
      rw [e2]
      apply qq1 hv m (l ++ [qa5.mk ja jb jc]) (by simp;omega) (by simp;omega)
      intro k q hq
      rcases Nat.lt_or_ge k l.length with h | h
      · rw [List.getElem?_append_left h] at hq;exact hok k q hq
      · rw [List.getElem?_append_right h] at hq
        have:k - l.length = 0:=by
          rcases Nat.eq_zero_or_pos (k - l.length) with h2 | h2
          · exact h2
          · rw [List.getElem?_eq_none (by simp;omega)] at hq;cases hq
        rw [this] at hq
        simp at hq
        subst hq
        rw [show k = l.length by omega]
        exact ⟨ca,cb,cc⟩
    · rw [if_neg (by omega)]
      exact ⟨l,rfl,by omega,hok⟩
theorem qqr:∀ (m i:Nat) (l:List qa5) (β:Nat→Rat),i < f.qa8.length→i < m→l.length = f.qa8.length→(∀ k,0 ≤ β k)→psum β i ≤ 374 / 10 + (7 - (i:Rat)) / 1000→(∀ (k:Nat) (p:qa5),l[k]? = some p→PB p (375 / 10))→(∀ (k:Nat) (p:qa5),k ≤ i→l[k]? = some p→PB p (β k)) →
    ∃ l',qbn 100 f m l (i:Int) = some l'∧l'.length = f.qa8.length∧∀ (k:Nat) (p:qa5),l'[k]? = some p→PB p (375 / 10)
  | 0,i,l,β,_,h,_,_,_,_,_=>by omega
  | m + 1,i,l,β,hi,hm,hlen,h0,hsum,hcap,hb=>by
    have h7:=hf.top
    unfold qbn
    rcases Nat.eq_zero_or_pos i with hz | hz
    · subst hz
      rw [if_neg (by omega)]
      exact ⟨l,rfl,hlen,hcap⟩
    · rw [if_pos (by omega)]
      obtain ⟨p,hp⟩:∃ p,l[i]? = some p:=⟨_,List.getElem?_eq_getElem (by omega)⟩
      obtain ⟨x,hx⟩:∃ x,f.qa8[i]? = some x:=⟨_,List.getElem?_eq_getElem hi⟩
      obtain ⟨up0,up1⟩:=(hf.ok i x hx).up hz
      obtain ⟨q,hq⟩:∃ q:Nat,x.qaw = (q:Int):=⟨x.qaw.toNat,by omega⟩
      rw [qeh hp,Option.bind_some]
      have es:qg4 100 (i:Int) p = some p:=rfl
      rw [es,Option.bind_some,qeh hx,Option.bind_some]
      have hset:l.set (i:Int).toNat p = l:=by
        rw [show (i:Int).toNat = i by omega]
        apply List.ext_getElem?
        intro k
        by_cases hk:k = i
        · subst hk;rw [List.getElem?_set_self (by omega),hp]
        · rw [List.getElem?_set_ne (by omega)]
      rw [hset,hq]
      obtain ⟨o,ho⟩:∃ o,l[q]? = some o:=⟨_,List.getElem?_eq_getElem (by omega)⟩
      rw [qeh ho,Option.bind_some,qeh hp,Option.bind_some]
      have po:=hb q o (by omega) ho
      have pp:=hb i p (Nat.le_refl _) hp
      have hge:β q + β i ≤ psum β i:=by
        obtain ⟨j,rfl⟩:∃ j,i = j + 1:=⟨i - 1,by omega⟩
        have:=qph h0 j q (by omega)
        unfold psum;grind
      have hi6:(i:Rat) ≤ 6:=by exact_mod_cast (show i ≤ 6 by omega)
      have hi1:(1:Rat) ≤ (i:Rat):=by exact_mod_cast hz
      have hq0:=h0 q;have hi0:=h0 i
      have cA:=qo2 po.a pp.a (e:=β q + β i + 1 / 1000) (by grind) (by grind)
      have cB:=qo2 po.b pp.b (e:=β q + β i + 1 / 1000) (by grind) (by grind)
      have cC:=qo2 po.c pp.c (e:=β q + β i + 1 / 1000) (by grind) (by grind)
      have ea:qf2 100 o p = some (qa5.mk (addC o.A p.A) (addC o.B p.B) (addC o.C p.C)):=rfl
      rw [ea,Option.bind_some]
      have ei:w64 ((i:Int) - 1) = ((i - 1:Nat):Int):=by rw [qdg (by omega) (by omega)];omega
      rw [ei]
      have ci:((i - 1:Nat):Rat) = (i:Rat) - 1:=by
        obtain ⟨j,rfl⟩:∃ j,i = j + 1:=⟨i - 1,by omega⟩
        push_cast;grind
      have hps:psum (fun k=>if k = q then β q + β i + 1 / 1000 else β k) (i - 1) = psum β i + 1 / 1000:=by
        obtain ⟨j,rfl⟩:∃ j,i = j + 1:=⟨i - 1,by omega⟩
        rw [show j + 1 - 1 = j by omega,qq9 β q _ j (by omega)]
        have:psum β (j + 1) = psum β j + β (j + 1):=rfl
        rw [this];grind
      have hqt:(q:Int).toNat = q:=by omega
      rw [hqt]
      apply qqr m (i - 1) _ (fun k=>if k = q then β q + β i + 1 / 1000 else β k) (by omega) (by omega) (by rw [List.length_set];exact hlen)
      · intro k
        by_cases hk:k = q
        · rw [if_pos hk];grind
        · rw [if_neg hk];exact h0 k
      · rw [hps,ci];grind
      · intro k r hr
        by_cases hk:k = q
        · subst hk
          rw [List.getElem?_set_self (by omega)] at hr
          rw [← Option.some.inj hr]
          exact ⟨cA.mono (by grind),cB.mono (by grind),cC.mono (by grind)⟩
        · rw [List.getElem?_set_ne (by omega)] at hr
          exact hcap k r hr
      · intro k r hk' hr
        by_cases hk:k = q
        · subst hk
          rw [List.getElem?_set_self (by omega)] at hr
          rw [← Option.some.inj hr,if_pos rfl]
          exact ⟨cA,cB,cC⟩
        · rw [List.getElem?_set_ne (by omega)] at hr
          rw [if_neg hk]
          exact hb k r (by omega) hr
omit hf in
theorem drop1 {x:SBus} {z:Rat} (hz:z ≤ 782 / 10000) (hx:CM x.Own z) (hsh:x.Shared = ⟨0,0⟩) {p q r:Cx} (hp:CM p (375 / 10)) (hq:CM q (375 / 10)) (hr:CM r (375 / 10)):∃ d,qd3 100 p q r x = some d∧CM d (z * (375 / 10) + 1 / 10000):=by
  have hz0:=hx.pos
  obtain ⟨d1,e1,c1⟩:=qs9 100 hx hp (e:=z * (375 / 10) + 1 / 100000) (by grind) (by grind)
  have cs:=qo2 hq hr (e:=76) (by grind) (by grind)
  have hs:CM x.Shared 0:=by rw [hsh];exact cm0
  obtain ⟨d2,e2,c2⟩:=qs9 100 hs cs (e:=1 / 100000) (by grind) (by grind)
  have c:=qo2 c1 c2 (e:=z * (375 / 10) + 1 / 10000) (by grind) (by grind)
  refine ⟨_,?_,c⟩
  unfold qd3
  have e2':qbz 100 x.Shared (Cx.mk (qa1 .add .f32 q.re r.re) (qa1 .add .f32 q.im r.im)) = some d2:=e2
  rw [e1,Option.bind_some,e2',Option.bind_some]
  rfl
omit hf in
theorem less1 {v d s:Cx} {R e:Rat} (hs:CM s (311 / 10)) (hv:VN v s R) (hR:R ≤ far) (hd:CM d e) (he:e ≤ 10):VN (subC v d) s (R + e + 1 / 10000):=by
  have hR0:=hv.n.pos
  have he0:=hd.pos
  have hvm:=hv.cm hs
  have hfar:far = 1477 / 100:=rfl
  obtain ⟨f,n⟩:=subM hv.f hd.f hvm.m hd.m (E:=1 / 10000) (by grind) (by grind)
  refine ⟨f,?_⟩
  have:=(n.add hv.n).sub hd.m
  have e1:cv (subC v d) - (cv v - cv d) + (cv v - cv s) - cv d = cv (subC v d) - cv s:=qld (by simp only [qky,qjn];grind) (by simp only [qkx,qjm];grind)
  rw [e1] at this
  exact this.mono (by grind)
theorem qpw {c:List qa5} (hc:c.length = f.qa8.length) (hcb:∀ (k:Nat) (p:qa5),c[k]? = some p→PB p (375 / 10)):∀ (m:Nat) (l:List qa5),1 ≤ l.length→l.length ≤ f.qa8.length→f.qa8.length - l.length < m→(∀ (k:Nat) (p:qa5),l[k]? = some p→PN p f.Source (ρ k)) →
    ∃ l',qbk 100 f c m l (l.length:Int) = some l'∧l'.length = f.qa8.length∧∀ (k:Nat) (p:qa5),l'[k]? = some p→PN p f.Source (ρ k)
  | 0,l,_,_,h,_=>by omega
  | m + 1,l,hl1,hl,hm,hok=>by
    have h7:=hf.top
    unfold qbk
    by_cases hlt:l.length < f.qa8.length
    · rw [if_pos (by omega)]
      obtain ⟨x,hx⟩:∃ x,f.qa8[l.length]? = some x:=⟨_,List.getElem?_eq_getElem hlt⟩
      obtain ⟨up0,up1⟩:=(hf.ok _ x hx).up (by omega)
      obtain ⟨q,hq⟩:∃ q:Nat,x.qaw = (q:Int):=⟨x.qaw.toNat,by omega⟩
      obtain ⟨o,ho⟩:∃ o,l[q]? = some o:=⟨_,List.getElem?_eq_getElem (by omega)⟩
      obtain ⟨p,hp⟩:∃ p,c[l.length]? = some p:=⟨_,List.getElem?_eq_getElem (by omega)⟩
      have hn:=hf.nb _ _ hx
      have hpb:=hcb _ _ hp
      have hz:=hf.zhi l.length
      have hstep:=hf.step _ _ hx (by omega)
      rw [hq,show ((q:Int)).toNat = q by omega] at hstep
      have hfarq:=hf.rfar q (by omega)
      have hpo:=hok q o ho
      rw [qeh hx,Option.bind_some,hq,qeh ho,Option.bind_some,qeh hp,Option.bind_some]
      obtain ⟨da,ea,ca⟩:=drop1 hz hn.own hn.sh hpb.a hpb.b hpb.c
      obtain ⟨db,eb,cb⟩:=drop1 hz hn.own hn.sh hpb.b hpb.c hpb.a
      obtain ⟨dc,ec,cc⟩:=drop1 hz hn.own hn.sh hpb.c hpb.a hpb.b
      have ed:qfl 100 x p = some (qa5.mk da db dc):=by
        unfold qfl
        rw [ea,Option.bind_some,eb,Option.bind_some,ec,Option.bind_some]
      rw [ed,Option.bind_some]
      have el:qem 100 o (qa5.mk da db dc) = some (qa5.mk (subC o.A da) (subC o.B db) (subC o.C dc)):=rfl
      rw [el,Option.bind_some]
      have es:qg4 100 (l.length:Int) (qa5.mk (subC o.A da) (subC o.B db) (subC o.C dc)) = some (qa5.mk (subC o.A da) (subC o.B db) (subC o.C dc)):=rfl
      rw [es,Option.bind_some]
      unfold grd
      rw [if_pos (show room (l.length + 1) 24 by unfold room;omega)]
      have e2:w64 ((l.length:Int) + 1) = ((l ++ [qa5.mk (subC o.A da) (subC o.B db) (subC o.C dc)]).length:Int):=by rw [qdg (by omega) (by omega)];simp
      rw [e2]
      have hS:=hf.src
      have w:∀ {v d s:Cx},CM s (311 / 10)→VN v s (ρ q)→CM d (z l.length * (375 / 10) + 1 / 10000)→VN (subC v d) s (ρ l.length):=by
        intro v d s h1 h2 h3
        have:=less1 h1 h2 hfarq h3 (by grind)
        exact ⟨this.f,this.n.mono (by grind)⟩
      apply qpw hc hcb m _ (by simp) (by simp;omega) (by simp;omega)
      intro k r hr
      rcases Nat.lt_or_ge k l.length with h | h
      · rw [List.getElem?_append_left h] at hr;exact hok k r hr
      · rw [List.getElem?_append_right h] at hr
        have:k - l.length = 0:=by
          rcases Nat.eq_zero_or_pos (k - l.length) with h2 | h2
          · exact h2
          · rw [List.getElem?_eq_none (by simp;omega)] at hr;cases hr
        rw [this] at hr
        simp at hr
        subst hr
        rw [show k = l.length by omega]
        exact ⟨w hS.a hpo.a ca,w hS.b hpo.b cb,w hS.c hpo.c cc⟩
    · rw [if_neg (by omega)]
      exact ⟨l,rfl,by omega,hok⟩
omit hf in
theorem qrl {S:qa5} (h:SrcM S) {R:Rat} (hR:0 ≤ R):PN S S R:=by
  have z:∀ x:Cq,Mo (x - x) R:=fun x=>⟨hR,by unfold n2;simp only [qjn,qjm];have:=qfq R;grind⟩
  exact ⟨⟨h.a.f,z _⟩,⟨h.b.f,z _⟩,⟨h.c.f,z _⟩⟩
theorem sweep_some {v:List qa5} (hv:VL f v):∃ v' c,qdw 100 f v = some (qg1.mk v' c 1 false)∧VL f v'∧c.length = f.qa8.length:=by
  have h7:=hf.top;have h1:=hf.one
  obtain ⟨l,e1,l1,l2⟩:=qq1 hf hv 100 [] (by simp) (by simp;omega) (by intro k p h;simp at h)
  have ec:qca 100 l = some l:=by
    unfold qca grd
    rw [if_pos (show room (([]:List qa5).length + l.length) 24 by unfold room;simp;omega)];rfl
  have hb1:∀ k,k < f.qa8.length→b k ≤ 375 / 10:=fun k hk=>by
    have:=qph hf.pos (f.qa8.length - 1) k (by omega)
    have:=hf.sum;grind
  have c0:(0:Rat) ≤ 7 - ((f.qa8.length - 1:Nat):Rat):=by
    have:((f.qa8.length - 1:Nat):Rat) ≤ 6:=by exact_mod_cast (show f.qa8.length - 1 ≤ 6 by omega)
    grind
  obtain ⟨c,e2,c1,c2⟩:=qqr hf 100 (f.qa8.length - 1) l b (by omega) (by omega) l1 hf.pos (by have:=hf.sum;grind) (fun k p h=>(l2 k p h).mono (hb1 k (by
      rcases Nat.lt_or_ge k l.length with h3 | h3
      · omega
      · rw [List.getElem?_eq_none h3] at h;cases h))) (fun k p _ h=>l2 k p h)
  obtain ⟨v',e3,v1,v2⟩:=qpw hf c1 c2 100 [f.Source] (by simp) (by simpa using h1) (by simp;omega) (by
    intro k p h
    have:k = 0:=by
      rcases Nat.eq_zero_or_pos k with h2 | h2
      · exact h2
      · rw [List.getElem?_eq_none (by simp;omega)] at h;cases h
    subst this
    simp at h
    subst h
    exact qrl hf.src (hf.r0 0))
  refine ⟨v',c,?_,⟨v1,fun i p h=>?_⟩,c1⟩
  · unfold qdw
    have e1':qey 100 f v = some l:=e1
    have e2':qe6 100 f l = some c:=by
      unfold qe6
      rw [ec,Option.bind_some]
      have:w64 ((l.length:Int) - 1) = ((f.qa8.length - 1:Nat):Int):=by rw [qdg (by omega) (by omega)];omega
      rw [this];exact e2
    have e3':qex 100 f c = some v':=e3
    rw [e1',Option.bind_some,e2',Option.bind_some,e3',Option.bind_some]
  · have hk:i < f.qa8.length:=by
      rcases Nat.lt_or_ge i v'.length with h3 | h3
      · omega
      · rw [List.getElem?_eq_none h3] at h;cases h
    have:=v2 i p h
    have hr:=hf.rfar i hk
    exact ⟨⟨this.a.f,this.a.n.mono hr⟩,⟨this.b.f,this.b.n.mono hr⟩,⟨this.c.f,this.c.n.mono hr⟩⟩
end
end Go.Proofs.Ytdnkjocenbepaaa.AWN

namespace Go.Proofs.Ytdnkjocenbepaaa.AWN
open Go Ieee
theorem rep_1 (S:qa5):qbq 100 [S] ((1:Nat):Int) = some (List.replicate 1 S):=by kernel_rfl
theorem rep_2 (S:qa5):qbq 100 [S] ((2:Nat):Int) = some (List.replicate 2 S):=by kernel_rfl
theorem rep_3 (S:qa5):qbq 100 [S] ((3:Nat):Int) = some (List.replicate 3 S):=by kernel_rfl
theorem rep_4 (S:qa5):qbq 100 [S] ((4:Nat):Int) = some (List.replicate 4 S):=by kernel_rfl
theorem rep_5 (S:qa5):qbq 100 [S] ((5:Nat):Int) = some (List.replicate 5 S):=by kernel_rfl
theorem rep_6 (S:qa5):qbq 100 [S] ((6:Nat):Int) = some (List.replicate 6 S):=by kernel_rfl
theorem rep_7 (S:qa5):qbq 100 [S] ((7:Nat):Int) = some (List.replicate 7 S):=by kernel_rfl
theorem rep_some (S:qa5) {n:Nat} (h1:1 ≤ n) (h7:n ≤ 7):qbq 100 [S] (n:Int) = some (List.replicate n S):=by
  have:n = 1 ∨ n = 2 ∨ n = 3 ∨ n = 4 ∨ n = 5 ∨ n = 6 ∨ n = 7:=by omega
  rcases this with rfl | rfl | rfl | rfl | rfl | rfl | rfl
  · exact rep_1 S
  · exact rep_2 S
  · exact rep_3 S
  · exact rep_4 S
  · exact rep_5 S
  · exact rep_6 S
  · exact rep_7 S
theorem NF.vf {f:qak} {z b ρ:Nat→Rat} (hf:NF f z b ρ):VF f.qa8:=⟨hf.one,hf.top,hf.ok⟩
section
variable {f:qak} {z b ρ:Nat→Rat} (hf:NF f z b ρ)
include hf
theorem flat_some:qcj 100 f = some (List.replicate f.qa8.length f.Source):=by
  unfold qcj
  rw [rep_some f.Source hf.one hf.top];rfl
theorem flat_vl:VL f (List.replicate f.qa8.length f.Source):=by
  refine ⟨by simp,fun i p h=>?_⟩
  have:p = f.Source:=by
    rw [List.getElem?_replicate] at h
    split at h
    · exact (Option.some.inj h).symm
    · cases h
  rw [this]
  exact qrl hf.src (by unfold far;grind)
theorem qp1 (R:Int) (hR:R ≤ 50):∀ (m:Nat) (v c:List qa5) (a:Int) (r:Bool) (k:Int),VL f v→c.length = f.qa8.length→0 ≤ k→k ≤ R→R - k < m →
    ∃ v' c' r',qbg 100 f R m v c a r k = some (qg1.mk v' c' R r')∧VL f v'∧c'.length = f.qa8.length
  | 0,v,c,a,r,k,_,_,_,_,h=>by omega
  | m + 1,v,c,a,r,k,hv,hc,hk0,hk,hm=>by
    unfold qbg
    by_cases hlt:k < R
    · rw [if_pos hlt]
      obtain ⟨v',c',e,hv',hc'⟩:=sweep_some hf hv
      rw [e,Option.bind_some,qdg (by omega) (by omega)]
      exact qp1 R hR m v' c' 1 false (k + 1) hv' hc' (by omega) (by omega) (by omega)
    · rw [if_neg hlt]
      exact ⟨v,c,r,rfl,hv,hc⟩
theorem sweeps_some {v:List qa5} (hv:VL f v) {R:Int} (h0:0 ≤ R) (hR:R ≤ 50):∃ v' c' r',qc7 100 f v R = some (qg1.mk v' c' R r')∧VL f v'∧c'.length = f.qa8.length:=by
  have h7:=hf.top
  have hl:=hv.len
  have ec:qca 100 v = some v:=by
    unfold qca grd
    rw [if_pos (show room (([]:List qa5).length + v.length) 24 by unfold room;simp;omega)];rfl
  obtain ⟨v',c',r',e,h⟩:=qp1 hf R hR 100 v (List.replicate (f.qa8.length:Int).toNat (qa5.mk (Cx.mk (0:Nat) (0:Nat)) (Cx.mk (0:Nat) (0:Nat)) (Cx.mk (0:Nat) (0:Nat)))) 0 false 0 hv (by simp) (by omega) h0 (by omega)
  refine ⟨v',c',r',?_,h⟩
  unfold qc7
  rw [ec,Option.bind_some]
  unfold grd
  rw [if_pos (by refine ⟨by omega,?_⟩;unfold room;omega)]
  exact e
end
/-! ### The lowest voltage -/
structure PF (p:qa5):Prop where
  a:CB p.A 100
  b:CB p.B 100
  c:CB p.C 100
theorem PN.pf {p S:qa5} (h:PN p S far) (hS:SrcM S):PF p:=by
  have w:∀ {v s:Cx},VN v s far→CM s (311 / 10)→CB v 100:=fun h1 h2=>h1.f.cb ((h1.cm h2).m.mono (by unfold far;grind))
  exact ⟨w h.a hS.a,w h.b hS.b,w h.c hS.c⟩
structure Longs (p:qa5) (x y z:Nat):Prop where
  ea:qbt 100 p.A = some x
  eb:qbt 100 p.B = some y
  ec:qbt 100 p.C = some z
  fa:FW .f32 x
  fb:FW .f32 y
  fc:FW .f32 z
theorem qmu {p:qa5} (h:PF p):∃ x y z,Longs p x y z∧qcu 100 p = some [x,y,z]:=by
  obtain ⟨x,e1,w1,_⟩:=qpe 100 h.a (by grind)
  obtain ⟨y,e2,w2,_⟩:=qpe 100 h.b (by grind)
  obtain ⟨z,e3,w3,_⟩:=qpe 100 h.c (by grind)
  refine ⟨x,y,z,⟨e1,e2,e3,w1,w2,w3⟩,?_⟩
  unfold qcu
  rw [e1,Option.bind_some,e2,Option.bind_some,e3,Option.bind_some]
def Best (i:Int) (w:Nat) (q:Nat→Prop):Prop:=(i < 0∧∀ x,¬q x) ∨ (0 ≤ i∧FW .f32 w∧∀ x,q x→key FloatKind.f32.format w ≤ key FloatKind.f32.format x)
theorem qns {i j:Int} {w x:Nat} {q:Nat→Prop} (hj:0 ≤ j) (hx:FW .f32 x) (hb:Best i w q):∃ i' w',(∀ K:Int→Nat→Int→Option (Int × Nat × Bool),∀ k:Int,(if i < 0 then qbp 100 j K i w k x true else qbp 100 j K i w k x (fcmp .lss .f32 x w)) = K i' w' (w64 (k + 1)))∧Best i' w' (fun y=>q y ∨ y = x)∧(i' = i ∨ i' = j):=by
  rcases hb with ⟨h1,h2⟩ | ⟨h1,h2,h3⟩
  · refine ⟨j,x,fun K k=>?_,.inr ⟨hj,hx,fun y hy=>?_⟩,.inr rfl⟩
    · rw [if_pos h1];unfold qbp;rw [if_pos rfl];rfl
    · rcases hy with h | rfl
      · exact absurd h (h2 y)
      · exact Int.le_refl _
  · by_cases hl:key FloatKind.f32.format x < key FloatKind.f32.format w
    · refine ⟨j,x,fun K k=>?_,.inr ⟨hj,hx,fun y hy=>?_⟩,.inr rfl⟩
      · rw [if_neg (by omega),qsv hx h2,decide_eq_true hl];unfold qbp;rw [if_pos rfl];rfl
      · rcases hy with h | rfl
        · have:=h3 y h;omega
        · exact Int.le_refl _
    · refine ⟨i,w,fun K k=>?_,.inr ⟨h1,h2,fun y hy=>?_⟩,.inl rfl⟩
      · rw [if_neg (by omega),qsv hx h2,decide_eq_false hl];unfold qbp;rw [if_neg (by simp)];rfl
      · rcases hy with h | rfl
        · exact h3 y h
        · omega
theorem qnk (n:Nat) {x:Nat} (h:FW .f32 x):qga n x = some false:=by
  unfold qga
  rw [q_neq h h];simp
theorem low_three (K:Int→Nat→Int→Option (Int × Nat × Bool)) {j:Int} (hj:0 ≤ j) {x y z:Nat} (hx:FW .f32 x) (hy:FW .f32 y) (hz:FW .f32 z) {i:Int} {w:Nat} {q:Nat→Prop} (hb:Best i w q) :
    ∃ i' w',qb1 100 K j [x,y,z] 100 i w 0 = K i' w' (w64 (j + 1))∧Best i' w' (fun t=>((q t ∨ t = x) ∨ t = y) ∨ t = z)∧(i' = i ∨ i' = j):=by
  obtain ⟨i1,w1,e1,b1,c1⟩:=qns hj hx hb
  obtain ⟨i2,w2,e2,b2,c2⟩:=qns hj hy b1
  obtain ⟨i3,w3,e3,b3,c3⟩:=qns hj hz b2
  refine ⟨i3,w3,?_,b3,by omega⟩
  have g0:getI [x,y,z] 0 = some x:=rfl
  have g1:getI [x,y,z] 1 = some y:=rfl
  have g2:getI [x,y,z] 2 = some z:=rfl
  rw [qb1,if_pos (by simp),g0,Option.bind_some,qnk 100 hx,Option.bind_some,if_neg (by simp),e1,show w64 ((0:Int) + 1) = 1 from rfl]
  rw [qb1,if_pos (by simp),g1,Option.bind_some,qnk 100 hy,Option.bind_some,if_neg (by simp),e2,show w64 ((1:Int) + 1) = 2 from rfl]
  rw [qb1,if_pos (by simp),g2,Option.bind_some,qnk 100 hz,Option.bind_some,if_neg (by simp),e3,show w64 ((2:Int) + 1) = 3 from rfl]
  rw [qb1,if_neg (by simp)]
  rfl
def Seen (v:List qa5) (k:Nat) (t:Nat):Prop:=∃ (j:Nat) (p:qa5),j < k∧v[j]? = some p∧(qbt 100 p.A = some t ∨ qbt 100 p.B = some t ∨ qbt 100 p.C = some t)
theorem qok {v:List qa5} (hl:v.length ≤ 7) (hp:∀ (k:Nat) (p:qa5),v[k]? = some p→PF p):∀ (m k:Nat) (i:Int) (w:Nat),k ≤ v.length→v.length - k < m→Best i w (Seen v k)→i < v.length →
    ∃ i' w',qb0 100 v m i w (k:Int) = qdh 100 i' w'∧Best i' w' (Seen v v.length)∧i' < v.length
  | 0,k,i,w,_,h,_,_=>by omega
  | m + 1,k,i,w,hk,hm,hb,hi=>by
    unfold qb0
    by_cases hlt:k < v.length
    · rw [if_pos (by omega)]
      obtain ⟨p,hpk⟩:∃ p,v[k]? = some p:=⟨_,List.getElem?_eq_getElem hlt⟩
      rw [qeh hpk,Option.bind_some]
      obtain ⟨x,y,z,L,e⟩:=qmu (hp k p hpk)
      rw [e,Option.bind_some]
      obtain ⟨i',w',e',b',c'⟩:=low_three (qb0 100 v m) (j:=(k:Int)) (by omega) L.fa L.fb L.fc hb
      rw [e']
      have ew:w64 ((k:Int) + 1) = ((k + 1:Nat):Int):=by rw [qdg (by omega) (by omega)];omega
      rw [ew]
      apply qok hl hp m (k + 1) i' w' (by omega) (by omega) _ (by omega)
      have back:∀ t,Seen v (k + 1) t→((Seen v k t ∨ t = x) ∨ t = y) ∨ t = z:=by
        rintro t ⟨j,r,h1,h2,h3⟩
        rcases Nat.lt_or_ge j k with hj | hj
        · exact .inl (.inl (.inl ⟨j,r,hj,h2,h3⟩))
        · have:j = k:=by omega
          subst this
          rw [hpk] at h2
          rw [← Option.some.inj h2,L.ea,L.eb,L.ec] at h3
          rcases h3 with h | h | h
          · exact .inl (.inl (.inr (Option.some.inj h).symm))
          · exact .inl (.inr (Option.some.inj h).symm)
          · exact .inr (Option.some.inj h).symm
      rcases b' with ⟨h1,h2⟩ | ⟨h1,h2,h3⟩
      · exact absurd (.inr rfl) (h2 z)
      · exact .inr ⟨h1,h2,fun t ht=>h3 t (back t ht)⟩
    · rw [if_neg (by omega)]
      have:k = v.length:=by omega
      subst this
      exact ⟨i,w,rfl,hb,hi⟩
theorem lowest_some {v:List qa5} (hl:v.length ≤ 7) (h1:1 ≤ v.length) (hp:∀ (k:Nat) (p:qa5),v[k]? = some p→PF p) :
    ∃ (i:Nat) (w:Nat),qdo 100 v = some ((i:Int),w,true)∧i < v.length∧FW .f32 w∧∀ t,Seen v v.length t→key FloatKind.f32.format w ≤ key FloatKind.f32.format t:=by
  obtain ⟨i,w,e,b,hi⟩:=qok hl hp 100 0 (-1) 0 (Nat.zero_le _) (by omega) (.inl ⟨by omega,by rintro t ⟨j,p,h,_⟩;omega⟩) (by omega)
  have e':qdo 100 v = qdh 100 i w:=e
  rcases b with ⟨h2,h3⟩ | ⟨h2,h3,h4⟩
  · exfalso
    obtain ⟨p,hp0⟩:∃ p,v[0]? = some p:=⟨_,List.getElem?_eq_getElem (by omega)⟩
    obtain ⟨x,y,z,L,_⟩:=qmu (hp 0 p hp0)
    exact h3 x ⟨0,p,by omega,hp0,.inl L.ea⟩
  · refine ⟨i.toNat,w,?_,by omega,h3,h4⟩
    rw [e']
    unfold qdh
    rw [if_neg (by omega),show ((i.toNat:Nat):Int) = i by omega]
/-! ### Banks -/
structure qpn (s:Nat) (x:Cx):Prop where
  fin:FW .f32 s
  ne:fcmp .eql .f32 s 0 = false
  q:qbe 100 (Cx.mk 1065353216 0) (Cx.mk 0 s) = some x
  m:CM x 65
  lo:177 / 100 * (177 / 100) ≤ n2 (cv x)
def qqn (s:Nat):Bool:=fwB .f32 s && !fcmp .eql .f32 s 0 && (match qbe 100 (Cx.mk 1065353216 0) (Cx.mk 0 s) with | some x=>fwB .f32 x.re && fwB .f32 x.im && decide (n2 (cv x) ≤ 65 * 65) && decide (177 / 100 * (177 / 100) ≤ n2 (cv x)) | none=>false)
theorem sizeB_ok {s:Nat} (h:qqn s = true):∃ x,qpn s x:=by
  unfold qqn at h
  rw [Bool.and_eq_true,Bool.and_eq_true] at h
  obtain ⟨⟨h1,h2⟩,h3⟩:=h
  revert h3
  generalize hq:qbe 100 (Cx.mk 1065353216 0) (Cx.mk 0 s) = o
  cases o with
  | none=>intro h;cases h
  | some x =>
    intro h3
    simp only [Bool.and_eq_true] at h3
    refine ⟨x,qmp h1,by simpa using h2,hq,⟨⟨qmp h3.1.1.1,qmp h3.1.1.2⟩,by grind,of_decide_eq_true h3.1.2⟩,of_decide_eq_true h3.2⟩
theorem sizes64:([1,2,3,4,5,6,7,8,9]:List Int).all (fun v=>qqn (perW v 1115684864)) = true:=by kernel_rfl
theorem sizes32:([1,2,3,4,5,6,7,8,9]:List Int).all (fun v=>qqn (perW v 1107296256)) = true:=by kernel_rfl
theorem sizes16:([1,2,3,4,5,6,7,8,9]:List Int).all (fun v=>qqn (perW v 1098907648)) = true:=by kernel_rfl
theorem qpl {v:Int} (h0:1 ≤ v) (h1:v ≤ 9) {d:Nat} (hd:([1,2,3,4,5,6,7,8,9]:List Int).all (fun v=>qqn (perW v d)) = true):∃ x,qpn (perW v d) x :=
  sizeB_ok (List.all_eq_true.1 hd v (by simp;omega))
def qht (p:Nat) (x:Cx):SBus:=SBus.mk (p:Int) ⟨0,0⟩ ⟨0,0⟩ 2 (qa5.mk x x x) 0
section
variable {f:qak} (hS:SrcM f.Source) (hlen:f.qa8.length ≤ 6∧1 ≤ f.qa8.length) (hok:∀ i y,f.qa8[i]? = some y→qm9 i y) (hm:∀ y ∈ f.qa8,Mild y) (hr:∀ y,f.qa8[0]? = some y→y.Load = ⟨⟨0,0⟩,⟨0,0⟩,⟨0,0⟩⟩)
def bz (m k:Nat):Rat:=if k < m then 782 / 10000 else 0
def bb (m k:Nat):Rat:=if k = 0 then 0 else if k < m then 208 / 100 else if k = m then 263 / 10 else 0
def br (m k:Nat):Rat:=if k < m then 295 / 100 * (k:Rat) else 295 / 100 * ((m - 1:Nat):Rat) + 1 / 1000
theorem qqs (m:Nat):∀ k,k < m→psum (bb m) k = 208 / 100 * (k:Rat)
  | 0,h=>by unfold psum bb;simp
  | k + 1,h=>by
    unfold psum
    rw [qqs m k (by omega)]
    unfold bb
    rw [if_neg (by omega),if_pos h]
    push_cast;grind
include hS hlen hok hm hr
theorem qpg:NF f (bz f.qa8.length) (bb f.qa8.length) (br f.qa8.length):=by
  have hrr:∀ k,0 ≤ br f.qa8.length k:=by
    intro k
    have:(0:Rat) ≤ (k:Rat):=by exact_mod_cast Nat.zero_le k
    have:(0:Rat) ≤ ((f.qa8.length - 1:Nat):Rat):=by exact_mod_cast Nat.zero_le _
    unfold br;split <;> grind
  have inl:∀ {i:Nat} {y:SBus},f.qa8[i]? = some y→i < f.qa8.length:=by
    intro i y h
    rcases Nat.lt_or_ge i f.qa8.length with h2 | h2
    · exact h2
    · rw [List.getElem?_eq_none h2] at h;cases h
  refine ⟨hS,hlen.2,by omega,hok,fun i y h=>?_,fun k=>?_,?_,fun k=>?_,fun k=>?_,hrr,fun k hk=>?_,fun i y h hi=>?_⟩
  · have hi:=inl h
    have hmy:=hm y (List.mem_of_getElem? h)
    unfold bz bb
    rw [if_pos hi]
    rcases Nat.eq_zero_or_pos i with h0 | h0
    · subst h0
      rw [if_pos rfl]
      have hl:=hr y h
      have z:∀ s,qqj s ⟨0,0⟩ y 0:=by
        intro s v hv
        refine ⟨⟨0,0⟩,?_,cm0⟩
        unfold qb5
        rw [eql0];rfl
      exact ⟨hmy.own,hmy.sh,by rw [hl];exact z _,by rw [hl];exact z _,by rw [hl];exact z _⟩
    · rw [if_neg (by omega),if_pos hi]
      exact hmy.nb hS
  · unfold bb;repeat' split
    all_goals grind
  · rw [qqs _ _ (by omega)]
    have:((f.qa8.length - 1:Nat):Rat) ≤ 5:=by exact_mod_cast (show f.qa8.length - 1 ≤ 5 by omega)
    grind
  · unfold bz;split <;> grind
  · unfold bz;split <;> grind
  · have:(k:Rat) ≤ 5:=by exact_mod_cast (show k ≤ 5 by omega)
    unfold br far;rw [if_pos hk];grind
  · have hi':=inl h
    have up:=(hok i y h).up hi
    have:((y.qaw.toNat:Nat):Rat) + 1 ≤ (i:Rat):=by exact_mod_cast (show y.qaw.toNat + 1 ≤ i by omega)
    unfold br bz
    rw [if_pos (by omega),if_pos hi',if_pos hi']
    grind
theorem bank_nf {p:Nat} (hp:p < f.qa8.length) {s:Nat} {x:Cx} (hx:qpn s x):NF (qak.mk f.Source (f.qa8 ++ [qht p x])) (bz f.qa8.length) (bb f.qa8.length) (br f.qa8.length):=by
  have hf:=qpg hS hlen hok hm hr
  have hl:(f.qa8 ++ [qht p x]).length = f.qa8.length + 1:=by simp
  have cas:∀ {i:Nat} {y:SBus},(f.qa8 ++ [qht p x])[i]? = some y→(i < f.qa8.length∧f.qa8[i]? = some y) ∨ (i = f.qa8.length∧y = qht p x):=by
    intro i y h
    rcases Nat.lt_or_ge i f.qa8.length with h2 | h2
    · rw [List.getElem?_append_left h2] at h;exact .inl ⟨h2,h⟩
    · rw [List.getElem?_append_right h2] at h
      have:i - f.qa8.length = 0:=by
        rcases Nat.eq_zero_or_pos (i - f.qa8.length) with h0 | h0
        · exact h0
        · rw [List.getElem?_eq_none (by simp;omega)] at h;cases h
      rw [this] at h
      simp at h
      exact .inr ⟨by omega,h.symm⟩
  have hp5:(p:Rat) ≤ ((f.qa8.length - 1:Nat):Rat):=by exact_mod_cast (show p ≤ f.qa8.length - 1 by omega)
  have hm5:((f.qa8.length - 1:Nat):Rat) ≤ 5:=by exact_mod_cast (show f.qa8.length - 1 ≤ 5 by omega)
  refine ⟨hS,by dsimp only;omega,by dsimp only;omega,fun i y h=>?_,fun i y h=>?_,hf.pos,?_,hf.zlo,hf.zhi,hf.r0,fun k hk=>?_,fun i y h hi=>?_⟩
  · rcases cas h with ⟨_,h1⟩ | ⟨h1,h2⟩
    · exact hok i y h1
    · subst h2;subst h1
      exact ⟨fun h=>by omega,fun _=>⟨by show (0:Int) ≤ (p:Int);omega,by show (p:Int) < _;omega⟩,⟨by show (0:Int) ≤ 2;omega,by show (2:Int) < 3;omega⟩,⟨by show (0:Int) ≤ 0;omega,by show (0:Int) < 30;omega⟩⟩
  · rcases cas h with ⟨_,h1⟩ | ⟨h1,h2⟩
    · exact hf.nb i y h1
    · subst h2;subst h1
      have ebz:bz f.qa8.length f.qa8.length = 0:=by unfold bz;rw [if_neg (by omega)]
      have ebb:bb f.qa8.length f.qa8.length = 263 / 10:=by unfold bb;rw [if_neg (by omega),if_neg (by omega),if_pos rfl]
      rw [ebz,ebb]
      exact ⟨cm0,rfl,qnq hS.a hx.m hx.lo rfl,qnq hS.b hx.m hx.lo rfl,qnq hS.c hx.m hx.lo rfl⟩
  · dsimp only
    rw [hl,show f.qa8.length + 1 - 1 = (f.qa8.length - 1) + 1 by omega]
    unfold psum
    rw [qqs _ _ (by omega),show f.qa8.length - 1 + 1 = f.qa8.length by omega]
    unfold bb
    rw [if_neg (by omega),if_neg (by omega),if_pos rfl]
    grind
  · dsimp only at hk
    rcases Nat.lt_or_ge k f.qa8.length with h2 | h2
    · exact hf.rfar k h2
    · unfold br far;rw [if_neg (by omega)];grind
  · rcases cas h with ⟨_,h1⟩ | ⟨h1,h2⟩
    · exact hf.step i y h1 hi
    · subst h2;subst h1
      have ep:(qht p x).qaw.toNat = p:=by show (p:Int).toNat = p;omega
      rw [ep]
      unfold br bz
      rw [if_pos hp,if_neg (by omega),if_neg (by omega)]
      grind
structure qmd (f:qak) (p s:Nat) (g:qak) (v c:List qa5) (r:Bool) (i w:Nat):Prop where
  add:qdp 100 f (p:Int) s = some (g,true)
  valid:qbh 100 g = some true
  len:g.qa8.length = f.qa8.length + 1
  last:∃ y,g.qa8[f.qa8.length]? = some y∧y.qaw = (p:Int)
  flat:qcj 100 g = some (List.replicate g.qa8.length g.Source)
  run:qc7 100 g (List.replicate g.qa8.length g.Source) 3 = some (qg1.mk v c 3 r)
  vlen:v.length = g.qa8.length
  clen:c.length = g.qa8.length
  low:qdo 100 v = some ((i:Int),w,true)
  fw:FW .f32 w
theorem qp6 {p:Nat} (hp:p < f.qa8.length) {s:Nat} {x:Cx} (hx:qpn s x):∃ g v c r i w,qmd f p s g v c r i w:=by
  have hf:=qpg hS hlen hok hm hr
  have hg:=bank_nf hS hlen hok hm hr hp hx
  obtain ⟨v,c,r,e,hv,hc⟩:=sweeps_some hg (flat_vl hg) (R:=3) (by omega) (by omega)
  have hvl:=hv.len
  have hl:(f.qa8 ++ [qht p x]).length = f.qa8.length + 1:=by simp
  dsimp only at hvl hc
  obtain ⟨i,w,e2,_,fw,_⟩:=lowest_some (v:=v) (by omega) (by omega) (fun k q hk=>(hv.at' k q hk).pf hS)
  have val:=qn9 hg.vf
  refine ⟨qak.mk f.Source (f.qa8 ++ [qht p x]),v,c,r,i,w,?_,val,hl,⟨qht p x,by simp,rfl⟩,flat_some hg,e,hvl,hc,e2,fw⟩
  unfold qdp
  rw [qpz hf.vf hp,Option.bind_some,if_pos rfl,isFin_some 100 hx.fin,Option.bind_some,if_pos rfl,hx.ne]
  unfold qcs
  rw [if_neg (by simp)]
  unfold qej
  have ec:qdd 100 f = some f:=by
    unfold qdd qfv grd
    rw [if_pos (show room (([]:List SBus).length + f.qa8.length) 64 by unfold room;simp;omega)];rfl
  rw [ec,Option.bind_some,hx.q,Option.bind_some]
  unfold grd
  rw [if_pos (show room (f.qa8.length + 1) 64 by unfold room;omega)]
  have et:qgx 100 (qak.mk f.Source (f.qa8 ++ [qht p x])) = some (qak.mk f.Source (f.qa8 ++ [qht p x]),true):=by
    unfold qgx
    rw [val,Option.bind_some,if_pos rfl]
  have et':qgx 100 (qak.mk f.Source (f.qa8 ++ [SBus.mk (p:Int) (Cx.mk 0 0) (Cx.mk 0 0) 2 (qa5.mk x x x) 0])) = some (qak.mk f.Source (f.qa8 ++ [qht p x]),true):=et
  rw [et',Option.bind_some]
end
end Go.Proofs.Ytdnkjocenbepaaa.AWN

namespace Go.Proofs.Ytdnkjocenbepaaa.AWN
open Go Ieee
theorem qj9 (n:Nat) {code:List Int} (hb:∀ x ∈ code,0 ≤ x∧x < 256) (k m:Int) (hk:0 ≤ k) (hk2:k ≤ 100) (hm:1 ≤ m):∃ v:Nat,qe8 n code k m = some (v:Int)∧(v:Int) < m:=by
  unfold qe8
  by_cases h1:m ≤ 1
  · rw [if_pos h1];exact ⟨0,rfl,by omega⟩
  · rw [if_neg h1]
    have fin:∀ y:Int,0 ≤ y→∃ v:Nat,(grd (m ≠ 0) <| some (y.tmod m)) = some (v:Int)∧(v:Int) < m:=by
      intro y hy
      unfold grd
      rw [if_pos (by omega),Int.tmod_eq_emod_of_nonneg hy]
      have h0:=Int.emod_nonneg y (show m ≠ 0 by omega)
      have h2:=Int.emod_lt_of_pos y (show 0 < m by omega)
      exact ⟨(y % m).toNat,by rw [Int.toNat_of_nonneg h0],by omega⟩
    by_cases h2:k < (code.length:Int)
    · rw [if_pos h2]
      obtain ⟨x,hx,hm',_⟩:=qr6 hk h2
      have:=hb x hm'
      rw [hx,Option.bind_some,qdg (by omega) (by omega)]
      exact fin x (by omega)
    · rw [if_neg h2,qdg (n:=k * 37) (by omega) (by omega),qdg (by omega) (by omega)]
      exact fin _ (by omega)
section
variable {f:qak} {p:Nat} {s0 s1 s2:Nat} {g0 g1 g2:qak} {v0 c0 v1 c1 v2 c2:List qa5} {r0 r1 r2:Bool} {i0 w0 i1 w1 i2 w2:Nat}
theorem qlb {S:List Nat} {s:Nat} {g:qak} {v c:List qa5} {r:Bool} {i w:Nat} (h:qmd f p s g v c r i w) {m k:Nat} {b:Int} {u:Nat} (hk:k < S.length) (hS:S[k]? = some s) (hl:S.length ≤ 3) :
    qao 100 f (p:Int) S 3 (m + 1) b u (k:Int) = if (k = 0 ∨ fcmp .gtr .f32 w u = true) then qao 100 f (p:Int) S 3 m (k:Int) w ((k + 1:Nat):Int) else qao 100 f (p:Int) S 3 m b u ((k + 1:Nat):Int):=by
  have e:w64 ((k:Int) + 1) = ((k + 1:Nat):Int):=by rw [qdg (by omega) (by omega)];omega
  rw [qao,if_pos (by omega),qeh hS,Option.bind_some,h.add,Option.bind_some,if_pos rfl,h.flat,Option.bind_some,h.run,Option.bind_some]
  dsimp only
  rw [h.low,Option.bind_some]
  dsimp only
  rw [if_pos rfl]
  unfold qdc qdb
  rcases Nat.eq_zero_or_pos k with hk0 | hk0
  · subst hk0
    rw [if_pos (by omega),if_pos rfl,if_pos (.inl rfl),e]
  · rw [if_neg (by omega)]
    cases hg:fcmp .gtr .f32 w u with
    | true=>rw [if_pos rfl,if_pos (.inr rfl),e]
    | false=>rw [if_neg (by simp),if_neg (by simp;omega),e]
variable (h0:qmd f p s0 g0 v0 c0 r0 i0 w0) (h1:qmd f p s1 g1 v1 c1 r1 i1 w1) (h2:qmd f p s2 g2 v2 c2 r2 i2 w2)
include h0 h1 h2
abbrev kk (w:Nat):Int:=key FloatKind.f32.format w
theorem best_some:∃ b:Nat,b < 3∧qao 100 f (p:Int) [s0,s1,s2] 3 100 0 0 0 = some ((b:Int),true) ∧
    (b = 0∧¬kk w0 < kk w1∧¬kk w0 < kk w2 ∨ b = 1∧kk w0 < kk w1∧¬kk w1 < kk w2 ∨ b = 2∧kk w0 < kk w2∧kk w1 < kk w2):=by
  have a0:=qlb (S:=[s0,s1,s2]) h0 (m:=99) (k:=0) (b:=0) (u:=0) (by simp) rfl (by simp)
  rw [if_pos (.inl rfl)] at a0
  have a0:qao 100 f (p:Int) [s0,s1,s2] 3 100 0 0 0 = qao 100 f (p:Int) [s0,s1,s2] 3 99 0 w0 1:=a0
  have fin:∀ (b u:Nat),qao 100 f (p:Int) [s0,s1,s2] 3 97 (b:Int) u ((2 + 1:Nat):Int) = some ((b:Int),true):=by
    intro b u
    rw [qao,if_neg (by simp)]
  have a1:=qlb (S:=[s0,s1,s2]) h1 (m:=98) (k:=1) (b:=0) (u:=w0) (by simp) rfl (by simp)
  have a1:qao 100 f (p:Int) [s0,s1,s2] 3 99 0 w0 1 = _:=a1
  rw [a0,a1,qru h1.fw h0.fw]
  have a2:=fun (b u:Nat)=>qlb (S:=[s0,s1,s2]) h2 (m:=97) (k:=2) (b:=(b:Int)) (u:=u) (by simp) rfl (by simp)
  by_cases c1:kk w0 < kk w1
  · rw [if_pos (.inr (decide_eq_true c1))]
    have e:=a2 1 w1
    have e:qao 100 f (p:Int) [s0,s1,s2] 3 98 ((1:Nat):Int) w1 ((1 + 1:Nat):Int) = _:=e
    rw [e,qru h2.fw h1.fw]
    by_cases c2:kk w1 < kk w2
    · rw [if_pos (.inr (decide_eq_true c2)),fin]
      exact ⟨2,by omega,rfl,.inr (.inr ⟨rfl,by omega,c2⟩)⟩
    · rw [if_neg (by simp;exact Int.not_lt.1 c2),fin]
      exact ⟨1,by omega,rfl,.inr (.inl ⟨rfl,c1,c2⟩)⟩
  · rw [if_neg (by simp;exact Int.not_lt.1 c1)]
    have e:=a2 0 w0
    have e:qao 100 f (p:Int) [s0,s1,s2] 3 98 0 w0 ((1 + 1:Nat):Int) = _:=e
    rw [e,qru h2.fw h0.fw]
    by_cases c2:kk w0 < kk w2
    · rw [if_pos (.inr (decide_eq_true c2)),fin]
      exact ⟨2,by omega,rfl,.inr (.inr ⟨rfl,c2,by omega⟩)⟩
    · rw [if_neg (by simp;exact Int.not_lt.1 c2)]
      have:=fin 0 w0
      exact ⟨0,by omega,this,.inl ⟨rfl,c1,c2⟩⟩
theorem lows_some {b:Nat} (hb3:b < 3) (hb:b = 0∧¬kk w0 < kk w1∧¬kk w0 < kk w2 ∨ b = 1∧kk w0 < kk w1∧¬kk w1 < kk w2 ∨ b = 2∧kk w0 < kk w2∧kk w1 < kk w2):qdt 100 ((b:Int),true) [w0,w1,w2] = some true:=by
  have step:∀ (m k w u:Nat),k < 3→[w0,w1,w2][k]? = some w→[w0,w1,w2][b]? = some u→FW .f32 w→FW .f32 u→¬kk u < kk w→(k < b→kk w ≠ kk u)→qav 100 ((b:Int),true) [w0,w1,w2] (m + 1) (k:Int) = qav 100 ((b:Int),true) [w0,w1,w2] m ((k + 1:Nat):Int):=by
    intro m k w u hk hw hu fw fu h1 h2
    have e:w64 ((k:Int) + 1) = ((k + 1:Nat):Int):=by rw [qdg (by omega) (by omega)];omega
    rw [qav,if_pos (by simp;omega),qeh hw,Option.bind_some]
    dsimp only
    rw [qeh hu,Option.bind_some,qru fw fu,decide_eq_false h1,if_neg (by simp)]
    unfold qcw qeo
    by_cases hkb:k < b
    · rw [if_pos (by omega),qrt fw fu,decide_eq_false (h2 hkb),if_neg (by simp),e]
    · rw [if_neg (by omega),if_neg (by simp),e]
  have fin:qav 100 ((b:Int),true) [w0,w1,w2] 97 ((2 + 1:Nat):Int) = some true:=by
    rw [qav,if_neg (by simp)]
  have st:qdt 100 ((b:Int),true) [w0,w1,w2] = qav 100 ((b:Int),true) [w0,w1,w2] (99 + 1) ((0:Nat):Int):=rfl
  rw [st]
  rcases hb with ⟨rfl,q1,q2⟩ | ⟨rfl,q1,q2⟩ | ⟨rfl,q1,q2⟩
  · rw [step 99 0 w0 w0 (by omega) rfl rfl h0.fw h0.fw (by omega) (by omega),step 98 1 w1 w0 (by omega) rfl rfl h1.fw h0.fw q1 (by omega),step 97 2 w2 w0 (by omega) rfl rfl h2.fw h0.fw q2 (by omega)]
    exact fin
  · rw [step 99 0 w0 w1 (by omega) rfl rfl h0.fw h1.fw (by omega) (by omega),step 98 1 w1 w1 (by omega) rfl rfl h1.fw h1.fw (by omega) (by omega),step 97 2 w2 w1 (by omega) rfl rfl h2.fw h1.fw q2 (by omega)]
    exact fin
  · rw [step 99 0 w0 w2 (by omega) rfl rfl h0.fw h2.fw (by omega) (by omega),step 98 1 w1 w2 (by omega) rfl rfl h1.fw h2.fw (by omega) (by omega),step 97 2 w2 w2 (by omega) rfl rfl h2.fw h2.fw (by omega) (by omega)]
    exact fin
end
theorem qno {f:qak} {p s:Nat} {g:qak} {v c:List qa5} {r:Bool} {i w:Nat} (h:qmd f p s g v c r i w) (hl6:f.qa8.length ≤ 6) (K:List SBus→List Nat→Int→Option Bool) (lows:List Nat) (hlo:lows.length ≤ 3) (k:Nat) (hk:k ≤ 3) :
    ((qdp 100 f (p:Int) s).bind fun x266=>qcx 100 (p:Int) K f.qa8 lows (k:Int) x266.1 x266.2) = K f.qa8 (lows ++ [w]) ((k + 1:Nat):Int):=by
  rw [h.add,Option.bind_some]
  dsimp only
  unfold qcx
  have hlen:(g.qa8.length:Int) = w64 ((f.qa8.length:Int) + 1):=by rw [h.len,qdg (by omega) (by omega)];omega
  rw [if_pos rfl,h.valid,Option.bind_some,if_pos rfl,if_pos hlen]
  obtain ⟨y,hy,hpar⟩:=h.last
  rw [qeh hy,Option.bind_some,hpar]
  unfold qc9
  rw [if_neg (by simp)]
  unfold qeq
  have e1:qct 100 g = some (List.replicate g.qa8.length g.Source,true):=by
    unfold qct
    rw [h.valid,Option.bind_some,if_pos rfl,h.flat,Option.bind_some]
  have e2:qf3 100 g (List.replicate g.qa8.length g.Source) 3 = some (qg1.mk v c 3 r,true):=by
    unfold qf3 qft
    rw [h.valid,Option.bind_some,if_pos rfl,Option.bind_some,decide_eq_true (by simp),if_pos rfl]
    have:qck 100 3 0 50 = some true:=by kernel_rfl
    rw [this,Option.bind_some]
    unfold qcv
    rw [if_neg (by simp)]
    unfold qdx
    rw [h.run,Option.bind_some]
  have e3:qe4 100 g (qg1.mk v c 3 r) = some ((i:Int),w,true):=by
    unfold qe4 qgn qh3
    rw [h.valid,Option.bind_some,if_pos rfl]
    dsimp only
    rw [if_pos (by rw [h.vlen]),if_pos (by rw [h.clen])]
    have:qck 100 3 0 50 = some true:=by kernel_rfl
    rw [this,Option.bind_some,Option.bind_some,Option.bind_some,if_pos rfl,h.low,Option.bind_some]
  rw [e1,Option.bind_some]
  dsimp only
  rw [e2,Option.bind_some]
  dsimp only
  rw [e3,Option.bind_some]
  dsimp only
  rw [if_pos rfl,if_pos rfl]
  unfold qcl
  rw [if_neg (by simp)]
  unfold qe7 grd
  rw [if_pos (show room (lows.length + 1) 4 by unfold room;omega)]
  unfold qep
  have e:w64 ((k:Int) + 1) = ((k + 1:Nat):Int):=by rw [qdg (by omega) (by omega)];omega
  rw [e]
theorem FnBanks_true {c1 c2:List Int} (hc1:∀ x ∈ c1,0 ≤ x∧x < 256) (hc2:∀ x ∈ c2,0 ≤ x∧x < 256):qfu 100 c1 c2 = some true:=by
  unfold qfu
  obtain ⟨z,hz⟩:∃ z,qf6 100 c1 c2 = some z:=by
    unfold qf6
    split
    · exact ⟨_,rfl⟩
    · exact ⟨_,rfl⟩
  rw [hz,Option.bind_some]
  split
  · rfl
  · obtain ⟨f,e1,hS,hlen,hok,hm,hr⟩:=mild_some hc1
    obtain ⟨p,e2,hp⟩:=qj9 100 hc2 0 (f.qa8.length:Int) (by omega) (by omega) (by omega)
    obtain ⟨a,e3,ha⟩:=qj9 100 hc2 1 9 (by omega) (by omega) (by omega)
    obtain ⟨b,e4,hb⟩:=qj9 100 hc2 2 9 (by omega) (by omega) (by omega)
    obtain ⟨c,e5,hc⟩:=qj9 100 hc2 3 9 (by omega) (by omega) (by omega)
    have hp':p < f.qa8.length:=by exact_mod_cast hp
    rw [e1,Option.bind_some,e2,Option.bind_some,e3,Option.bind_some,e4,Option.bind_some,e5,Option.bind_some]
    rw [qdg (n:=1 + (a:Int)) (by omega) (by omega),qdg (n:=1 + (b:Int)) (by omega) (by omega),qdg (n:=1 + (c:Int)) (by omega) (by omega)]
    obtain ⟨x0,z0⟩:=qpl (v:=1 + (a:Int)) (by omega) (by omega) sizes64
    obtain ⟨x1,z1⟩:=qpl (v:=1 + (b:Int)) (by omega) (by omega) sizes32
    obtain ⟨x2,z2⟩:=qpl (v:=1 + (c:Int)) (by omega) (by omega) sizes16
    have es0:qa1 .quo .f32 (FloatKind.nearest .f32 (1 + (a:Int))) 1115684864 = perW (1 + (a:Int)) 1115684864:=rfl
    have es1:qa1 .quo .f32 (FloatKind.nearest .f32 (1 + (b:Int))) 1107296256 = perW (1 + (b:Int)) 1107296256:=rfl
    have es2:qa1 .quo .f32 (FloatKind.nearest .f32 (1 + (c:Int))) 1098907648 = perW (1 + (c:Int)) 1098907648:=rfl
    rw [es0,es1,es2]
    generalize perW (1 + (a:Int)) 1115684864 = t0 at *
    generalize perW (1 + (b:Int)) 1107296256 = t1 at *
    generalize perW (1 + (c:Int)) 1098907648 = t2 at *
    obtain ⟨g0,v0,k0,r0,i0,w0,h0⟩:=qp6 hS hlen hok hm hr hp' z0
    obtain ⟨g1,v1,k1,r1,i1,w1,h1⟩:=qp6 hS hlen hok hm hr hp' z1
    obtain ⟨g2,v2,k2,r2,i2,w2,h2⟩:=qp6 hS hlen hok hm hr hp' z2
    have hf:=qpg hS hlen hok hm hr
    obtain ⟨d,hd,eb,hbest⟩:=best_some h0 h1 h2
    have ef:qak.mk f.Source f.qa8 = f:=rfl
    have eB:qek 100 f (p:Int) [t0,t1,t2] 3 = some ((d:Int),true):=by
      unfold qek
      rw [qpz hf.vf hp',Option.bind_some,if_pos rfl]
      have q1:qck 100 (([t0,t1,t2]:List Nat).length:Int) 1 16 = some true:=by
        show qck 100 3 1 16 = some true
        kernel_rfl
      have q2:qck 100 3 0 50 = some true:=by kernel_rfl
      rw [q1,Option.bind_some,if_pos rfl,q2,Option.bind_some]
      unfold qch
      rw [if_neg (by simp)]
      unfold qe5
      exact eb
    rw [ef,eB,Option.bind_some]
    dsimp only
    have hl3:(([t0,t1,t2]:List Nat).length:Int) = 3:=rfl
    rw [if_pos rfl,if_neg (by omega),hl3,decide_eq_false (by omega)]
    unfold qcm
    rw [if_neg (by simp)]
    unfold qen
    have step:∀ (m k w t:Nat) (lows:List Nat),k < 3→lows.length ≤ 3→[t0,t1,t2][k]? = some t→(∀ K:List SBus→List Nat→Int→Option Bool,((qdp 100 f (p:Int) t).bind fun x266=>qcx 100 (p:Int) K f.qa8 lows (k:Int) x266.1 x266.2) = K f.qa8 (lows ++ [w]) ((k + 1:Nat):Int)) →
        qan 100 f (p:Int) (a:Int) (b:Int) (c:Int) ((d:Int),true) (m + 1) f.qa8 lows (k:Int) = qan 100 f (p:Int) (a:Int) (b:Int) (c:Int) ((d:Int),true) m f.qa8 (lows ++ [w]) ((k + 1:Nat):Int):=by
      intro m k w t lows hk hlo ht hK
      rw [qan]
      rw [qdg (n:=1 + (a:Int)) (by omega) (by omega),qdg (n:=1 + (b:Int)) (by omega) (by omega),qdg (n:=1 + (c:Int)) (by omega) (by omega),es0,es1,es2,hl3,if_pos (by omega),qeh ht,Option.bind_some,ef]
      exact hK _
    have s0:=step 99 0 w0 t0 [] (by omega) (by simp) rfl (fun K=>qno h0 hlen.1 K [] (by simp) 0 (by omega))
    have s1:=step 98 1 w1 t1 [w0] (by omega) (by simp) rfl (fun K=>qno h1 hlen.1 K [w0] (by simp) 1 (by omega))
    have s2:=step 97 2 w2 t2 [w0,w1] (by omega) (by simp) rfl (fun K=>qno h2 hlen.1 K [w0,w1] (by simp) 2 (by omega))
    have s0:qan 100 f (p:Int) (a:Int) (b:Int) (c:Int) ((d:Int),true) 100 f.qa8 [] 0 = _:=s0
    rw [s0]
    have s1:qan 100 f (p:Int) (a:Int) (b:Int) (c:Int) ((d:Int),true) 99 f.qa8 ([] ++ [w0]) ((0 + 1:Nat):Int) = _:=s1
    rw [s1]
    have s2:qan 100 f (p:Int) (a:Int) (b:Int) (c:Int) ((d:Int),true) 98 f.qa8 ([w0] ++ [w1]) ((1 + 1:Nat):Int) = _:=s2
    rw [s2]
    rw [qan]
    rw [qdg (n:=1 + (a:Int)) (by omega) (by omega),qdg (n:=1 + (b:Int)) (by omega) (by omega),qdg (n:=1 + (c:Int)) (by omega) (by omega),es0,es1,es2,hl3,if_neg (by omega)]
    exact lows_some h0 h1 h2 hd hbest
end Go.Proofs.Ytdnkjocenbepaaa.AWN
