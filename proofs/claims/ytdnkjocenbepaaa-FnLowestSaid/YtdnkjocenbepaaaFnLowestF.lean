/- Models and contracts, printed by program. -/
import Derived.Test.YtdnkjocenbepaaaFnLowestE
set_option linter.unusedVariables false
set_option linter.unusedSimpArgs false
set_option linter.unusedSectionVars false
set_option maxHeartbeats 2000000
namespace Go.Proofs.Ytdnkjocenbepaaa.AWN
open Go Go.Proofs.Try
def qfr (n:Nat) (k136:Int→Option Bool) (v128:Int):Option Bool :=
  k136 (w64 (v128 + (1:Int)))
def qd8 (n:Nat) (x71:qco × Bool) (x120:qco × Bool) (k136:Int→Option Bool) (v128:Int) (v146:Int):Option Bool :=
  (getI x71.1.qa3 v128).bind fun x147 =>
  (getI x120.1.qa3 v146).bind fun x148 =>
  (qg5 n x147 x148 (4587366580439587226:Nat)).bind fun x149 =>
  if x149 = true then
    qfr n k136 v128
  else
    some false
def qbf (n:Nat) (x71:qco × Bool) (x115:Int) (x120:qco × Bool):Nat→Int→Option Bool
  | 0,_=>none
  | m135 + 1,v128 =>
    if v128 < (x71.1.qa3.length:Int) then
      if v128 = (w64 ((1:Int) + x115)) then
        qd8 n x71 x120 (qbf n x71 x115 x120 m135) v128 (w64 (v128 + (1:Int)))
      else
        if v128 = (w64 ((w64 ((1:Int) + x115)) + (1:Int))) then
          qd8 n x71 x120 (qbf n x71 x115 x120 m135) v128 (w64 (v128 - (1:Int)))
        else
          qd8 n x71 x120 (qbf n x71 x115 x120 m135) v128 v128
    else
      some true
def qfq (n:Nat) (x71:qco × Bool) (x115:Int) (x120:qco × Bool):Option Bool :=
  qbf n x71 x115 x120 n (0:Int)
def qek (n:Nat) (x71:qco × Bool) (x115:Int) (x120:qco × Bool) (v157:Bool):Option Bool :=
  if v157 = true then
    some false
  else
    qfq n x71 x115 x120
def qdr (n:Nat) (more_:List Int) (x69:qam) (x70:List qa7 × Bool) (x71:qco × Bool):Option Bool :=
  (qi7 n more_ (0:Int) (6:Int)).bind fun x115 =>
  (qda n x69 (w64 ((1:Int) + x115))).bind fun x116 =>
  (qd1 n x69 (w64 ((1:Int) + x115))).bind fun x117 =>
  if (x116.2 == x117.2) = true then
    if x116.2 = true then
      (qdw n x116.1 x70.1 (3:Int)).bind fun x120 =>
      if x120.2 = true then
        qek n x71 x115 x120 (!(decide ((x120.1.qa3.length:Int) = (x69.qa9.length:Int))))
      else
        qek n x71 x115 x120 true
    else
      some true
  else
    some false
def qfs (n:Nat) (k185:Int→Option Bool) (v172:Int):Option Bool :=
  k185 (w64 (v172 + (1:Int)))
def qcx (n:Nat) (k185:Int→Option Bool) (v172:Int) (v208:Bool):Option Bool :=
  if v208 = true then
    some false
  else
    qfs n k185 v172
def qbg (n:Nat) (more_:List Int) (x69:qam) (x70:List qa7 × Bool) (x71:qco × Bool) (x72:Int × Nat × Bool):Nat→Int→Option Bool
  | 0,_=>none
  | m184 + 1,v172 =>
    if v172 < (x71.1.qa3.length:Int) then
      (getI x71.1.qa3 v172).bind fun x198 =>
      (qct n x198.A).bind fun x211 =>
      if (fcmp .lss .f32 x211 x72.2.1) = true then
        qcx n (qbg n more_ x69 x70 x71 x72 m184) v172 true
      else
        (qct n x198.B).bind fun x213 =>
        if (fcmp .lss .f32 x213 x72.2.1) = true then
          qcx n (qbg n more_ x69 x70 x71 x72 m184) v172 true
        else
          (qct n x198.C).bind fun x215 =>
          if (fcmp .lss .f32 x215 x72.2.1) = true then
            qcx n (qbg n more_ x69 x70 x71 x72 m184) v172 true
          else
            (qey n x198).bind fun x217 =>
            (qct n (Cx.mk (qa8 .sub .f32 x198.A.re x198.B.re) (qa8 .sub .f32 x198.A.im x198.B.im))).bind fun x218 =>
            qcx n (qbg n more_ x69 x70 x71 x72 m184) v172 (!(fcmp .geq .f32 x217 x218))
    else
      qdr n more_ x69 x70 x71
def qfp (n:Nat) (more_:List Int) (x69:qam) (x70:List qa7 × Bool) (x71:qco × Bool) (x72:Int × Nat × Bool):Option Bool :=
  qbg n more_ x69 x70 x71 x72 n (0:Int)
def qb2 (n:Nat) (more_:List Int) (x69:qam) (x70:List qa7 × Bool) (x71:qco × Bool) (x72:Int × Nat × Bool) (v234:Bool):Option Bool :=
  if v234 = true then
    some false
  else
    qfp n more_ x69 x70 x71 x72
def qh6 (n:Nat) (code_:List Int) (more_:List Int):Option Bool :=
  (qgx n code_ more_).bind fun x67 =>
  if x67 = true then
    some true
  else
    (qgy n code_).bind fun x69 =>
    (qe1 n (qam.mk x69.Source x69.qa9)).bind fun x70 =>
    (qdw n x69 x70.1 (3:Int)).bind fun x71 =>
    (qfh n x69 (qco.mk x71.1.qa3 x71.1.qae x71.1.Rounds x71.1.qaw)).bind fun x72 =>
    (qex n x69 (qco.mk x71.1.qa3 x71.1.qae x71.1.Rounds x71.1.qaw) x72.1).bind fun x73 =>
    (qhb n x69 x72.1).bind fun x74 =>
    (qdp n x70.1 x71.1.qa3).bind fun x75 =>
    (qdp n x71.1.qa3 x70.1).bind fun x76 =>
    (qdp n x70.1 x70.1).bind fun x77 =>
    (qhc n x69 (qco.mk x71.1.qa3 x71.1.qae x71.1.Rounds x71.1.qaw)).bind fun x78 =>
    if x70.2 = true then
      if x71.2 = true then
        if x72.2.2 = true then
          if x73.2 = true then
            if x74.2 = true then
              if x75.2 = true then
                if x76.2 = true then
                  if x77.2 = true then
                    if x78.2 = true then
                      if (x73.1.length:Int) = (w64 ((3:Int) * (x74.1.length:Int))) then
                        if (fcmp .neq .f32 x75.1 x76.1) = true then
                          qb2 n more_ x69 x70 x71 x72 true
                        else
                          if (fcmp .neq .f32 x77.1 (0:Nat)) = true then
                            qb2 n more_ x69 x70 x71 x72 true
                          else
                            if (fcmp .geq .f32 x78.1 (0:Nat)) = true then
                              qb2 n more_ x69 x70 x71 x72 (!(decide ((x71.1.qa3.length:Int) = (x69.qa9.length:Int))))
                            else
                              qb2 n more_ x69 x70 x71 x72 true
                      else
                        qb2 n more_ x69 x70 x71 x72 true
                    else
                      qb2 n more_ x69 x70 x71 x72 true
                  else
                    qb2 n more_ x69 x70 x71 x72 true
                else
                  qb2 n more_ x69 x70 x71 x72 true
              else
                qb2 n more_ x69 x70 x71 x72 true
            else
              qb2 n more_ x69 x70 x71 x72 true
          else
            qb2 n more_ x69 x70 x71 x72 true
        else
          qb2 n more_ x69 x70 x71 x72 true
      else
        qb2 n more_ x69 x70 x71 x72 true
    else
      qb2 n more_ x69 x70 x71 x72 true
theorem laws_FnLowest_ok_fr0 (fr:Bool) (n:Nat) (code_:List Int) (more_:List Int) {r:Bool} (h:qh6 n code_ more_ = some r):qb0 prog fr 5 [.d (.sl false (code_.map qaq)),.d (.sl false (more_.map qaq))] [] (fun v o new=>v = .d (.bool r)∧o = []∧new = []):=by
  refine qal hτ func5 rfl (by simp) (by simp) ?_
  unfold qh6 at h
  refine qaa ?_
  refine qa2 ?_
  refine qa0 hτ rfl rfl rfl ?_
  refine qa6 ?_
  refine qaa ?_
  refine qaa ?_
  refine qa2 ?_
  refine qa0 hτ rfl rfl rfl ?_
  refine qa0 hτ rfl rfl rfl ?_
  refine qac h fun x67 hx67 h=>?_
  refine qag hτ false [] rfl rfl rfl (qai func8 rfl rfl) rfl rfl (by simp) ⟨trivial,trivial,trivial⟩ (by trivial) (laws_b10Long_ok n code_ more_ hx67) ?_
  rintro r0 o0 n0 ⟨rfl,rfl,rfl⟩ -
  refine qa6 ?_
  refine qaz rfl (fun hc68=>?_) (fun hc68=>?_)
  · have h:=qcq h hc68
    refine qaa ?_
    refine qa2 ?_
    refine qa0 hτ rfl rfl rfl ?_
    refine qa6 ?_
    refine qab (qa5 [] (l:=[(4,.d (.bool true))]) (objs:=[]) rfl (by simp) rfl (by trivial) ⟨rfl,trivial,trivial⟩) ?_
    refine qas ?_
    have hr:=Option.some.inj h
    subst hr
    exact qah (.inr rfl) [] (objs':=[]) (new:=[]) rfl (by simp) (by simp) rfl (by trivial) rfl rfl (by trivial) (fun _=>⟨by simp [V.flat,V.qbh,V.qb7,D.flat],qao⟩) ⟨rfl,rfl,rfl⟩
  · have h:=qcp h hc68
    refine qb3 ?_
    refine qaa ?_
    refine qa2 ?_
    refine qa0 hτ rfl rfl rfl ?_
    refine qac h fun x69 hx69 h=>?_
    refine qag hτ false [] rfl rfl rfl (qai func9 rfl rfl) rfl rfl (by simp) ⟨trivial,trivial⟩ (by trivial) (spec_B10Mild_ok n code_ hx69) ?_
    rintro r0 o0 n0 ⟨rfl,rfl,rfl⟩ -
    refine qak hτ rfl rfl rfl ?_
    refine qak hτ rfl rfl rfl ?_
    refine qa6 ?_
    refine qaa ?_
    refine qab (qa5 [1,0] (l:=[(1,.d (.sl false (more_.map qaq))),(5,.ptr 0 0)]) (objs:=[.box [.d (.cx .f32 x69.Source.A.re x69.Source.A.im),.d (.cx .f32 x69.Source.B.re x69.Source.B.im),.d (.cx .f32 x69.Source.C.re x69.Source.C.im),.row 1 x69.qa9.length 0 x69.qa9.length],.row 8 (x69.qa9.map qaf)]) rfl (by simp) rfl (by trivial) ⟨rfl,trivial,rfl,trivial,trivial⟩) ?_
    refine qa2 ?_
    refine qa0 hτ rfl rfl rfl ?_
    refine qap (qa5 [0,1] (l:=[(1,.d (.sl false (more_.map qaq))),(5,.ptr 0 0),(42,.agg [.d (.cx .f32 x69.Source.A.re x69.Source.A.im),.d (.cx .f32 x69.Source.B.re x69.Source.B.im),.d (.cx .f32 x69.Source.C.re x69.Source.C.im),.row 1 x69.qa9.length 0 x69.qa9.length])]) (objs:=[.box [.d (.cx .f32 x69.Source.A.re x69.Source.A.im),.d (.cx .f32 x69.Source.B.re x69.Source.B.im),.d (.cx .f32 x69.Source.C.re x69.Source.C.im),.row 1 x69.qa9.length 0 x69.qa9.length],.row 8 (x69.qa9.map qaf)]) rfl (by simp) rfl (by trivial) ⟨rfl,trivial,rfl,trivial,rfl,(by trivial),trivial⟩) ?_
    refine qac h fun x70 hx70 h=>?_
    refine qag hτ true [] rfl rfl rfl (qai func14 rfl rfl) (qaj (qn0 (qaj rfl (qaj rfl (qaj rfl (qaj (qit (f:=qaf) (j:=1) (sz:=8) x69.qa9 rfl rfl rfl) qcc))))) qcc) rfl (by simp) ⟨⟨trivial,trivial,trivial,(qiu (f:=qaf) (j:=1) (sz:=8) x69.qa9 rfl rfl rfl)⟩,trivial⟩ (by trivial) (impl_FlatVoltages_ok_fr n (qam.mk x69.Source x69.qa9) hx70) ?_
    rintro r0 o0 n0 ⟨rfl,rfl,rfl⟩ -
    refine qa0 hτ rfl rfl rfl ?_
    refine qa0 hτ rfl rfl rfl ?_
    refine qa0 hτ rfl rfl rfl ?_
    refine qa0 hτ rfl rfl rfl ?_
    refine qa0 hτ rfl rfl rfl ?_
    refine qa6 ?_
    refine qaa ?_
    refine qab (qa5 [0,1,2] (l:=[(1,.d (.sl false (more_.map qaq))),(5,.ptr 0 0),(6,.row 2 x70.1.length 0 x70.1.length),(7,.d (.bool x70.2))]) (objs:=[.box [.d (.cx .f32 x69.Source.A.re x69.Source.A.im),.d (.cx .f32 x69.Source.B.re x69.Source.B.im),.d (.cx .f32 x69.Source.C.re x69.Source.C.im),.row 1 x69.qa9.length 0 x69.qa9.length],.row 8 (x69.qa9.map qaf),.row 3 (x70.1.map qa1)]) rfl (by simp) rfl (by trivial) ⟨rfl,trivial,rfl,trivial,rfl,trivial,rfl,trivial,trivial⟩) ?_
    refine qa2 ?_
    refine qa0 hτ rfl rfl rfl ?_
    refine qa0 hτ rfl rfl rfl ?_
    refine qap (qa5 [0] (l:=[(1,.d (.sl false (more_.map qaq))),(5,.ptr 0 0),(6,.d (.sl false (x70.1.map qa1))),(7,.d (.bool x70.2)),(47,.agg [.d (.cx .f32 x69.Source.A.re x69.Source.A.im),.d (.cx .f32 x69.Source.B.re x69.Source.B.im),.d (.cx .f32 x69.Source.C.re x69.Source.C.im),.d (.sl false (x69.qa9.map qaf))]),(48,.d (.sl false (x70.1.map qa1)))]) (objs:=[.box [.d (.cx .f32 x69.Source.A.re x69.Source.A.im),.d (.cx .f32 x69.Source.B.re x69.Source.B.im),.d (.cx .f32 x69.Source.C.re x69.Source.C.im),.d (.sl false (x69.qa9.map qaf))]]) rfl (by simp) (qaj (qkc (qaj rfl (qaj rfl (qaj rfl (qaj (qit (f:=qaf) (j:=1) (sz:=8) x69.qa9 rfl rfl rfl) qcc))))) qcc) ⟨⟨trivial,trivial,trivial,(qiu (f:=qaf) (j:=1) (sz:=8) x69.qa9 rfl rfl rfl)⟩,trivial⟩ ⟨rfl,trivial,rfl,trivial,(qiv (f:=qa1) (j:=2) (sz:=3) x70.1 rfl rfl rfl),(qhq (f:=qa1) (j:=2) (sz:=3) x70.1 rfl rfl rfl),rfl,trivial,(qn0 (qaj rfl (qaj rfl (qaj rfl (qaj (qit (f:=qaf) (j:=1) (sz:=8) x69.qa9 rfl rfl rfl) qcc))))),⟨trivial,trivial,trivial,(qiu (f:=qaf) (j:=1) (sz:=8) x69.qa9 rfl rfl rfl)⟩,(qiv (f:=qa1) (j:=2) (sz:=3) x70.1 rfl rfl rfl),(qhq (f:=qa1) (j:=2) (sz:=3) x70.1 rfl rfl rfl),trivial⟩) ?_
    refine qac h fun x71 hx71 h=>?_
    refine qag hτ false [] rfl rfl rfl (qai func15 rfl rfl) rfl rfl (by simp) ⟨(by trivial),trivial,trivial,trivial⟩ (by trivial) (qkg n x69 x70.1 (3:Int) hx71) ?_
    rintro r0 o0 n0 ⟨rfl,rfl,rfl⟩ -
    refine qa0 hτ rfl rfl rfl ?_
    refine qa0 hτ rfl rfl rfl ?_
    refine qa0 hτ rfl rfl rfl ?_
    refine qak hτ rfl rfl rfl ?_
    refine qak hτ rfl rfl rfl ?_
    refine qa0 hτ rfl rfl rfl ?_
    refine qa6 ?_
    refine qaa ?_
    refine qab (qa5 [0,2,1] (l:=[(1,.d (.sl false (more_.map qaq))),(5,.ptr 0 0),(6,.d (.sl false (x70.1.map qa1))),(7,.d (.bool x70.2)),(8,.ptr 1 0),(9,.d (.bool x71.2))]) (objs:=[.box [.d (.cx .f32 x69.Source.A.re x69.Source.A.im),.d (.cx .f32 x69.Source.B.re x69.Source.B.im),.d (.cx .f32 x69.Source.C.re x69.Source.C.im),.d (.sl false (x69.qa9.map qaf))],.box [.row 2 x71.1.qa3.length 0 x71.1.qa3.length,.d (.sl false (x71.1.qae.map qa1)),.d (.int .i64 x71.1.Rounds),.d (.bool x71.1.qaw)],.row 3 (x71.1.qa3.map qa1)]) rfl (by simp) rfl (by trivial) ⟨rfl,trivial,rfl,trivial,rfl,trivial,rfl,trivial,rfl,trivial,rfl,trivial,trivial⟩) ?_
    refine qa2 ?_
    refine qa0 hτ rfl rfl rfl ?_
    refine qa0 hτ rfl rfl rfl ?_
    refine qap (qa5 [0,1,2] (l:=[(1,.d (.sl false (more_.map qaq))),(5,.ptr 0 0),(6,.d (.sl false (x70.1.map qa1))),(7,.d (.bool x70.2)),(8,.ptr 1 0),(9,.d (.bool x71.2)),(53,.agg [.d (.cx .f32 x69.Source.A.re x69.Source.A.im),.d (.cx .f32 x69.Source.B.re x69.Source.B.im),.d (.cx .f32 x69.Source.C.re x69.Source.C.im),.d (.sl false (x69.qa9.map qaf))]),(54,.agg [.row 2 x71.1.qa3.length 0 x71.1.qa3.length,.d (.sl false (x71.1.qae.map qa1)),.d (.int .i64 x71.1.Rounds),.d (.bool x71.1.qaw)])]) (objs:=[.box [.d (.cx .f32 x69.Source.A.re x69.Source.A.im),.d (.cx .f32 x69.Source.B.re x69.Source.B.im),.d (.cx .f32 x69.Source.C.re x69.Source.C.im),.d (.sl false (x69.qa9.map qaf))],.box [.row 2 x71.1.qa3.length 0 x71.1.qa3.length,.d (.sl false (x71.1.qae.map qa1)),.d (.int .i64 x71.1.Rounds),.d (.bool x71.1.qaw)],.row 3 (x71.1.qa3.map qa1)]) rfl (by simp) rfl (by trivial) ⟨rfl,trivial,rfl,trivial,rfl,trivial,rfl,trivial,rfl,trivial,rfl,trivial,rfl,(by trivial),rfl,(by trivial),trivial⟩) ?_
    refine qac h fun x72 hx72 h=>?_
    refine qag hτ true [] rfl rfl rfl (qai func16 rfl rfl) (qaj rfl (qaj (qn0 (qaj (qit (f:=qa1) (j:=2) (sz:=3) x71.1.qa3 rfl rfl rfl) (qaj rfl (qaj rfl (qaj rfl qcc))))) qcc)) rfl (by simp) ⟨(by trivial),⟨(qiu (f:=qa1) (j:=2) (sz:=3) x71.1.qa3 rfl rfl rfl),trivial,trivial,trivial⟩,trivial⟩ (by trivial) (impl_LowestBus_ok_fr n x69 (qco.mk x71.1.qa3 x71.1.qae x71.1.Rounds x71.1.qaw) hx72) ?_
    rintro r0 o0 n0 ⟨rfl,rfl,rfl⟩ -
    refine qa0 hτ rfl rfl rfl ?_
    refine qa0 hτ rfl rfl rfl ?_
    refine qa0 hτ rfl rfl rfl ?_
    refine qa0 hτ rfl rfl rfl ?_
    refine qa0 hτ rfl rfl rfl ?_
    refine qa0 hτ rfl rfl rfl ?_
    refine qa0 hτ rfl rfl rfl ?_
    refine qa6 ?_
    refine qaa ?_
    refine qab (qa5 [0,1,2] (l:=[(1,.d (.sl false (more_.map qaq))),(5,.ptr 0 0),(6,.d (.sl false (x70.1.map qa1))),(7,.d (.bool x70.2)),(8,.ptr 1 0),(9,.d (.bool x71.2)),(10,.d (.int .i64 x72.1)),(11,.d (.fl .f32 x72.2.1)),(12,.d (.bool x72.2.2))]) (objs:=[.box [.d (.cx .f32 x69.Source.A.re x69.Source.A.im),.d (.cx .f32 x69.Source.B.re x69.Source.B.im),.d (.cx .f32 x69.Source.C.re x69.Source.C.im),.d (.sl false (x69.qa9.map qaf))],.box [.row 2 x71.1.qa3.length 0 x71.1.qa3.length,.d (.sl false (x71.1.qae.map qa1)),.d (.int .i64 x71.1.Rounds),.d (.bool x71.1.qaw)],.row 3 (x71.1.qa3.map qa1)]) rfl (by simp) rfl (by trivial) ⟨rfl,trivial,rfl,trivial,rfl,trivial,rfl,trivial,rfl,trivial,rfl,trivial,rfl,trivial,rfl,trivial,rfl,trivial,trivial⟩) ?_
    refine qa2 ?_
    refine qa0 hτ rfl rfl rfl ?_
    refine qa0 hτ rfl rfl rfl ?_
    refine qa0 hτ rfl rfl rfl ?_
    refine qap (qa5 [0,1,2] (l:=[(1,.d (.sl false (more_.map qaq))),(5,.ptr 0 0),(6,.d (.sl false (x70.1.map qa1))),(7,.d (.bool x70.2)),(8,.ptr 1 0),(9,.d (.bool x71.2)),(10,.d (.int .i64 x72.1)),(11,.d (.fl .f32 x72.2.1)),(12,.d (.bool x72.2.2)),(60,.agg [.d (.cx .f32 x69.Source.A.re x69.Source.A.im),.d (.cx .f32 x69.Source.B.re x69.Source.B.im),.d (.cx .f32 x69.Source.C.re x69.Source.C.im),.d (.sl false (x69.qa9.map qaf))]),(61,.agg [.row 2 x71.1.qa3.length 0 x71.1.qa3.length,.d (.sl false (x71.1.qae.map qa1)),.d (.int .i64 x71.1.Rounds),.d (.bool x71.1.qaw)]),(62,.d (.int .i64 x72.1))]) (objs:=[.box [.d (.cx .f32 x69.Source.A.re x69.Source.A.im),.d (.cx .f32 x69.Source.B.re x69.Source.B.im),.d (.cx .f32 x69.Source.C.re x69.Source.C.im),.d (.sl false (x69.qa9.map qaf))],.box [.row 2 x71.1.qa3.length 0 x71.1.qa3.length,.d (.sl false (x71.1.qae.map qa1)),.d (.int .i64 x71.1.Rounds),.d (.bool x71.1.qaw)],.row 3 (x71.1.qa3.map qa1)]) rfl (by simp) rfl (by trivial) ⟨rfl,trivial,rfl,trivial,rfl,trivial,rfl,trivial,rfl,trivial,rfl,trivial,rfl,trivial,rfl,trivial,rfl,trivial,rfl,(by trivial),rfl,(by trivial),rfl,trivial,trivial⟩) ?_
    refine qac h fun x73 hx73 h=>?_
    refine qag hτ true [] rfl rfl rfl (qai func32 rfl rfl) (qaj rfl (qaj (qn0 (qaj (qit (f:=qa1) (j:=2) (sz:=3) x71.1.qa3 rfl rfl rfl) (qaj rfl (qaj rfl (qaj rfl qcc))))) (qaj rfl qcc))) rfl (by simp) ⟨(by trivial),⟨(qiu (f:=qa1) (j:=2) (sz:=3) x71.1.qa3 rfl rfl rfl),trivial,trivial,trivial⟩,trivial,trivial⟩ (by trivial) (impl_LongsAlong_ok_fr n x69 (qco.mk x71.1.qa3 x71.1.qae x71.1.Rounds x71.1.qaw) x72.1 hx73) ?_
    rintro r0 o0 n0 ⟨rfl,rfl,rfl⟩ -
    refine qa0 hτ rfl rfl rfl ?_
    refine qa0 hτ rfl rfl rfl ?_
    refine qa0 hτ rfl rfl rfl ?_
    refine qa0 hτ rfl rfl rfl ?_
    refine qa0 hτ rfl rfl rfl ?_
    refine qa6 ?_
    refine qaa ?_
    refine qab (qa5 [0,1,2,3] (l:=[(1,.d (.sl false (more_.map qaq))),(5,.ptr 0 0),(6,.d (.sl false (x70.1.map qa1))),(7,.d (.bool x70.2)),(8,.ptr 1 0),(9,.d (.bool x71.2)),(10,.d (.int .i64 x72.1)),(11,.d (.fl .f32 x72.2.1)),(12,.d (.bool x72.2.2)),(13,.row 3 x73.1.length 0 x73.1.length),(14,.d (.bool x73.2))]) (objs:=[.box [.d (.cx .f32 x69.Source.A.re x69.Source.A.im),.d (.cx .f32 x69.Source.B.re x69.Source.B.im),.d (.cx .f32 x69.Source.C.re x69.Source.C.im),.d (.sl false (x69.qa9.map qaf))],.box [.row 2 x71.1.qa3.length 0 x71.1.qa3.length,.d (.sl false (x71.1.qae.map qa1)),.d (.int .i64 x71.1.Rounds),.d (.bool x71.1.qaw)],.row 3 (x71.1.qa3.map qa1),.row 1 (x73.1.map qbq)]) rfl (by simp) rfl (by trivial) ⟨rfl,trivial,rfl,trivial,rfl,trivial,rfl,trivial,rfl,trivial,rfl,trivial,rfl,trivial,rfl,trivial,rfl,trivial,rfl,trivial,rfl,trivial,trivial⟩) ?_
    refine qa2 ?_
    refine qa0 hτ rfl rfl rfl ?_
    refine qa0 hτ rfl rfl rfl ?_
    refine qac h fun x74 hx74 h=>?_
    refine qag hτ false [] rfl rfl rfl (qai func21 rfl rfl) rfl rfl (by simp) ⟨(by trivial),trivial,trivial⟩ (by trivial) (impl_PathTo_ok n x69 x72.1 hx74) ?_
    rintro r0 o0 n0 ⟨rfl,rfl,rfl⟩ -
    refine qa0 hτ rfl rfl rfl ?_
    refine qa0 hτ rfl rfl rfl ?_
    refine qa0 hτ rfl rfl rfl ?_
    refine qa0 hτ rfl rfl rfl ?_
    refine qa0 hτ rfl rfl rfl ?_
    refine qa6 ?_
    refine qaa ?_
    refine qab (qa5 [0,1,2,3,4] (l:=[(1,.d (.sl false (more_.map qaq))),(5,.ptr 0 0),(6,.d (.sl false (x70.1.map qa1))),(7,.d (.bool x70.2)),(8,.ptr 1 0),(9,.d (.bool x71.2)),(11,.d (.fl .f32 x72.2.1)),(12,.d (.bool x72.2.2)),(13,.row 3 x73.1.length 0 x73.1.length),(14,.d (.bool x73.2)),(15,.row 4 x74.1.length 0 x74.1.length),(16,.d (.bool x74.2))]) (objs:=[.box [.d (.cx .f32 x69.Source.A.re x69.Source.A.im),.d (.cx .f32 x69.Source.B.re x69.Source.B.im),.d (.cx .f32 x69.Source.C.re x69.Source.C.im),.d (.sl false (x69.qa9.map qaf))],.box [.row 2 x71.1.qa3.length 0 x71.1.qa3.length,.d (.sl false (x71.1.qae.map qa1)),.d (.int .i64 x71.1.Rounds),.d (.bool x71.1.qaw)],.row 3 (x71.1.qa3.map qa1),.row 1 (x73.1.map qbq),.row 1 (x74.1.map qb9)]) rfl (by simp) rfl (by trivial) ⟨rfl,trivial,rfl,trivial,rfl,trivial,rfl,trivial,rfl,trivial,rfl,trivial,rfl,trivial,rfl,trivial,rfl,trivial,rfl,trivial,rfl,trivial,rfl,trivial,trivial⟩) ?_
    refine qa2 ?_
    refine qa0 hτ rfl rfl rfl ?_
    refine qa0 hτ rfl rfl rfl ?_
    refine qa0 hτ rfl rfl rfl ?_
    refine qap (qa5 [0,1,2,3,4] (l:=[(1,.d (.sl false (more_.map qaq))),(5,.ptr 0 0),(6,.d (.sl false (x70.1.map qa1))),(7,.d (.bool x70.2)),(8,.ptr 1 0),(9,.d (.bool x71.2)),(11,.d (.fl .f32 x72.2.1)),(12,.d (.bool x72.2.2)),(13,.row 3 x73.1.length 0 x73.1.length),(14,.d (.bool x73.2)),(15,.row 4 x74.1.length 0 x74.1.length),(16,.d (.bool x74.2)),(73,.d (.sl false (x70.1.map qa1))),(75,.row 2 x71.1.qa3.length 0 x71.1.qa3.length)]) (objs:=[.box [.d (.cx .f32 x69.Source.A.re x69.Source.A.im),.d (.cx .f32 x69.Source.B.re x69.Source.B.im),.d (.cx .f32 x69.Source.C.re x69.Source.C.im),.d (.sl false (x69.qa9.map qaf))],.box [.row 2 x71.1.qa3.length 0 x71.1.qa3.length,.d (.sl false (x71.1.qae.map qa1)),.d (.int .i64 x71.1.Rounds),.d (.bool x71.1.qaw)],.row 3 (x71.1.qa3.map qa1),.row 1 (x73.1.map qbq),.row 1 (x74.1.map qb9)]) rfl (by simp) rfl (by trivial) ⟨rfl,trivial,rfl,trivial,rfl,trivial,rfl,trivial,rfl,trivial,rfl,trivial,rfl,trivial,rfl,trivial,rfl,trivial,rfl,trivial,rfl,trivial,rfl,trivial,rfl,trivial,rfl,trivial,trivial⟩) ?_
    refine qac h fun x75 hx75 h=>?_
    refine qag hτ true [] rfl rfl rfl (qai func33 rfl rfl) (qaj rfl (qaj (qiv (f:=qa1) (j:=2) (sz:=3) x71.1.qa3 rfl rfl rfl) qcc)) rfl (by simp) ⟨trivial,(qhq (f:=qa1) (j:=2) (sz:=3) x71.1.qa3 rfl rfl rfl),trivial⟩ (by trivial) (qjq n x70.1 x71.1.qa3 hx75) ?_
    rintro r0 o0 n0 ⟨rfl,rfl,rfl⟩ -
    refine qa0 hτ rfl rfl rfl ?_
    refine qa0 hτ rfl rfl rfl ?_
    refine qa0 hτ rfl rfl rfl ?_
    refine qa0 hτ rfl rfl rfl ?_
    refine qa0 hτ rfl rfl rfl ?_
    refine qa6 ?_
    refine qaa ?_
    refine qab (qa5 [0,1,2,3,4] (l:=[(1,.d (.sl false (more_.map qaq))),(5,.ptr 0 0),(6,.d (.sl false (x70.1.map qa1))),(7,.d (.bool x70.2)),(8,.ptr 1 0),(9,.d (.bool x71.2)),(11,.d (.fl .f32 x72.2.1)),(12,.d (.bool x72.2.2)),(13,.row 3 x73.1.length 0 x73.1.length),(14,.d (.bool x73.2)),(15,.row 4 x74.1.length 0 x74.1.length),(16,.d (.bool x74.2)),(17,.d (.fl .f32 x75.1)),(18,.d (.bool x75.2))]) (objs:=[.box [.d (.cx .f32 x69.Source.A.re x69.Source.A.im),.d (.cx .f32 x69.Source.B.re x69.Source.B.im),.d (.cx .f32 x69.Source.C.re x69.Source.C.im),.d (.sl false (x69.qa9.map qaf))],.box [.row 2 x71.1.qa3.length 0 x71.1.qa3.length,.d (.sl false (x71.1.qae.map qa1)),.d (.int .i64 x71.1.Rounds),.d (.bool x71.1.qaw)],.row 3 (x71.1.qa3.map qa1),.row 1 (x73.1.map qbq),.row 1 (x74.1.map qb9)]) rfl (by simp) rfl (by trivial) ⟨rfl,trivial,rfl,trivial,rfl,trivial,rfl,trivial,rfl,trivial,rfl,trivial,rfl,trivial,rfl,trivial,rfl,trivial,rfl,trivial,rfl,trivial,rfl,trivial,rfl,trivial,rfl,trivial,trivial⟩) ?_
    refine qa2 ?_
    refine qa0 hτ rfl rfl rfl ?_
    refine qa0 hτ rfl rfl rfl ?_
    refine qa0 hτ rfl rfl rfl ?_
    refine qap (qa5 [0,1,2,3,4] (l:=[(1,.d (.sl false (more_.map qaq))),(5,.ptr 0 0),(6,.d (.sl false (x70.1.map qa1))),(7,.d (.bool x70.2)),(8,.ptr 1 0),(9,.d (.bool x71.2)),(11,.d (.fl .f32 x72.2.1)),(12,.d (.bool x72.2.2)),(13,.row 3 x73.1.length 0 x73.1.length),(14,.d (.bool x73.2)),(15,.row 4 x74.1.length 0 x74.1.length),(16,.d (.bool x74.2)),(17,.d (.fl .f32 x75.1)),(18,.d (.bool x75.2)),(81,.row 2 x71.1.qa3.length 0 x71.1.qa3.length),(82,.d (.sl false (x70.1.map qa1)))]) (objs:=[.box [.d (.cx .f32 x69.Source.A.re x69.Source.A.im),.d (.cx .f32 x69.Source.B.re x69.Source.B.im),.d (.cx .f32 x69.Source.C.re x69.Source.C.im),.d (.sl false (x69.qa9.map qaf))],.box [.row 2 x71.1.qa3.length 0 x71.1.qa3.length,.d (.sl false (x71.1.qae.map qa1)),.d (.int .i64 x71.1.Rounds),.d (.bool x71.1.qaw)],.row 3 (x71.1.qa3.map qa1),.row 1 (x73.1.map qbq),.row 1 (x74.1.map qb9)]) rfl (by simp) rfl (by trivial) ⟨rfl,trivial,rfl,trivial,rfl,trivial,rfl,trivial,rfl,trivial,rfl,trivial,rfl,trivial,rfl,trivial,rfl,trivial,rfl,trivial,rfl,trivial,rfl,trivial,rfl,trivial,rfl,trivial,rfl,trivial,rfl,trivial,trivial⟩) ?_
    refine qac h fun x76 hx76 h=>?_
    refine qag hτ true [] rfl rfl rfl (qai func33 rfl rfl) (qaj (qiv (f:=qa1) (j:=2) (sz:=3) x71.1.qa3 rfl rfl rfl) (qaj rfl qcc)) rfl (by simp) ⟨(qhq (f:=qa1) (j:=2) (sz:=3) x71.1.qa3 rfl rfl rfl),trivial,trivial⟩ (by trivial) (qjq n x71.1.qa3 x70.1 hx76) ?_
    rintro r0 o0 n0 ⟨rfl,rfl,rfl⟩ -
    refine qa0 hτ rfl rfl rfl ?_
    refine qa0 hτ rfl rfl rfl ?_
    refine qa0 hτ rfl rfl rfl ?_
    refine qa0 hτ rfl rfl rfl ?_
    refine qa0 hτ rfl rfl rfl ?_
    refine qa6 ?_
    refine qaa ?_
    refine qab (qa5 [0,1,2,3,4] (l:=[(1,.d (.sl false (more_.map qaq))),(5,.ptr 0 0),(6,.d (.sl false (x70.1.map qa1))),(7,.d (.bool x70.2)),(8,.ptr 1 0),(9,.d (.bool x71.2)),(11,.d (.fl .f32 x72.2.1)),(12,.d (.bool x72.2.2)),(13,.row 3 x73.1.length 0 x73.1.length),(14,.d (.bool x73.2)),(15,.row 4 x74.1.length 0 x74.1.length),(16,.d (.bool x74.2)),(17,.d (.fl .f32 x75.1)),(18,.d (.bool x75.2)),(19,.d (.fl .f32 x76.1)),(20,.d (.bool x76.2))]) (objs:=[.box [.d (.cx .f32 x69.Source.A.re x69.Source.A.im),.d (.cx .f32 x69.Source.B.re x69.Source.B.im),.d (.cx .f32 x69.Source.C.re x69.Source.C.im),.d (.sl false (x69.qa9.map qaf))],.box [.row 2 x71.1.qa3.length 0 x71.1.qa3.length,.d (.sl false (x71.1.qae.map qa1)),.d (.int .i64 x71.1.Rounds),.d (.bool x71.1.qaw)],.row 3 (x71.1.qa3.map qa1),.row 1 (x73.1.map qbq),.row 1 (x74.1.map qb9)]) rfl (by simp) rfl (by trivial) ⟨rfl,trivial,rfl,trivial,rfl,trivial,rfl,trivial,rfl,trivial,rfl,trivial,rfl,trivial,rfl,trivial,rfl,trivial,rfl,trivial,rfl,trivial,rfl,trivial,rfl,trivial,rfl,trivial,rfl,trivial,rfl,trivial,trivial⟩) ?_
    refine qa2 ?_
    refine qa0 hτ rfl rfl rfl ?_
    refine qa0 hτ rfl rfl rfl ?_
    refine qac h fun x77 hx77 h=>?_
    refine qag hτ false [] rfl rfl rfl (qai func33 rfl rfl) rfl rfl (by simp) ⟨trivial,trivial,trivial⟩ (by trivial) (impl_ChangeOf_ok n x70.1 x70.1 hx77) ?_
    rintro r0 o0 n0 ⟨rfl,rfl,rfl⟩ -
    refine qa0 hτ rfl rfl rfl ?_
    refine qa0 hτ rfl rfl rfl ?_
    refine qa0 hτ rfl rfl rfl ?_
    refine qa0 hτ rfl rfl rfl ?_
    refine qa0 hτ rfl rfl rfl ?_
    refine qa6 ?_
    refine qaa ?_
    refine qab (qa5 [0,1,2,3,4] (l:=[(1,.d (.sl false (more_.map qaq))),(5,.ptr 0 0),(6,.d (.sl false (x70.1.map qa1))),(7,.d (.bool x70.2)),(8,.ptr 1 0),(9,.d (.bool x71.2)),(11,.d (.fl .f32 x72.2.1)),(12,.d (.bool x72.2.2)),(13,.row 3 x73.1.length 0 x73.1.length),(14,.d (.bool x73.2)),(15,.row 4 x74.1.length 0 x74.1.length),(16,.d (.bool x74.2)),(17,.d (.fl .f32 x75.1)),(18,.d (.bool x75.2)),(19,.d (.fl .f32 x76.1)),(20,.d (.bool x76.2)),(21,.d (.fl .f32 x77.1)),(22,.d (.bool x77.2))]) (objs:=[.box [.d (.cx .f32 x69.Source.A.re x69.Source.A.im),.d (.cx .f32 x69.Source.B.re x69.Source.B.im),.d (.cx .f32 x69.Source.C.re x69.Source.C.im),.d (.sl false (x69.qa9.map qaf))],.box [.row 2 x71.1.qa3.length 0 x71.1.qa3.length,.d (.sl false (x71.1.qae.map qa1)),.d (.int .i64 x71.1.Rounds),.d (.bool x71.1.qaw)],.row 3 (x71.1.qa3.map qa1),.row 1 (x73.1.map qbq),.row 1 (x74.1.map qb9)]) rfl (by simp) rfl (by trivial) ⟨rfl,trivial,rfl,trivial,rfl,trivial,rfl,trivial,rfl,trivial,rfl,trivial,rfl,trivial,rfl,trivial,rfl,trivial,rfl,trivial,rfl,trivial,rfl,trivial,rfl,trivial,rfl,trivial,rfl,trivial,rfl,trivial,rfl,trivial,rfl,trivial,trivial⟩) ?_
    refine qa2 ?_
    refine qa0 hτ rfl rfl rfl ?_
    refine qa0 hτ rfl rfl rfl ?_
    refine qap (qa5 [0,1,2,3,4] (l:=[(1,.d (.sl false (more_.map qaq))),(5,.ptr 0 0),(6,.d (.sl false (x70.1.map qa1))),(7,.d (.bool x70.2)),(8,.ptr 1 0),(9,.d (.bool x71.2)),(11,.d (.fl .f32 x72.2.1)),(12,.d (.bool x72.2.2)),(13,.row 3 x73.1.length 0 x73.1.length),(14,.d (.bool x73.2)),(15,.row 4 x74.1.length 0 x74.1.length),(16,.d (.bool x74.2)),(17,.d (.fl .f32 x75.1)),(18,.d (.bool x75.2)),(19,.d (.fl .f32 x76.1)),(20,.d (.bool x76.2)),(21,.d (.fl .f32 x77.1)),(22,.d (.bool x77.2)),(93,.agg [.d (.cx .f32 x69.Source.A.re x69.Source.A.im),.d (.cx .f32 x69.Source.B.re x69.Source.B.im),.d (.cx .f32 x69.Source.C.re x69.Source.C.im),.d (.sl false (x69.qa9.map qaf))]),(94,.agg [.row 2 x71.1.qa3.length 0 x71.1.qa3.length,.d (.sl false (x71.1.qae.map qa1)),.d (.int .i64 x71.1.Rounds),.d (.bool x71.1.qaw)])]) (objs:=[.box [.d (.cx .f32 x69.Source.A.re x69.Source.A.im),.d (.cx .f32 x69.Source.B.re x69.Source.B.im),.d (.cx .f32 x69.Source.C.re x69.Source.C.im),.d (.sl false (x69.qa9.map qaf))],.box [.row 2 x71.1.qa3.length 0 x71.1.qa3.length,.d (.sl false (x71.1.qae.map qa1)),.d (.int .i64 x71.1.Rounds),.d (.bool x71.1.qaw)],.row 3 (x71.1.qa3.map qa1),.row 1 (x73.1.map qbq),.row 1 (x74.1.map qb9)]) rfl (by simp) rfl (by trivial) ⟨rfl,trivial,rfl,trivial,rfl,trivial,rfl,trivial,rfl,trivial,rfl,trivial,rfl,trivial,rfl,trivial,rfl,trivial,rfl,trivial,rfl,trivial,rfl,trivial,rfl,trivial,rfl,trivial,rfl,trivial,rfl,trivial,rfl,trivial,rfl,trivial,rfl,(by trivial),rfl,(by trivial),trivial⟩) ?_
    refine qac h fun x78 hx78 h=>?_
    refine qag hτ true [] rfl rfl rfl (qai func34 rfl rfl) (qaj rfl (qaj (qn0 (qaj (qit (f:=qa1) (j:=2) (sz:=3) x71.1.qa3 rfl rfl rfl) (qaj rfl (qaj rfl (qaj rfl qcc))))) qcc)) rfl (by simp) ⟨(by trivial),⟨(qiu (f:=qa1) (j:=2) (sz:=3) x71.1.qa3 rfl rfl rfl),trivial,trivial,trivial⟩,trivial⟩ (by trivial) (impl_RestOf_ok_fr n x69 (qco.mk x71.1.qa3 x71.1.qae x71.1.Rounds x71.1.qaw) hx78) ?_
    rintro r0 o0 n0 ⟨rfl,rfl,rfl⟩ -
    refine qa0 hτ rfl rfl rfl ?_
    refine qa0 hτ rfl rfl rfl ?_
    refine qa0 hτ rfl rfl rfl ?_
    refine qa0 hτ rfl rfl rfl ?_
    refine qa0 hτ rfl rfl rfl ?_
    refine qa6 ?_
    refine qc7 (ι:=Unit) (fun _=>St.of [(1,.d (.sl false (more_.map qaq))),(5,.ptr 0 0),(6,.d (.sl false (x70.1.map qa1))),(8,.ptr 1 0),(11,.d (.fl .f32 x72.2.1))] [.box [.d (.cx .f32 x69.Source.A.re x69.Source.A.im),.d (.cx .f32 x69.Source.B.re x69.Source.B.im),.d (.cx .f32 x69.Source.C.re x69.Source.C.im),.d (.sl false (x69.qa9.map qaf))],.box [.row 2 x71.1.qa3.length 0 x71.1.qa3.length,.d (.sl false (x71.1.qae.map qa1)),.d (.int .i64 x71.1.Rounds),.d (.bool x71.1.qaw)],.row 3 (x71.1.qa3.map qa1)] f5.ntmps 0) (fun _=>qfp n more_ x69 x70 x71 x72 = some r) ?_ (fun hk219=>?_)
    · rintro ⟨⟩ h
      replace h:qfp n more_ x69 x70 x71 x72 = some r:=h
      unfold qfp at h
      refine qc7 (ι:=Unit) (fun _=>St.of [(1,.d (.sl false (more_.map qaq))),(5,.ptr 0 0),(6,.d (.sl false (x70.1.map qa1))),(8,.ptr 1 0)] [.box [.d (.cx .f32 x69.Source.A.re x69.Source.A.im),.d (.cx .f32 x69.Source.B.re x69.Source.B.im),.d (.cx .f32 x69.Source.C.re x69.Source.C.im),.d (.sl false (x69.qa9.map qaf))],.box [.row 2 x71.1.qa3.length 0 x71.1.qa3.length,.d (.sl false (x71.1.qae.map qa1)),.d (.int .i64 x71.1.Rounds),.d (.bool x71.1.qaw)],.row 3 (x71.1.qa3.map qa1)] f5.ntmps 0) (fun _=>qdr n more_ x69 x70 x71 = some r) ?_ (fun hk161=>?_)
      · rintro ⟨⟩ h
        replace h:qdr n more_ x69 x70 x71 = some r:=h
        unfold qdr at h
        refine qaa ?_
        refine qa2 ?_
        refine qa0 hτ rfl rfl rfl ?_
        refine qac h fun x115 hx115 h=>?_
        refine qag hτ false [] rfl rfl rfl (qai func10 rfl rfl) rfl rfl (by simp) ⟨trivial,trivial,trivial,trivial⟩ (by trivial) (laws_b10At_ok n more_ (0:Int) (6:Int) hx115) ?_
        rintro r0 o0 n0 ⟨rfl,rfl,rfl⟩ -
        refine qa0 hτ rfl rfl rfl ?_
        refine qa0 hτ rfl rfl rfl ?_
        refine qa6 ?_
        refine qaa ?_
        refine qa2 ?_
        refine qa0 hτ rfl rfl rfl ?_
        refine qa0 hτ rfl rfl rfl ?_
        refine qac h fun x116 hx116 h=>?_
        refine qag hτ false [] rfl rfl rfl (qai func37 rfl rfl) rfl rfl (by simp) ⟨(by trivial),trivial,trivial⟩ (by trivial) (impl_SwapBuses_ok n x69 (w64 ((1:Int) + x115)) hx116) ?_
        rintro r0 o0 n0 ⟨rfl,rfl,rfl⟩ -
        refine qa0 hτ rfl rfl rfl ?_
        refine qa0 hτ rfl rfl rfl ?_
        refine qa0 hτ rfl rfl rfl ?_
        refine qak hτ rfl rfl rfl ?_
        refine qak hτ rfl rfl rfl ?_
        refine qap (qa5 [0,1,2,3] (l:=[(5,.ptr 0 0),(6,.d (.sl false (x70.1.map qa1))),(8,.ptr 1 0),(27,.d (.int .i64 (w64 ((1:Int) + x115)))),(28,.ptr 3 0),(214,.d (.bool x116.2))]) (objs:=[.box [.d (.cx .f32 x69.Source.A.re x69.Source.A.im),.d (.cx .f32 x69.Source.B.re x69.Source.B.im),.d (.cx .f32 x69.Source.C.re x69.Source.C.im),.d (.sl false (x69.qa9.map qaf))],.box [.row 2 x71.1.qa3.length 0 x71.1.qa3.length,.d (.sl false (x71.1.qae.map qa1)),.d (.int .i64 x71.1.Rounds),.d (.bool x71.1.qaw)],.row 3 (x71.1.qa3.map qa1),.box [.d (.cx .f32 x116.1.Source.A.re x116.1.Source.A.im),.d (.cx .f32 x116.1.Source.B.re x116.1.Source.B.im),.d (.cx .f32 x116.1.Source.C.re x116.1.Source.C.im),.d (.sl false (x116.1.qa9.map qaf))]]) rfl (by simp) rfl (by trivial) ⟨rfl,trivial,rfl,trivial,rfl,trivial,rfl,trivial,rfl,trivial,rfl,trivial,trivial⟩) ?_
        refine qa0 hτ rfl rfl rfl ?_
        refine qa6 ?_
        refine qaa ?_
        refine qa2 ?_
        refine qa0 hτ rfl rfl rfl ?_
        refine qa0 hτ rfl rfl rfl ?_
        refine qac h fun x117 hx117 h=>?_
        refine qag hτ false [] rfl rfl rfl (qai func38 rfl rfl) rfl rfl (by simp) ⟨(by trivial),trivial,trivial⟩ (by trivial) (spec_SwapBuses_ok n x69 (w64 ((1:Int) + x115)) hx117) ?_
        rintro r0 o0 n0 ⟨rfl,rfl,rfl⟩ -
        refine qa0 hτ rfl rfl rfl ?_
        refine qa0 hτ rfl rfl rfl ?_
        refine qa0 hτ rfl rfl rfl ?_
        refine qak hτ rfl rfl rfl ?_
        refine qak hτ rfl rfl rfl ?_
        refine qa0 hτ rfl rfl rfl ?_
        refine qa6 ?_
        refine qaa ?_
        refine qaa ?_
        refine qab (qa5 [0,1,2,3] (l:=[(5,.ptr 0 0),(6,.d (.sl false (x70.1.map qa1))),(8,.ptr 1 0),(27,.d (.int .i64 (w64 ((1:Int) + x115)))),(28,.ptr 3 0),(29,.d (.bool x116.2)),(31,.d (.bool x117.2))]) (objs:=[.box [.d (.cx .f32 x69.Source.A.re x69.Source.A.im),.d (.cx .f32 x69.Source.B.re x69.Source.B.im),.d (.cx .f32 x69.Source.C.re x69.Source.C.im),.d (.sl false (x69.qa9.map qaf))],.box [.row 2 x71.1.qa3.length 0 x71.1.qa3.length,.d (.sl false (x71.1.qae.map qa1)),.d (.int .i64 x71.1.Rounds),.d (.bool x71.1.qaw)],.row 3 (x71.1.qa3.map qa1),.box [.d (.cx .f32 x116.1.Source.A.re x116.1.Source.A.im),.d (.cx .f32 x116.1.Source.B.re x116.1.Source.B.im),.d (.cx .f32 x116.1.Source.C.re x116.1.Source.C.im),.d (.sl false (x116.1.qa9.map qaf))]]) rfl (by simp) rfl (by trivial) ⟨rfl,trivial,rfl,trivial,rfl,trivial,rfl,trivial,rfl,trivial,rfl,trivial,rfl,trivial,trivial⟩) ?_
        refine qa2 ?_
        refine qa0 hτ rfl rfl rfl ?_
        refine qa0 hτ rfl rfl rfl ?_
        refine qa0 hτ rfl rfl rfl ?_
        refine qa6 ?_
        refine qaz rfl (fun hc118=>?_) (fun hc118=>?_)
        · have hc118:=qhn hc118
          have h:=qcp h hc118
          refine qaa ?_
          refine qa2 ?_
          refine qa0 hτ rfl rfl rfl ?_
          refine qa6 ?_
          refine qab (qa5 [] (l:=[(4,.d (.bool false))]) (objs:=[]) rfl (by simp) rfl (by trivial) ⟨rfl,trivial,trivial⟩) ?_
          refine qas ?_
          have hr:=Option.some.inj h
          subst hr
          exact qah (.inr rfl) [] (objs':=[]) (new:=[]) rfl (by simp) (by simp) rfl (by trivial) rfl rfl (by trivial) (fun _=>⟨by simp [V.flat,V.qbh,V.qb7,D.flat],qao⟩) ⟨rfl,rfl,rfl⟩
        · have hc118:=qhm hc118
          have h:=qcq h hc118
          refine qb3 ?_
          refine qaa ?_
          refine qaa ?_
          refine qa2 ?_
          refine qa0 hτ rfl rfl rfl ?_
          refine qa0 hτ rfl rfl rfl ?_
          refine qa6 ?_
          refine qaz rfl (fun hc119=>?_) (fun hc119=>?_)
          · have hc119:=qhn hc119
            have h:=qcp h hc119
            refine qaa ?_
            refine qa2 ?_
            refine qa0 hτ rfl rfl rfl ?_
            refine qa6 ?_
            refine qab (qa5 [] (l:=[(4,.d (.bool true))]) (objs:=[]) rfl (by simp) rfl (by trivial) ⟨rfl,trivial,trivial⟩) ?_
            refine qas ?_
            have hr:=Option.some.inj h
            subst hr
            exact qah (.inr rfl) [] (objs':=[]) (new:=[]) rfl (by simp) (by simp) rfl (by trivial) rfl rfl (by trivial) (fun _=>⟨by simp [V.flat,V.qbh,V.qb7,D.flat],qao⟩) ⟨rfl,rfl,rfl⟩
          · have hc119:=qhm hc119
            have h:=qcq h hc119
            refine qb3 ?_
            refine qaa ?_
            refine qa2 ?_
            refine qa0 hτ rfl rfl rfl ?_
            refine qa0 hτ rfl rfl rfl ?_
            refine qac h fun x120 hx120 h=>?_
            refine qag hτ false [] rfl rfl rfl (qai func15 rfl rfl) rfl rfl (by simp) ⟨(by trivial),trivial,trivial,trivial⟩ (by trivial) (qkg n x116.1 x70.1 (3:Int) hx120) ?_
            rintro r0 o0 n0 ⟨rfl,rfl,rfl⟩ -
            refine qa0 hτ rfl rfl rfl ?_
            refine qa0 hτ rfl rfl rfl ?_
            refine qa0 hτ rfl rfl rfl ?_
            refine qak hτ rfl rfl rfl ?_
            refine qap (qa5 [0,1,2,5,4] (l:=[(5,.ptr 0 0),(8,.ptr 1 0),(27,.d (.int .i64 (w64 ((1:Int) + x115)))),(32,.ptr 3 0),(230,.agg [.row 4 x120.1.qa3.length 0 x120.1.qa3.length,.d (.sl false (x120.1.qae.map qa1)),.d (.int .i64 x120.1.Rounds),.d (.bool x120.1.qaw)]),(231,.d (.bool x120.2))]) (objs:=[.box [.d (.cx .f32 x69.Source.A.re x69.Source.A.im),.d (.cx .f32 x69.Source.B.re x69.Source.B.im),.d (.cx .f32 x69.Source.C.re x69.Source.C.im),.d (.sl false (x69.qa9.map qaf))],.box [.row 2 x71.1.qa3.length 0 x71.1.qa3.length,.d (.sl false (x71.1.qae.map qa1)),.d (.int .i64 x71.1.Rounds),.d (.bool x71.1.qaw)],.row 3 (x71.1.qa3.map qa1),.box [.d (.nils),.d (.nils),.d (.int .i64 (0:Int)),.d (.bool false)],.row 3 (x120.1.qa3.map qa1)]) rfl (by simp) rfl (by trivial) ⟨rfl,trivial,rfl,trivial,rfl,trivial,rfl,trivial,rfl,(by trivial),rfl,trivial,trivial⟩) ?_
            refine qak hτ rfl rfl rfl ?_
            refine qa0 hτ rfl rfl rfl ?_
            refine qa6 ?_
            refine qc7 (ι:=Unit) (fun _=>St.of [(8,.ptr 0 0),(27,.d (.int .i64 (w64 ((1:Int) + x115)))),(32,.ptr 2 0)] [.box [.row 1 x71.1.qa3.length 0 x71.1.qa3.length,.d (.sl false (x71.1.qae.map qa1)),.d (.int .i64 x71.1.Rounds),.d (.bool x71.1.qaw)],.row 3 (x71.1.qa3.map qa1),.box [.row 3 x120.1.qa3.length 0 x120.1.qa3.length,.d (.sl false (x120.1.qae.map qa1)),.d (.int .i64 x120.1.Rounds),.d (.bool x120.1.qaw)],.row 3 (x120.1.qa3.map qa1)] f5.ntmps 0) (fun _=>qfq n x71 x115 x120 = some r) ?_ (fun hk154=>?_)
            · rintro ⟨⟩ h
              replace h:qfq n x71 x115 x120 = some r:=h
              unfold qfq at h
              refine qaa ?_
              refine qaa ?_
              refine qa2 ?_
              refine qa0 hτ rfl rfl rfl ?_
              refine qa0 hτ rfl rfl rfl ?_
              refine qbl hτ rfl rfl rfl (qb5 _) ?_
              refine qa0 hτ rfl rfl rfl ?_
              refine qa6 ?_
              refine qba ?_
              refine qfd (ι:=Nat × Int) (fun (m135,v128)=>St.of [(8,.ptr 0 0),(27,.d (.int .i64 (w64 ((1:Int) + x115)))),(32,.ptr 2 0),(245,.d (.int .i64 (x71.1.qa3.length:Int))),(246,.d (.int .i64 v128))] [.box [.row 1 x71.1.qa3.length 0 x71.1.qa3.length,.d (.sl false (x71.1.qae.map qa1)),.d (.int .i64 x71.1.Rounds),.d (.bool x71.1.qaw)],.row 3 (x71.1.qa3.map qa1),.box [.row 3 x120.1.qa3.length 0 x120.1.qa3.length,.d (.sl false (x120.1.qae.map qa1)),.d (.int .i64 x120.1.Rounds),.d (.bool x120.1.qaw)],.row 3 (x120.1.qa3.map qa1)] f5.ntmps 0) (fun (m135,v128)=>qbf n x71 x115 x120 m135 v128 = some r) (fun x=>x.1) (n,(0:Int)) h (qa5 [0,1,2,3] (l:=[(8,.ptr 0 0),(27,.d (.int .i64 (w64 ((1:Int) + x115)))),(32,.ptr 2 0),(245,.d (.int .i64 (x71.1.qa3.length:Int))),(246,.d (.int .i64 (0:Int)))]) (objs:=[.box [.row 1 x71.1.qa3.length 0 x71.1.qa3.length,.d (.sl false (x71.1.qae.map qa1)),.d (.int .i64 x71.1.Rounds),.d (.bool x71.1.qaw)],.row 3 (x71.1.qa3.map qa1),.box [.row 3 x120.1.qa3.length 0 x120.1.qa3.length,.d (.sl false (x120.1.qae.map qa1)),.d (.int .i64 x120.1.Rounds),.d (.bool x120.1.qaw)],.row 3 (x120.1.qa3.map qa1)]) rfl (by simp) rfl (by trivial) ⟨rfl,trivial,rfl,trivial,rfl,trivial,rfl,trivial,rfl,trivial,trivial⟩) ?_
              rintro ⟨m135,v128⟩ h
              replace h:qbf n x71 x115 x120 m135 v128 = some r:=h
              rcases m135 with _ | m135
              · rw [qbf] at h;cases h
              rw [qbf] at h
              refine qaa ?_
              refine qa2 ?_
              refine qa0 hτ rfl rfl rfl ?_
              refine qa6 ?_
              refine qaa ?_
              refine qaz rfl (fun hc137=>?_) (fun hc137=>?_)
              · have h:=if_t h hc137
                refine qb3 ?_
                refine qc7 (ι:=Unit) (fun _=>St.of [(8,.ptr 0 0),(27,.d (.int .i64 (w64 ((1:Int) + x115)))),(32,.ptr 2 0),(245,.d (.int .i64 (x71.1.qa3.length:Int))),(246,.d (.int .i64 v128))] [.box [.row 1 x71.1.qa3.length 0 x71.1.qa3.length,.d (.sl false (x71.1.qae.map qa1)),.d (.int .i64 x71.1.Rounds),.d (.bool x71.1.qaw)],.row 3 (x71.1.qa3.map qa1),.box [.row 3 x120.1.qa3.length 0 x120.1.qa3.length,.d (.sl false (x120.1.qae.map qa1)),.d (.int .i64 x120.1.Rounds),.d (.bool x120.1.qaw)],.row 3 (x120.1.qa3.map qa1)] f5.ntmps 0) (fun _=>qfr n (qbf n x71 x115 x120 m135) v128 = some r) ?_ (fun hk143=>?_)
                · rintro ⟨⟩ h
                  replace h:qfr n (qbf n x71 x115 x120 m135) v128 = some r:=h
                  unfold qfr at h
                  refine qa2 ?_
                  refine qa0 hτ rfl rfl rfl ?_
                  refine qa0 hτ rfl rfl rfl ?_
                  refine qa6 ?_
                  exact ⟨(m135,(w64 (v128 + (1:Int)))),h,Nat.lt_succ_self m135,(qa5 [0,1,2,3] (l:=[(8,.ptr 0 0),(27,.d (.int .i64 (w64 ((1:Int) + x115)))),(32,.ptr 2 0),(245,.d (.int .i64 (x71.1.qa3.length:Int))),(246,.d (.int .i64 (w64 (v128 + (1:Int)))))]) (objs:=[.box [.row 1 x71.1.qa3.length 0 x71.1.qa3.length,.d (.sl false (x71.1.qae.map qa1)),.d (.int .i64 x71.1.Rounds),.d (.bool x71.1.qaw)],.row 3 (x71.1.qa3.map qa1),.box [.row 3 x120.1.qa3.length 0 x120.1.qa3.length,.d (.sl false (x120.1.qae.map qa1)),.d (.int .i64 x120.1.Rounds),.d (.bool x120.1.qaw)],.row 3 (x120.1.qa3.map qa1)]) rfl (by simp) rfl (by trivial) ⟨rfl,trivial,rfl,trivial,rfl,trivial,rfl,trivial,rfl,trivial,trivial⟩)⟩
                · refine qaa ?_
                  refine qba ?_
                  refine qaa ?_
                  refine qa2 ?_
                  refine qa0 hτ rfl rfl rfl ?_
                  refine qa0 hτ rfl rfl rfl ?_
                  refine qa6 ?_
                  refine qaa ?_
                  refine qa2 ?_
                  refine qa0 hτ rfl rfl rfl ?_
                  refine qa0 hτ rfl rfl rfl ?_
                  refine qa6 ?_
                  refine qc7 (ι:=Int) (fun v146=>St.of [(8,.ptr 0 0),(27,.d (.int .i64 (w64 ((1:Int) + x115)))),(32,.ptr 2 0),(34,.d (.int .i64 v128)),(35,.d (.int .i64 v146)),(245,.d (.int .i64 (x71.1.qa3.length:Int))),(246,.d (.int .i64 v128))] [.box [.row 1 x71.1.qa3.length 0 x71.1.qa3.length,.d (.sl false (x71.1.qae.map qa1)),.d (.int .i64 x71.1.Rounds),.d (.bool x71.1.qaw)],.row 3 (x71.1.qa3.map qa1),.box [.row 3 x120.1.qa3.length 0 x120.1.qa3.length,.d (.sl false (x120.1.qae.map qa1)),.d (.int .i64 x120.1.Rounds),.d (.bool x120.1.qaw)],.row 3 (x120.1.qa3.map qa1)] f5.ntmps 0) (fun v146=>qd8 n x71 x120 (qbf n x71 x115 x120 m135) v128 v146 = some r) ?_ (fun hk151=>?_)
                  · rintro v146 h
                    replace h:qd8 n x71 x120 (qbf n x71 x115 x120 m135) v128 v146 = some r:=h
                    unfold qd8 at h
                    refine qaa ?_
                    refine qcv ?_
                    refine qad hτ [0] 0 rfl rfl rfl rfl rfl ?_
                    refine qad hτ [0] 1 rfl rfl rfl rfl rfl ?_
                    refine qad hτ [] 2 rfl rfl rfl rfl rfl ?_
                    refine qac h fun x147 hx147 h=>?_
                    refine qfa hτ [1] 3 rfl rfl rfl rfl rfl (qdb hx147) ?_
                    refine qg1 hτ [1] 4 rfl rfl rfl rfl rfl (qb5 _) (qe0 hx147) rfl ?_
                    refine qad hτ [2] 5 rfl rfl rfl rfl rfl ?_
                    refine qad hτ [2] 6 rfl rfl rfl rfl rfl ?_
                    refine qad hτ [] 7 rfl rfl rfl rfl rfl ?_
                    refine qac h fun x148 hx148 h=>?_
                    refine qfa hτ [3] 8 rfl rfl rfl rfl rfl (qdb hx148) ?_
                    refine qg1 hτ [3] 9 rfl rfl rfl rfl rfl (qb5 _) (qe0 hx148) rfl ?_
                    refine qac h fun x149 hx149 h=>?_
                    refine qbd hτ false [] [0,1,2,3] 10 rfl rfl rfl rfl (qai func39 rfl rfl) rfl rfl (by simp) ⟨(by trivial),(by trivial),trivial,trivial⟩ (by trivial) (laws_b10Close_ok n x147 x148 (4587366580439587226:Nat) hx149) ⟨rfl,rfl,rfl,rfl,trivial⟩ ?_
                    refine qad hτ [] 11 rfl rfl rfl rfl rfl ?_
                    refine qd4 mixed (by kernel_rfl) ?_
                    refine qab (qa5 [0,1,2,3] (l:=[(8,.ptr 0 0),(27,.d (.int .i64 (w64 ((1:Int) + x115)))),(32,.ptr 2 0),(245,.d (.int .i64 (x71.1.qa3.length:Int))),(246,.d (.int .i64 v128)),(272,.d (.bool (!x149)))]) (objs:=[.box [.row 1 x71.1.qa3.length 0 x71.1.qa3.length,.d (.sl false (x71.1.qae.map qa1)),.d (.int .i64 x71.1.Rounds),.d (.bool x71.1.qaw)],.row 3 (x71.1.qa3.map qa1),.box [.row 3 x120.1.qa3.length 0 x120.1.qa3.length,.d (.sl false (x120.1.qae.map qa1)),.d (.int .i64 x120.1.Rounds),.d (.bool x120.1.qaw)],.row 3 (x120.1.qa3.map qa1)]) rfl (by simp) rfl (by trivial) ⟨rfl,trivial,rfl,trivial,rfl,trivial,rfl,trivial,rfl,trivial,rfl,trivial,trivial⟩) ?_
                    refine qaz rfl (fun hc150=>?_) (fun hc150=>?_)
                    · have hc150:=qhn hc150
                      have h:=qcp h hc150
                      refine qaa ?_
                      refine qa2 ?_
                      refine qa0 hτ rfl rfl rfl ?_
                      refine qa6 ?_
                      refine qab (qa5 [] (l:=[(4,.d (.bool false))]) (objs:=[]) rfl (by simp) rfl (by trivial) ⟨rfl,trivial,trivial⟩) ?_
                      refine qas ?_
                      have hr:=Option.some.inj h
                      subst hr
                      exact qah (.inr rfl) [] (objs':=[]) (new:=[]) rfl (by simp) (by simp) rfl (by trivial) rfl rfl (by trivial) (fun _=>⟨by simp [V.flat,V.qbh,V.qb7,D.flat],qao⟩) ⟨rfl,rfl,rfl⟩
                    · have hc150:=qhm hc150
                      have h:=qcq h hc150
                      refine qb3 ?_
                      refine qab (qa5 [0,1,2,3] (l:=[(8,.ptr 0 0),(27,.d (.int .i64 (w64 ((1:Int) + x115)))),(32,.ptr 2 0),(245,.d (.int .i64 (x71.1.qa3.length:Int))),(246,.d (.int .i64 v128))]) (objs:=[.box [.row 1 x71.1.qa3.length 0 x71.1.qa3.length,.d (.sl false (x71.1.qae.map qa1)),.d (.int .i64 x71.1.Rounds),.d (.bool x71.1.qaw)],.row 3 (x71.1.qa3.map qa1),.box [.row 3 x120.1.qa3.length 0 x120.1.qa3.length,.d (.sl false (x120.1.qae.map qa1)),.d (.int .i64 x120.1.Rounds),.d (.bool x120.1.qaw)],.row 3 (x120.1.qa3.map qa1)]) rfl (by simp) rfl (by trivial) ⟨rfl,trivial,rfl,trivial,rfl,trivial,rfl,trivial,rfl,trivial,trivial⟩) ?_
                      exact hk143 () h
                  · refine qaa ?_
                    refine qaa ?_
                    refine qa2 ?_
                    refine qa0 hτ rfl rfl rfl ?_
                    refine qa0 hτ rfl rfl rfl ?_
                    refine qa0 hτ (v:=.d (.bool (decide (v128 = (w64 ((1:Int) + x115)))))) rfl rfl (qhu _ _) ?_
                    refine qa6 ?_
                    refine qab (qa5 [0,1,2,3] (l:=[(8,.ptr 0 0),(27,.d (.int .i64 (w64 ((1:Int) + x115)))),(32,.ptr 2 0),(34,.d (.int .i64 v128)),(35,.d (.int .i64 v128)),(245,.d (.int .i64 (x71.1.qa3.length:Int))),(246,.d (.int .i64 v128)),(252,.d (.bool (decide (v128 = (w64 ((1:Int) + x115))))))]) (objs:=[.box [.row 1 x71.1.qa3.length 0 x71.1.qa3.length,.d (.sl false (x71.1.qae.map qa1)),.d (.int .i64 x71.1.Rounds),.d (.bool x71.1.qaw)],.row 3 (x71.1.qa3.map qa1),.box [.row 3 x120.1.qa3.length 0 x120.1.qa3.length,.d (.sl false (x120.1.qae.map qa1)),.d (.int .i64 x120.1.Rounds),.d (.bool x120.1.qaw)],.row 3 (x120.1.qa3.map qa1)]) rfl (by simp) rfl (by trivial) ⟨rfl,trivial,rfl,trivial,rfl,trivial,rfl,trivial,rfl,trivial,rfl,trivial,rfl,trivial,rfl,trivial,trivial⟩) ?_
                    refine qaz rfl (fun hc152=>?_) (fun hc152=>?_)
                    · have h:=if_t h hc152
                      refine qa2 ?_
                      refine qa0 hτ rfl rfl rfl ?_
                      refine qa0 hτ rfl rfl rfl ?_
                      refine qa0 hτ rfl rfl rfl ?_
                      refine qa6 ?_
                      refine qab (qa5 [0,1,2,3] (l:=[(8,.ptr 0 0),(27,.d (.int .i64 (w64 ((1:Int) + x115)))),(32,.ptr 2 0),(34,.d (.int .i64 v128)),(35,.d (.int .i64 (w64 (v128 + (1:Int))))),(245,.d (.int .i64 (x71.1.qa3.length:Int))),(246,.d (.int .i64 v128))]) (objs:=[.box [.row 1 x71.1.qa3.length 0 x71.1.qa3.length,.d (.sl false (x71.1.qae.map qa1)),.d (.int .i64 x71.1.Rounds),.d (.bool x71.1.qaw)],.row 3 (x71.1.qa3.map qa1),.box [.row 3 x120.1.qa3.length 0 x120.1.qa3.length,.d (.sl false (x120.1.qae.map qa1)),.d (.int .i64 x120.1.Rounds),.d (.bool x120.1.qaw)],.row 3 (x120.1.qa3.map qa1)]) rfl (by simp) rfl (by trivial) ⟨rfl,trivial,rfl,trivial,rfl,trivial,rfl,trivial,rfl,trivial,rfl,trivial,rfl,trivial,trivial⟩) ?_
                      exact hk151 (w64 (v128 + (1:Int))) h
                    · have h:=if_f h hc152
                      refine qaa ?_
                      refine qa2 ?_
                      refine qa0 hτ rfl rfl rfl ?_
                      refine qa0 hτ rfl rfl rfl ?_
                      refine qa0 hτ rfl rfl rfl ?_
                      refine qa0 hτ (v:=.d (.bool (decide (v128 = (w64 ((w64 ((1:Int) + x115)) + (1:Int))))))) rfl rfl (qhu _ _) ?_
                      refine qa6 ?_
                      refine qaz rfl (fun hc153=>?_) (fun hc153=>?_)
                      · have h:=if_t h hc153
                        refine qa2 ?_
                        refine qa0 hτ rfl rfl rfl ?_
                        refine qa0 hτ rfl rfl rfl ?_
                        refine qa0 hτ rfl rfl rfl ?_
                        refine qa6 ?_
                        refine qab (qa5 [0,1,2,3] (l:=[(8,.ptr 0 0),(27,.d (.int .i64 (w64 ((1:Int) + x115)))),(32,.ptr 2 0),(34,.d (.int .i64 v128)),(35,.d (.int .i64 (w64 (v128 - (1:Int))))),(245,.d (.int .i64 (x71.1.qa3.length:Int))),(246,.d (.int .i64 v128))]) (objs:=[.box [.row 1 x71.1.qa3.length 0 x71.1.qa3.length,.d (.sl false (x71.1.qae.map qa1)),.d (.int .i64 x71.1.Rounds),.d (.bool x71.1.qaw)],.row 3 (x71.1.qa3.map qa1),.box [.row 3 x120.1.qa3.length 0 x120.1.qa3.length,.d (.sl false (x120.1.qae.map qa1)),.d (.int .i64 x120.1.Rounds),.d (.bool x120.1.qaw)],.row 3 (x120.1.qa3.map qa1)]) rfl (by simp) rfl (by trivial) ⟨rfl,trivial,rfl,trivial,rfl,trivial,rfl,trivial,rfl,trivial,rfl,trivial,rfl,trivial,trivial⟩) ?_
                        exact hk151 (w64 (v128 - (1:Int))) h
                      · have h:=if_f h hc153
                        refine qb3 ?_
                        refine qab (qa5 [0,1,2,3] (l:=[(8,.ptr 0 0),(27,.d (.int .i64 (w64 ((1:Int) + x115)))),(32,.ptr 2 0),(34,.d (.int .i64 v128)),(35,.d (.int .i64 v128)),(245,.d (.int .i64 (x71.1.qa3.length:Int))),(246,.d (.int .i64 v128))]) (objs:=[.box [.row 1 x71.1.qa3.length 0 x71.1.qa3.length,.d (.sl false (x71.1.qae.map qa1)),.d (.int .i64 x71.1.Rounds),.d (.bool x71.1.qaw)],.row 3 (x71.1.qa3.map qa1),.box [.row 3 x120.1.qa3.length 0 x120.1.qa3.length,.d (.sl false (x120.1.qae.map qa1)),.d (.int .i64 x120.1.Rounds),.d (.bool x120.1.qaw)],.row 3 (x120.1.qa3.map qa1)]) rfl (by simp) rfl (by trivial) ⟨rfl,trivial,rfl,trivial,rfl,trivial,rfl,trivial,rfl,trivial,rfl,trivial,rfl,trivial,trivial⟩) ?_
                        exact hk151 v128 h
              · have h:=if_f h hc137
                refine qfc ?_
                refine qaa ?_
                refine qa2 ?_
                refine qa0 hτ rfl rfl rfl ?_
                refine qa6 ?_
                refine qab (qa5 [] (l:=[(4,.d (.bool true))]) (objs:=[]) rfl (by simp) rfl (by trivial) ⟨rfl,trivial,trivial⟩) ?_
                refine qas ?_
                have hr:=Option.some.inj h
                subst hr
                exact qah (.inr rfl) [] (objs':=[]) (new:=[]) rfl (by simp) (by simp) rfl (by trivial) rfl rfl (by trivial) (fun _=>⟨by simp [V.flat,V.qbh,V.qb7,D.flat],qao⟩) ⟨rfl,rfl,rfl⟩
            · refine qaa ?_
              refine qc7 (ι:=Bool) (fun v157=>St.of [(8,.ptr 0 0),(27,.d (.int .i64 (w64 ((1:Int) + x115)))),(32,.ptr 2 0),(242,.d (.bool v157))] [.box [.row 1 x71.1.qa3.length 0 x71.1.qa3.length,.d (.sl false (x71.1.qae.map qa1)),.d (.int .i64 x71.1.Rounds),.d (.bool x71.1.qaw)],.row 3 (x71.1.qa3.map qa1),.box [.row 3 x120.1.qa3.length 0 x120.1.qa3.length,.d (.sl false (x120.1.qae.map qa1)),.d (.int .i64 x120.1.Rounds),.d (.bool x120.1.qaw)],.row 3 (x120.1.qa3.map qa1)] f5.ntmps 0) (fun v157=>qek n x71 x115 x120 v157 = some r) ?_ (fun hk159=>?_)
              · rintro v157 h
                replace h:qek n x71 x115 x120 v157 = some r:=h
                unfold qek at h
                refine qaz rfl (fun hc158=>?_) (fun hc158=>?_)
                · have h:=qcq h hc158
                  refine qaa ?_
                  refine qa2 ?_
                  refine qa0 hτ rfl rfl rfl ?_
                  refine qa6 ?_
                  refine qab (qa5 [] (l:=[(4,.d (.bool false))]) (objs:=[]) rfl (by simp) rfl (by trivial) ⟨rfl,trivial,trivial⟩) ?_
                  refine qas ?_
                  have hr:=Option.some.inj h
                  subst hr
                  exact qah (.inr rfl) [] (objs':=[]) (new:=[]) rfl (by simp) (by simp) rfl (by trivial) rfl rfl (by trivial) (fun _=>⟨by simp [V.flat,V.qbh,V.qb7,D.flat],qao⟩) ⟨rfl,rfl,rfl⟩
                · have h:=qcp h hc158
                  refine qb3 ?_
                  refine qab (qa5 [0,1,2,3] (l:=[(8,.ptr 0 0),(27,.d (.int .i64 (w64 ((1:Int) + x115)))),(32,.ptr 2 0)]) (objs:=[.box [.row 1 x71.1.qa3.length 0 x71.1.qa3.length,.d (.sl false (x71.1.qae.map qa1)),.d (.int .i64 x71.1.Rounds),.d (.bool x71.1.qaw)],.row 3 (x71.1.qa3.map qa1),.box [.row 3 x120.1.qa3.length 0 x120.1.qa3.length,.d (.sl false (x120.1.qae.map qa1)),.d (.int .i64 x120.1.Rounds),.d (.bool x120.1.qaw)],.row 3 (x120.1.qa3.map qa1)]) rfl (by simp) rfl (by trivial) ⟨rfl,trivial,rfl,trivial,rfl,trivial,trivial⟩) ?_
                  exact hk154 () h
              · refine qaa ?_
                refine qa2 ?_
                refine qa0 hτ rfl rfl rfl ?_
                refine qa0 hτ rfl rfl rfl ?_
                refine qa0 hτ rfl rfl rfl ?_
                refine qb4 234 rfl (fun hb160=>?_) (fun hb160=>?_)
                · have hb160:=qhn hb160
                  have h:=qcp h hb160
                  refine qa4 rfl rfl ?_
                  refine qa4 rfl rfl ?_
                  refine qa4 rfl rfl ?_
                  refine qa4 rfl rfl ?_
                  refine qa4 rfl rfl ?_
                  refine qa4 rfl rfl ?_
                  refine qa4 rfl rfl ?_
                  refine qap (qa5 [1,2,3,4] (l:=[(8,.ptr 0 0),(27,.d (.int .i64 (w64 ((1:Int) + x115)))),(32,.ptr 2 0),(234,.d (.bool true)),(241,.und)]) (objs:=[.box [.row 1 x71.1.qa3.length 0 x71.1.qa3.length,.d (.sl false (x71.1.qae.map qa1)),.d (.int .i64 x71.1.Rounds),.d (.bool x71.1.qaw)],.row 3 (x71.1.qa3.map qa1),.box [.row 3 x120.1.qa3.length 0 x120.1.qa3.length,.d (.sl false (x120.1.qae.map qa1)),.d (.int .i64 x120.1.Rounds),.d (.bool x120.1.qaw)],.row 3 (x120.1.qa3.map qa1)]) rfl (by simp) rfl (by trivial) ⟨rfl,trivial,rfl,trivial,rfl,trivial,rfl,trivial,rfl,trivial,trivial⟩) ?_
                  refine qa0 hτ rfl rfl rfl ?_
                  refine qa6 ?_
                  refine qab (qa5 [0,1,2,3] (l:=[(8,.ptr 0 0),(27,.d (.int .i64 (w64 ((1:Int) + x115)))),(32,.ptr 2 0),(242,.d (.bool true))]) (objs:=[.box [.row 1 x71.1.qa3.length 0 x71.1.qa3.length,.d (.sl false (x71.1.qae.map qa1)),.d (.int .i64 x71.1.Rounds),.d (.bool x71.1.qaw)],.row 3 (x71.1.qa3.map qa1),.box [.row 3 x120.1.qa3.length 0 x120.1.qa3.length,.d (.sl false (x120.1.qae.map qa1)),.d (.int .i64 x120.1.Rounds),.d (.bool x120.1.qaw)],.row 3 (x120.1.qa3.map qa1)]) rfl (by simp) rfl (by trivial) ⟨rfl,trivial,rfl,trivial,rfl,trivial,rfl,trivial,trivial⟩) ?_
                  exact hk159 true h
                · have hb160:=qhm hb160
                  have h:=qcq h hb160
                  refine qa0 hτ rfl rfl rfl ?_
                  refine qa0 hτ rfl rfl rfl ?_
                  refine qbl hτ rfl rfl rfl (qb5 _) ?_
                  refine qa0 hτ rfl rfl rfl ?_
                  refine qa0 hτ rfl rfl rfl ?_
                  refine qa0 hτ (v:=.d (.int .i64 (x69.qa9.length:Int))) rfl rfl (Eq.trans rfl (qfx (f:=qaf) x69.qa9)) ?_
                  refine qa0 hτ (v:=.d (.bool (!(decide ((x120.1.qa3.length:Int) = (x69.qa9.length:Int)))))) rfl rfl (qru _ _) ?_
                  refine qap (qa5 [1,2,3,4] (l:=[(8,.ptr 0 0),(27,.d (.int .i64 (w64 ((1:Int) + x115)))),(32,.ptr 2 0),(234,.d (.bool false)),(241,.d (.bool (!(decide ((x120.1.qa3.length:Int) = (x69.qa9.length:Int))))))]) (objs:=[.box [.row 1 x71.1.qa3.length 0 x71.1.qa3.length,.d (.sl false (x71.1.qae.map qa1)),.d (.int .i64 x71.1.Rounds),.d (.bool x71.1.qaw)],.row 3 (x71.1.qa3.map qa1),.box [.row 3 x120.1.qa3.length 0 x120.1.qa3.length,.d (.sl false (x120.1.qae.map qa1)),.d (.int .i64 x120.1.Rounds),.d (.bool x120.1.qaw)],.row 3 (x120.1.qa3.map qa1)]) rfl (by simp) rfl (by trivial) ⟨rfl,trivial,rfl,trivial,rfl,trivial,rfl,trivial,rfl,trivial,trivial⟩) ?_
                  refine qa0 hτ rfl rfl rfl ?_
                  refine qa6 ?_
                  refine qab (qa5 [0,1,2,3] (l:=[(8,.ptr 0 0),(27,.d (.int .i64 (w64 ((1:Int) + x115)))),(32,.ptr 2 0),(242,.d (.bool (!(decide ((x120.1.qa3.length:Int) = (x69.qa9.length:Int))))))]) (objs:=[.box [.row 1 x71.1.qa3.length 0 x71.1.qa3.length,.d (.sl false (x71.1.qae.map qa1)),.d (.int .i64 x71.1.Rounds),.d (.bool x71.1.qaw)],.row 3 (x71.1.qa3.map qa1),.box [.row 3 x120.1.qa3.length 0 x120.1.qa3.length,.d (.sl false (x120.1.qae.map qa1)),.d (.int .i64 x120.1.Rounds),.d (.bool x120.1.qaw)],.row 3 (x120.1.qa3.map qa1)]) rfl (by simp) rfl (by trivial) ⟨rfl,trivial,rfl,trivial,rfl,trivial,rfl,trivial,trivial⟩) ?_
                  exact hk159 (!(decide ((x120.1.qa3.length:Int) = (x69.qa9.length:Int)))) h
      · refine qaa ?_
        refine qaa ?_
        refine qa2 ?_
        refine qa0 hτ rfl rfl rfl ?_
        refine qa0 hτ rfl rfl rfl ?_
        refine qbl hτ rfl rfl rfl (qb5 _) ?_
        refine qa0 hτ rfl rfl rfl ?_
        refine qa6 ?_
        refine qba ?_
        refine qfd (ι:=Nat × Int) (fun (m184,v172)=>St.of [(1,.d (.sl false (more_.map qaq))),(5,.ptr 0 0),(6,.d (.sl false (x70.1.map qa1))),(8,.ptr 1 0),(11,.d (.fl .f32 x72.2.1)),(165,.d (.int .i64 (x71.1.qa3.length:Int))),(166,.d (.int .i64 v172))] [.box [.d (.cx .f32 x69.Source.A.re x69.Source.A.im),.d (.cx .f32 x69.Source.B.re x69.Source.B.im),.d (.cx .f32 x69.Source.C.re x69.Source.C.im),.d (.sl false (x69.qa9.map qaf))],.box [.row 2 x71.1.qa3.length 0 x71.1.qa3.length,.d (.sl false (x71.1.qae.map qa1)),.d (.int .i64 x71.1.Rounds),.d (.bool x71.1.qaw)],.row 3 (x71.1.qa3.map qa1)] f5.ntmps 0) (fun (m184,v172)=>qbg n more_ x69 x70 x71 x72 m184 v172 = some r) (fun x=>x.1) (n,(0:Int)) h (qa5 [0,1,2] (l:=[(1,.d (.sl false (more_.map qaq))),(5,.ptr 0 0),(6,.d (.sl false (x70.1.map qa1))),(8,.ptr 1 0),(11,.d (.fl .f32 x72.2.1)),(165,.d (.int .i64 (x71.1.qa3.length:Int))),(166,.d (.int .i64 (0:Int)))]) (objs:=[.box [.d (.cx .f32 x69.Source.A.re x69.Source.A.im),.d (.cx .f32 x69.Source.B.re x69.Source.B.im),.d (.cx .f32 x69.Source.C.re x69.Source.C.im),.d (.sl false (x69.qa9.map qaf))],.box [.row 2 x71.1.qa3.length 0 x71.1.qa3.length,.d (.sl false (x71.1.qae.map qa1)),.d (.int .i64 x71.1.Rounds),.d (.bool x71.1.qaw)],.row 3 (x71.1.qa3.map qa1)]) rfl (by simp) rfl (by trivial) ⟨rfl,trivial,rfl,trivial,rfl,trivial,rfl,trivial,rfl,trivial,rfl,trivial,rfl,trivial,trivial⟩) ?_
        rintro ⟨m184,v172⟩ h
        replace h:qbg n more_ x69 x70 x71 x72 m184 v172 = some r:=h
        rcases m184 with _ | m184
        · rw [qbg] at h;cases h
        rw [qbg] at h
        refine qaa ?_
        refine qa2 ?_
        refine qa0 hτ rfl rfl rfl ?_
        refine qa6 ?_
        refine qaa ?_
        refine qaz rfl (fun hc186=>?_) (fun hc186=>?_)
        · have h:=if_t h hc186
          refine qb3 ?_
          refine qc7 (ι:=Unit) (fun _=>St.of [(1,.d (.sl false (more_.map qaq))),(5,.ptr 0 0),(6,.d (.sl false (x70.1.map qa1))),(8,.ptr 1 0),(11,.d (.fl .f32 x72.2.1)),(165,.d (.int .i64 (x71.1.qa3.length:Int))),(166,.d (.int .i64 v172))] [.box [.d (.cx .f32 x69.Source.A.re x69.Source.A.im),.d (.cx .f32 x69.Source.B.re x69.Source.B.im),.d (.cx .f32 x69.Source.C.re x69.Source.C.im),.d (.sl false (x69.qa9.map qaf))],.box [.row 2 x71.1.qa3.length 0 x71.1.qa3.length,.d (.sl false (x71.1.qae.map qa1)),.d (.int .i64 x71.1.Rounds),.d (.bool x71.1.qaw)],.row 3 (x71.1.qa3.map qa1)] f5.ntmps 0) (fun _=>qfs n (qbg n more_ x69 x70 x71 x72 m184) v172 = some r) ?_ (fun hk197=>?_)
          · rintro ⟨⟩ h
            replace h:qfs n (qbg n more_ x69 x70 x71 x72 m184) v172 = some r:=h
            unfold qfs at h
            refine qa2 ?_
            refine qa0 hτ rfl rfl rfl ?_
            refine qa0 hτ rfl rfl rfl ?_
            refine qa6 ?_
            exact ⟨(m184,(w64 (v172 + (1:Int)))),h,Nat.lt_succ_self m184,(qa5 [0,1,2] (l:=[(1,.d (.sl false (more_.map qaq))),(5,.ptr 0 0),(6,.d (.sl false (x70.1.map qa1))),(8,.ptr 1 0),(11,.d (.fl .f32 x72.2.1)),(165,.d (.int .i64 (x71.1.qa3.length:Int))),(166,.d (.int .i64 (w64 (v172 + (1:Int)))))]) (objs:=[.box [.d (.cx .f32 x69.Source.A.re x69.Source.A.im),.d (.cx .f32 x69.Source.B.re x69.Source.B.im),.d (.cx .f32 x69.Source.C.re x69.Source.C.im),.d (.sl false (x69.qa9.map qaf))],.box [.row 2 x71.1.qa3.length 0 x71.1.qa3.length,.d (.sl false (x71.1.qae.map qa1)),.d (.int .i64 x71.1.Rounds),.d (.bool x71.1.qaw)],.row 3 (x71.1.qa3.map qa1)]) rfl (by simp) rfl (by trivial) ⟨rfl,trivial,rfl,trivial,rfl,trivial,rfl,trivial,rfl,trivial,rfl,trivial,rfl,trivial,trivial⟩)⟩
          · refine qaa ?_
            refine qba ?_
            refine qaa ?_
            refine qa2 ?_
            refine qa0 hτ rfl rfl rfl ?_
            refine qa0 hτ rfl rfl rfl ?_
            refine qa6 ?_
            refine qaa ?_
            refine qa2 ?_
            refine qa0 hτ rfl rfl rfl ?_
            refine qa0 hτ rfl rfl rfl ?_
            refine qa0 hτ rfl rfl rfl ?_
            refine qac h fun x198 hx198 h=>?_
            refine qbl hτ rfl rfl rfl (qdb hx198) ?_
            refine qfb hτ rfl rfl rfl (qb5 _) (qe0 hx198) rfl ?_
            refine qak hτ rfl rfl rfl ?_
            refine qak hτ rfl rfl rfl ?_
            refine qa6 ?_
            refine qc7 (ι:=Bool) (fun v208=>St.of [(1,.d (.sl false (more_.map qaq))),(5,.ptr 0 0),(6,.d (.sl false (x70.1.map qa1))),(8,.ptr 1 0),(11,.d (.fl .f32 x72.2.1)),(165,.d (.int .i64 (x71.1.qa3.length:Int))),(166,.d (.int .i64 v172)),(204,.d (.bool v208))] [.box [.d (.cx .f32 x69.Source.A.re x69.Source.A.im),.d (.cx .f32 x69.Source.B.re x69.Source.B.im),.d (.cx .f32 x69.Source.C.re x69.Source.C.im),.d (.sl false (x69.qa9.map qaf))],.box [.row 2 x71.1.qa3.length 0 x71.1.qa3.length,.d (.sl false (x71.1.qae.map qa1)),.d (.int .i64 x71.1.Rounds),.d (.bool x71.1.qaw)],.row 3 (x71.1.qa3.map qa1)] f5.ntmps 0) (fun v208=>qcx n (qbg n more_ x69 x70 x71 x72 m184) v172 v208 = some r) ?_ (fun hk210=>?_)
            · rintro v208 h
              replace h:qcx n (qbg n more_ x69 x70 x71 x72 m184) v172 v208 = some r:=h
              unfold qcx at h
              refine qaz rfl (fun hc209=>?_) (fun hc209=>?_)
              · have h:=qcq h hc209
                refine qaa ?_
                refine qa2 ?_
                refine qa0 hτ rfl rfl rfl ?_
                refine qa6 ?_
                refine qab (qa5 [] (l:=[(4,.d (.bool false))]) (objs:=[]) rfl (by simp) rfl (by trivial) ⟨rfl,trivial,trivial⟩) ?_
                refine qas ?_
                have hr:=Option.some.inj h
                subst hr
                exact qah (.inr rfl) [] (objs':=[]) (new:=[]) rfl (by simp) (by simp) rfl (by trivial) rfl rfl (by trivial) (fun _=>⟨by simp [V.flat,V.qbh,V.qb7,D.flat],qao⟩) ⟨rfl,rfl,rfl⟩
              · have h:=qcp h hc209
                refine qb3 ?_
                refine qab (qa5 [0,1,2] (l:=[(1,.d (.sl false (more_.map qaq))),(5,.ptr 0 0),(6,.d (.sl false (x70.1.map qa1))),(8,.ptr 1 0),(11,.d (.fl .f32 x72.2.1)),(165,.d (.int .i64 (x71.1.qa3.length:Int))),(166,.d (.int .i64 v172))]) (objs:=[.box [.d (.cx .f32 x69.Source.A.re x69.Source.A.im),.d (.cx .f32 x69.Source.B.re x69.Source.B.im),.d (.cx .f32 x69.Source.C.re x69.Source.C.im),.d (.sl false (x69.qa9.map qaf))],.box [.row 2 x71.1.qa3.length 0 x71.1.qa3.length,.d (.sl false (x71.1.qae.map qa1)),.d (.int .i64 x71.1.Rounds),.d (.bool x71.1.qaw)],.row 3 (x71.1.qa3.map qa1)]) rfl (by simp) rfl (by trivial) ⟨rfl,trivial,rfl,trivial,rfl,trivial,rfl,trivial,rfl,trivial,rfl,trivial,rfl,trivial,trivial⟩) ?_
                exact hk197 () h
            · refine qaa ?_
              refine qab (qa5 [0,1,2,3] (l:=[(1,.d (.sl false (more_.map qaq))),(5,.ptr 0 0),(6,.d (.sl false (x70.1.map qa1))),(8,.ptr 1 0),(11,.d (.fl .f32 x72.2.1)),(26,.ptr 3 0),(165,.d (.int .i64 (x71.1.qa3.length:Int))),(166,.d (.int .i64 v172))]) (objs:=[.box [.d (.cx .f32 x69.Source.A.re x69.Source.A.im),.d (.cx .f32 x69.Source.B.re x69.Source.B.im),.d (.cx .f32 x69.Source.C.re x69.Source.C.im),.d (.sl false (x69.qa9.map qaf))],.box [.row 2 x71.1.qa3.length 0 x71.1.qa3.length,.d (.sl false (x71.1.qae.map qa1)),.d (.int .i64 x71.1.Rounds),.d (.bool x71.1.qaw)],.row 3 (x71.1.qa3.map qa1),.box [.d (.cx .f32 x198.A.re x198.A.im),.d (.cx .f32 x198.B.re x198.B.im),.d (.cx .f32 x198.C.re x198.C.im)]]) rfl (by simp) rfl (by trivial) ⟨rfl,trivial,rfl,trivial,rfl,trivial,rfl,trivial,rfl,trivial,rfl,trivial,rfl,trivial,rfl,trivial,trivial⟩) ?_
              refine qcv ?_
              refine qad hτ [3] 0 rfl rfl rfl rfl rfl ?_
              refine qad hτ [3] 1 rfl rfl rfl rfl rfl ?_
              refine qad hτ [] 3 rfl rfl rfl rfl rfl ?_
              refine qac h fun x211 hx211 h=>?_
              refine qbd hτ false [] [0,1,2,3] 2 rfl rfl rfl rfl (qai func35 rfl rfl) rfl rfl (by simp) ⟨trivial,trivial⟩ (by trivial) (qg0 n x198.A hx211) ⟨rfl,rfl,rfl,rfl,trivial⟩ ?_
              refine qad hτ [] 4 rfl rfl rfl rfl rfl ?_
              refine qad hτ [] 5 rfl rfl rfl rfl rfl ?_
              refine qo2 179 rfl (fun hb212=>?_) (fun hb212=>?_)
              · have h:=qcq h hb212
                refine qbk 6 rfl rfl rfl ?_
                refine qbk 7 rfl rfl rfl ?_
                refine qbk 9 rfl rfl rfl ?_
                refine qbk 8 rfl rfl rfl ?_
                refine qbk 10 rfl rfl rfl ?_
                refine qad hτ [] 11 rfl rfl rfl rfl rfl ?_
                refine qad hτ [] 12 rfl rfl rfl rfl rfl ?_
                refine qbk 13 rfl rfl rfl ?_
                refine qbk 14 rfl rfl rfl ?_
                refine qbk 16 rfl rfl rfl ?_
                refine qbk 15 rfl rfl rfl ?_
                refine qbk 17 rfl rfl rfl ?_
                refine qad hτ [] 18 rfl rfl rfl rfl rfl ?_
                refine qad hτ [] 19 rfl rfl rfl rfl rfl ?_
                refine qbk 20 rfl rfl rfl ?_
                refine qbk 22 rfl rfl rfl ?_
                refine qbk 23 rfl rfl rfl ?_
                refine qbk 24 rfl rfl rfl ?_
                refine qbk 25 rfl rfl rfl ?_
                refine qbk 26 rfl rfl rfl ?_
                refine qbk 21 rfl rfl rfl ?_
                refine qbk 27 rfl rfl rfl ?_
                refine qbk 28 rfl rfl rfl ?_
                refine qbk 29 rfl rfl rfl ?_
                refine qad hτ [] 30 rfl rfl rfl rfl rfl ?_
                refine qd4 mixed (by kernel_rfl) ?_
                refine qab (qa5 [0,1,2] (l:=[(1,.d (.sl false (more_.map qaq))),(5,.ptr 0 0),(6,.d (.sl false (x70.1.map qa1))),(8,.ptr 1 0),(11,.d (.fl .f32 x72.2.1)),(165,.d (.int .i64 (x71.1.qa3.length:Int))),(166,.d (.int .i64 v172)),(204,.d (.bool true))]) (objs:=[.box [.d (.cx .f32 x69.Source.A.re x69.Source.A.im),.d (.cx .f32 x69.Source.B.re x69.Source.B.im),.d (.cx .f32 x69.Source.C.re x69.Source.C.im),.d (.sl false (x69.qa9.map qaf))],.box [.row 2 x71.1.qa3.length 0 x71.1.qa3.length,.d (.sl false (x71.1.qae.map qa1)),.d (.int .i64 x71.1.Rounds),.d (.bool x71.1.qaw)],.row 3 (x71.1.qa3.map qa1)]) rfl (by simp) rfl (by trivial) ⟨rfl,trivial,rfl,trivial,rfl,trivial,rfl,trivial,rfl,trivial,rfl,trivial,rfl,trivial,rfl,trivial,trivial⟩) ?_
                exact hk210 true h
              · have h:=qcp h hb212
                refine qad hτ [3] 6 rfl rfl rfl rfl rfl ?_
                refine qad hτ [3] 7 rfl rfl rfl rfl rfl ?_
                refine qad hτ [] 9 rfl rfl rfl rfl rfl ?_
                refine qac h fun x213 hx213 h=>?_
                refine qbd hτ false [] [0,1,2,3] 8 rfl rfl rfl rfl (qai func35 rfl rfl) rfl rfl (by simp) ⟨trivial,trivial⟩ (by trivial) (qg0 n x198.B hx213) ⟨rfl,rfl,rfl,rfl,trivial⟩ ?_
                refine qad hτ [] 10 rfl rfl rfl rfl rfl ?_
                refine qad hτ [] 11 rfl rfl rfl rfl rfl ?_
                refine qad hτ [] 12 rfl rfl rfl rfl rfl ?_
                refine qo2 186 rfl (fun hb214=>?_) (fun hb214=>?_)
                · have h:=qcq h hb214
                  refine qbk 13 rfl rfl rfl ?_
                  refine qbk 14 rfl rfl rfl ?_
                  refine qbk 16 rfl rfl rfl ?_
                  refine qbk 15 rfl rfl rfl ?_
                  refine qbk 17 rfl rfl rfl ?_
                  refine qad hτ [] 18 rfl rfl rfl rfl rfl ?_
                  refine qad hτ [] 19 rfl rfl rfl rfl rfl ?_
                  refine qbk 20 rfl rfl rfl ?_
                  refine qbk 22 rfl rfl rfl ?_
                  refine qbk 23 rfl rfl rfl ?_
                  refine qbk 24 rfl rfl rfl ?_
                  refine qbk 25 rfl rfl rfl ?_
                  refine qbk 26 rfl rfl rfl ?_
                  refine qbk 21 rfl rfl rfl ?_
                  refine qbk 27 rfl rfl rfl ?_
                  refine qbk 28 rfl rfl rfl ?_
                  refine qbk 29 rfl rfl rfl ?_
                  refine qad hτ [] 30 rfl rfl rfl rfl rfl ?_
                  refine qd4 mixed (by kernel_rfl) ?_
                  refine qab (qa5 [0,1,2] (l:=[(1,.d (.sl false (more_.map qaq))),(5,.ptr 0 0),(6,.d (.sl false (x70.1.map qa1))),(8,.ptr 1 0),(11,.d (.fl .f32 x72.2.1)),(165,.d (.int .i64 (x71.1.qa3.length:Int))),(166,.d (.int .i64 v172)),(204,.d (.bool true))]) (objs:=[.box [.d (.cx .f32 x69.Source.A.re x69.Source.A.im),.d (.cx .f32 x69.Source.B.re x69.Source.B.im),.d (.cx .f32 x69.Source.C.re x69.Source.C.im),.d (.sl false (x69.qa9.map qaf))],.box [.row 2 x71.1.qa3.length 0 x71.1.qa3.length,.d (.sl false (x71.1.qae.map qa1)),.d (.int .i64 x71.1.Rounds),.d (.bool x71.1.qaw)],.row 3 (x71.1.qa3.map qa1)]) rfl (by simp) rfl (by trivial) ⟨rfl,trivial,rfl,trivial,rfl,trivial,rfl,trivial,rfl,trivial,rfl,trivial,rfl,trivial,rfl,trivial,trivial⟩) ?_
                  exact hk210 true h
                · have h:=qcp h hb214
                  refine qad hτ [3] 13 rfl rfl rfl rfl rfl ?_
                  refine qad hτ [3] 14 rfl rfl rfl rfl rfl ?_
                  refine qad hτ [] 16 rfl rfl rfl rfl rfl ?_
                  refine qac h fun x215 hx215 h=>?_
                  refine qbd hτ false [] [0,1,2,3] 15 rfl rfl rfl rfl (qai func35 rfl rfl) rfl rfl (by simp) ⟨trivial,trivial⟩ (by trivial) (qg0 n x198.C hx215) ⟨rfl,rfl,rfl,rfl,trivial⟩ ?_
                  refine qad hτ [] 17 rfl rfl rfl rfl rfl ?_
                  refine qad hτ [] 18 rfl rfl rfl rfl rfl ?_
                  refine qad hτ [] 19 rfl rfl rfl rfl rfl ?_
                  refine qo2 193 rfl (fun hb216=>?_) (fun hb216=>?_)
                  · have h:=qcq h hb216
                    refine qbk 20 rfl rfl rfl ?_
                    refine qbk 22 rfl rfl rfl ?_
                    refine qbk 23 rfl rfl rfl ?_
                    refine qbk 24 rfl rfl rfl ?_
                    refine qbk 25 rfl rfl rfl ?_
                    refine qbk 26 rfl rfl rfl ?_
                    refine qbk 21 rfl rfl rfl ?_
                    refine qbk 27 rfl rfl rfl ?_
                    refine qbk 28 rfl rfl rfl ?_
                    refine qbk 29 rfl rfl rfl ?_
                    refine qad hτ [] 30 rfl rfl rfl rfl rfl ?_
                    refine qd4 mixed (by kernel_rfl) ?_
                    refine qab (qa5 [0,1,2] (l:=[(1,.d (.sl false (more_.map qaq))),(5,.ptr 0 0),(6,.d (.sl false (x70.1.map qa1))),(8,.ptr 1 0),(11,.d (.fl .f32 x72.2.1)),(165,.d (.int .i64 (x71.1.qa3.length:Int))),(166,.d (.int .i64 v172)),(204,.d (.bool true))]) (objs:=[.box [.d (.cx .f32 x69.Source.A.re x69.Source.A.im),.d (.cx .f32 x69.Source.B.re x69.Source.B.im),.d (.cx .f32 x69.Source.C.re x69.Source.C.im),.d (.sl false (x69.qa9.map qaf))],.box [.row 2 x71.1.qa3.length 0 x71.1.qa3.length,.d (.sl false (x71.1.qae.map qa1)),.d (.int .i64 x71.1.Rounds),.d (.bool x71.1.qaw)],.row 3 (x71.1.qa3.map qa1)]) rfl (by simp) rfl (by trivial) ⟨rfl,trivial,rfl,trivial,rfl,trivial,rfl,trivial,rfl,trivial,rfl,trivial,rfl,trivial,rfl,trivial,trivial⟩) ?_
                    exact hk210 true h
                  · have h:=qcp h hb216
                    refine qad hτ [3] 20 rfl rfl rfl rfl rfl ?_
                    refine qad hτ [3] 22 rfl rfl rfl rfl rfl ?_
                    refine qad hτ [3] 23 rfl rfl rfl rfl rfl ?_
                    refine qad hτ [3] 24 rfl rfl rfl rfl rfl ?_
                    refine qad hτ [3] 25 rfl rfl rfl rfl rfl ?_
                    refine qad hτ [] 26 rfl rfl rfl rfl rfl ?_
                    refine qac h fun x217 hx217 h=>?_
                    refine qbd hτ false [] [0,1,2,3] 21 rfl rfl rfl rfl (qai func36 rfl rfl) rfl rfl (by simp) ⟨(by trivial),trivial⟩ (by trivial) (impl_WidestPair_ok n x198 hx217) ⟨rfl,rfl,rfl,rfl,trivial⟩ ?_
                    refine qac h fun x218 hx218 h=>?_
                    refine qbd hτ false [] [0,1,2,3] 27 rfl rfl rfl rfl (qai func35 rfl rfl) rfl rfl (by simp) ⟨trivial,trivial⟩ (by trivial) (qg0 n (Cx.mk (qa8 .sub .f32 x198.A.re x198.B.re) (qa8 .sub .f32 x198.A.im x198.B.im)) hx218) ⟨rfl,rfl,rfl,rfl,trivial⟩ ?_
                    refine qad hτ [] 28 rfl rfl rfl rfl rfl ?_
                    refine qad hτ [] 29 rfl rfl rfl rfl rfl ?_
                    refine qad hτ [] 30 rfl rfl rfl rfl rfl ?_
                    refine qd4 mixed (by kernel_rfl) ?_
                    refine qab (qa5 [0,1,2] (l:=[(1,.d (.sl false (more_.map qaq))),(5,.ptr 0 0),(6,.d (.sl false (x70.1.map qa1))),(8,.ptr 1 0),(11,.d (.fl .f32 x72.2.1)),(165,.d (.int .i64 (x71.1.qa3.length:Int))),(166,.d (.int .i64 v172)),(204,.d (.bool (!(fcmp .geq .f32 x217 x218))))]) (objs:=[.box [.d (.cx .f32 x69.Source.A.re x69.Source.A.im),.d (.cx .f32 x69.Source.B.re x69.Source.B.im),.d (.cx .f32 x69.Source.C.re x69.Source.C.im),.d (.sl false (x69.qa9.map qaf))],.box [.row 2 x71.1.qa3.length 0 x71.1.qa3.length,.d (.sl false (x71.1.qae.map qa1)),.d (.int .i64 x71.1.Rounds),.d (.bool x71.1.qaw)],.row 3 (x71.1.qa3.map qa1)]) rfl (by simp) rfl (by trivial) ⟨rfl,trivial,rfl,trivial,rfl,trivial,rfl,trivial,rfl,trivial,rfl,trivial,rfl,trivial,rfl,trivial,trivial⟩) ?_
                    exact hk210 (!(fcmp .geq .f32 x217 x218)) h
        · have h:=if_f h hc186
          refine qfc ?_
          refine qab (qa5 [0,1,2] (l:=[(1,.d (.sl false (more_.map qaq))),(5,.ptr 0 0),(6,.d (.sl false (x70.1.map qa1))),(8,.ptr 1 0)]) (objs:=[.box [.d (.cx .f32 x69.Source.A.re x69.Source.A.im),.d (.cx .f32 x69.Source.B.re x69.Source.B.im),.d (.cx .f32 x69.Source.C.re x69.Source.C.im),.d (.sl false (x69.qa9.map qaf))],.box [.row 2 x71.1.qa3.length 0 x71.1.qa3.length,.d (.sl false (x71.1.qae.map qa1)),.d (.int .i64 x71.1.Rounds),.d (.bool x71.1.qaw)],.row 3 (x71.1.qa3.map qa1)]) rfl (by simp) rfl (by trivial) ⟨rfl,trivial,rfl,trivial,rfl,trivial,rfl,trivial,trivial⟩) ?_
          exact hk161 () h
    · refine qaa ?_
      refine qc7 (ι:=Bool) (fun v234=>St.of [(1,.d (.sl false (more_.map qaq))),(5,.ptr 0 0),(6,.d (.sl false (x70.1.map qa1))),(8,.ptr 1 0),(11,.d (.fl .f32 x72.2.1)),(162,.d (.bool v234))] [.box [.d (.cx .f32 x69.Source.A.re x69.Source.A.im),.d (.cx .f32 x69.Source.B.re x69.Source.B.im),.d (.cx .f32 x69.Source.C.re x69.Source.C.im),.d (.sl false (x69.qa9.map qaf))],.box [.row 2 x71.1.qa3.length 0 x71.1.qa3.length,.d (.sl false (x71.1.qae.map qa1)),.d (.int .i64 x71.1.Rounds),.d (.bool x71.1.qaw)],.row 3 (x71.1.qa3.map qa1)] f5.ntmps 0) (fun v234=>qb2 n more_ x69 x70 x71 x72 v234 = some r) ?_ (fun hk236=>?_)
      · rintro v234 h
        replace h:qb2 n more_ x69 x70 x71 x72 v234 = some r:=h
        unfold qb2 at h
        refine qaz rfl (fun hc235=>?_) (fun hc235=>?_)
        · have h:=qcq h hc235
          refine qaa ?_
          refine qa2 ?_
          refine qa0 hτ rfl rfl rfl ?_
          refine qa6 ?_
          refine qab (qa5 [] (l:=[(4,.d (.bool false))]) (objs:=[]) rfl (by simp) rfl (by trivial) ⟨rfl,trivial,trivial⟩) ?_
          refine qas ?_
          have hr:=Option.some.inj h
          subst hr
          exact qah (.inr rfl) [] (objs':=[]) (new:=[]) rfl (by simp) (by simp) rfl (by trivial) rfl rfl (by trivial) (fun _=>⟨by simp [V.flat,V.qbh,V.qb7,D.flat],qao⟩) ⟨rfl,rfl,rfl⟩
        · have h:=qcp h hc235
          refine qb3 ?_
          refine qab (qa5 [0,1,2] (l:=[(1,.d (.sl false (more_.map qaq))),(5,.ptr 0 0),(6,.d (.sl false (x70.1.map qa1))),(8,.ptr 1 0),(11,.d (.fl .f32 x72.2.1))]) (objs:=[.box [.d (.cx .f32 x69.Source.A.re x69.Source.A.im),.d (.cx .f32 x69.Source.B.re x69.Source.B.im),.d (.cx .f32 x69.Source.C.re x69.Source.C.im),.d (.sl false (x69.qa9.map qaf))],.box [.row 2 x71.1.qa3.length 0 x71.1.qa3.length,.d (.sl false (x71.1.qae.map qa1)),.d (.int .i64 x71.1.Rounds),.d (.bool x71.1.qaw)],.row 3 (x71.1.qa3.map qa1)]) rfl (by simp) rfl (by trivial) ⟨rfl,trivial,rfl,trivial,rfl,trivial,rfl,trivial,rfl,trivial,trivial⟩) ?_
          exact hk219 () h
      · refine qaa ?_
        refine qab (qa5 [0,1,2,3,4] (l:=[(1,.d (.sl false (more_.map qaq))),(5,.ptr 0 0),(6,.d (.sl false (x70.1.map qa1))),(7,.d (.bool x70.2)),(8,.ptr 1 0),(9,.d (.bool x71.2)),(11,.d (.fl .f32 x72.2.1)),(12,.d (.bool x72.2.2)),(13,.row 3 x73.1.length 0 x73.1.length),(14,.d (.bool x73.2)),(15,.row 4 x74.1.length 0 x74.1.length),(16,.d (.bool x74.2)),(17,.d (.fl .f32 x75.1)),(18,.d (.bool x75.2)),(19,.d (.fl .f32 x76.1)),(20,.d (.bool x76.2)),(21,.d (.fl .f32 x77.1)),(22,.d (.bool x77.2)),(23,.d (.fl .f32 x78.1)),(24,.d (.bool x78.2))]) (objs:=[.box [.d (.cx .f32 x69.Source.A.re x69.Source.A.im),.d (.cx .f32 x69.Source.B.re x69.Source.B.im),.d (.cx .f32 x69.Source.C.re x69.Source.C.im),.d (.sl false (x69.qa9.map qaf))],.box [.row 2 x71.1.qa3.length 0 x71.1.qa3.length,.d (.sl false (x71.1.qae.map qa1)),.d (.int .i64 x71.1.Rounds),.d (.bool x71.1.qaw)],.row 3 (x71.1.qa3.map qa1),.row 1 (x73.1.map qbq),.row 1 (x74.1.map qb9)]) rfl (by simp) rfl (by trivial) ⟨rfl,trivial,rfl,trivial,rfl,trivial,rfl,trivial,rfl,trivial,rfl,trivial,rfl,trivial,rfl,trivial,rfl,trivial,rfl,trivial,rfl,trivial,rfl,trivial,rfl,trivial,rfl,trivial,rfl,trivial,rfl,trivial,rfl,trivial,rfl,trivial,rfl,trivial,rfl,trivial,trivial⟩) ?_
        refine qa2 ?_
        refine qa0 hτ rfl rfl rfl ?_
        refine qa0 hτ rfl rfl rfl ?_
        refine qa0 hτ rfl rfl rfl ?_
        refine qb4 100 rfl (fun hb237=>?_) (fun hb237=>?_)
        · have hb237:=qhn hb237
          have h:=qcp h hb237
          refine qa4 rfl rfl ?_
          refine qa4 rfl rfl ?_
          refine qa0 hτ rfl rfl rfl ?_
          refine qa0 hτ rfl rfl rfl ?_
          refine qa4 rfl rfl ?_
          refine qa4 rfl rfl ?_
          refine qa0 hτ rfl rfl rfl ?_
          refine qa0 hτ rfl rfl rfl ?_
          refine qa4 rfl rfl ?_
          refine qap (qa5 [0,1,2,3,4] (l:=[(1,.d (.sl false (more_.map qaq))),(5,.ptr 0 0),(6,.d (.sl false (x70.1.map qa1))),(8,.ptr 1 0),(11,.d (.fl .f32 x72.2.1)),(13,.row 3 x73.1.length 0 x73.1.length),(15,.row 4 x74.1.length 0 x74.1.length),(16,.d (.bool x74.2)),(17,.d (.fl .f32 x75.1)),(18,.d (.bool x75.2)),(19,.d (.fl .f32 x76.1)),(20,.d (.bool x76.2)),(21,.d (.fl .f32 x77.1)),(22,.d (.bool x77.2)),(23,.d (.fl .f32 x78.1)),(24,.d (.bool x78.2)),(108,.d (.bool true)),(109,.und)]) (objs:=[.box [.d (.cx .f32 x69.Source.A.re x69.Source.A.im),.d (.cx .f32 x69.Source.B.re x69.Source.B.im),.d (.cx .f32 x69.Source.C.re x69.Source.C.im),.d (.sl false (x69.qa9.map qaf))],.box [.row 2 x71.1.qa3.length 0 x71.1.qa3.length,.d (.sl false (x71.1.qae.map qa1)),.d (.int .i64 x71.1.Rounds),.d (.bool x71.1.qaw)],.row 3 (x71.1.qa3.map qa1),.row 1 (x73.1.map qbq),.row 1 (x74.1.map qb9)]) rfl (by simp) rfl (by trivial) ⟨rfl,trivial,rfl,trivial,rfl,trivial,rfl,trivial,rfl,trivial,rfl,trivial,rfl,trivial,rfl,trivial,rfl,trivial,rfl,trivial,rfl,trivial,rfl,trivial,rfl,trivial,rfl,trivial,rfl,trivial,rfl,trivial,rfl,trivial,rfl,trivial,trivial⟩) ?_
          refine qa4 rfl rfl ?_
          refine qa0 hτ rfl rfl rfl ?_
          refine qa0 hτ rfl rfl rfl ?_
          refine qa4 rfl rfl ?_
          refine qa4 rfl rfl ?_
          refine qa0 hτ rfl rfl rfl ?_
          refine qa0 hτ rfl rfl rfl ?_
          refine qa4 rfl rfl ?_
          refine qa4 rfl rfl ?_
          refine qa0 hτ rfl rfl rfl ?_
          refine qa0 hτ rfl rfl rfl ?_
          refine qa4 rfl rfl ?_
          refine qap (qa5 [0,1,2,3,4] (l:=[(1,.d (.sl false (more_.map qaq))),(5,.ptr 0 0),(6,.d (.sl false (x70.1.map qa1))),(8,.ptr 1 0),(11,.d (.fl .f32 x72.2.1)),(13,.row 3 x73.1.length 0 x73.1.length),(15,.row 4 x74.1.length 0 x74.1.length),(17,.d (.fl .f32 x75.1)),(19,.d (.fl .f32 x76.1)),(21,.d (.fl .f32 x77.1)),(22,.d (.bool x77.2)),(23,.d (.fl .f32 x78.1)),(24,.d (.bool x78.2)),(120,.d (.bool true)),(121,.und)]) (objs:=[.box [.d (.cx .f32 x69.Source.A.re x69.Source.A.im),.d (.cx .f32 x69.Source.B.re x69.Source.B.im),.d (.cx .f32 x69.Source.C.re x69.Source.C.im),.d (.sl false (x69.qa9.map qaf))],.box [.row 2 x71.1.qa3.length 0 x71.1.qa3.length,.d (.sl false (x71.1.qae.map qa1)),.d (.int .i64 x71.1.Rounds),.d (.bool x71.1.qaw)],.row 3 (x71.1.qa3.map qa1),.row 1 (x73.1.map qbq),.row 1 (x74.1.map qb9)]) rfl (by simp) rfl (by trivial) ⟨rfl,trivial,rfl,trivial,rfl,trivial,rfl,trivial,rfl,trivial,rfl,trivial,rfl,trivial,rfl,trivial,rfl,trivial,rfl,trivial,rfl,trivial,rfl,trivial,rfl,trivial,rfl,trivial,rfl,trivial,trivial⟩) ?_
          refine qa4 rfl rfl ?_
          refine qa0 hτ rfl rfl rfl ?_
          refine qa0 hτ rfl rfl rfl ?_
          refine qa4 rfl rfl ?_
          refine qa4 rfl rfl ?_
          refine qa0 hτ rfl rfl rfl ?_
          refine qa0 hτ rfl rfl rfl ?_
          refine qa4 rfl rfl ?_
          refine qa4 rfl rfl ?_
          refine qa0 hτ rfl rfl rfl ?_
          refine qa0 hτ rfl rfl rfl ?_
          refine qa4 rfl rfl ?_
          refine qap (qa5 [0,1,2,4] (l:=[(1,.d (.sl false (more_.map qaq))),(5,.ptr 0 0),(6,.d (.sl false (x70.1.map qa1))),(8,.ptr 1 0),(11,.d (.fl .f32 x72.2.1)),(15,.row 3 x74.1.length 0 x74.1.length),(17,.d (.fl .f32 x75.1)),(19,.d (.fl .f32 x76.1)),(21,.d (.fl .f32 x77.1)),(23,.d (.fl .f32 x78.1)),(132,.d (.bool true)),(133,.und)]) (objs:=[.box [.d (.cx .f32 x69.Source.A.re x69.Source.A.im),.d (.cx .f32 x69.Source.B.re x69.Source.B.im),.d (.cx .f32 x69.Source.C.re x69.Source.C.im),.d (.sl false (x69.qa9.map qaf))],.box [.row 2 x71.1.qa3.length 0 x71.1.qa3.length,.d (.sl false (x71.1.qae.map qa1)),.d (.int .i64 x71.1.Rounds),.d (.bool x71.1.qaw)],.row 3 (x71.1.qa3.map qa1),.row 1 (x74.1.map qb9)]) rfl (by simp) rfl (by trivial) ⟨rfl,trivial,rfl,trivial,rfl,trivial,rfl,trivial,rfl,trivial,rfl,trivial,rfl,trivial,rfl,trivial,rfl,trivial,rfl,trivial,rfl,trivial,rfl,trivial,trivial⟩) ?_
          refine qa4 rfl rfl ?_
          refine qa4 rfl rfl ?_
          refine qa4 rfl rfl ?_
          refine qa4 rfl rfl ?_
          refine qa4 rfl rfl ?_
          refine qa0 hτ rfl rfl rfl ?_
          refine qa0 hτ rfl rfl rfl ?_
          refine qa4 rfl rfl ?_
          refine qa4 rfl rfl ?_
          refine qa4 rfl rfl ?_
          refine qa0 hτ rfl rfl rfl ?_
          refine qa0 hτ rfl rfl rfl ?_
          refine qap (qa5 [0,1,2] (l:=[(1,.d (.sl false (more_.map qaq))),(5,.ptr 0 0),(6,.d (.sl false (x70.1.map qa1))),(8,.ptr 1 0),(11,.d (.fl .f32 x72.2.1)),(21,.d (.fl .f32 x77.1)),(23,.d (.fl .f32 x78.1)),(145,.d (.bool true))]) (objs:=[.box [.d (.cx .f32 x69.Source.A.re x69.Source.A.im),.d (.cx .f32 x69.Source.B.re x69.Source.B.im),.d (.cx .f32 x69.Source.C.re x69.Source.C.im),.d (.sl false (x69.qa9.map qaf))],.box [.row 2 x71.1.qa3.length 0 x71.1.qa3.length,.d (.sl false (x71.1.qae.map qa1)),.d (.int .i64 x71.1.Rounds),.d (.bool x71.1.qaw)],.row 3 (x71.1.qa3.map qa1)]) rfl (by simp) rfl (by trivial) ⟨rfl,trivial,rfl,trivial,rfl,trivial,rfl,trivial,rfl,trivial,rfl,trivial,rfl,trivial,rfl,trivial,trivial⟩) ?_
          refine qa4 rfl rfl ?_
          refine qa4 rfl rfl ?_
          refine qa0 hτ rfl rfl rfl ?_
          refine qa0 hτ rfl rfl rfl ?_
          refine qa4 rfl rfl ?_
          refine qa4 rfl rfl ?_
          refine qa4 rfl rfl ?_
          refine qa0 hτ rfl rfl rfl ?_
          refine qa0 hτ rfl rfl rfl ?_
          refine qa4 rfl rfl ?_
          refine qa4 rfl rfl ?_
          refine qa4 rfl rfl ?_
          refine qap (qa5 [0,1,2] (l:=[(1,.d (.sl false (more_.map qaq))),(5,.ptr 0 0),(6,.d (.sl false (x70.1.map qa1))),(8,.ptr 1 0),(11,.d (.fl .f32 x72.2.1)),(154,.d (.bool true)),(157,.und)]) (objs:=[.box [.d (.cx .f32 x69.Source.A.re x69.Source.A.im),.d (.cx .f32 x69.Source.B.re x69.Source.B.im),.d (.cx .f32 x69.Source.C.re x69.Source.C.im),.d (.sl false (x69.qa9.map qaf))],.box [.row 2 x71.1.qa3.length 0 x71.1.qa3.length,.d (.sl false (x71.1.qae.map qa1)),.d (.int .i64 x71.1.Rounds),.d (.bool x71.1.qaw)],.row 3 (x71.1.qa3.map qa1)]) rfl (by simp) rfl (by trivial) ⟨rfl,trivial,rfl,trivial,rfl,trivial,rfl,trivial,rfl,trivial,rfl,trivial,rfl,trivial,trivial⟩) ?_
          refine qa4 rfl rfl ?_
          refine qa4 rfl rfl ?_
          refine qa4 rfl rfl ?_
          refine qa4 rfl rfl ?_
          refine qa0 hτ rfl rfl rfl ?_
          refine qa6 ?_
          refine qab (qa5 [0,1,2] (l:=[(1,.d (.sl false (more_.map qaq))),(5,.ptr 0 0),(6,.d (.sl false (x70.1.map qa1))),(8,.ptr 1 0),(11,.d (.fl .f32 x72.2.1)),(162,.d (.bool true))]) (objs:=[.box [.d (.cx .f32 x69.Source.A.re x69.Source.A.im),.d (.cx .f32 x69.Source.B.re x69.Source.B.im),.d (.cx .f32 x69.Source.C.re x69.Source.C.im),.d (.sl false (x69.qa9.map qaf))],.box [.row 2 x71.1.qa3.length 0 x71.1.qa3.length,.d (.sl false (x71.1.qae.map qa1)),.d (.int .i64 x71.1.Rounds),.d (.bool x71.1.qaw)],.row 3 (x71.1.qa3.map qa1)]) rfl (by simp) rfl (by trivial) ⟨rfl,trivial,rfl,trivial,rfl,trivial,rfl,trivial,rfl,trivial,rfl,trivial,trivial⟩) ?_
          exact hk236 true h
        · have hb237:=qhm hb237
          have h:=qcq h hb237
          refine qa0 hτ rfl rfl rfl ?_
          refine qa0 hτ rfl rfl rfl ?_
          refine qa0 hτ rfl rfl rfl ?_
          refine qa0 hτ rfl rfl rfl ?_
          refine qb4 104 rfl (fun hb238=>?_) (fun hb238=>?_)
          · have hb238:=qhn hb238
            have h:=qcp h hb238
            refine qa4 rfl rfl ?_
            refine qa4 rfl rfl ?_
            refine qa0 hτ rfl rfl rfl ?_
            refine qa0 hτ rfl rfl rfl ?_
            refine qa4 rfl rfl ?_
            refine qap (qa5 [0,1,2,3,4] (l:=[(1,.d (.sl false (more_.map qaq))),(5,.ptr 0 0),(6,.d (.sl false (x70.1.map qa1))),(8,.ptr 1 0),(11,.d (.fl .f32 x72.2.1)),(13,.row 3 x73.1.length 0 x73.1.length),(15,.row 4 x74.1.length 0 x74.1.length),(16,.d (.bool x74.2)),(17,.d (.fl .f32 x75.1)),(18,.d (.bool x75.2)),(19,.d (.fl .f32 x76.1)),(20,.d (.bool x76.2)),(21,.d (.fl .f32 x77.1)),(22,.d (.bool x77.2)),(23,.d (.fl .f32 x78.1)),(24,.d (.bool x78.2)),(108,.d (.bool true)),(109,.und)]) (objs:=[.box [.d (.cx .f32 x69.Source.A.re x69.Source.A.im),.d (.cx .f32 x69.Source.B.re x69.Source.B.im),.d (.cx .f32 x69.Source.C.re x69.Source.C.im),.d (.sl false (x69.qa9.map qaf))],.box [.row 2 x71.1.qa3.length 0 x71.1.qa3.length,.d (.sl false (x71.1.qae.map qa1)),.d (.int .i64 x71.1.Rounds),.d (.bool x71.1.qaw)],.row 3 (x71.1.qa3.map qa1),.row 1 (x73.1.map qbq),.row 1 (x74.1.map qb9)]) rfl (by simp) rfl (by trivial) ⟨rfl,trivial,rfl,trivial,rfl,trivial,rfl,trivial,rfl,trivial,rfl,trivial,rfl,trivial,rfl,trivial,rfl,trivial,rfl,trivial,rfl,trivial,rfl,trivial,rfl,trivial,rfl,trivial,rfl,trivial,rfl,trivial,rfl,trivial,rfl,trivial,trivial⟩) ?_
            refine qa4 rfl rfl ?_
            refine qa0 hτ rfl rfl rfl ?_
            refine qa0 hτ rfl rfl rfl ?_
            refine qa4 rfl rfl ?_
            refine qa4 rfl rfl ?_
            refine qa0 hτ rfl rfl rfl ?_
            refine qa0 hτ rfl rfl rfl ?_
            refine qa4 rfl rfl ?_
            refine qa4 rfl rfl ?_
            refine qa0 hτ rfl rfl rfl ?_
            refine qa0 hτ rfl rfl rfl ?_
            refine qa4 rfl rfl ?_
            refine qap (qa5 [0,1,2,3,4] (l:=[(1,.d (.sl false (more_.map qaq))),(5,.ptr 0 0),(6,.d (.sl false (x70.1.map qa1))),(8,.ptr 1 0),(11,.d (.fl .f32 x72.2.1)),(13,.row 3 x73.1.length 0 x73.1.length),(15,.row 4 x74.1.length 0 x74.1.length),(17,.d (.fl .f32 x75.1)),(19,.d (.fl .f32 x76.1)),(21,.d (.fl .f32 x77.1)),(22,.d (.bool x77.2)),(23,.d (.fl .f32 x78.1)),(24,.d (.bool x78.2)),(120,.d (.bool true)),(121,.und)]) (objs:=[.box [.d (.cx .f32 x69.Source.A.re x69.Source.A.im),.d (.cx .f32 x69.Source.B.re x69.Source.B.im),.d (.cx .f32 x69.Source.C.re x69.Source.C.im),.d (.sl false (x69.qa9.map qaf))],.box [.row 2 x71.1.qa3.length 0 x71.1.qa3.length,.d (.sl false (x71.1.qae.map qa1)),.d (.int .i64 x71.1.Rounds),.d (.bool x71.1.qaw)],.row 3 (x71.1.qa3.map qa1),.row 1 (x73.1.map qbq),.row 1 (x74.1.map qb9)]) rfl (by simp) rfl (by trivial) ⟨rfl,trivial,rfl,trivial,rfl,trivial,rfl,trivial,rfl,trivial,rfl,trivial,rfl,trivial,rfl,trivial,rfl,trivial,rfl,trivial,rfl,trivial,rfl,trivial,rfl,trivial,rfl,trivial,rfl,trivial,trivial⟩) ?_
            refine qa4 rfl rfl ?_
            refine qa0 hτ rfl rfl rfl ?_
            refine qa0 hτ rfl rfl rfl ?_
            refine qa4 rfl rfl ?_
            refine qa4 rfl rfl ?_
            refine qa0 hτ rfl rfl rfl ?_
            refine qa0 hτ rfl rfl rfl ?_
            refine qa4 rfl rfl ?_
            refine qa4 rfl rfl ?_
            refine qa0 hτ rfl rfl rfl ?_
            refine qa0 hτ rfl rfl rfl ?_
            refine qa4 rfl rfl ?_
            refine qap (qa5 [0,1,2,4] (l:=[(1,.d (.sl false (more_.map qaq))),(5,.ptr 0 0),(6,.d (.sl false (x70.1.map qa1))),(8,.ptr 1 0),(11,.d (.fl .f32 x72.2.1)),(15,.row 3 x74.1.length 0 x74.1.length),(17,.d (.fl .f32 x75.1)),(19,.d (.fl .f32 x76.1)),(21,.d (.fl .f32 x77.1)),(23,.d (.fl .f32 x78.1)),(132,.d (.bool true)),(133,.und)]) (objs:=[.box [.d (.cx .f32 x69.Source.A.re x69.Source.A.im),.d (.cx .f32 x69.Source.B.re x69.Source.B.im),.d (.cx .f32 x69.Source.C.re x69.Source.C.im),.d (.sl false (x69.qa9.map qaf))],.box [.row 2 x71.1.qa3.length 0 x71.1.qa3.length,.d (.sl false (x71.1.qae.map qa1)),.d (.int .i64 x71.1.Rounds),.d (.bool x71.1.qaw)],.row 3 (x71.1.qa3.map qa1),.row 1 (x74.1.map qb9)]) rfl (by simp) rfl (by trivial) ⟨rfl,trivial,rfl,trivial,rfl,trivial,rfl,trivial,rfl,trivial,rfl,trivial,rfl,trivial,rfl,trivial,rfl,trivial,rfl,trivial,rfl,trivial,rfl,trivial,trivial⟩) ?_
            refine qa4 rfl rfl ?_
            refine qa4 rfl rfl ?_
            refine qa4 rfl rfl ?_
            refine qa4 rfl rfl ?_
            refine qa4 rfl rfl ?_
            refine qa0 hτ rfl rfl rfl ?_
            refine qa0 hτ rfl rfl rfl ?_
            refine qa4 rfl rfl ?_
            refine qa4 rfl rfl ?_
            refine qa4 rfl rfl ?_
            refine qa0 hτ rfl rfl rfl ?_
            refine qa0 hτ rfl rfl rfl ?_
            refine qap (qa5 [0,1,2] (l:=[(1,.d (.sl false (more_.map qaq))),(5,.ptr 0 0),(6,.d (.sl false (x70.1.map qa1))),(8,.ptr 1 0),(11,.d (.fl .f32 x72.2.1)),(21,.d (.fl .f32 x77.1)),(23,.d (.fl .f32 x78.1)),(145,.d (.bool true))]) (objs:=[.box [.d (.cx .f32 x69.Source.A.re x69.Source.A.im),.d (.cx .f32 x69.Source.B.re x69.Source.B.im),.d (.cx .f32 x69.Source.C.re x69.Source.C.im),.d (.sl false (x69.qa9.map qaf))],.box [.row 2 x71.1.qa3.length 0 x71.1.qa3.length,.d (.sl false (x71.1.qae.map qa1)),.d (.int .i64 x71.1.Rounds),.d (.bool x71.1.qaw)],.row 3 (x71.1.qa3.map qa1)]) rfl (by simp) rfl (by trivial) ⟨rfl,trivial,rfl,trivial,rfl,trivial,rfl,trivial,rfl,trivial,rfl,trivial,rfl,trivial,rfl,trivial,trivial⟩) ?_
            refine qa4 rfl rfl ?_
            refine qa4 rfl rfl ?_
            refine qa0 hτ rfl rfl rfl ?_
            refine qa0 hτ rfl rfl rfl ?_
            refine qa4 rfl rfl ?_
            refine qa4 rfl rfl ?_
            refine qa4 rfl rfl ?_
            refine qa0 hτ rfl rfl rfl ?_
            refine qa0 hτ rfl rfl rfl ?_
            refine qa4 rfl rfl ?_
            refine qa4 rfl rfl ?_
            refine qa4 rfl rfl ?_
            refine qap (qa5 [0,1,2] (l:=[(1,.d (.sl false (more_.map qaq))),(5,.ptr 0 0),(6,.d (.sl false (x70.1.map qa1))),(8,.ptr 1 0),(11,.d (.fl .f32 x72.2.1)),(154,.d (.bool true)),(157,.und)]) (objs:=[.box [.d (.cx .f32 x69.Source.A.re x69.Source.A.im),.d (.cx .f32 x69.Source.B.re x69.Source.B.im),.d (.cx .f32 x69.Source.C.re x69.Source.C.im),.d (.sl false (x69.qa9.map qaf))],.box [.row 2 x71.1.qa3.length 0 x71.1.qa3.length,.d (.sl false (x71.1.qae.map qa1)),.d (.int .i64 x71.1.Rounds),.d (.bool x71.1.qaw)],.row 3 (x71.1.qa3.map qa1)]) rfl (by simp) rfl (by trivial) ⟨rfl,trivial,rfl,trivial,rfl,trivial,rfl,trivial,rfl,trivial,rfl,trivial,rfl,trivial,trivial⟩) ?_
            refine qa4 rfl rfl ?_
            refine qa4 rfl rfl ?_
            refine qa4 rfl rfl ?_
            refine qa4 rfl rfl ?_
            refine qa0 hτ rfl rfl rfl ?_
            refine qa6 ?_
            refine qab (qa5 [0,1,2] (l:=[(1,.d (.sl false (more_.map qaq))),(5,.ptr 0 0),(6,.d (.sl false (x70.1.map qa1))),(8,.ptr 1 0),(11,.d (.fl .f32 x72.2.1)),(162,.d (.bool true))]) (objs:=[.box [.d (.cx .f32 x69.Source.A.re x69.Source.A.im),.d (.cx .f32 x69.Source.B.re x69.Source.B.im),.d (.cx .f32 x69.Source.C.re x69.Source.C.im),.d (.sl false (x69.qa9.map qaf))],.box [.row 2 x71.1.qa3.length 0 x71.1.qa3.length,.d (.sl false (x71.1.qae.map qa1)),.d (.int .i64 x71.1.Rounds),.d (.bool x71.1.qaw)],.row 3 (x71.1.qa3.map qa1)]) rfl (by simp) rfl (by trivial) ⟨rfl,trivial,rfl,trivial,rfl,trivial,rfl,trivial,rfl,trivial,rfl,trivial,trivial⟩) ?_
            exact hk236 true h
          · have hb238:=qhm hb238
            have h:=qcq h hb238
            refine qa0 hτ rfl rfl rfl ?_
            refine qa0 hτ rfl rfl rfl ?_
            refine qa0 hτ rfl rfl rfl ?_
            refine qa0 hτ rfl rfl rfl ?_
            refine qb4 108 rfl (fun hb239=>?_) (fun hb239=>?_)
            · have hb239:=qhn hb239
              have h:=qcp h hb239
              refine qa4 rfl rfl ?_
              refine qap (qa5 [0,1,2,3,4] (l:=[(1,.d (.sl false (more_.map qaq))),(5,.ptr 0 0),(6,.d (.sl false (x70.1.map qa1))),(8,.ptr 1 0),(11,.d (.fl .f32 x72.2.1)),(13,.row 3 x73.1.length 0 x73.1.length),(15,.row 4 x74.1.length 0 x74.1.length),(16,.d (.bool x74.2)),(17,.d (.fl .f32 x75.1)),(18,.d (.bool x75.2)),(19,.d (.fl .f32 x76.1)),(20,.d (.bool x76.2)),(21,.d (.fl .f32 x77.1)),(22,.d (.bool x77.2)),(23,.d (.fl .f32 x78.1)),(24,.d (.bool x78.2)),(108,.d (.bool true)),(109,.und)]) (objs:=[.box [.d (.cx .f32 x69.Source.A.re x69.Source.A.im),.d (.cx .f32 x69.Source.B.re x69.Source.B.im),.d (.cx .f32 x69.Source.C.re x69.Source.C.im),.d (.sl false (x69.qa9.map qaf))],.box [.row 2 x71.1.qa3.length 0 x71.1.qa3.length,.d (.sl false (x71.1.qae.map qa1)),.d (.int .i64 x71.1.Rounds),.d (.bool x71.1.qaw)],.row 3 (x71.1.qa3.map qa1),.row 1 (x73.1.map qbq),.row 1 (x74.1.map qb9)]) rfl (by simp) rfl (by trivial) ⟨rfl,trivial,rfl,trivial,rfl,trivial,rfl,trivial,rfl,trivial,rfl,trivial,rfl,trivial,rfl,trivial,rfl,trivial,rfl,trivial,rfl,trivial,rfl,trivial,rfl,trivial,rfl,trivial,rfl,trivial,rfl,trivial,rfl,trivial,rfl,trivial,trivial⟩) ?_
              refine qa4 rfl rfl ?_
              refine qa0 hτ rfl rfl rfl ?_
              refine qa0 hτ rfl rfl rfl ?_
              refine qa4 rfl rfl ?_
              refine qa4 rfl rfl ?_
              refine qa0 hτ rfl rfl rfl ?_
              refine qa0 hτ rfl rfl rfl ?_
              refine qa4 rfl rfl ?_
              refine qa4 rfl rfl ?_
              refine qa0 hτ rfl rfl rfl ?_
              refine qa0 hτ rfl rfl rfl ?_
              refine qa4 rfl rfl ?_
              refine qap (qa5 [0,1,2,3,4] (l:=[(1,.d (.sl false (more_.map qaq))),(5,.ptr 0 0),(6,.d (.sl false (x70.1.map qa1))),(8,.ptr 1 0),(11,.d (.fl .f32 x72.2.1)),(13,.row 3 x73.1.length 0 x73.1.length),(15,.row 4 x74.1.length 0 x74.1.length),(17,.d (.fl .f32 x75.1)),(19,.d (.fl .f32 x76.1)),(21,.d (.fl .f32 x77.1)),(22,.d (.bool x77.2)),(23,.d (.fl .f32 x78.1)),(24,.d (.bool x78.2)),(120,.d (.bool true)),(121,.und)]) (objs:=[.box [.d (.cx .f32 x69.Source.A.re x69.Source.A.im),.d (.cx .f32 x69.Source.B.re x69.Source.B.im),.d (.cx .f32 x69.Source.C.re x69.Source.C.im),.d (.sl false (x69.qa9.map qaf))],.box [.row 2 x71.1.qa3.length 0 x71.1.qa3.length,.d (.sl false (x71.1.qae.map qa1)),.d (.int .i64 x71.1.Rounds),.d (.bool x71.1.qaw)],.row 3 (x71.1.qa3.map qa1),.row 1 (x73.1.map qbq),.row 1 (x74.1.map qb9)]) rfl (by simp) rfl (by trivial) ⟨rfl,trivial,rfl,trivial,rfl,trivial,rfl,trivial,rfl,trivial,rfl,trivial,rfl,trivial,rfl,trivial,rfl,trivial,rfl,trivial,rfl,trivial,rfl,trivial,rfl,trivial,rfl,trivial,rfl,trivial,trivial⟩) ?_
              refine qa4 rfl rfl ?_
              refine qa0 hτ rfl rfl rfl ?_
              refine qa0 hτ rfl rfl rfl ?_
              refine qa4 rfl rfl ?_
              refine qa4 rfl rfl ?_
              refine qa0 hτ rfl rfl rfl ?_
              refine qa0 hτ rfl rfl rfl ?_
              refine qa4 rfl rfl ?_
              refine qa4 rfl rfl ?_
              refine qa0 hτ rfl rfl rfl ?_
              refine qa0 hτ rfl rfl rfl ?_
              refine qa4 rfl rfl ?_
              refine qap (qa5 [0,1,2,4] (l:=[(1,.d (.sl false (more_.map qaq))),(5,.ptr 0 0),(6,.d (.sl false (x70.1.map qa1))),(8,.ptr 1 0),(11,.d (.fl .f32 x72.2.1)),(15,.row 3 x74.1.length 0 x74.1.length),(17,.d (.fl .f32 x75.1)),(19,.d (.fl .f32 x76.1)),(21,.d (.fl .f32 x77.1)),(23,.d (.fl .f32 x78.1)),(132,.d (.bool true)),(133,.und)]) (objs:=[.box [.d (.cx .f32 x69.Source.A.re x69.Source.A.im),.d (.cx .f32 x69.Source.B.re x69.Source.B.im),.d (.cx .f32 x69.Source.C.re x69.Source.C.im),.d (.sl false (x69.qa9.map qaf))],.box [.row 2 x71.1.qa3.length 0 x71.1.qa3.length,.d (.sl false (x71.1.qae.map qa1)),.d (.int .i64 x71.1.Rounds),.d (.bool x71.1.qaw)],.row 3 (x71.1.qa3.map qa1),.row 1 (x74.1.map qb9)]) rfl (by simp) rfl (by trivial) ⟨rfl,trivial,rfl,trivial,rfl,trivial,rfl,trivial,rfl,trivial,rfl,trivial,rfl,trivial,rfl,trivial,rfl,trivial,rfl,trivial,rfl,trivial,rfl,trivial,trivial⟩) ?_
              refine qa4 rfl rfl ?_
              refine qa4 rfl rfl ?_
              refine qa4 rfl rfl ?_
              refine qa4 rfl rfl ?_
              refine qa4 rfl rfl ?_
              refine qa0 hτ rfl rfl rfl ?_
              refine qa0 hτ rfl rfl rfl ?_
              refine qa4 rfl rfl ?_
              refine qa4 rfl rfl ?_
              refine qa4 rfl rfl ?_
              refine qa0 hτ rfl rfl rfl ?_
              refine qa0 hτ rfl rfl rfl ?_
              refine qap (qa5 [0,1,2] (l:=[(1,.d (.sl false (more_.map qaq))),(5,.ptr 0 0),(6,.d (.sl false (x70.1.map qa1))),(8,.ptr 1 0),(11,.d (.fl .f32 x72.2.1)),(21,.d (.fl .f32 x77.1)),(23,.d (.fl .f32 x78.1)),(145,.d (.bool true))]) (objs:=[.box [.d (.cx .f32 x69.Source.A.re x69.Source.A.im),.d (.cx .f32 x69.Source.B.re x69.Source.B.im),.d (.cx .f32 x69.Source.C.re x69.Source.C.im),.d (.sl false (x69.qa9.map qaf))],.box [.row 2 x71.1.qa3.length 0 x71.1.qa3.length,.d (.sl false (x71.1.qae.map qa1)),.d (.int .i64 x71.1.Rounds),.d (.bool x71.1.qaw)],.row 3 (x71.1.qa3.map qa1)]) rfl (by simp) rfl (by trivial) ⟨rfl,trivial,rfl,trivial,rfl,trivial,rfl,trivial,rfl,trivial,rfl,trivial,rfl,trivial,rfl,trivial,trivial⟩) ?_
              refine qa4 rfl rfl ?_
              refine qa4 rfl rfl ?_
              refine qa0 hτ rfl rfl rfl ?_
              refine qa0 hτ rfl rfl rfl ?_
              refine qa4 rfl rfl ?_
              refine qa4 rfl rfl ?_
              refine qa4 rfl rfl ?_
              refine qa0 hτ rfl rfl rfl ?_
              refine qa0 hτ rfl rfl rfl ?_
              refine qa4 rfl rfl ?_
              refine qa4 rfl rfl ?_
              refine qa4 rfl rfl ?_
              refine qap (qa5 [0,1,2] (l:=[(1,.d (.sl false (more_.map qaq))),(5,.ptr 0 0),(6,.d (.sl false (x70.1.map qa1))),(8,.ptr 1 0),(11,.d (.fl .f32 x72.2.1)),(154,.d (.bool true)),(157,.und)]) (objs:=[.box [.d (.cx .f32 x69.Source.A.re x69.Source.A.im),.d (.cx .f32 x69.Source.B.re x69.Source.B.im),.d (.cx .f32 x69.Source.C.re x69.Source.C.im),.d (.sl false (x69.qa9.map qaf))],.box [.row 2 x71.1.qa3.length 0 x71.1.qa3.length,.d (.sl false (x71.1.qae.map qa1)),.d (.int .i64 x71.1.Rounds),.d (.bool x71.1.qaw)],.row 3 (x71.1.qa3.map qa1)]) rfl (by simp) rfl (by trivial) ⟨rfl,trivial,rfl,trivial,rfl,trivial,rfl,trivial,rfl,trivial,rfl,trivial,rfl,trivial,trivial⟩) ?_
              refine qa4 rfl rfl ?_
              refine qa4 rfl rfl ?_
              refine qa4 rfl rfl ?_
              refine qa4 rfl rfl ?_
              refine qa0 hτ rfl rfl rfl ?_
              refine qa6 ?_
              refine qab (qa5 [0,1,2] (l:=[(1,.d (.sl false (more_.map qaq))),(5,.ptr 0 0),(6,.d (.sl false (x70.1.map qa1))),(8,.ptr 1 0),(11,.d (.fl .f32 x72.2.1)),(162,.d (.bool true))]) (objs:=[.box [.d (.cx .f32 x69.Source.A.re x69.Source.A.im),.d (.cx .f32 x69.Source.B.re x69.Source.B.im),.d (.cx .f32 x69.Source.C.re x69.Source.C.im),.d (.sl false (x69.qa9.map qaf))],.box [.row 2 x71.1.qa3.length 0 x71.1.qa3.length,.d (.sl false (x71.1.qae.map qa1)),.d (.int .i64 x71.1.Rounds),.d (.bool x71.1.qaw)],.row 3 (x71.1.qa3.map qa1)]) rfl (by simp) rfl (by trivial) ⟨rfl,trivial,rfl,trivial,rfl,trivial,rfl,trivial,rfl,trivial,rfl,trivial,trivial⟩) ?_
              exact hk236 true h
            · have hb239:=qhm hb239
              have h:=qcq h hb239
              refine qa0 hτ rfl rfl rfl ?_
              refine qap (qa5 [0,1,2,3,4] (l:=[(1,.d (.sl false (more_.map qaq))),(5,.ptr 0 0),(6,.d (.sl false (x70.1.map qa1))),(8,.ptr 1 0),(11,.d (.fl .f32 x72.2.1)),(13,.row 3 x73.1.length 0 x73.1.length),(15,.row 4 x74.1.length 0 x74.1.length),(16,.d (.bool x74.2)),(17,.d (.fl .f32 x75.1)),(18,.d (.bool x75.2)),(19,.d (.fl .f32 x76.1)),(20,.d (.bool x76.2)),(21,.d (.fl .f32 x77.1)),(22,.d (.bool x77.2)),(23,.d (.fl .f32 x78.1)),(24,.d (.bool x78.2)),(108,.d (.bool false)),(109,.d (.bool x73.2))]) (objs:=[.box [.d (.cx .f32 x69.Source.A.re x69.Source.A.im),.d (.cx .f32 x69.Source.B.re x69.Source.B.im),.d (.cx .f32 x69.Source.C.re x69.Source.C.im),.d (.sl false (x69.qa9.map qaf))],.box [.row 2 x71.1.qa3.length 0 x71.1.qa3.length,.d (.sl false (x71.1.qae.map qa1)),.d (.int .i64 x71.1.Rounds),.d (.bool x71.1.qaw)],.row 3 (x71.1.qa3.map qa1),.row 1 (x73.1.map qbq),.row 1 (x74.1.map qb9)]) rfl (by simp) rfl (by trivial) ⟨rfl,trivial,rfl,trivial,rfl,trivial,rfl,trivial,rfl,trivial,rfl,trivial,rfl,trivial,rfl,trivial,rfl,trivial,rfl,trivial,rfl,trivial,rfl,trivial,rfl,trivial,rfl,trivial,rfl,trivial,rfl,trivial,rfl,trivial,rfl,trivial,trivial⟩) ?_
              refine qa0 hτ rfl rfl rfl ?_
              refine qa0 hτ rfl rfl rfl ?_
              refine qa0 hτ rfl rfl rfl ?_
              refine qb4 112 rfl (fun hb240=>?_) (fun hb240=>?_)
              · have hb240:=qhn hb240
                have h:=qcp h hb240
                refine qa4 rfl rfl ?_
                refine qa4 rfl rfl ?_
                refine qa0 hτ rfl rfl rfl ?_
                refine qa0 hτ rfl rfl rfl ?_
                refine qa4 rfl rfl ?_
                refine qa4 rfl rfl ?_
                refine qa0 hτ rfl rfl rfl ?_
                refine qa0 hτ rfl rfl rfl ?_
                refine qa4 rfl rfl ?_
                refine qap (qa5 [0,1,2,3,4] (l:=[(1,.d (.sl false (more_.map qaq))),(5,.ptr 0 0),(6,.d (.sl false (x70.1.map qa1))),(8,.ptr 1 0),(11,.d (.fl .f32 x72.2.1)),(13,.row 3 x73.1.length 0 x73.1.length),(15,.row 4 x74.1.length 0 x74.1.length),(17,.d (.fl .f32 x75.1)),(19,.d (.fl .f32 x76.1)),(21,.d (.fl .f32 x77.1)),(22,.d (.bool x77.2)),(23,.d (.fl .f32 x78.1)),(24,.d (.bool x78.2)),(120,.d (.bool true)),(121,.und)]) (objs:=[.box [.d (.cx .f32 x69.Source.A.re x69.Source.A.im),.d (.cx .f32 x69.Source.B.re x69.Source.B.im),.d (.cx .f32 x69.Source.C.re x69.Source.C.im),.d (.sl false (x69.qa9.map qaf))],.box [.row 2 x71.1.qa3.length 0 x71.1.qa3.length,.d (.sl false (x71.1.qae.map qa1)),.d (.int .i64 x71.1.Rounds),.d (.bool x71.1.qaw)],.row 3 (x71.1.qa3.map qa1),.row 1 (x73.1.map qbq),.row 1 (x74.1.map qb9)]) rfl (by simp) rfl (by trivial) ⟨rfl,trivial,rfl,trivial,rfl,trivial,rfl,trivial,rfl,trivial,rfl,trivial,rfl,trivial,rfl,trivial,rfl,trivial,rfl,trivial,rfl,trivial,rfl,trivial,rfl,trivial,rfl,trivial,rfl,trivial,trivial⟩) ?_
                refine qa4 rfl rfl ?_
                refine qa0 hτ rfl rfl rfl ?_
                refine qa0 hτ rfl rfl rfl ?_
                refine qa4 rfl rfl ?_
                refine qa4 rfl rfl ?_
                refine qa0 hτ rfl rfl rfl ?_
                refine qa0 hτ rfl rfl rfl ?_
                refine qa4 rfl rfl ?_
                refine qa4 rfl rfl ?_
                refine qa0 hτ rfl rfl rfl ?_
                refine qa0 hτ rfl rfl rfl ?_
                refine qa4 rfl rfl ?_
                refine qap (qa5 [0,1,2,4] (l:=[(1,.d (.sl false (more_.map qaq))),(5,.ptr 0 0),(6,.d (.sl false (x70.1.map qa1))),(8,.ptr 1 0),(11,.d (.fl .f32 x72.2.1)),(15,.row 3 x74.1.length 0 x74.1.length),(17,.d (.fl .f32 x75.1)),(19,.d (.fl .f32 x76.1)),(21,.d (.fl .f32 x77.1)),(23,.d (.fl .f32 x78.1)),(132,.d (.bool true)),(133,.und)]) (objs:=[.box [.d (.cx .f32 x69.Source.A.re x69.Source.A.im),.d (.cx .f32 x69.Source.B.re x69.Source.B.im),.d (.cx .f32 x69.Source.C.re x69.Source.C.im),.d (.sl false (x69.qa9.map qaf))],.box [.row 2 x71.1.qa3.length 0 x71.1.qa3.length,.d (.sl false (x71.1.qae.map qa1)),.d (.int .i64 x71.1.Rounds),.d (.bool x71.1.qaw)],.row 3 (x71.1.qa3.map qa1),.row 1 (x74.1.map qb9)]) rfl (by simp) rfl (by trivial) ⟨rfl,trivial,rfl,trivial,rfl,trivial,rfl,trivial,rfl,trivial,rfl,trivial,rfl,trivial,rfl,trivial,rfl,trivial,rfl,trivial,rfl,trivial,rfl,trivial,trivial⟩) ?_
                refine qa4 rfl rfl ?_
                refine qa4 rfl rfl ?_
                refine qa4 rfl rfl ?_
                refine qa4 rfl rfl ?_
                refine qa4 rfl rfl ?_
                refine qa0 hτ rfl rfl rfl ?_
                refine qa0 hτ rfl rfl rfl ?_
                refine qa4 rfl rfl ?_
                refine qa4 rfl rfl ?_
                refine qa4 rfl rfl ?_
                refine qa0 hτ rfl rfl rfl ?_
                refine qa0 hτ rfl rfl rfl ?_
                refine qap (qa5 [0,1,2] (l:=[(1,.d (.sl false (more_.map qaq))),(5,.ptr 0 0),(6,.d (.sl false (x70.1.map qa1))),(8,.ptr 1 0),(11,.d (.fl .f32 x72.2.1)),(21,.d (.fl .f32 x77.1)),(23,.d (.fl .f32 x78.1)),(145,.d (.bool true))]) (objs:=[.box [.d (.cx .f32 x69.Source.A.re x69.Source.A.im),.d (.cx .f32 x69.Source.B.re x69.Source.B.im),.d (.cx .f32 x69.Source.C.re x69.Source.C.im),.d (.sl false (x69.qa9.map qaf))],.box [.row 2 x71.1.qa3.length 0 x71.1.qa3.length,.d (.sl false (x71.1.qae.map qa1)),.d (.int .i64 x71.1.Rounds),.d (.bool x71.1.qaw)],.row 3 (x71.1.qa3.map qa1)]) rfl (by simp) rfl (by trivial) ⟨rfl,trivial,rfl,trivial,rfl,trivial,rfl,trivial,rfl,trivial,rfl,trivial,rfl,trivial,rfl,trivial,trivial⟩) ?_
                refine qa4 rfl rfl ?_
                refine qa4 rfl rfl ?_
                refine qa0 hτ rfl rfl rfl ?_
                refine qa0 hτ rfl rfl rfl ?_
                refine qa4 rfl rfl ?_
                refine qa4 rfl rfl ?_
                refine qa4 rfl rfl ?_
                refine qa0 hτ rfl rfl rfl ?_
                refine qa0 hτ rfl rfl rfl ?_
                refine qa4 rfl rfl ?_
                refine qa4 rfl rfl ?_
                refine qa4 rfl rfl ?_
                refine qap (qa5 [0,1,2] (l:=[(1,.d (.sl false (more_.map qaq))),(5,.ptr 0 0),(6,.d (.sl false (x70.1.map qa1))),(8,.ptr 1 0),(11,.d (.fl .f32 x72.2.1)),(154,.d (.bool true)),(157,.und)]) (objs:=[.box [.d (.cx .f32 x69.Source.A.re x69.Source.A.im),.d (.cx .f32 x69.Source.B.re x69.Source.B.im),.d (.cx .f32 x69.Source.C.re x69.Source.C.im),.d (.sl false (x69.qa9.map qaf))],.box [.row 2 x71.1.qa3.length 0 x71.1.qa3.length,.d (.sl false (x71.1.qae.map qa1)),.d (.int .i64 x71.1.Rounds),.d (.bool x71.1.qaw)],.row 3 (x71.1.qa3.map qa1)]) rfl (by simp) rfl (by trivial) ⟨rfl,trivial,rfl,trivial,rfl,trivial,rfl,trivial,rfl,trivial,rfl,trivial,rfl,trivial,trivial⟩) ?_
                refine qa4 rfl rfl ?_
                refine qa4 rfl rfl ?_
                refine qa4 rfl rfl ?_
                refine qa4 rfl rfl ?_
                refine qa0 hτ rfl rfl rfl ?_
                refine qa6 ?_
                refine qab (qa5 [0,1,2] (l:=[(1,.d (.sl false (more_.map qaq))),(5,.ptr 0 0),(6,.d (.sl false (x70.1.map qa1))),(8,.ptr 1 0),(11,.d (.fl .f32 x72.2.1)),(162,.d (.bool true))]) (objs:=[.box [.d (.cx .f32 x69.Source.A.re x69.Source.A.im),.d (.cx .f32 x69.Source.B.re x69.Source.B.im),.d (.cx .f32 x69.Source.C.re x69.Source.C.im),.d (.sl false (x69.qa9.map qaf))],.box [.row 2 x71.1.qa3.length 0 x71.1.qa3.length,.d (.sl false (x71.1.qae.map qa1)),.d (.int .i64 x71.1.Rounds),.d (.bool x71.1.qaw)],.row 3 (x71.1.qa3.map qa1)]) rfl (by simp) rfl (by trivial) ⟨rfl,trivial,rfl,trivial,rfl,trivial,rfl,trivial,rfl,trivial,rfl,trivial,trivial⟩) ?_
                exact hk236 true h
              · have hb240:=qhm hb240
                have h:=qcq h hb240
                refine qa0 hτ rfl rfl rfl ?_
                refine qa0 hτ rfl rfl rfl ?_
                refine qa0 hτ rfl rfl rfl ?_
                refine qa0 hτ rfl rfl rfl ?_
                refine qb4 116 rfl (fun hb241=>?_) (fun hb241=>?_)
                · have hb241:=qhn hb241
                  have h:=qcp h hb241
                  refine qa4 rfl rfl ?_
                  refine qa4 rfl rfl ?_
                  refine qa0 hτ rfl rfl rfl ?_
                  refine qa0 hτ rfl rfl rfl ?_
                  refine qa4 rfl rfl ?_
                  refine qap (qa5 [0,1,2,3,4] (l:=[(1,.d (.sl false (more_.map qaq))),(5,.ptr 0 0),(6,.d (.sl false (x70.1.map qa1))),(8,.ptr 1 0),(11,.d (.fl .f32 x72.2.1)),(13,.row 3 x73.1.length 0 x73.1.length),(15,.row 4 x74.1.length 0 x74.1.length),(17,.d (.fl .f32 x75.1)),(19,.d (.fl .f32 x76.1)),(21,.d (.fl .f32 x77.1)),(22,.d (.bool x77.2)),(23,.d (.fl .f32 x78.1)),(24,.d (.bool x78.2)),(120,.d (.bool true)),(121,.und)]) (objs:=[.box [.d (.cx .f32 x69.Source.A.re x69.Source.A.im),.d (.cx .f32 x69.Source.B.re x69.Source.B.im),.d (.cx .f32 x69.Source.C.re x69.Source.C.im),.d (.sl false (x69.qa9.map qaf))],.box [.row 2 x71.1.qa3.length 0 x71.1.qa3.length,.d (.sl false (x71.1.qae.map qa1)),.d (.int .i64 x71.1.Rounds),.d (.bool x71.1.qaw)],.row 3 (x71.1.qa3.map qa1),.row 1 (x73.1.map qbq),.row 1 (x74.1.map qb9)]) rfl (by simp) rfl (by trivial) ⟨rfl,trivial,rfl,trivial,rfl,trivial,rfl,trivial,rfl,trivial,rfl,trivial,rfl,trivial,rfl,trivial,rfl,trivial,rfl,trivial,rfl,trivial,rfl,trivial,rfl,trivial,rfl,trivial,rfl,trivial,trivial⟩) ?_
                  refine qa4 rfl rfl ?_
                  refine qa0 hτ rfl rfl rfl ?_
                  refine qa0 hτ rfl rfl rfl ?_
                  refine qa4 rfl rfl ?_
                  refine qa4 rfl rfl ?_
                  refine qa0 hτ rfl rfl rfl ?_
                  refine qa0 hτ rfl rfl rfl ?_
                  refine qa4 rfl rfl ?_
                  refine qa4 rfl rfl ?_
                  refine qa0 hτ rfl rfl rfl ?_
                  refine qa0 hτ rfl rfl rfl ?_
                  refine qa4 rfl rfl ?_
                  refine qap (qa5 [0,1,2,4] (l:=[(1,.d (.sl false (more_.map qaq))),(5,.ptr 0 0),(6,.d (.sl false (x70.1.map qa1))),(8,.ptr 1 0),(11,.d (.fl .f32 x72.2.1)),(15,.row 3 x74.1.length 0 x74.1.length),(17,.d (.fl .f32 x75.1)),(19,.d (.fl .f32 x76.1)),(21,.d (.fl .f32 x77.1)),(23,.d (.fl .f32 x78.1)),(132,.d (.bool true)),(133,.und)]) (objs:=[.box [.d (.cx .f32 x69.Source.A.re x69.Source.A.im),.d (.cx .f32 x69.Source.B.re x69.Source.B.im),.d (.cx .f32 x69.Source.C.re x69.Source.C.im),.d (.sl false (x69.qa9.map qaf))],.box [.row 2 x71.1.qa3.length 0 x71.1.qa3.length,.d (.sl false (x71.1.qae.map qa1)),.d (.int .i64 x71.1.Rounds),.d (.bool x71.1.qaw)],.row 3 (x71.1.qa3.map qa1),.row 1 (x74.1.map qb9)]) rfl (by simp) rfl (by trivial) ⟨rfl,trivial,rfl,trivial,rfl,trivial,rfl,trivial,rfl,trivial,rfl,trivial,rfl,trivial,rfl,trivial,rfl,trivial,rfl,trivial,rfl,trivial,rfl,trivial,trivial⟩) ?_
                  refine qa4 rfl rfl ?_
                  refine qa4 rfl rfl ?_
                  refine qa4 rfl rfl ?_
                  refine qa4 rfl rfl ?_
                  refine qa4 rfl rfl ?_
                  refine qa0 hτ rfl rfl rfl ?_
                  refine qa0 hτ rfl rfl rfl ?_
                  refine qa4 rfl rfl ?_
                  refine qa4 rfl rfl ?_
                  refine qa4 rfl rfl ?_
                  refine qa0 hτ rfl rfl rfl ?_
                  refine qa0 hτ rfl rfl rfl ?_
                  refine qap (qa5 [0,1,2] (l:=[(1,.d (.sl false (more_.map qaq))),(5,.ptr 0 0),(6,.d (.sl false (x70.1.map qa1))),(8,.ptr 1 0),(11,.d (.fl .f32 x72.2.1)),(21,.d (.fl .f32 x77.1)),(23,.d (.fl .f32 x78.1)),(145,.d (.bool true))]) (objs:=[.box [.d (.cx .f32 x69.Source.A.re x69.Source.A.im),.d (.cx .f32 x69.Source.B.re x69.Source.B.im),.d (.cx .f32 x69.Source.C.re x69.Source.C.im),.d (.sl false (x69.qa9.map qaf))],.box [.row 2 x71.1.qa3.length 0 x71.1.qa3.length,.d (.sl false (x71.1.qae.map qa1)),.d (.int .i64 x71.1.Rounds),.d (.bool x71.1.qaw)],.row 3 (x71.1.qa3.map qa1)]) rfl (by simp) rfl (by trivial) ⟨rfl,trivial,rfl,trivial,rfl,trivial,rfl,trivial,rfl,trivial,rfl,trivial,rfl,trivial,rfl,trivial,trivial⟩) ?_
                  refine qa4 rfl rfl ?_
                  refine qa4 rfl rfl ?_
                  refine qa0 hτ rfl rfl rfl ?_
                  refine qa0 hτ rfl rfl rfl ?_
                  refine qa4 rfl rfl ?_
                  refine qa4 rfl rfl ?_
                  refine qa4 rfl rfl ?_
                  refine qa0 hτ rfl rfl rfl ?_
                  refine qa0 hτ rfl rfl rfl ?_
                  refine qa4 rfl rfl ?_
                  refine qa4 rfl rfl ?_
                  refine qa4 rfl rfl ?_
                  refine qap (qa5 [0,1,2] (l:=[(1,.d (.sl false (more_.map qaq))),(5,.ptr 0 0),(6,.d (.sl false (x70.1.map qa1))),(8,.ptr 1 0),(11,.d (.fl .f32 x72.2.1)),(154,.d (.bool true)),(157,.und)]) (objs:=[.box [.d (.cx .f32 x69.Source.A.re x69.Source.A.im),.d (.cx .f32 x69.Source.B.re x69.Source.B.im),.d (.cx .f32 x69.Source.C.re x69.Source.C.im),.d (.sl false (x69.qa9.map qaf))],.box [.row 2 x71.1.qa3.length 0 x71.1.qa3.length,.d (.sl false (x71.1.qae.map qa1)),.d (.int .i64 x71.1.Rounds),.d (.bool x71.1.qaw)],.row 3 (x71.1.qa3.map qa1)]) rfl (by simp) rfl (by trivial) ⟨rfl,trivial,rfl,trivial,rfl,trivial,rfl,trivial,rfl,trivial,rfl,trivial,rfl,trivial,trivial⟩) ?_
                  refine qa4 rfl rfl ?_
                  refine qa4 rfl rfl ?_
                  refine qa4 rfl rfl ?_
                  refine qa4 rfl rfl ?_
                  refine qa0 hτ rfl rfl rfl ?_
                  refine qa6 ?_
                  refine qab (qa5 [0,1,2] (l:=[(1,.d (.sl false (more_.map qaq))),(5,.ptr 0 0),(6,.d (.sl false (x70.1.map qa1))),(8,.ptr 1 0),(11,.d (.fl .f32 x72.2.1)),(162,.d (.bool true))]) (objs:=[.box [.d (.cx .f32 x69.Source.A.re x69.Source.A.im),.d (.cx .f32 x69.Source.B.re x69.Source.B.im),.d (.cx .f32 x69.Source.C.re x69.Source.C.im),.d (.sl false (x69.qa9.map qaf))],.box [.row 2 x71.1.qa3.length 0 x71.1.qa3.length,.d (.sl false (x71.1.qae.map qa1)),.d (.int .i64 x71.1.Rounds),.d (.bool x71.1.qaw)],.row 3 (x71.1.qa3.map qa1)]) rfl (by simp) rfl (by trivial) ⟨rfl,trivial,rfl,trivial,rfl,trivial,rfl,trivial,rfl,trivial,rfl,trivial,trivial⟩) ?_
                  exact hk236 true h
                · have hb241:=qhm hb241
                  have h:=qcq h hb241
                  refine qa0 hτ rfl rfl rfl ?_
                  refine qa0 hτ rfl rfl rfl ?_
                  refine qa0 hτ rfl rfl rfl ?_
                  refine qa0 hτ rfl rfl rfl ?_
                  refine qb4 120 rfl (fun hb242=>?_) (fun hb242=>?_)
                  · have hb242:=qhn hb242
                    have h:=qcp h hb242
                    refine qa4 rfl rfl ?_
                    refine qap (qa5 [0,1,2,3,4] (l:=[(1,.d (.sl false (more_.map qaq))),(5,.ptr 0 0),(6,.d (.sl false (x70.1.map qa1))),(8,.ptr 1 0),(11,.d (.fl .f32 x72.2.1)),(13,.row 3 x73.1.length 0 x73.1.length),(15,.row 4 x74.1.length 0 x74.1.length),(17,.d (.fl .f32 x75.1)),(19,.d (.fl .f32 x76.1)),(21,.d (.fl .f32 x77.1)),(22,.d (.bool x77.2)),(23,.d (.fl .f32 x78.1)),(24,.d (.bool x78.2)),(120,.d (.bool true)),(121,.und)]) (objs:=[.box [.d (.cx .f32 x69.Source.A.re x69.Source.A.im),.d (.cx .f32 x69.Source.B.re x69.Source.B.im),.d (.cx .f32 x69.Source.C.re x69.Source.C.im),.d (.sl false (x69.qa9.map qaf))],.box [.row 2 x71.1.qa3.length 0 x71.1.qa3.length,.d (.sl false (x71.1.qae.map qa1)),.d (.int .i64 x71.1.Rounds),.d (.bool x71.1.qaw)],.row 3 (x71.1.qa3.map qa1),.row 1 (x73.1.map qbq),.row 1 (x74.1.map qb9)]) rfl (by simp) rfl (by trivial) ⟨rfl,trivial,rfl,trivial,rfl,trivial,rfl,trivial,rfl,trivial,rfl,trivial,rfl,trivial,rfl,trivial,rfl,trivial,rfl,trivial,rfl,trivial,rfl,trivial,rfl,trivial,rfl,trivial,rfl,trivial,trivial⟩) ?_
                    refine qa4 rfl rfl ?_
                    refine qa0 hτ rfl rfl rfl ?_
                    refine qa0 hτ rfl rfl rfl ?_
                    refine qa4 rfl rfl ?_
                    refine qa4 rfl rfl ?_
                    refine qa0 hτ rfl rfl rfl ?_
                    refine qa0 hτ rfl rfl rfl ?_
                    refine qa4 rfl rfl ?_
                    refine qa4 rfl rfl ?_
                    refine qa0 hτ rfl rfl rfl ?_
                    refine qa0 hτ rfl rfl rfl ?_
                    refine qa4 rfl rfl ?_
                    refine qap (qa5 [0,1,2,4] (l:=[(1,.d (.sl false (more_.map qaq))),(5,.ptr 0 0),(6,.d (.sl false (x70.1.map qa1))),(8,.ptr 1 0),(11,.d (.fl .f32 x72.2.1)),(15,.row 3 x74.1.length 0 x74.1.length),(17,.d (.fl .f32 x75.1)),(19,.d (.fl .f32 x76.1)),(21,.d (.fl .f32 x77.1)),(23,.d (.fl .f32 x78.1)),(132,.d (.bool true)),(133,.und)]) (objs:=[.box [.d (.cx .f32 x69.Source.A.re x69.Source.A.im),.d (.cx .f32 x69.Source.B.re x69.Source.B.im),.d (.cx .f32 x69.Source.C.re x69.Source.C.im),.d (.sl false (x69.qa9.map qaf))],.box [.row 2 x71.1.qa3.length 0 x71.1.qa3.length,.d (.sl false (x71.1.qae.map qa1)),.d (.int .i64 x71.1.Rounds),.d (.bool x71.1.qaw)],.row 3 (x71.1.qa3.map qa1),.row 1 (x74.1.map qb9)]) rfl (by simp) rfl (by trivial) ⟨rfl,trivial,rfl,trivial,rfl,trivial,rfl,trivial,rfl,trivial,rfl,trivial,rfl,trivial,rfl,trivial,rfl,trivial,rfl,trivial,rfl,trivial,rfl,trivial,trivial⟩) ?_
                    refine qa4 rfl rfl ?_
                    refine qa4 rfl rfl ?_
                    refine qa4 rfl rfl ?_
                    refine qa4 rfl rfl ?_
                    refine qa4 rfl rfl ?_
                    refine qa0 hτ rfl rfl rfl ?_
                    refine qa0 hτ rfl rfl rfl ?_
                    refine qa4 rfl rfl ?_
                    refine qa4 rfl rfl ?_
                    refine qa4 rfl rfl ?_
                    refine qa0 hτ rfl rfl rfl ?_
                    refine qa0 hτ rfl rfl rfl ?_
                    refine qap (qa5 [0,1,2] (l:=[(1,.d (.sl false (more_.map qaq))),(5,.ptr 0 0),(6,.d (.sl false (x70.1.map qa1))),(8,.ptr 1 0),(11,.d (.fl .f32 x72.2.1)),(21,.d (.fl .f32 x77.1)),(23,.d (.fl .f32 x78.1)),(145,.d (.bool true))]) (objs:=[.box [.d (.cx .f32 x69.Source.A.re x69.Source.A.im),.d (.cx .f32 x69.Source.B.re x69.Source.B.im),.d (.cx .f32 x69.Source.C.re x69.Source.C.im),.d (.sl false (x69.qa9.map qaf))],.box [.row 2 x71.1.qa3.length 0 x71.1.qa3.length,.d (.sl false (x71.1.qae.map qa1)),.d (.int .i64 x71.1.Rounds),.d (.bool x71.1.qaw)],.row 3 (x71.1.qa3.map qa1)]) rfl (by simp) rfl (by trivial) ⟨rfl,trivial,rfl,trivial,rfl,trivial,rfl,trivial,rfl,trivial,rfl,trivial,rfl,trivial,rfl,trivial,trivial⟩) ?_
                    refine qa4 rfl rfl ?_
                    refine qa4 rfl rfl ?_
                    refine qa0 hτ rfl rfl rfl ?_
                    refine qa0 hτ rfl rfl rfl ?_
                    refine qa4 rfl rfl ?_
                    refine qa4 rfl rfl ?_
                    refine qa4 rfl rfl ?_
                    refine qa0 hτ rfl rfl rfl ?_
                    refine qa0 hτ rfl rfl rfl ?_
                    refine qa4 rfl rfl ?_
                    refine qa4 rfl rfl ?_
                    refine qa4 rfl rfl ?_
                    refine qap (qa5 [0,1,2] (l:=[(1,.d (.sl false (more_.map qaq))),(5,.ptr 0 0),(6,.d (.sl false (x70.1.map qa1))),(8,.ptr 1 0),(11,.d (.fl .f32 x72.2.1)),(154,.d (.bool true)),(157,.und)]) (objs:=[.box [.d (.cx .f32 x69.Source.A.re x69.Source.A.im),.d (.cx .f32 x69.Source.B.re x69.Source.B.im),.d (.cx .f32 x69.Source.C.re x69.Source.C.im),.d (.sl false (x69.qa9.map qaf))],.box [.row 2 x71.1.qa3.length 0 x71.1.qa3.length,.d (.sl false (x71.1.qae.map qa1)),.d (.int .i64 x71.1.Rounds),.d (.bool x71.1.qaw)],.row 3 (x71.1.qa3.map qa1)]) rfl (by simp) rfl (by trivial) ⟨rfl,trivial,rfl,trivial,rfl,trivial,rfl,trivial,rfl,trivial,rfl,trivial,rfl,trivial,trivial⟩) ?_
                    refine qa4 rfl rfl ?_
                    refine qa4 rfl rfl ?_
                    refine qa4 rfl rfl ?_
                    refine qa4 rfl rfl ?_
                    refine qa0 hτ rfl rfl rfl ?_
                    refine qa6 ?_
                    refine qab (qa5 [0,1,2] (l:=[(1,.d (.sl false (more_.map qaq))),(5,.ptr 0 0),(6,.d (.sl false (x70.1.map qa1))),(8,.ptr 1 0),(11,.d (.fl .f32 x72.2.1)),(162,.d (.bool true))]) (objs:=[.box [.d (.cx .f32 x69.Source.A.re x69.Source.A.im),.d (.cx .f32 x69.Source.B.re x69.Source.B.im),.d (.cx .f32 x69.Source.C.re x69.Source.C.im),.d (.sl false (x69.qa9.map qaf))],.box [.row 2 x71.1.qa3.length 0 x71.1.qa3.length,.d (.sl false (x71.1.qae.map qa1)),.d (.int .i64 x71.1.Rounds),.d (.bool x71.1.qaw)],.row 3 (x71.1.qa3.map qa1)]) rfl (by simp) rfl (by trivial) ⟨rfl,trivial,rfl,trivial,rfl,trivial,rfl,trivial,rfl,trivial,rfl,trivial,trivial⟩) ?_
                    exact hk236 true h
                  · have hb242:=qhm hb242
                    have h:=qcq h hb242
                    refine qa0 hτ rfl rfl rfl ?_
                    refine qap (qa5 [0,1,2,3,4] (l:=[(1,.d (.sl false (more_.map qaq))),(5,.ptr 0 0),(6,.d (.sl false (x70.1.map qa1))),(8,.ptr 1 0),(11,.d (.fl .f32 x72.2.1)),(13,.row 3 x73.1.length 0 x73.1.length),(15,.row 4 x74.1.length 0 x74.1.length),(17,.d (.fl .f32 x75.1)),(19,.d (.fl .f32 x76.1)),(21,.d (.fl .f32 x77.1)),(22,.d (.bool x77.2)),(23,.d (.fl .f32 x78.1)),(24,.d (.bool x78.2)),(120,.d (.bool false)),(121,.d (.bool x76.2))]) (objs:=[.box [.d (.cx .f32 x69.Source.A.re x69.Source.A.im),.d (.cx .f32 x69.Source.B.re x69.Source.B.im),.d (.cx .f32 x69.Source.C.re x69.Source.C.im),.d (.sl false (x69.qa9.map qaf))],.box [.row 2 x71.1.qa3.length 0 x71.1.qa3.length,.d (.sl false (x71.1.qae.map qa1)),.d (.int .i64 x71.1.Rounds),.d (.bool x71.1.qaw)],.row 3 (x71.1.qa3.map qa1),.row 1 (x73.1.map qbq),.row 1 (x74.1.map qb9)]) rfl (by simp) rfl (by trivial) ⟨rfl,trivial,rfl,trivial,rfl,trivial,rfl,trivial,rfl,trivial,rfl,trivial,rfl,trivial,rfl,trivial,rfl,trivial,rfl,trivial,rfl,trivial,rfl,trivial,rfl,trivial,rfl,trivial,rfl,trivial,trivial⟩) ?_
                    refine qa0 hτ rfl rfl rfl ?_
                    refine qa0 hτ rfl rfl rfl ?_
                    refine qa0 hτ rfl rfl rfl ?_
                    refine qb4 124 rfl (fun hb243=>?_) (fun hb243=>?_)
                    · have hb243:=qhn hb243
                      have h:=qcp h hb243
                      refine qa4 rfl rfl ?_
                      refine qa4 rfl rfl ?_
                      refine qa0 hτ rfl rfl rfl ?_
                      refine qa0 hτ rfl rfl rfl ?_
                      refine qa4 rfl rfl ?_
                      refine qa4 rfl rfl ?_
                      refine qa0 hτ rfl rfl rfl ?_
                      refine qa0 hτ rfl rfl rfl ?_
                      refine qa4 rfl rfl ?_
                      refine qap (qa5 [0,1,2,4] (l:=[(1,.d (.sl false (more_.map qaq))),(5,.ptr 0 0),(6,.d (.sl false (x70.1.map qa1))),(8,.ptr 1 0),(11,.d (.fl .f32 x72.2.1)),(15,.row 3 x74.1.length 0 x74.1.length),(17,.d (.fl .f32 x75.1)),(19,.d (.fl .f32 x76.1)),(21,.d (.fl .f32 x77.1)),(23,.d (.fl .f32 x78.1)),(132,.d (.bool true)),(133,.und)]) (objs:=[.box [.d (.cx .f32 x69.Source.A.re x69.Source.A.im),.d (.cx .f32 x69.Source.B.re x69.Source.B.im),.d (.cx .f32 x69.Source.C.re x69.Source.C.im),.d (.sl false (x69.qa9.map qaf))],.box [.row 2 x71.1.qa3.length 0 x71.1.qa3.length,.d (.sl false (x71.1.qae.map qa1)),.d (.int .i64 x71.1.Rounds),.d (.bool x71.1.qaw)],.row 3 (x71.1.qa3.map qa1),.row 1 (x74.1.map qb9)]) rfl (by simp) rfl (by trivial) ⟨rfl,trivial,rfl,trivial,rfl,trivial,rfl,trivial,rfl,trivial,rfl,trivial,rfl,trivial,rfl,trivial,rfl,trivial,rfl,trivial,rfl,trivial,rfl,trivial,trivial⟩) ?_
                      refine qa4 rfl rfl ?_
                      refine qa4 rfl rfl ?_
                      refine qa4 rfl rfl ?_
                      refine qa4 rfl rfl ?_
                      refine qa4 rfl rfl ?_
                      refine qa0 hτ rfl rfl rfl ?_
                      refine qa0 hτ rfl rfl rfl ?_
                      refine qa4 rfl rfl ?_
                      refine qa4 rfl rfl ?_
                      refine qa4 rfl rfl ?_
                      refine qa0 hτ rfl rfl rfl ?_
                      refine qa0 hτ rfl rfl rfl ?_
                      refine qap (qa5 [0,1,2] (l:=[(1,.d (.sl false (more_.map qaq))),(5,.ptr 0 0),(6,.d (.sl false (x70.1.map qa1))),(8,.ptr 1 0),(11,.d (.fl .f32 x72.2.1)),(21,.d (.fl .f32 x77.1)),(23,.d (.fl .f32 x78.1)),(145,.d (.bool true))]) (objs:=[.box [.d (.cx .f32 x69.Source.A.re x69.Source.A.im),.d (.cx .f32 x69.Source.B.re x69.Source.B.im),.d (.cx .f32 x69.Source.C.re x69.Source.C.im),.d (.sl false (x69.qa9.map qaf))],.box [.row 2 x71.1.qa3.length 0 x71.1.qa3.length,.d (.sl false (x71.1.qae.map qa1)),.d (.int .i64 x71.1.Rounds),.d (.bool x71.1.qaw)],.row 3 (x71.1.qa3.map qa1)]) rfl (by simp) rfl (by trivial) ⟨rfl,trivial,rfl,trivial,rfl,trivial,rfl,trivial,rfl,trivial,rfl,trivial,rfl,trivial,rfl,trivial,trivial⟩) ?_
                      refine qa4 rfl rfl ?_
                      refine qa4 rfl rfl ?_
                      refine qa0 hτ rfl rfl rfl ?_
                      refine qa0 hτ rfl rfl rfl ?_
                      refine qa4 rfl rfl ?_
                      refine qa4 rfl rfl ?_
                      refine qa4 rfl rfl ?_
                      refine qa0 hτ rfl rfl rfl ?_
                      refine qa0 hτ rfl rfl rfl ?_
                      refine qa4 rfl rfl ?_
                      refine qa4 rfl rfl ?_
                      refine qa4 rfl rfl ?_
                      refine qap (qa5 [0,1,2] (l:=[(1,.d (.sl false (more_.map qaq))),(5,.ptr 0 0),(6,.d (.sl false (x70.1.map qa1))),(8,.ptr 1 0),(11,.d (.fl .f32 x72.2.1)),(154,.d (.bool true)),(157,.und)]) (objs:=[.box [.d (.cx .f32 x69.Source.A.re x69.Source.A.im),.d (.cx .f32 x69.Source.B.re x69.Source.B.im),.d (.cx .f32 x69.Source.C.re x69.Source.C.im),.d (.sl false (x69.qa9.map qaf))],.box [.row 2 x71.1.qa3.length 0 x71.1.qa3.length,.d (.sl false (x71.1.qae.map qa1)),.d (.int .i64 x71.1.Rounds),.d (.bool x71.1.qaw)],.row 3 (x71.1.qa3.map qa1)]) rfl (by simp) rfl (by trivial) ⟨rfl,trivial,rfl,trivial,rfl,trivial,rfl,trivial,rfl,trivial,rfl,trivial,rfl,trivial,trivial⟩) ?_
                      refine qa4 rfl rfl ?_
                      refine qa4 rfl rfl ?_
                      refine qa4 rfl rfl ?_
                      refine qa4 rfl rfl ?_
                      refine qa0 hτ rfl rfl rfl ?_
                      refine qa6 ?_
                      refine qab (qa5 [0,1,2] (l:=[(1,.d (.sl false (more_.map qaq))),(5,.ptr 0 0),(6,.d (.sl false (x70.1.map qa1))),(8,.ptr 1 0),(11,.d (.fl .f32 x72.2.1)),(162,.d (.bool true))]) (objs:=[.box [.d (.cx .f32 x69.Source.A.re x69.Source.A.im),.d (.cx .f32 x69.Source.B.re x69.Source.B.im),.d (.cx .f32 x69.Source.C.re x69.Source.C.im),.d (.sl false (x69.qa9.map qaf))],.box [.row 2 x71.1.qa3.length 0 x71.1.qa3.length,.d (.sl false (x71.1.qae.map qa1)),.d (.int .i64 x71.1.Rounds),.d (.bool x71.1.qaw)],.row 3 (x71.1.qa3.map qa1)]) rfl (by simp) rfl (by trivial) ⟨rfl,trivial,rfl,trivial,rfl,trivial,rfl,trivial,rfl,trivial,rfl,trivial,trivial⟩) ?_
                      exact hk236 true h
                    · have hb243:=qhm hb243
                      have h:=qcq h hb243
                      refine qa0 hτ rfl rfl rfl ?_
                      refine qa0 hτ rfl rfl rfl ?_
                      refine qa0 hτ rfl rfl rfl ?_
                      refine qa0 hτ rfl rfl rfl ?_
                      refine qb4 128 rfl (fun hb244=>?_) (fun hb244=>?_)
                      · have hb244:=qhn hb244
                        have h:=qcp h hb244
                        refine qa4 rfl rfl ?_
                        refine qa4 rfl rfl ?_
                        refine qa0 hτ rfl rfl rfl ?_
                        refine qa0 hτ rfl rfl rfl ?_
                        refine qa4 rfl rfl ?_
                        refine qap (qa5 [0,1,2,4] (l:=[(1,.d (.sl false (more_.map qaq))),(5,.ptr 0 0),(6,.d (.sl false (x70.1.map qa1))),(8,.ptr 1 0),(11,.d (.fl .f32 x72.2.1)),(15,.row 3 x74.1.length 0 x74.1.length),(17,.d (.fl .f32 x75.1)),(19,.d (.fl .f32 x76.1)),(21,.d (.fl .f32 x77.1)),(23,.d (.fl .f32 x78.1)),(132,.d (.bool true)),(133,.und)]) (objs:=[.box [.d (.cx .f32 x69.Source.A.re x69.Source.A.im),.d (.cx .f32 x69.Source.B.re x69.Source.B.im),.d (.cx .f32 x69.Source.C.re x69.Source.C.im),.d (.sl false (x69.qa9.map qaf))],.box [.row 2 x71.1.qa3.length 0 x71.1.qa3.length,.d (.sl false (x71.1.qae.map qa1)),.d (.int .i64 x71.1.Rounds),.d (.bool x71.1.qaw)],.row 3 (x71.1.qa3.map qa1),.row 1 (x74.1.map qb9)]) rfl (by simp) rfl (by trivial) ⟨rfl,trivial,rfl,trivial,rfl,trivial,rfl,trivial,rfl,trivial,rfl,trivial,rfl,trivial,rfl,trivial,rfl,trivial,rfl,trivial,rfl,trivial,rfl,trivial,trivial⟩) ?_
                        refine qa4 rfl rfl ?_
                        refine qa4 rfl rfl ?_
                        refine qa4 rfl rfl ?_
                        refine qa4 rfl rfl ?_
                        refine qa4 rfl rfl ?_
                        refine qa0 hτ rfl rfl rfl ?_
                        refine qa0 hτ rfl rfl rfl ?_
                        refine qa4 rfl rfl ?_
                        refine qa4 rfl rfl ?_
                        refine qa4 rfl rfl ?_
                        refine qa0 hτ rfl rfl rfl ?_
                        refine qa0 hτ rfl rfl rfl ?_
                        refine qap (qa5 [0,1,2] (l:=[(1,.d (.sl false (more_.map qaq))),(5,.ptr 0 0),(6,.d (.sl false (x70.1.map qa1))),(8,.ptr 1 0),(11,.d (.fl .f32 x72.2.1)),(21,.d (.fl .f32 x77.1)),(23,.d (.fl .f32 x78.1)),(145,.d (.bool true))]) (objs:=[.box [.d (.cx .f32 x69.Source.A.re x69.Source.A.im),.d (.cx .f32 x69.Source.B.re x69.Source.B.im),.d (.cx .f32 x69.Source.C.re x69.Source.C.im),.d (.sl false (x69.qa9.map qaf))],.box [.row 2 x71.1.qa3.length 0 x71.1.qa3.length,.d (.sl false (x71.1.qae.map qa1)),.d (.int .i64 x71.1.Rounds),.d (.bool x71.1.qaw)],.row 3 (x71.1.qa3.map qa1)]) rfl (by simp) rfl (by trivial) ⟨rfl,trivial,rfl,trivial,rfl,trivial,rfl,trivial,rfl,trivial,rfl,trivial,rfl,trivial,rfl,trivial,trivial⟩) ?_
                        refine qa4 rfl rfl ?_
                        refine qa4 rfl rfl ?_
                        refine qa0 hτ rfl rfl rfl ?_
                        refine qa0 hτ rfl rfl rfl ?_
                        refine qa4 rfl rfl ?_
                        refine qa4 rfl rfl ?_
                        refine qa4 rfl rfl ?_
                        refine qa0 hτ rfl rfl rfl ?_
                        refine qa0 hτ rfl rfl rfl ?_
                        refine qa4 rfl rfl ?_
                        refine qa4 rfl rfl ?_
                        refine qa4 rfl rfl ?_
                        refine qap (qa5 [0,1,2] (l:=[(1,.d (.sl false (more_.map qaq))),(5,.ptr 0 0),(6,.d (.sl false (x70.1.map qa1))),(8,.ptr 1 0),(11,.d (.fl .f32 x72.2.1)),(154,.d (.bool true)),(157,.und)]) (objs:=[.box [.d (.cx .f32 x69.Source.A.re x69.Source.A.im),.d (.cx .f32 x69.Source.B.re x69.Source.B.im),.d (.cx .f32 x69.Source.C.re x69.Source.C.im),.d (.sl false (x69.qa9.map qaf))],.box [.row 2 x71.1.qa3.length 0 x71.1.qa3.length,.d (.sl false (x71.1.qae.map qa1)),.d (.int .i64 x71.1.Rounds),.d (.bool x71.1.qaw)],.row 3 (x71.1.qa3.map qa1)]) rfl (by simp) rfl (by trivial) ⟨rfl,trivial,rfl,trivial,rfl,trivial,rfl,trivial,rfl,trivial,rfl,trivial,rfl,trivial,trivial⟩) ?_
                        refine qa4 rfl rfl ?_
                        refine qa4 rfl rfl ?_
                        refine qa4 rfl rfl ?_
                        refine qa4 rfl rfl ?_
                        refine qa0 hτ rfl rfl rfl ?_
                        refine qa6 ?_
                        refine qab (qa5 [0,1,2] (l:=[(1,.d (.sl false (more_.map qaq))),(5,.ptr 0 0),(6,.d (.sl false (x70.1.map qa1))),(8,.ptr 1 0),(11,.d (.fl .f32 x72.2.1)),(162,.d (.bool true))]) (objs:=[.box [.d (.cx .f32 x69.Source.A.re x69.Source.A.im),.d (.cx .f32 x69.Source.B.re x69.Source.B.im),.d (.cx .f32 x69.Source.C.re x69.Source.C.im),.d (.sl false (x69.qa9.map qaf))],.box [.row 2 x71.1.qa3.length 0 x71.1.qa3.length,.d (.sl false (x71.1.qae.map qa1)),.d (.int .i64 x71.1.Rounds),.d (.bool x71.1.qaw)],.row 3 (x71.1.qa3.map qa1)]) rfl (by simp) rfl (by trivial) ⟨rfl,trivial,rfl,trivial,rfl,trivial,rfl,trivial,rfl,trivial,rfl,trivial,trivial⟩) ?_
                        exact hk236 true h
                      · have hb244:=qhm hb244
                        have h:=qcq h hb244
                        refine qa0 hτ rfl rfl rfl ?_
                        refine qa0 hτ rfl rfl rfl ?_
                        refine qa0 hτ rfl rfl rfl ?_
                        refine qa0 hτ rfl rfl rfl ?_
                        refine qb4 132 rfl (fun hb245=>?_) (fun hb245=>?_)
                        · have hb245:=qhn hb245
                          have h:=qcp h hb245
                          refine qa4 rfl rfl ?_
                          refine qap (qa5 [0,1,2,4] (l:=[(1,.d (.sl false (more_.map qaq))),(5,.ptr 0 0),(6,.d (.sl false (x70.1.map qa1))),(8,.ptr 1 0),(11,.d (.fl .f32 x72.2.1)),(15,.row 3 x74.1.length 0 x74.1.length),(17,.d (.fl .f32 x75.1)),(19,.d (.fl .f32 x76.1)),(21,.d (.fl .f32 x77.1)),(23,.d (.fl .f32 x78.1)),(132,.d (.bool true)),(133,.und)]) (objs:=[.box [.d (.cx .f32 x69.Source.A.re x69.Source.A.im),.d (.cx .f32 x69.Source.B.re x69.Source.B.im),.d (.cx .f32 x69.Source.C.re x69.Source.C.im),.d (.sl false (x69.qa9.map qaf))],.box [.row 2 x71.1.qa3.length 0 x71.1.qa3.length,.d (.sl false (x71.1.qae.map qa1)),.d (.int .i64 x71.1.Rounds),.d (.bool x71.1.qaw)],.row 3 (x71.1.qa3.map qa1),.row 1 (x74.1.map qb9)]) rfl (by simp) rfl (by trivial) ⟨rfl,trivial,rfl,trivial,rfl,trivial,rfl,trivial,rfl,trivial,rfl,trivial,rfl,trivial,rfl,trivial,rfl,trivial,rfl,trivial,rfl,trivial,rfl,trivial,trivial⟩) ?_
                          refine qa4 rfl rfl ?_
                          refine qa4 rfl rfl ?_
                          refine qa4 rfl rfl ?_
                          refine qa4 rfl rfl ?_
                          refine qa4 rfl rfl ?_
                          refine qa0 hτ rfl rfl rfl ?_
                          refine qa0 hτ rfl rfl rfl ?_
                          refine qa4 rfl rfl ?_
                          refine qa4 rfl rfl ?_
                          refine qa4 rfl rfl ?_
                          refine qa0 hτ rfl rfl rfl ?_
                          refine qa0 hτ rfl rfl rfl ?_
                          refine qap (qa5 [0,1,2] (l:=[(1,.d (.sl false (more_.map qaq))),(5,.ptr 0 0),(6,.d (.sl false (x70.1.map qa1))),(8,.ptr 1 0),(11,.d (.fl .f32 x72.2.1)),(21,.d (.fl .f32 x77.1)),(23,.d (.fl .f32 x78.1)),(145,.d (.bool true))]) (objs:=[.box [.d (.cx .f32 x69.Source.A.re x69.Source.A.im),.d (.cx .f32 x69.Source.B.re x69.Source.B.im),.d (.cx .f32 x69.Source.C.re x69.Source.C.im),.d (.sl false (x69.qa9.map qaf))],.box [.row 2 x71.1.qa3.length 0 x71.1.qa3.length,.d (.sl false (x71.1.qae.map qa1)),.d (.int .i64 x71.1.Rounds),.d (.bool x71.1.qaw)],.row 3 (x71.1.qa3.map qa1)]) rfl (by simp) rfl (by trivial) ⟨rfl,trivial,rfl,trivial,rfl,trivial,rfl,trivial,rfl,trivial,rfl,trivial,rfl,trivial,rfl,trivial,trivial⟩) ?_
                          refine qa4 rfl rfl ?_
                          refine qa4 rfl rfl ?_
                          refine qa0 hτ rfl rfl rfl ?_
                          refine qa0 hτ rfl rfl rfl ?_
                          refine qa4 rfl rfl ?_
                          refine qa4 rfl rfl ?_
                          refine qa4 rfl rfl ?_
                          refine qa0 hτ rfl rfl rfl ?_
                          refine qa0 hτ rfl rfl rfl ?_
                          refine qa4 rfl rfl ?_
                          refine qa4 rfl rfl ?_
                          refine qa4 rfl rfl ?_
                          refine qap (qa5 [0,1,2] (l:=[(1,.d (.sl false (more_.map qaq))),(5,.ptr 0 0),(6,.d (.sl false (x70.1.map qa1))),(8,.ptr 1 0),(11,.d (.fl .f32 x72.2.1)),(154,.d (.bool true)),(157,.und)]) (objs:=[.box [.d (.cx .f32 x69.Source.A.re x69.Source.A.im),.d (.cx .f32 x69.Source.B.re x69.Source.B.im),.d (.cx .f32 x69.Source.C.re x69.Source.C.im),.d (.sl false (x69.qa9.map qaf))],.box [.row 2 x71.1.qa3.length 0 x71.1.qa3.length,.d (.sl false (x71.1.qae.map qa1)),.d (.int .i64 x71.1.Rounds),.d (.bool x71.1.qaw)],.row 3 (x71.1.qa3.map qa1)]) rfl (by simp) rfl (by trivial) ⟨rfl,trivial,rfl,trivial,rfl,trivial,rfl,trivial,rfl,trivial,rfl,trivial,rfl,trivial,trivial⟩) ?_
                          refine qa4 rfl rfl ?_
                          refine qa4 rfl rfl ?_
                          refine qa4 rfl rfl ?_
                          refine qa4 rfl rfl ?_
                          refine qa0 hτ rfl rfl rfl ?_
                          refine qa6 ?_
                          refine qab (qa5 [0,1,2] (l:=[(1,.d (.sl false (more_.map qaq))),(5,.ptr 0 0),(6,.d (.sl false (x70.1.map qa1))),(8,.ptr 1 0),(11,.d (.fl .f32 x72.2.1)),(162,.d (.bool true))]) (objs:=[.box [.d (.cx .f32 x69.Source.A.re x69.Source.A.im),.d (.cx .f32 x69.Source.B.re x69.Source.B.im),.d (.cx .f32 x69.Source.C.re x69.Source.C.im),.d (.sl false (x69.qa9.map qaf))],.box [.row 2 x71.1.qa3.length 0 x71.1.qa3.length,.d (.sl false (x71.1.qae.map qa1)),.d (.int .i64 x71.1.Rounds),.d (.bool x71.1.qaw)],.row 3 (x71.1.qa3.map qa1)]) rfl (by simp) rfl (by trivial) ⟨rfl,trivial,rfl,trivial,rfl,trivial,rfl,trivial,rfl,trivial,rfl,trivial,trivial⟩) ?_
                          exact hk236 true h
                        · have hb245:=qhm hb245
                          have h:=qcq h hb245
                          refine qa0 hτ rfl rfl rfl ?_
                          refine qap (qa5 [0,1,2,4,3] (l:=[(1,.d (.sl false (more_.map qaq))),(5,.ptr 0 0),(6,.d (.sl false (x70.1.map qa1))),(8,.ptr 1 0),(11,.d (.fl .f32 x72.2.1)),(15,.row 3 x74.1.length 0 x74.1.length),(17,.d (.fl .f32 x75.1)),(19,.d (.fl .f32 x76.1)),(21,.d (.fl .f32 x77.1)),(23,.d (.fl .f32 x78.1)),(132,.d (.bool false)),(133,.row 4 x73.1.length 0 x73.1.length)]) (objs:=[.box [.d (.cx .f32 x69.Source.A.re x69.Source.A.im),.d (.cx .f32 x69.Source.B.re x69.Source.B.im),.d (.cx .f32 x69.Source.C.re x69.Source.C.im),.d (.sl false (x69.qa9.map qaf))],.box [.row 2 x71.1.qa3.length 0 x71.1.qa3.length,.d (.sl false (x71.1.qae.map qa1)),.d (.int .i64 x71.1.Rounds),.d (.bool x71.1.qaw)],.row 3 (x71.1.qa3.map qa1),.row 1 (x74.1.map qb9),.row 1 (x73.1.map qbq)]) rfl (by simp) rfl (by trivial) ⟨rfl,trivial,rfl,trivial,rfl,trivial,rfl,trivial,rfl,trivial,rfl,trivial,rfl,trivial,rfl,trivial,rfl,trivial,rfl,trivial,rfl,trivial,rfl,trivial,trivial⟩) ?_
                          refine qbl hτ rfl rfl rfl (qb5 _) ?_
                          refine qa0 hτ rfl rfl rfl ?_
                          refine qbl hτ rfl rfl rfl (qb5 _) ?_
                          refine qa0 hτ rfl rfl rfl ?_
                          refine qa0 hτ (v:=.d (.bool (!(decide ((x73.1.length:Int) = (w64 ((3:Int) * (x74.1.length:Int)))))))) rfl rfl (qru _ _) ?_
                          refine qa0 hτ rfl rfl rfl ?_
                          refine qa0 hτ rfl rfl rfl ?_
                          refine qb4 140 rfl (fun hb246=>?_) (fun hb246=>?_)
                          · have hb246:=qhn hb246
                            have h:=if_f h hb246
                            refine qa4 rfl rfl ?_
                            refine qa4 rfl rfl ?_
                            refine qa4 rfl rfl ?_
                            refine qa0 hτ rfl rfl rfl ?_
                            refine qa0 hτ rfl rfl rfl ?_
                            refine qap (qa5 [0,1,2] (l:=[(1,.d (.sl false (more_.map qaq))),(5,.ptr 0 0),(6,.d (.sl false (x70.1.map qa1))),(8,.ptr 1 0),(11,.d (.fl .f32 x72.2.1)),(21,.d (.fl .f32 x77.1)),(23,.d (.fl .f32 x78.1)),(145,.d (.bool true))]) (objs:=[.box [.d (.cx .f32 x69.Source.A.re x69.Source.A.im),.d (.cx .f32 x69.Source.B.re x69.Source.B.im),.d (.cx .f32 x69.Source.C.re x69.Source.C.im),.d (.sl false (x69.qa9.map qaf))],.box [.row 2 x71.1.qa3.length 0 x71.1.qa3.length,.d (.sl false (x71.1.qae.map qa1)),.d (.int .i64 x71.1.Rounds),.d (.bool x71.1.qaw)],.row 3 (x71.1.qa3.map qa1)]) rfl (by simp) rfl (by trivial) ⟨rfl,trivial,rfl,trivial,rfl,trivial,rfl,trivial,rfl,trivial,rfl,trivial,rfl,trivial,rfl,trivial,trivial⟩) ?_
                            refine qa4 rfl rfl ?_
                            refine qa4 rfl rfl ?_
                            refine qa0 hτ rfl rfl rfl ?_
                            refine qa0 hτ rfl rfl rfl ?_
                            refine qa4 rfl rfl ?_
                            refine qa4 rfl rfl ?_
                            refine qa4 rfl rfl ?_
                            refine qa0 hτ rfl rfl rfl ?_
                            refine qa0 hτ rfl rfl rfl ?_
                            refine qa4 rfl rfl ?_
                            refine qa4 rfl rfl ?_
                            refine qa4 rfl rfl ?_
                            refine qap (qa5 [0,1,2] (l:=[(1,.d (.sl false (more_.map qaq))),(5,.ptr 0 0),(6,.d (.sl false (x70.1.map qa1))),(8,.ptr 1 0),(11,.d (.fl .f32 x72.2.1)),(154,.d (.bool true)),(157,.und)]) (objs:=[.box [.d (.cx .f32 x69.Source.A.re x69.Source.A.im),.d (.cx .f32 x69.Source.B.re x69.Source.B.im),.d (.cx .f32 x69.Source.C.re x69.Source.C.im),.d (.sl false (x69.qa9.map qaf))],.box [.row 2 x71.1.qa3.length 0 x71.1.qa3.length,.d (.sl false (x71.1.qae.map qa1)),.d (.int .i64 x71.1.Rounds),.d (.bool x71.1.qaw)],.row 3 (x71.1.qa3.map qa1)]) rfl (by simp) rfl (by trivial) ⟨rfl,trivial,rfl,trivial,rfl,trivial,rfl,trivial,rfl,trivial,rfl,trivial,rfl,trivial,trivial⟩) ?_
                            refine qa4 rfl rfl ?_
                            refine qa4 rfl rfl ?_
                            refine qa4 rfl rfl ?_
                            refine qa4 rfl rfl ?_
                            refine qa0 hτ rfl rfl rfl ?_
                            refine qa6 ?_
                            refine qab (qa5 [0,1,2] (l:=[(1,.d (.sl false (more_.map qaq))),(5,.ptr 0 0),(6,.d (.sl false (x70.1.map qa1))),(8,.ptr 1 0),(11,.d (.fl .f32 x72.2.1)),(162,.d (.bool true))]) (objs:=[.box [.d (.cx .f32 x69.Source.A.re x69.Source.A.im),.d (.cx .f32 x69.Source.B.re x69.Source.B.im),.d (.cx .f32 x69.Source.C.re x69.Source.C.im),.d (.sl false (x69.qa9.map qaf))],.box [.row 2 x71.1.qa3.length 0 x71.1.qa3.length,.d (.sl false (x71.1.qae.map qa1)),.d (.int .i64 x71.1.Rounds),.d (.bool x71.1.qaw)],.row 3 (x71.1.qa3.map qa1)]) rfl (by simp) rfl (by trivial) ⟨rfl,trivial,rfl,trivial,rfl,trivial,rfl,trivial,rfl,trivial,rfl,trivial,trivial⟩) ?_
                            exact hk236 true h
                          · have hb246:=qhm hb246
                            have h:=if_t h hb246
                            refine qa0 hτ rfl rfl rfl ?_
                            refine qa0 hτ rfl rfl rfl ?_
                            refine qa0 hτ rfl rfl rfl ?_
                            refine qa0 hτ rfl rfl rfl ?_
                            refine qa0 hτ rfl rfl rfl ?_
                            refine qap (qa5 [0,1,2] (l:=[(1,.d (.sl false (more_.map qaq))),(5,.ptr 0 0),(6,.d (.sl false (x70.1.map qa1))),(8,.ptr 1 0),(11,.d (.fl .f32 x72.2.1)),(21,.d (.fl .f32 x77.1)),(23,.d (.fl .f32 x78.1)),(145,.d (.bool (fcmp .neq .f32 x75.1 x76.1)))]) (objs:=[.box [.d (.cx .f32 x69.Source.A.re x69.Source.A.im),.d (.cx .f32 x69.Source.B.re x69.Source.B.im),.d (.cx .f32 x69.Source.C.re x69.Source.C.im),.d (.sl false (x69.qa9.map qaf))],.box [.row 2 x71.1.qa3.length 0 x71.1.qa3.length,.d (.sl false (x71.1.qae.map qa1)),.d (.int .i64 x71.1.Rounds),.d (.bool x71.1.qaw)],.row 3 (x71.1.qa3.map qa1)]) rfl (by simp) rfl (by trivial) ⟨rfl,trivial,rfl,trivial,rfl,trivial,rfl,trivial,rfl,trivial,rfl,trivial,rfl,trivial,rfl,trivial,trivial⟩) ?_
                            refine qb4 145 rfl (fun hb247=>?_) (fun hb247=>?_)
                            · have h:=qcq h hb247
                              refine qa4 rfl rfl ?_
                              refine qa4 rfl rfl ?_
                              refine qa0 hτ rfl rfl rfl ?_
                              refine qa0 hτ rfl rfl rfl ?_
                              refine qa4 rfl rfl ?_
                              refine qa4 rfl rfl ?_
                              refine qa4 rfl rfl ?_
                              refine qa0 hτ rfl rfl rfl ?_
                              refine qa0 hτ rfl rfl rfl ?_
                              refine qa4 rfl rfl ?_
                              refine qa4 rfl rfl ?_
                              refine qa4 rfl rfl ?_
                              refine qap (qa5 [0,1,2] (l:=[(1,.d (.sl false (more_.map qaq))),(5,.ptr 0 0),(6,.d (.sl false (x70.1.map qa1))),(8,.ptr 1 0),(11,.d (.fl .f32 x72.2.1)),(154,.d (.bool true)),(157,.und)]) (objs:=[.box [.d (.cx .f32 x69.Source.A.re x69.Source.A.im),.d (.cx .f32 x69.Source.B.re x69.Source.B.im),.d (.cx .f32 x69.Source.C.re x69.Source.C.im),.d (.sl false (x69.qa9.map qaf))],.box [.row 2 x71.1.qa3.length 0 x71.1.qa3.length,.d (.sl false (x71.1.qae.map qa1)),.d (.int .i64 x71.1.Rounds),.d (.bool x71.1.qaw)],.row 3 (x71.1.qa3.map qa1)]) rfl (by simp) rfl (by trivial) ⟨rfl,trivial,rfl,trivial,rfl,trivial,rfl,trivial,rfl,trivial,rfl,trivial,rfl,trivial,trivial⟩) ?_
                              refine qa4 rfl rfl ?_
                              refine qa4 rfl rfl ?_
                              refine qa4 rfl rfl ?_
                              refine qa4 rfl rfl ?_
                              refine qa0 hτ rfl rfl rfl ?_
                              refine qa6 ?_
                              refine qab (qa5 [0,1,2] (l:=[(1,.d (.sl false (more_.map qaq))),(5,.ptr 0 0),(6,.d (.sl false (x70.1.map qa1))),(8,.ptr 1 0),(11,.d (.fl .f32 x72.2.1)),(162,.d (.bool true))]) (objs:=[.box [.d (.cx .f32 x69.Source.A.re x69.Source.A.im),.d (.cx .f32 x69.Source.B.re x69.Source.B.im),.d (.cx .f32 x69.Source.C.re x69.Source.C.im),.d (.sl false (x69.qa9.map qaf))],.box [.row 2 x71.1.qa3.length 0 x71.1.qa3.length,.d (.sl false (x71.1.qae.map qa1)),.d (.int .i64 x71.1.Rounds),.d (.bool x71.1.qaw)],.row 3 (x71.1.qa3.map qa1)]) rfl (by simp) rfl (by trivial) ⟨rfl,trivial,rfl,trivial,rfl,trivial,rfl,trivial,rfl,trivial,rfl,trivial,trivial⟩) ?_
                              exact hk236 true h
                            · have h:=qcp h hb247
                              refine qa0 hτ rfl rfl rfl ?_
                              refine qa0 hτ rfl rfl rfl ?_
                              refine qa0 hτ rfl rfl rfl ?_
                              refine qa0 hτ rfl rfl rfl ?_
                              refine qb4 149 rfl (fun hb248=>?_) (fun hb248=>?_)
                              · have h:=qcq h hb248
                                refine qa4 rfl rfl ?_
                                refine qa4 rfl rfl ?_
                                refine qa4 rfl rfl ?_
                                refine qa0 hτ rfl rfl rfl ?_
                                refine qa0 hτ rfl rfl rfl ?_
                                refine qa4 rfl rfl ?_
                                refine qa4 rfl rfl ?_
                                refine qa4 rfl rfl ?_
                                refine qap (qa5 [0,1,2] (l:=[(1,.d (.sl false (more_.map qaq))),(5,.ptr 0 0),(6,.d (.sl false (x70.1.map qa1))),(8,.ptr 1 0),(11,.d (.fl .f32 x72.2.1)),(154,.d (.bool true)),(157,.und)]) (objs:=[.box [.d (.cx .f32 x69.Source.A.re x69.Source.A.im),.d (.cx .f32 x69.Source.B.re x69.Source.B.im),.d (.cx .f32 x69.Source.C.re x69.Source.C.im),.d (.sl false (x69.qa9.map qaf))],.box [.row 2 x71.1.qa3.length 0 x71.1.qa3.length,.d (.sl false (x71.1.qae.map qa1)),.d (.int .i64 x71.1.Rounds),.d (.bool x71.1.qaw)],.row 3 (x71.1.qa3.map qa1)]) rfl (by simp) rfl (by trivial) ⟨rfl,trivial,rfl,trivial,rfl,trivial,rfl,trivial,rfl,trivial,rfl,trivial,rfl,trivial,trivial⟩) ?_
                                refine qa4 rfl rfl ?_
                                refine qa4 rfl rfl ?_
                                refine qa4 rfl rfl ?_
                                refine qa4 rfl rfl ?_
                                refine qa0 hτ rfl rfl rfl ?_
                                refine qa6 ?_
                                refine qab (qa5 [0,1,2] (l:=[(1,.d (.sl false (more_.map qaq))),(5,.ptr 0 0),(6,.d (.sl false (x70.1.map qa1))),(8,.ptr 1 0),(11,.d (.fl .f32 x72.2.1)),(162,.d (.bool true))]) (objs:=[.box [.d (.cx .f32 x69.Source.A.re x69.Source.A.im),.d (.cx .f32 x69.Source.B.re x69.Source.B.im),.d (.cx .f32 x69.Source.C.re x69.Source.C.im),.d (.sl false (x69.qa9.map qaf))],.box [.row 2 x71.1.qa3.length 0 x71.1.qa3.length,.d (.sl false (x71.1.qae.map qa1)),.d (.int .i64 x71.1.Rounds),.d (.bool x71.1.qaw)],.row 3 (x71.1.qa3.map qa1)]) rfl (by simp) rfl (by trivial) ⟨rfl,trivial,rfl,trivial,rfl,trivial,rfl,trivial,rfl,trivial,rfl,trivial,trivial⟩) ?_
                                exact hk236 true h
                              · have h:=qcp h hb248
                                refine qa0 hτ rfl rfl rfl ?_
                                refine qa0 hτ rfl rfl rfl ?_
                                refine qa0 hτ rfl rfl rfl ?_
                                refine qa0 hτ rfl rfl rfl ?_
                                refine qa0 hτ rfl rfl rfl ?_
                                refine qb4 154 rfl (fun hb249=>?_) (fun hb249=>?_)
                                · have hb249:=qhn hb249
                                  have h:=qcp h hb249
                                  refine qa4 rfl rfl ?_
                                  refine qa4 rfl rfl ?_
                                  refine qa4 rfl rfl ?_
                                  refine qap (qa5 [0,1,2] (l:=[(1,.d (.sl false (more_.map qaq))),(5,.ptr 0 0),(6,.d (.sl false (x70.1.map qa1))),(8,.ptr 1 0),(11,.d (.fl .f32 x72.2.1)),(154,.d (.bool true)),(157,.und)]) (objs:=[.box [.d (.cx .f32 x69.Source.A.re x69.Source.A.im),.d (.cx .f32 x69.Source.B.re x69.Source.B.im),.d (.cx .f32 x69.Source.C.re x69.Source.C.im),.d (.sl false (x69.qa9.map qaf))],.box [.row 2 x71.1.qa3.length 0 x71.1.qa3.length,.d (.sl false (x71.1.qae.map qa1)),.d (.int .i64 x71.1.Rounds),.d (.bool x71.1.qaw)],.row 3 (x71.1.qa3.map qa1)]) rfl (by simp) rfl (by trivial) ⟨rfl,trivial,rfl,trivial,rfl,trivial,rfl,trivial,rfl,trivial,rfl,trivial,rfl,trivial,trivial⟩) ?_
                                  refine qa4 rfl rfl ?_
                                  refine qa4 rfl rfl ?_
                                  refine qa4 rfl rfl ?_
                                  refine qa4 rfl rfl ?_
                                  refine qa0 hτ rfl rfl rfl ?_
                                  refine qa6 ?_
                                  refine qab (qa5 [0,1,2] (l:=[(1,.d (.sl false (more_.map qaq))),(5,.ptr 0 0),(6,.d (.sl false (x70.1.map qa1))),(8,.ptr 1 0),(11,.d (.fl .f32 x72.2.1)),(162,.d (.bool true))]) (objs:=[.box [.d (.cx .f32 x69.Source.A.re x69.Source.A.im),.d (.cx .f32 x69.Source.B.re x69.Source.B.im),.d (.cx .f32 x69.Source.C.re x69.Source.C.im),.d (.sl false (x69.qa9.map qaf))],.box [.row 2 x71.1.qa3.length 0 x71.1.qa3.length,.d (.sl false (x71.1.qae.map qa1)),.d (.int .i64 x71.1.Rounds),.d (.bool x71.1.qaw)],.row 3 (x71.1.qa3.map qa1)]) rfl (by simp) rfl (by trivial) ⟨rfl,trivial,rfl,trivial,rfl,trivial,rfl,trivial,rfl,trivial,rfl,trivial,trivial⟩) ?_
                                  exact hk236 true h
                                · have hb249:=qhm hb249
                                  have h:=qcq h hb249
                                  refine qa0 hτ rfl rfl rfl ?_
                                  refine qa0 hτ rfl rfl rfl ?_
                                  refine qbl hτ rfl rfl rfl (qb5 _) ?_
                                  refine qap (qa5 [0,1,2] (l:=[(1,.d (.sl false (more_.map qaq))),(5,.ptr 0 0),(6,.d (.sl false (x70.1.map qa1))),(8,.ptr 1 0),(11,.d (.fl .f32 x72.2.1)),(154,.d (.bool false)),(157,.d (.int .i64 (x71.1.qa3.length:Int)))]) (objs:=[.box [.d (.cx .f32 x69.Source.A.re x69.Source.A.im),.d (.cx .f32 x69.Source.B.re x69.Source.B.im),.d (.cx .f32 x69.Source.C.re x69.Source.C.im),.d (.sl false (x69.qa9.map qaf))],.box [.row 2 x71.1.qa3.length 0 x71.1.qa3.length,.d (.sl false (x71.1.qae.map qa1)),.d (.int .i64 x71.1.Rounds),.d (.bool x71.1.qaw)],.row 3 (x71.1.qa3.map qa1)]) rfl (by simp) rfl (by trivial) ⟨rfl,trivial,rfl,trivial,rfl,trivial,rfl,trivial,rfl,trivial,rfl,trivial,rfl,trivial,trivial⟩) ?_
                                  refine qa0 hτ rfl rfl rfl ?_
                                  refine qa0 hτ rfl rfl rfl ?_
                                  refine qa0 hτ (v:=.d (.int .i64 (x69.qa9.length:Int))) rfl rfl (Eq.trans rfl (qfx (f:=qaf) x69.qa9)) ?_
                                  refine qa0 hτ (v:=.d (.bool (!(decide ((x71.1.qa3.length:Int) = (x69.qa9.length:Int)))))) rfl rfl (qru _ _) ?_
                                  refine qa0 hτ rfl rfl rfl ?_
                                  refine qa6 ?_
                                  refine qab (qa5 [0,1,2] (l:=[(1,.d (.sl false (more_.map qaq))),(5,.ptr 0 0),(6,.d (.sl false (x70.1.map qa1))),(8,.ptr 1 0),(11,.d (.fl .f32 x72.2.1)),(162,.d (.bool (!(decide ((x71.1.qa3.length:Int) = (x69.qa9.length:Int))))))]) (objs:=[.box [.d (.cx .f32 x69.Source.A.re x69.Source.A.im),.d (.cx .f32 x69.Source.B.re x69.Source.B.im),.d (.cx .f32 x69.Source.C.re x69.Source.C.im),.d (.sl false (x69.qa9.map qaf))],.box [.row 2 x71.1.qa3.length 0 x71.1.qa3.length,.d (.sl false (x71.1.qae.map qa1)),.d (.int .i64 x71.1.Rounds),.d (.bool x71.1.qaw)],.row 3 (x71.1.qa3.map qa1)]) rfl (by simp) rfl (by trivial) ⟨rfl,trivial,rfl,trivial,rfl,trivial,rfl,trivial,rfl,trivial,rfl,trivial,trivial⟩) ?_
                                  exact hk236 (!(decide ((x71.1.qa3.length:Int) = (x69.qa9.length:Int)))) h
theorem laws_FnLowest_ok (n:Nat) (code_:List Int) (more_:List Int) {r:Bool} (h:qh6 n code_ more_ = some r):qb0 prog false 5 [.d (.sl false (code_.map qaq)),.d (.sl false (more_.map qaq))] [] (fun v o new=>v = .d (.bool r)∧o = []∧new = []):=laws_FnLowest_ok_fr0 false n code_ more_ h
end Go.Proofs.Ytdnkjocenbepaaa.AWN

namespace Go.Proofs.Ytdnkjocenbepaaa.AWN
open Go
theorem qcu {n:Int} (h0:-9223372036854775808 ≤ n) (h1:n < 9223372036854775808):w64 n = n:=by
  show IntKind.wrap .i64 n = n
  simp only [IntKind.wrap,IntKind.signed,IntKind.bits]
  simp
  omega
theorem u64_id {n:Int} (h0:0 ≤ n) (h1:n < 18446744073709551616):IntKind.wrap .u64 n = n:=by
  simp only [IntKind.wrap,IntKind.signed,IntKind.bits]
  simp
  omega
theorem qvf (x:Int):0 ≤ qdi .and .u64 x 255∧qdi .and .u64 x 255 ≤ 255:=by
  unfold qdi
  have h:((BitVec.ofInt 64 x &&& BitVec.ofInt 64 255).toNat:Int) ≤ 255:=by
    rw [BitVec.toNat_and]
    have:(BitVec.ofInt 64 255).toNat = 255:=by decide
    rw [this]
    have:=@Nat.and_le_right (BitVec.ofInt 64 x).toNat 255
    omega
  show 0 ≤ IntKind.wrap .u64 ((BitVec.ofInt 64 x &&& BitVec.ofInt 64 255).toNat:Int)∧IntKind.wrap .u64 ((BitVec.ofInt 64 x &&& BitVec.ofInt 64 255).toNat:Int) ≤ 255
  rw [u64_id (by omega) (by omega)]
  omega
theorem que {α:Type} {l:List α} {i:Int} (h0:0 ≤ i) (h1:i < l.length):∃ x,getI l i = some x∧x ∈ l∧l[i.toNat]? = some x:=by
  have hlt:i.toNat < l.length:=by omega
  refine ⟨l[i.toNat],?_,List.getElem_mem _,List.getElem?_eq_getElem hlt⟩
  unfold getI
  rw [if_pos h0,List.getElem?_eq_getElem hlt]
structure Src (s:qdy) (b:Int):Prop where
  low:0 ≤ s.at_
  high:s.at_ ≤ b
  byte:∀ x ∈ s.code,0 ≤ x∧x < 256
theorem Src.mono {s:qdy} {b c:Int} (h:Src s b) (hbc:b ≤ c):Src s c:=⟨h.low,by have:=h.high;omega,h.byte⟩
theorem qrs (n:Nat) {s:qdy} {b:Int} (h:Src s b) (hb:b ≤ 1000000):∃ v s',qem n s = some (v,s')∧0 ≤ v∧v ≤ 255∧Src s' (b + 1):=by
  have h1:=h.low
  have h2:=h.high
  have hj:∀ v:Int,0 ≤ v→v ≤ 255→∃ v' s',qcz n s v = some (v',s')∧0 ≤ v'∧v' ≤ 255∧Src s' (b + 1):=by
    intro v hv0 hv1
    unfold qcz
    have hw:w64 (s.at_ + 1) = s.at_ + 1:=qcu (by omega) (by omega)
    split
    · exact ⟨v,_,rfl,hv0,hv1,⟨by show 0 ≤ w64 _;rw [hw];omega,by show w64 _ ≤ _;rw [hw];omega,h.byte⟩⟩
    · refine ⟨_,_,rfl,?_,?_,⟨by show 0 ≤ w64 _;rw [hw];omega,by show w64 _ ≤ _;rw [hw];omega,h.byte⟩⟩
      · have:=qvf ((IntKind.wrap .u64 ((IntKind.wrap .u64 ((IntKind.wrap .u64 (s.seed * (6364136223846793005:Int))) + (IntKind.wrap .u64 (v)))) + (1442695040888963407:Int))).fdiv (2 ^ min (40:Int).toNat (IntKind.bits .u64)))
        generalize qdi .and .u64 _ _ = z at *
        rw [qcu (by omega) (by omega)];exact this.1
      · have:=qvf ((IntKind.wrap .u64 ((IntKind.wrap .u64 ((IntKind.wrap .u64 (s.seed * (6364136223846793005:Int))) + (IntKind.wrap .u64 (v)))) + (1442695040888963407:Int))).fdiv (2 ^ min (40:Int).toNat (IntKind.bits .u64)))
        generalize qdi .and .u64 _ _ = z at *
        rw [qcu (by omega) (by omega)];exact this.2
  unfold qem
  split
  · rename_i hlt
    obtain ⟨x,hx,hm,_⟩:=que h1 hlt
    rw [hx]
    have hb:=h.byte x hm
    simp only [Option.bind_some]
    rw [qcu (by omega) (by omega)]
    exact hj x (by omega) (by omega)
  · exact hj 0 (by omega) (by omega)
theorem pick_some (n:Nat) {s:qdy} {b:Int} (h:Src s b) (hb:b ≤ 900000) (k:Int) (hk:k ≤ 100000):∃ v s',qb6 n s k = some (v,s')∧0 ≤ v∧(v < k ∨ v = 0)∧Src s' (b + 2):=by
  unfold qb6
  split
  · exact ⟨0,s,rfl,by omega,by omega,h.mono (by omega)⟩
  · rename_i hk1
    have hj:∀ (v:Int) (s':qdy),0 ≤ v→Src s' (b + 2)→∃ v' s'',qd0 n k s'.code s'.at_ s'.seed v = some (v',s'')∧0 ≤ v'∧(v' < k ∨ v' = 0)∧Src s'' (b + 2):=by
      intro v s' hv hs
      unfold qd0 grd
      rw [if_pos (show k ≠ 0 by omega)]
      refine ⟨_,_,rfl,?_,?_,hs⟩
      · rw [Int.tmod_eq_emod_of_nonneg hv];exact Int.emod_nonneg _ (by omega)
      · left;rw [Int.tmod_eq_emod_of_nonneg hv];exact Int.emod_lt_of_pos _ (by omega)
    obtain ⟨v1,s1,e1,a1,b1,c1⟩:=qrs n h (by omega)
    rw [e1]
    simp only [Option.bind_some]
    split
    · obtain ⟨v2,s2,e2,a2,b2,c2⟩:=qrs n c1 (by omega)
      rw [e2]
      simp only [Option.bind_some]
      rw [qcu (n:=v1 * 256) (by omega) (by omega),qcu (by omega) (by omega)]
      exact hj _ s2 (by omega) (c2.mono (by omega))
    · exact hj _ s1 a1 (c1.mono (by omega))
theorem qjw (n:Nat) {s:qdy} {b:Int} (h:Src s b) (hb:b ≤ 900000) (k:Int) (hk0:1 ≤ k) (hk:k ≤ 100000):∃ v s',qb6 n s k = some (v,s')∧0 ≤ v∧v < k∧Src s' (b + 2):=by
  obtain ⟨v,s',e,h1,h2,h3⟩:=pick_some n h hb k hk
  exact ⟨v,s',e,h1,by omega,h3⟩
end Go.Proofs.Ytdnkjocenbepaaa.AWN

namespace Go.Proofs.Ytdnkjocenbepaaa.AWN
open Go
structure qnp (i:Nat) (x:SBus):Prop where
  root:i = 0→x.qar = -1∧x.Own = ⟨0,0⟩∧x.Shared = ⟨0,0⟩
  up:0 < i→0 ≤ x.qar∧x.qar < i
  kind:0 ≤ x.Kind∧x.Kind < 3
  cust:0 ≤ x.qan∧x.qan < 30
structure VF (l:List SBus):Prop where
  one:1 ≤ l.length
  six:l.length ≤ 7
  bus:∀ i x,l[i]? = some x→qnp i x
theorem snoc_ok {bl:List SBus} {x:SBus} (h:∀ i y,bl[i]? = some y→qnp i y) (hx:qnp bl.length x):∀ i y,(bl ++ [x])[i]? = some y→qnp i y:=by
  intro i y hy
  rcases Nat.lt_or_ge i bl.length with hlt | hge
  · rw [List.getElem?_append_left hlt] at hy;exact h i y hy
  · rw [List.getElem?_append_right hge] at hy
    have:i - bl.length = 0:=by
      rcases Nat.eq_zero_or_pos (i - bl.length) with h0 | h0
      · exact h0
      · rw [List.getElem?_eq_none (by simp;omega)] at hy;cases hy
    rw [this] at hy
    simp at hy
    subst hy
    have:i = bl.length:=by omega
    rw [this];exact hx
theorem src_new {code:List Int} (h:∀ x ∈ code,0 ≤ x∧x < 256):Src (qdy.mk code 0 0) 0:=⟨by simp,by simp,h⟩
end Go.Proofs.Ytdnkjocenbepaaa.AWN

namespace Go.Proofs.Ytdnkjocenbepaaa.AWN
open Go
/-! ### Lists of places -/
abbrev toI (l:List Nat):List Int:=l.map fun (i:Nat)=>(i:Int)
theorem toI_getI {l:List Nat} {i:Nat} {a:Nat} (h:l[i]? = some a):getI (toI l) (i:Int) = some (a:Int):=by
  unfold getI
  rw [if_pos (by omega),show ((i:Int)).toNat = i by omega]
  simp [h]
theorem qbp {α:Type} {l:List α} {i:Nat} {x:α} (h:l[i]? = some x):getI l (i:Int) = some x:=by
  unfold getI
  rw [if_pos (by omega),show ((i:Int)).toNat = i by omega,h]
/-! ### A list turned around -/
theorem qqa (n:Nat):∀ (m:Nat) (a mid c:List Int),(a ++ mid ++ c).length ≤ 1000→mid.length < m→qcy n m (a ++ mid ++ c) (a.length:Int) ((a.length:Int) + mid.length - 1) = some (a ++ mid.reverse ++ c)
  | 0,_,_,_,_,h=>by omega
  | m + 1,a,mid,c,hl,hm=>by
    unfold qcy
    rcases mid with _ | ⟨x,mid⟩
    · rw [if_neg (by simp;omega)];simp
    · rcases List.eq_nil_or_concat mid with rfl | ⟨mid',y,rfl⟩
      · rw [if_neg (by simp)];simp
      · have hlen:(a ++ x :: (mid' ++ [y]) ++ c).length = a.length + mid'.length + 2 + c.length:=by simp;omega
        rw [if_pos (by simp;omega)]
        have ej:(a.length:Int) + ((x :: (mid'.concat y)).length:Nat) - 1 = ((a.length + mid'.length + 1:Nat):Int):=by simp;omega
        have eq:a ++ x :: (mid'.concat y) ++ c = a ++ x :: (mid' ++ y :: c):=by simp
        rw [ej,eq]
        have gi:(a ++ x :: (mid' ++ y :: c))[a.length]? = some x:=by simp
        have gj:(a ++ x :: (mid' ++ y :: c))[a.length + mid'.length + 1]? = some y:=by
          rw [List.getElem?_append_right (by omega)]
          rw [show a.length + mid'.length + 1 - a.length = mid'.length + 1 by omega,List.getElem?_cons_succ,List.getElem?_append_right (by omega)]
          simp
        rw [qbp gj]
        simp only [Option.bind_some]
        rw [qbp gi]
        simp only [Option.bind_some]
        have s1:(a ++ x :: (mid' ++ y :: c)).set ((a.length:Int)).toNat y = a ++ y :: (mid' ++ y :: c):=by
          rw [show ((a.length:Int)).toNat = a.length by omega,List.set_append_right _ _ (by omega)]
          simp
        rw [s1]
        have gk:(a ++ y :: (mid' ++ y :: c))[a.length + mid'.length + 1]? = some y:=by
          rw [List.getElem?_append_right (by omega)]
          rw [show a.length + mid'.length + 1 - a.length = mid'.length + 1 by omega,List.getElem?_cons_succ,List.getElem?_append_right (by omega)]
          simp
        rw [qbp gk]
        simp only [Option.bind_some]
        have s2:(a ++ y :: (mid' ++ y :: c)).set (((a.length + mid'.length + 1:Nat):Int)).toNat x = (a ++ [y]) ++ mid' ++ (x :: c):=by
          rw [show (((a.length + mid'.length + 1:Nat):Int)).toNat = a.length + (mid'.length + 1) by omega,List.set_append_right _ _ (by omega)]
          rw [show a.length + (mid'.length + 1) - a.length = mid'.length + 1 by omega,List.set_cons_succ,List.set_append_right _ _ (by omega)]
          simp
        rw [s2]
        have hl':a.length + mid'.length + 2 + c.length ≤ 1000:=by
          have:=hl
          simp at this
          omega
        rw [qcu (by omega) (by omega),qcu (by omega) (by omega)]
        have ih:=qqa n m (a ++ [y]) mid' (x :: c) (by simp;omega) (by simp at hm;omega)
        have e1:((a ++ [y]).length:Int) = (a.length:Int) + 1:=by simp
        rw [e1] at ih
        have e2:((a.length + mid'.length + 1:Nat):Int) - 1 = (a.length:Int) + 1 + mid'.length - 1:=by omega
        rw [e2,ih]
        simp
theorem reverse_some (s:List Int) (hs:s.length ≤ 90):qfj 100 s = some s.reverse:=by
  have:=qqa 100 100 [] s [] (by simp;omega) (by omega)
  unfold qfj
  rw [qcu (by omega) (by omega)]
  simpa using this
/-! ### Paths -/
def par (l:List SBus) (i:Nat):Nat:=((l[i]?.map SBus.qar).getD 0).toNat
def cust (l:List SBus) (i:Nat):Int:=(l[i]?.map SBus.qan).getD 0
def upl (l:List SBus) (i:Nat):List Nat:=i :: if h:par l i < i then upl l (par l i) else []
termination_by i
section
variable {l:List SBus} (hv:VF l)
include hv
theorem qre {i:Nat} (h:i < l.length):∃ x,l[i]? = some x∧qnp i x∧x.qan = cust l i∧(0 < i→x.qar = (par l i:Int)∧par l i < i):=by
  refine ⟨l[i],List.getElem?_eq_getElem h,hv.bus i _ (List.getElem?_eq_getElem h),by simp [cust,h],fun h0=>?_⟩
  have:=(hv.bus i _ (List.getElem?_eq_getElem h)).up h0
  have e:par l i = (l[i]).qar.toNat:=by simp [par,h]
  rw [e];omega
omit hv in
theorem qr5:upl l 0 = [0]:=by
  rw [upl];simp
theorem qr4 {i:Nat} (h:i < l.length) (h0:0 < i):upl l i = i :: upl l (par l i):=by
  obtain ⟨_,_,_,_,h2⟩:=qre hv h
  rw [upl,dif_pos (h2 h0).2]
theorem upl_le:∀ (i:Nat),i < l.length→∀ b ∈ upl l i,b ≤ i:=by
  intro i
  induction i using Nat.strongRecOn with
  | _ i ih =>
    intro hi b hb
    rcases Nat.eq_zero_or_pos i with rfl | h0
    · rw [qr5] at hb;simp at hb;omega
    · rw [qr4 hv hi h0] at hb
      obtain ⟨_,_,_,_,h2⟩:=qre hv hi
      have hp:=(h2 h0).2
      rcases List.mem_cons.1 hb with rfl | hb
      · exact Nat.le_refl _
      · have:=ih _ hp (by omega) b hb;omega
theorem quy:∀ (i:Nat),i < l.length→(upl l i).length ≤ i + 1:=by
  intro i
  induction i using Nat.strongRecOn with
  | _ i ih =>
    intro hi
    rcases Nat.eq_zero_or_pos i with rfl | h0
    · rw [qr5];simp
    · rw [qr4 hv hi h0]
      obtain ⟨_,_,_,_,h2⟩:=qre hv hi
      have hp:=(h2 h0).2
      have:=ih _ hp (by omega)
      simp;omega
end
end Go.Proofs.Ytdnkjocenbepaaa.AWN

namespace Go.Proofs.Ytdnkjocenbepaaa.AWN
open Go
theorem zero_eq:fcmp .eql .f32 0 0 = true:=by kernel_rfl
theorem qog (n:Nat) (x a b:Int) (h:a ≤ x∧x ≤ b):qeq n x a b = some true:=by
  unfold qeq
  rw [if_pos (by omega),decide_eq_true h.2]
section
variable {f:qam} (hv:VF f.qa9)
include hv
theorem qtq (n:Nat):∀ (m k:Nat),k ≤ f.qa9.length→f.qa9.length - k < m→qay n f m (k:Int) = some true
  | 0,k,_,h=>by omega
  | m + 1,k,hk,hm=>by
    have h6:=hv.six
    have h1:=hv.one
    unfold qay
    split
    · rename_i hlt
      have hlt':k < f.qa9.length:=by omega
      obtain ⟨x,hx,hb,hc,hp⟩:=qre hv hlt'
      rw [qbp hx]
      simp only [Option.bind_some]
      unfold qie
      rw [qog n x.Kind 0 2 (by have:=hb.kind;omega)]
      simp only [Option.bind_some,if_true]
      rw [qog n x.qan 0 1000000 (by have:=hb.cust;omega)]
      simp only [Option.bind_some]
      have ih:=qtq n m (k + 1) (by omega) (by omega)
      have e:((k + 1:Nat):Int) = (k:Int) + 1:=by omega
      rw [e] at ih
      unfold qdm
      rw [if_neg (by simp)]
      have j3:qdl n (qay n f m) k = some true:=by
        unfold qdl
        rw [qcu (by omega) (by omega)];exact ih
      split
      · rename_i h0
        have hk0:k = 0:=by omega
        obtain ⟨r1,r2,r3⟩:=hb.root hk0
        rw [if_pos r1,r2,r3]
        simp only [zero_eq,Bool.and_self,if_true]
        unfold qc9
        rw [if_neg (by simp),if_neg (by omega)]
        unfold qcw
        rw [if_neg (by simp)]
        exact j3
      · rename_i h0
        have hk0:0 < k:=by omega
        obtain ⟨p1,p2⟩:=hp hk0
        unfold qc9
        rw [if_neg (by simp),if_pos (by omega),qcu (by omega) (by omega),qog n x.qar 0 ((k:Int) - 1) (by omega)]
        simp only [Option.bind_some]
        unfold qcw
        rw [if_neg (by simp)]
        exact j3
    · rename_i hge
      unfold qe6
      rw [qog n (f.qa9.length:Int) 1 16 (by omega)]
      rfl
theorem qis:qcs 100 f = some true:=by
  have h6:=hv.six
  exact qtq hv 100 100 0 (Nat.zero_le _) (by omega)
theorem qme {b:Nat} (hb:b < f.qa9.length):qcj 100 f (b:Int) = some true:=by
  have h6:=hv.six
  unfold qcj
  rw [qis hv]
  simp only [Option.bind_some,if_true]
  rw [qcu (by omega) (by omega),qog 100 (b:Int) 0 ((f.qa9.length:Int) - 1) (by omega)]
  rfl
def qot (l:List SBus) (b:Nat):List Nat:=(upl l b).reverse
theorem qur:∀ (m i:Nat) (acc:List Int),i < f.qa9.length→i + 2 ≤ m→acc.length + i ≤ 50→qc8 100 f m (i:Int) acc = qdj 100 (acc ++ toI (upl f.qa9 i))
  | 0,i,acc,_,h,_=>by omega
  | m + 1,i,acc,hi,hm,ha=>by
    obtain ⟨x,hx,hb,hc,hp⟩:=qre hv hi
    unfold qc8
    rw [if_pos (by omega)]
    unfold grd
    rw [if_pos (show room (acc.length + 1) 8 by unfold room;omega),qbp hx]
    simp only [Option.bind_some]
    rcases Nat.eq_zero_or_pos i with rfl | h0
    · rw [(hb.root rfl).1,qr5]
      obtain ⟨m',rfl⟩:∃ m',m = m' + 1:=⟨m - 1,by omega⟩
      unfold qc8
      rw [if_neg (by decide)]
      rfl
    · obtain ⟨p1,p2⟩:=hp h0
      rw [p1,qur m (par f.qa9 i) (acc ++ [(i:Int)]) (by omega) (by omega) (by simp;omega),qr4 hv hi h0]
      simp
theorem qrw {b:Nat} (hb:b < f.qa9.length):qei 100 f (b:Int) = some (toI (qot f.qa9 b)):=by
  have h6:=hv.six
  have hl:=quy hv b hb
  unfold qei
  rw [qur hv 100 b [] hb (by omega) (by simp;omega)]
  unfold qdj
  have e:([]:List Int) ++ toI (upl f.qa9 b) = toI (upl f.qa9 b):=rfl
  rw [e,reverse_some _ (by simp;omega)]
  simp only [Option.bind_some]
  unfold grd
  rw [if_pos (by simp)]
  simp [qot,toI]
theorem pathTo_some {b:Nat} (hb:b < f.qa9.length):qhb 100 f (b:Int) = some (toI (qot f.qa9 b),true):=by
  unfold qhb
  rw [qme hv hb]
  simp only [Option.bind_some,if_true]
  rw [qrw hv hb]
  rfl
/-! ### What is below is counted once -/
end
end Go.Proofs.Ytdnkjocenbepaaa.AWN

namespace Go.Proofs.Ytdnkjocenbepaaa.AWN
open Go
section
variable {f:qam} (hv:VF f.qa9)
include hv
end
end Go.Proofs.Ytdnkjocenbepaaa.AWN

namespace Go.Proofs.Ytdnkjocenbepaaa.AWN
open Go Ieee
def fwB (k:FloatKind) (w:Nat):Bool:=decide (w < 2 * k.format.signWeight) && (match k.format.read w with | .number ..=>true | _=>false)
theorem qud {k:FloatKind} {w:Nat} (h:fwB k w = true):FW k w:=by
  unfold fwB at h
  rw [Bool.and_eq_true] at h
  obtain ⟨h1,h2⟩:=h
  refine ⟨of_decide_eq_true h1,?_⟩
  revert h2
  generalize hd:k.format.read w = d
  cases d with
  | number s m p=>intro _;exact ⟨s,m,p,hd⟩
  | _=>intro h;cases h
def bdB (k:FloatKind) (w:Nat) (a b:Rat):Bool:=fwB k w && decide (a ≤ qv k w) && decide (qv k w ≤ b)
theorem qsz {k:FloatKind} {w:Nat} {a b:Rat} (h:bdB k w a b = true):Bd k w a b:=by
  unfold bdB at h
  simp only [Bool.and_eq_true] at h
  exact ⟨qud h.1.1,of_decide_eq_true h.1.2,of_decide_eq_true h.2⟩
theorem qnd:Bd .f32 0 0 0:=qsz (by kernel_rfl)
structure ImpOk (x:SBus):Prop where
  o1:Bd .f32 x.Own.re 0 (1/4)
  o2:Bd .f32 x.Own.im 0 (1/4)
  s1:Bd .f32 x.Shared.re 0 0
  s2:Bd .f32 x.Shared.im 0 (1/8)
  lo:x.qar = -1 ∨ 1/16 ≤ qv .f32 x.Own.re
end Go.Proofs.Ytdnkjocenbepaaa.AWN

namespace Go.Proofs.Ytdnkjocenbepaaa.AWN
open Go Ieee
theorem qss:ulp .f32 = 1 / 16777216:=rfl
theorem qva:ulp .f64 = 1 / 9007199254740992:=rfl
theorem ql5:tiny = 1 / 1000000000000000000000000000000:=rfl
theorem qim:huge = 1000000000000000000000000000000:=rfl
def Ab (x B:Rat):Prop:=x ≤ B∧-x ≤ B
theorem Ab.mul {x y B C:Rat} (h1:Ab x B) (h2:Ab y C):Ab (x * y) (B * C):=by
  obtain ⟨a,b⟩:=h1;obtain ⟨c,d⟩:=h2
  have:=qjx (x:=x) (y:=y) (B:=B) (C:=C) (by grind) a (by grind) c
  exact this
theorem Ab.nonneg {x B:Rat} (h:Ab x B):0 ≤ B:=by obtain ⟨a,b⟩:=h;grind
theorem Ab.div {z N w d:Rat} (h:Ab (z * N) (w * d)) (hd:0 < d) (hN:d ≤ N):Ab z w:=by
  obtain ⟨a,b⟩:=h
  have hw:0 ≤ w * d:=by grind
  have hw0:0 ≤ w:=by
    apply Rat.le_of_mul_le_mul_right (c:=d) _ hd
    grind
  have hwN:w * d ≤ w * N:=Rat.mul_le_mul_of_nonneg_left hN hw0
  have hN0:0 < N:=by grind
  exact ⟨Rat.le_of_mul_le_mul_right (c:=N) (by grind) hN0,Rat.le_of_mul_le_mul_right (c:=N) (by grind) hN0⟩
structure CB (x:Cx) (B:Rat):Prop where
  r:FW .f32 x.re
  i:FW .f32 x.im
  rb:Ab (qv .f32 x.re) B
  ib:Ab (qv .f32 x.im) B
theorem ql6 (n:Nat) {x:Cx} {B:Rat} (h:CB x B):∃ a b,qe3 n x = some (a,b)∧FW .f64 a∧FW .f64 b∧qv .f64 a = qv .f32 x.re∧qv .f64 b = qv .f32 x.im:=by
  obtain ⟨a,e1,w1,h1⟩:=qrx h.r
  obtain ⟨b,e2,w2,h2⟩:=qrx h.i
  refine ⟨a,b,?_,w1,w2,h1,h2⟩
  unfold qe3
  rw [e1,Option.bind_some,e2,Option.bind_some]
theorem qqw {a b c d:Nat} (ha:FW .f64 a) (hb:FW .f64 b) (hc:FW .f64 c) (hd:FW .f64 d) {P:Rat} (h1:Ab (qv .f64 a * qv .f64 b) P) (h2:Ab (qv .f64 c * qv .f64 d) P) (hP:P ≤ 1000000000000) :
    (FW .f64 (qa8 .sub .f64 (qa8 .mul .f64 a b) (qa8 .mul .f64 c d))∧Ab (qv .f64 (qa8 .sub .f64 (qa8 .mul .f64 a b) (qa8 .mul .f64 c d)) - (qv .f64 a * qv .f64 b - qv .f64 c * qv .f64 d)) (P / 1000000000000000 + 4 * tiny)) ∧
    (FW .f64 (qa8 .add .f64 (qa8 .mul .f64 a b) (qa8 .mul .f64 c d))∧Ab (qv .f64 (qa8 .add .f64 (qa8 .mul .f64 a b) (qa8 .mul .f64 c d)) - (qv .f64 a * qv .f64 b + qv .f64 c * qv .f64 d)) (P / 1000000000000000 + 4 * tiny)):=by
  have hP0:=h1.nonneg
  obtain ⟨u1,u2⟩:=h1
  obtain ⟨v1,v2⟩:=h2
  obtain ⟨w1,e1,e2⟩:=qpg ha hb (M:=P) (by rw [qim];grind) u1 u2
  obtain ⟨w2,e3,e4⟩:=qpg hc hd (M:=P) (by rw [qim];grind) v1 v2
  rw [qva,ql5] at e1 e2 e3 e4
  obtain ⟨w3,e5,e6⟩:=qsk w1 w2 (M:=3 * P + 1 / 10000000000000000000000000) (by rw [qim];grind) (by grind) (by grind)
  obtain ⟨w4,e7,e8⟩:=qw3 w1 w2 (M:=3 * P + 1 / 10000000000000000000000000) (by rw [qim];grind) (by grind) (by grind)
  rw [qva,ql5] at e5 e6 e7 e8
  rw [ql5]
  exact ⟨⟨w3,by grind,by grind⟩,⟨w4,by grind,by grind⟩⟩
end Go.Proofs.Ytdnkjocenbepaaa.AWN

namespace Go.Proofs.Ytdnkjocenbepaaa.AWN
open Go Ieee
theorem Ab.mono {x B C:Rat} (h:Ab x B) (hBC:B ≤ C):Ab x C:=⟨Rat.le_trans h.1 hBC,Rat.le_trans h.2 hBC⟩
theorem Ab.qwc {x B:Rat} (hB:0 ≤ B) (h:x * x ≤ B * B):Ab x B:=⟨qj5 hB h,qj5 hB (by grind)⟩
theorem true_quot {xr xi yr yi T m:Rat} (hm:0 < m) (hN:m ≤ yr * yr + yi * yi) (hT:0 ≤ T) (hx:xr * xr + xi * xi ≤ T * T * (yr * yr + yi * yi)) :
    ∃ tr ti:Rat,tr * yr - ti * yi = xr∧tr * yi + ti * yr = xi∧tr * (yr * yr + yi * yi) = xr * yr + xi * yi∧ti * (yr * yr + yi * yi) = xi * yr - xr * yi∧Ab tr T∧Ab ti T:=by
  have hN0:0 < yr * yr + yi * yi:=by grind
  obtain ⟨N,hNe⟩:∃ N,N = yr * yr + yi * yi:=⟨_,rfl⟩
  have hd:∀ z:Rat,z / N * N = z:=by
    intro z
    rw [Rat.div_def,Rat.mul_assoc,Rat.inv_mul_cancel _ (by grind)];grind
  have h1:=hd (xr * yr + xi * yi)
  have h2:=hd (xi * yr - xr * yi)
  rw [← hNe] at hN0 hx hN ⊢
  generalize (xr * yr + xi * yi) / N = tr at h1
  generalize (xi * yr - xr * yi) / N = ti at h2
  have e1:tr * yr - ti * yi = xr:=qir (c:=N) hN0 (by grind)
  have e2:tr * yi + ti * yr = xi:=qir (c:=N) hN0 (by grind)
  have e3:tr * tr + ti * ti ≤ T * T:=by
    apply Rat.le_of_mul_le_mul_right (c:=N) _ hN0
    have:(tr * tr + ti * ti) * N = xr * xr + xi * xi:=by rw [← e1,← e2,hNe];grind
    rw [this];exact hx
  have q1:0 ≤ tr * tr:=by
    rcases (Rat.le_total:tr ≤ 0 ∨ 0 ≤ tr) with h | h
    · have:=Rat.mul_nonneg (show 0 ≤ -tr by grind) (show 0 ≤ -tr by grind);grind
    · exact Rat.mul_nonneg h h
  have q2:0 ≤ ti * ti:=by
    rcases (Rat.le_total:ti ≤ 0 ∨ 0 ≤ ti) with h | h
    · have:=Rat.mul_nonneg (show 0 ≤ -ti by grind) (show 0 ≤ -ti by grind);grind
    · exact Rat.mul_nonneg h h
  exact ⟨tr,ti,e1,e2,h1,h2,Ab.qwc hT (by grind),Ab.qwc hT (by grind)⟩
/-! ### Finite numbers -/
/-! ### Lengths -/
theorem qrn (f:Format) {Z p:Int} (h:0 ≤ Z):0 ≤ kz f Z p:=by
  unfold kz
  split <;> omega
theorem qov {k:FloatKind} {x:Nat} (h:FW k x) (hk:0 ≤ key k.format x):0 ≤ qv k x:=by
  have:=(qjt (qms k).1 h).2
  rw [(qms k).2] at this
  apply this.1
  have:key k.format 0 = 0:=by cases k <;> rfl
  rw [this];exact hk
theorem ql4 {k:FloatKind} {x:Nat} (hx:FW k x) (hw:FW k (qa8 .mul k x x)):0 ≤ qv k (qa8 .mul k x x):=by
  apply qov hw
  rw [(qkv hx hx).2]
  apply qrn
  rcases Int.le_total 0 (vz k.format x) with h | h
  · exact Int.mul_nonneg h h
  · exact Int.mul_nonneg_of_nonpos_of_nonpos h h
theorem qs7 {k:FloatKind} {x:Nat} (h:0 ≤ qv k x):0 ≤ vz k.format x:=by
  unfold qv at h
  have hp:=qhv k.format.leastPlace
  rcases Int.le_total 0 (vz k.format x) with h1 | h1
  · exact h1
  · have h2:(vz k.format x:Rat) ≤ 0:=by exact_mod_cast h1
    rcases Int.lt_or_eq_of_le h1 with h3 | h3
    · exfalso
      have h4:(vz k.format x:Rat) < 0:=by exact_mod_cast h3
      have:=Rat.mul_pos (show 0 < -(vz k.format x:Rat) by grind) hp
      grind
    · omega
theorem qne {k:FloatKind} {x y:Nat} (hx:FW k x) (hy:FW k y) (h1:0 ≤ qv k x) (h2:0 ≤ qv k y) (hw:FW k (qa8 .add k x y)):0 ≤ qv k (qa8 .add k x y):=by
  apply qov hw
  rw [(qmc hx hy).2]
  apply qrn
  have:=qs7 h1;have:=qs7 h2;omega
theorem qn3 (n:Nat) {x:Cx} {B:Rat} (hx:CB x B) (h1:B ≤ 1000000):∃ r,qau n x = some r∧FW .f32 r∧Ab (qv .f32 r) (B * (3 / 2) + 1 / 1000000000000):=by
  obtain ⟨a,b,f1,wa,wb,ha,hb⟩:=ql6 n hx
  have hB0:=hx.rb.nonneg
  have p1:=hx.rb.mul hx.rb
  have p2:=hx.ib.mul hx.ib
  have hBB:=Rat.mul_nonneg hB0 (show 0 ≤ 1000000 - B by grind)
  obtain ⟨_,s,t⟩:=qqw wa wa wb wb (P:=B * B) (by rw [ha];exact p1) (by rw [hb];exact p2) (by grind)
  rw [ha,hb] at t
  obtain ⟨v1,u1⟩:=qpg wa wa (M:=B * B) (by rw [qim];grind) (by rw [ha];exact p1.1) (by rw [ha];exact p1.2)
  obtain ⟨v2,u2⟩:=qpg wb wb (M:=B * B) (by rw [qim];grind) (by rw [hb];exact p2.1) (by rw [hb];exact p2.2)
  have nn:=qne v1 v2 (ql4 wa v1) (ql4 wb v2) s
  obtain ⟨w,g1,g2⟩:=qs5 s nn (B:=B * (1.45) + 1 / 10000000000000) (by grind) (by rw [qim];grind) (by
    have:=t.1;have:=p1.1;have:=p2.1;rw [ql5] at *
    have h3:(B * (1.45) + 1 / 10000000000000) * (B * (1.45) + 1 / 10000000000000) = B * B * (1.45 * 1.45) + B * (2 * 1.45 / 10000000000000) + 1 / 100000000000000000000000000:=by grind
    rw [h3]
    grind)
  rw [qva,ql5] at g1 g2
  obtain ⟨r,e1,w1,i1,i2⟩:=qmj w (M:=B * (1.46) + 1 / 1000000000000) (by rw [qim];grind) (by grind) (by grind)
  rw [qss,ql5] at i1 i2
  refine ⟨r,?_,w1,by grind,by grind⟩
  unfold qau qe8 qgh
  simp only [f1,Option.bind_some,e1]
end Go.Proofs.Ytdnkjocenbepaaa.AWN

namespace Go.Proofs.Ytdnkjocenbepaaa.AWN
open Go Ieee
set_option linter.unusedSectionVars false
section
variable {f:qam} (hv:VF f.qa9) (hi:∀ y ∈ f.qa9,ImpOk y)
include hv hi
end
def addC (x y:Cx):Cx:=Cx.mk (qa8 .add .f32 x.re y.re) (qa8 .add .f32 x.im y.im)
def subC (x y:Cx):Cx:=Cx.mk (qa8 .sub .f32 x.re y.re) (qa8 .sub .f32 x.im y.im)
/-! ### The three phases -/
def S3:Rat:=14529495 / 16777216
theorem Bd.eq {k:FloatKind} {x:Nat} {a:Rat} (h:Bd k x a a):qv k x = a:=Rat.le_antisymm h.hi h.lo
end Go.Proofs.Ytdnkjocenbepaaa.AWN

namespace Go.Proofs.Ytdnkjocenbepaaa.AWN
open Go Ieee
def cv (x:Cx):Cq:=⟨qv .f32 x.re,qv .f32 x.im⟩
structure FC (x:Cx):Prop where
  r:FW .f32 x.re
  i:FW .f32 x.im
theorem FC.cb {x:Cx} {B:Rat} (h:FC x) (hB:Mo (cv x) B):CB x B:=⟨h.r,h.i,hB.re,hB.im⟩
theorem addM {x y:Cx} {B C E:Rat} (fx:FC x) (fy:FC y) (hx:Mo (cv x) B) (hy:Mo (cv y) C) (hM:B + C ≤ 1000000000) (hE:(B + C) / 10000000 + 1 / 100000000000000000000 ≤ E) :
    FC (addC x y)∧Mo (cv (addC x y) - (cv x + cv y)) E:=by
  have hs:=hx.add hy
  have h0:=hs.pos
  obtain ⟨w1,r1,r2⟩:=qw3 fx.r fy.r (M:=B + C) (by rw [qim];grind) hs.re.1 hs.re.2
  obtain ⟨w2,r3,r4⟩:=qw3 fx.i fy.i (M:=B + C) (by rw [qim];grind) hs.im.1 hs.im.2
  rw [qss,ql5] at r1 r2 r3 r4
  refine ⟨⟨w1,w2⟩,Mo.of (w:=(B + C) / 16777216 + 1 / 1000000000000000000000000000000) ?_ ?_ ?_ ?_ ?_⟩ <;> (try simp only [cv,addC,qku,qkt,qj7,qj6]) <;> grind
theorem subM {x y:Cx} {B C E:Rat} (fx:FC x) (fy:FC y) (hx:Mo (cv x) B) (hy:Mo (cv y) C) (hM:B + C ≤ 1000000000) (hE:(B + C) / 10000000 + 1 / 100000000000000000000 ≤ E) :
    FC (subC x y)∧Mo (cv (subC x y) - (cv x - cv y)) E:=by
  have hs:=hx.sub hy
  have h0:=hs.pos
  obtain ⟨w1,r1,r2⟩:=qsk fx.r fy.r (M:=B + C) (by rw [qim];grind) hs.re.1 hs.re.2
  obtain ⟨w2,r3,r4⟩:=qsk fx.i fy.i (M:=B + C) (by rw [qim];grind) hs.im.1 hs.im.2
  rw [qss,ql5] at r1 r2 r3 r4
  refine ⟨⟨w1,w2⟩,Mo.of (w:=(B + C) / 16777216 + 1 / 1000000000000000000000000000000) ?_ ?_ ?_ ?_ ?_⟩ <;> (try simp only [cv,subC,qku,qkt,qj7,qj6]) <;> grind
theorem mulM (n:Nat) {x y:Cx} {B C D E:Rat} (fx:FC x) (fy:FC y) (hx:Mo (cv x) B) (hy:Mo (cv y) C) (hD:B * C ≤ D) (h1:D ≤ 1000000000) (hE:D / 10000000 + 1 / 10000000000000000000 ≤ E) :
    ∃ r,qck n x y = some r∧FC r∧Mo (cv r - cv x * cv y) E:=by
  have cx:=fx.cb hx
  have cy:=fy.cb hy
  obtain ⟨a,b,e1,wa,wb,ha,hb⟩:=ql6 n cx
  obtain ⟨c,d,e2,wc,wd,hc,hd⟩:=ql6 n cy
  have up:∀ {z:Rat},Ab z (B * C)→Ab z D:=fun h=>⟨Rat.le_trans h.1 hD,Rat.le_trans h.2 hD⟩
  obtain ⟨⟨s1,t1⟩,_⟩:=qqw wa wc wb wd (P:=D) (by rw [ha,hc];exact up (cx.rb.mul cy.rb)) (by rw [hb,hd];exact up (cx.ib.mul cy.ib)) (by grind)
  obtain ⟨_,s2,t2⟩:=qqw wa wd wb wc (P:=D) (by rw [ha,hd];exact up (cx.rb.mul cy.ib)) (by rw [hb,hc];exact up (cx.ib.mul cy.rb)) (by grind)
  rw [ha,hb,hc,hd] at t1 t2
  have hp:=(hx.mul hy).mono hD
  have p1:=hp.re;have p2:=hp.im
  unfold cv at p1 p2
  simp only [qku,qkt,qj7,qj6,qpd,qpc,qm1,qm9] at p1 p2
  have hD0:=hp.pos
  obtain ⟨f1,f2⟩:=t1;obtain ⟨g1,g2⟩:=t2
  obtain ⟨a1,a2⟩:=p1;obtain ⟨b1,b2⟩:=p2
  rw [ql5] at f1 f2 g1 g2
  obtain ⟨r1,e3,w3,i1,i2⟩:=qmj s1 (M:=D + D / 1000000 + 1 / 10000000000000000000000000) (by rw [qim];grind) (by grind) (by grind)
  obtain ⟨r2,e4,w4,j1,j2⟩:=qmj s2 (M:=D + D / 1000000 + 1 / 10000000000000000000000000) (by rw [qim];grind) (by grind) (by grind)
  rw [qss,ql5] at i1 i2 j1 j2
  refine ⟨⟨r1,r2⟩,?_,⟨w3,w4⟩,Mo.of (w:=D / 15000000 + 1 / 100000000000000000000) ?_ ?_ ?_ ?_ ?_⟩
  · unfold qck
    simp only [e1,e2,e3,e4,Option.bind_some]
  all_goals (try simp only [cv,qm1,qm9,qj7,qj6]) <;> grind
theorem qq7 {a p:Nat} (wa:FW .f64 a) (wp:FW .f64 p) {A N t T m eA eN e:Rat} (ht:t * N = A) (hT:Ab t T) (hm:0 < m) (hN:m ≤ N) (hA:Ab (qv .f64 a - A) eA) (hP:Ab (qv .f64 p - N) eN) (hs:eN ≤ m / 2) (hE:eA + T * eN ≤ e * (m / 2)) (he:e ≤ 1000000) (hT2:T ≤ 1000000) :
    ∃ r,qgo .f64 .f32 (qa8 .quo .f64 a p) = some r∧FW .f32 r∧Ab (qv .f32 r - t) (e + (T + e) / 15000000 + 1 / 10000000000000000000):=by
  have hp:m / 2 ≤ qv .f64 p:=by have:=hP.2;grind
  have hp0:0 < qv .f64 p:=by grind
  have hq:qv .f64 a / qv .f64 p * qv .f64 p = qv .f64 a:=by
    rw [Rat.div_def,Rat.mul_assoc,Rat.inv_mul_cancel _ (by grind)];grind
  generalize qv .f64 a / qv .f64 p = q at hq
  have hd:Ab ((q - t) * qv .f64 p) (e * (m / 2)):=by
    have h1:=hT.mul hP
    have h2:(q - t) * qv .f64 p = (qv .f64 a - A) - t * (qv .f64 p - N):=by rw [← ht,← hq];grind
    rw [h2]
    exact ⟨by have:=hA.1;have:=h1.2;grind,by have:=hA.2;have:=h1.1;grind⟩
  have hqt:=hd.div (by grind) hp
  have hT0:=hT.nonneg
  have he0:=hqt.nonneg
  obtain ⟨t1,t2⟩:=hT
  obtain ⟨d1,d2⟩:=hqt
  obtain ⟨w,r1,r2⟩:=q_quo wa wp (q:=q) (M:=T + e) (by rw [qim];grind) (by grind) hq (by grind) (by grind)
  rw [qva,ql5] at r1 r2
  obtain ⟨r,e1,w1,i1,i2⟩:=qmj w (M:=(T + e) * (1 + 1 / 1000000) + 1 / 10000000000000000000000000) (by rw [qim];grind) (by grind) (by grind)
  rw [qss,ql5] at i1 i2
  exact ⟨r,e1,w1,by grind,by grind⟩
theorem qwf (n:Nat) {x y:Cx} {B C T m P E:Rat} (fx:FC x) (fy:FC y) (hx:Mo (cv x) B) (hy:Mo (cv y) C) (hm:0 < m) (hN:m ≤ n2 (cv y)) (hT:0 ≤ T)
    (hxy:n2 (cv x) ≤ T * T * n2 (cv y)) (hP1:B * C ≤ P) (hP2:C * C ≤ P) (hP:P ≤ 1000000000) (hs:P / 1000000000000000 + 4 * tiny ≤ m / 2) (hE:(1 + T) * (P / 1000000000000000 + 4 * tiny) ≤ 1 / 10000000 * (m / 2)) (hT2:T ≤ 1000000) (hE2:T / 10000000 + 2 / 10000000 ≤ E) :
    ∃ (r:Cx) (t:Cq),qd2 n x y = some r∧FC r∧t * cv y = cv x∧Mo t T∧Mo (cv r - t) E:=by
  have cx:=fx.cb hx
  have cy:=fy.cb hy
  obtain ⟨tr,ti,e1,e2,e3,e4,b1,b2⟩:=true_quot hm hN hT hxy
  obtain ⟨a,b,f1,wa,wb,ha,hb⟩:=ql6 n cx
  obtain ⟨cw,cneg⟩:=qv8 fy.i
  have nib:Ab (-qv .f32 y.im) C:=⟨cy.ib.2,by have:=cy.ib.1;grind⟩
  have hcy:CB (Cx.mk y.re (fneg .f32 y.im)) C:=⟨fy.r,cw,cy.rb,by dsimp only;rw [cneg];exact nib⟩
  obtain ⟨c,d,f2,wc,wd,hc,hd⟩:=ql6 n hcy
  obtain ⟨c',d',f3,wc',wd',hc',hd'⟩:=ql6 n cy
  dsimp only at hc hd
  rw [cneg] at hd
  have up1:∀ {z:Rat},Ab z (B * C)→Ab z P:=fun h=>h.mono hP1
  have up2:∀ {z:Rat},Ab z (C * C)→Ab z P:=fun h=>h.mono hP2
  obtain ⟨⟨s1,t1⟩,_⟩:=qqw wa wc wb wd (P:=P) (by rw [ha,hc];exact up1 (cx.rb.mul cy.rb)) (by rw [hb,hd];exact up1 (cx.ib.mul nib)) (by grind)
  obtain ⟨_,s2,t2⟩:=qqw wa wd wb wc (P:=P) (by rw [ha,hd];exact up1 (cx.rb.mul nib)) (by rw [hb,hc];exact up1 (cx.ib.mul cy.rb)) (by grind)
  obtain ⟨_,s3,t3⟩:=qqw wc' wc' wd' wd' (P:=P) (by rw [hc'];exact up2 (cy.rb.mul cy.rb)) (by rw [hd'];exact up2 (cy.ib.mul cy.ib)) (by grind)
  rw [ha,hb,hc,hd] at t1 t2
  rw [hc',hd'] at t3
  have t1:Ab (qv .f64 (qa8 .sub .f64 (qa8 .mul .f64 a c) (qa8 .mul .f64 b d)) - (qv .f32 x.re * qv .f32 y.re + qv .f32 x.im * qv .f32 y.im)) (P / 1000000000000000 + 4 * tiny):=⟨by have:=t1.1;grind,by have:=t1.2;grind⟩
  have t2:Ab (qv .f64 (qa8 .add .f64 (qa8 .mul .f64 a d) (qa8 .mul .f64 b c)) - (qv .f32 x.im * qv .f32 y.re - qv .f32 x.re * qv .f32 y.im)) (P / 1000000000000000 + 4 * tiny):=⟨by have:=t2.1;grind,by have:=t2.2;grind⟩
  have hN':m ≤ qv .f32 y.re * qv .f32 y.re + qv .f32 y.im * qv .f32 y.im:=hN
  obtain ⟨r1,g1,w1,i1⟩:=qq7 (e:=1 / 10000000) s1 s3 e3 b1 hm hN' t1 t3 hs (by grind) (by grind) hT2
  obtain ⟨r2,g2,w2,i2⟩:=qq7 (e:=1 / 10000000) s2 s3 e4 b2 hm hN' t2 t3 hs (by grind) (by grind) hT2
  refine ⟨⟨r1,r2⟩,⟨tr,ti⟩,?_,⟨w1,w2⟩,?_,⟨hT,?_⟩,?_⟩
  · unfold qd2 qd7 qe8
    simp only [f1,f2,f3,Option.bind_some,g1,g2]
  · exact qk3 (by simp only [qku,qkt,qj7,qj6,qpd,qpc,qm1,qm9];exact e1) (by simp only [qku,qkt,qj7,qj6,qpd,qpc,qm1,qm9];exact e2)
  · apply Rat.le_of_mul_le_mul_right (c:=n2 (cv y)) _ (by grind)
    have:n2 (⟨tr,ti⟩:Cq) * n2 (cv y) = n2 (cv x):=by
      rw [← qul];congr 1
      exact qk3 (by simp only [qku,qkt,qj7,qj6,qpd,qpc,qm1,qm9];exact e1) (by simp only [qku,qkt,qj7,qj6,qpd,qpc,qm1,qm9];exact e2)
    rw [this];exact hxy
  · obtain ⟨u1,u2⟩:=i1;obtain ⟨u3,u4⟩:=i2
    refine Mo.of (w:=1 / 10000000 + (T + 1 / 10000000) / 15000000 + 1 / 10000000000000000000) ?_ ?_ ?_ ?_ ?_
    all_goals (try simp only [cv,qm1,qm9,qj7,qj6]) <;> grind
/-! ### The three phases -/
def a1:Cq:=⟨-(1/2),S3⟩
def a2:Cq:=⟨-(1/2),-S3⟩
theorem qlg {x a:Cq} {B e:Rat} (h:Mo (x - a) e) (ha:Mo a B):Mo x (B + e):=by
  have:=ha.add h
  have e1:a + (x - a) = x:=qk3 (by simp only [qku,qkt,qj7,qj6,qpd,qpc,qm1,qm9];grind) (by simp only [qku,qkt,qj7,qj6,qpd,qpc,qm1,qm9];grind)
  rw [e1] at this;exact this
end Go.Proofs.Ytdnkjocenbepaaa.AWN

namespace Go.Proofs.Ytdnkjocenbepaaa.AWN
open Go Ieee
theorem fc0:FC ⟨0,0⟩:=⟨qnd.wk,qnd.wk⟩
theorem cv0:cv ⟨0,0⟩ = ⟨0,0⟩:=qk3 qnd.eq qnd.eq
theorem mo0:Mo (⟨0,0⟩:Cq) 0:=⟨by decide,by decide +kernel⟩
theorem mo00:Mo (cv ⟨0,0⟩) 0:=by rw [cv0];exact mo0
def perW (v:Int) (d:Nat):Nat:=qa8 .quo .f32 (FloatKind.nearest .f32 v) d
theorem qth {v:Int} (h0:0 ≤ v) (h1:v ≤ 4):Bd .f32 (perW v 1115684864) (v / 64) (v / 64):=by
  have:v = 0 ∨ v = 1 ∨ v = 2 ∨ v = 3 ∨ v = 4:=by omega
  apply qsz
  rcases this with rfl | rfl | rfl | rfl | rfl <;> kernel_rfl
theorem qqv {v:Int} (h0:0 ≤ v) (h1:v ≤ 8):Bd .f32 (perW v 1082130432) (v / 4) (v / 4):=by
  have:v = 0 ∨ v = 1 ∨ v = 2 ∨ v = 3 ∨ v = 4 ∨ v = 5 ∨ v = 6 ∨ v = 7 ∨ v = 8:=by omega
  apply qsz
  rcases this with rfl | rfl | rfl | rfl | rfl | rfl | rfl | rfl | rfl <;> kernel_rfl
structure CM (x:Cx) (B:Rat):Prop where
  f:FC x
  m:Mo (cv x) B
theorem CM.mono {x:Cx} {B C:Rat} (h:CM x B) (hb:B ≤ C):CM x C:=⟨h.f,h.m.mono hb⟩
theorem cm0:CM ⟨0,0⟩ 0:=⟨fc0,mo00⟩
theorem qv2 {a b:Nat} {x y B:Rat} (ha:Bd .f32 a x x) (hb:Bd .f32 b y y) (h0:0 ≤ x) (h1:0 ≤ y) (hB:0 ≤ B) (h:x * x + y * y ≤ B * B):CM ⟨a,b⟩ B:=by
  refine ⟨⟨ha.wk,hb.wk⟩,Mo.of2 (a:=x) (b:=y) ?_ ?_ ?_ ?_ hB h⟩
  · exact ha.hi
  · have:=ha.lo;unfold cv;dsimp only;grind
  · exact hb.hi
  · have:=hb.lo;unfold cv;dsimp only;grind
structure Mild (x:SBus):Prop where
  own:CM x.Own (782 / 10000)
  sh:x.Shared = ⟨0,0⟩
  a:CM x.Load.A (207 / 100)
  b:CM x.Load.B (207 / 100)
  c:CM x.Load.C (207 / 100)
  kind:x.Kind = 0 ∨ x.Kind = 1
def qvy (k:Int):Cx:=Cx.mk (FloatKind.nearest .f32 (w64 ((16:Int) + k))) (0:Nat)
structure SrcM (p:qa7):Prop where
  a:CM p.A (311 / 10)
  b:CM p.B (311 / 10)
  c:CM p.C (311 / 10)
  la:1599 / 100 * (1599 / 100) ≤ n2 (cv p.A)
  lb:1599 / 100 * (1599 / 100) ≤ n2 (cv p.B)
  lc:1599 / 100 * (1599 / 100) ≤ n2 (cv p.C)
def cmB (x:Cx):Bool:=fwB .f32 x.re && fwB .f32 x.im && decide (n2 (cv x) ≤ 311 / 10 * (311 / 10)) && decide (1599 / 100 * (1599 / 100) ≤ n2 (cv x))
theorem qu6 {x:Cx} (h:cmB x = true):CM x (311 / 10)∧1599 / 100 * (1599 / 100) ≤ n2 (cv x):=by
  unfold cmB at h
  simp only [Bool.and_eq_true] at h
  exact ⟨⟨⟨qud h.1.1.1,qud h.1.1.2⟩,by grind,of_decide_eq_true h.1.2⟩,of_decide_eq_true h.2⟩
def evB (k:Int):Bool:=match qev 100 (qvy k) with | some p=>cmB p.A && cmB p.B && cmB p.C | none=>false
theorem evB_0:evB 0 = true:=by kernel_rfl
theorem evB_1:evB 1 = true:=by kernel_rfl
theorem evB_2:evB 2 = true:=by kernel_rfl
theorem evB_3:evB 3 = true:=by kernel_rfl
theorem evB_4:evB 4 = true:=by kernel_rfl
theorem evB_5:evB 5 = true:=by kernel_rfl
theorem evB_6:evB 6 = true:=by kernel_rfl
theorem evB_7:evB 7 = true:=by kernel_rfl
theorem evB_8:evB 8 = true:=by kernel_rfl
theorem evB_9:evB 9 = true:=by kernel_rfl
theorem evB_10:evB 10 = true:=by kernel_rfl
theorem evB_11:evB 11 = true:=by kernel_rfl
theorem evB_12:evB 12 = true:=by kernel_rfl
theorem evB_13:evB 13 = true:=by kernel_rfl
theorem evB_14:evB 14 = true:=by kernel_rfl
theorem evB_15:evB 15 = true:=by kernel_rfl
theorem evY_some {k:Int} (h0:0 ≤ k) (h1:k < 16):∃ p,qev 100 (qvy k) = some p∧SrcM p:=by
  have h:evB k = true:=by
    have:k = 0 ∨ k = 1 ∨ k = 2 ∨ k = 3 ∨ k = 4 ∨ k = 5 ∨ k = 6 ∨ k = 7 ∨ k = 8 ∨ k = 9 ∨ k = 10 ∨ k = 11 ∨ k = 12 ∨ k = 13 ∨ k = 14 ∨ k = 15:=by omega
    rcases this with rfl | rfl | rfl | rfl | rfl | rfl | rfl | rfl | rfl | rfl | rfl | rfl | rfl | rfl | rfl | rfl
    · exact evB_0
    · exact evB_1
    · exact evB_2
    · exact evB_3
    · exact evB_4
    · exact evB_5
    · exact evB_6
    · exact evB_7
    · exact evB_8
    · exact evB_9
    · exact evB_10
    · exact evB_11
    · exact evB_12
    · exact evB_13
    · exact evB_14
    · exact evB_15
  unfold evB at h
  revert h
  generalize qev 100 (qvy k) = o
  cases o with
  | none=>intro h;cases h
  | some p =>
    intro h
    simp only [Bool.and_eq_true] at h
    obtain ⟨a1,a2⟩:=qu6 h.1.1
    obtain ⟨b1,b2⟩:=qu6 h.1.2
    obtain ⟨c1,c2⟩:=qu6 h.2
    exact ⟨p,rfl,a1,b1,c1,a2,b2,c2⟩
theorem quk (S:qa7):∀ (m:Nat) (s:qdy) (b:Int) (bl:List SBus) (c:Int),Src s b→b ≤ 1000 + 100 * bl.length→0 ≤ c→c ≤ 5→(bl.length:Int) + c ≤ 6→1 ≤ bl.length→c < m→(∀ i y,bl[i]? = some y→qnp i y)→(∀ y ∈ bl,Mild y)→(∀ y,bl[0]? = some y→y.Load = ⟨⟨0,0⟩,⟨0,0⟩,⟨0,0⟩⟩) →
    ∃ l,qdn 100 S m s.code s.at_ s.seed bl c = some (qam.mk S l)∧(l.length ≤ 6∧1 ≤ l.length)∧(∀ i y,l[i]? = some y→qnp i y)∧(∀ y ∈ l,Mild y)∧∀ y,l[0]? = some y→y.Load = ⟨⟨0,0⟩,⟨0,0⟩,⟨0,0⟩⟩
  | 0,s,b,bl,c,_,_,_,_,_,_,h,_,_,_=>by omega
  | m + 1,s,b,bl,c,hs,hb,hc0,hc5,hlen,hl1,hm,hok,hmi,hrt=>by
    unfold qdn
    by_cases hgt:c > 0
    · rw [if_pos hgt]
      obtain ⟨v1,s1,e1,a1,b1,h1⟩:=qjw 100 hs (by omega) (bl.length:Int) (by omega) (by omega)
      obtain ⟨v2,s2,e2,a2,b2,h2⟩:=qjw 100 h1 (by omega) 4 (by omega) (by omega)
      obtain ⟨v3,s3,e3,a3,b3,h3⟩:=qjw 100 h2 (by omega) 4 (by omega) (by omega)
      obtain ⟨v4,s4,e4,a4,b4,h4⟩:=qjw 100 h3 (by omega) 2 (by omega) (by omega)
      obtain ⟨v5,s5,e5,a5,b5,h5⟩:=qjw 100 h4 (by omega) 9 (by omega) (by omega)
      obtain ⟨v6,s6,e6,a6,b6,h6⟩:=qjw 100 h5 (by omega) 3 (by omega) (by omega)
      obtain ⟨v7,s7,e7,a7,b7,h7⟩:=qjw 100 h6 (by omega) 9 (by omega) (by omega)
      obtain ⟨v8,s8,e8,a8,b8,h8⟩:=qjw 100 h7 (by omega) 9 (by omega) (by omega)
      obtain ⟨v9,s9,e9,a9,b9,h9⟩:=qjw 100 h8 (by omega) 30 (by omega) (by omega)
      have e1':qb6 100 (qdy.mk s.code s.at_ s.seed) (bl.length:Int) = some (v1,s1):=e1
      rw [e1',Option.bind_some]
      dsimp only
      rw [e2,Option.bind_some]
      dsimp only
      rw [e3,Option.bind_some]
      dsimp only
      rw [e4,Option.bind_some]
      dsimp only
      rw [e5,Option.bind_some]
      dsimp only
      rw [e6,Option.bind_some]
      dsimp only
      rw [e7,Option.bind_some]
      dsimp only
      rw [e8,Option.bind_some]
      dsimp only
      rw [e9,Option.bind_some]
      dsimp only
      unfold grd
      rw [if_pos (show room (bl.length + 1) 64 by unfold room;omega),qcu (n:=1 + v2) (by omega) (by omega),qcu (n:=c - 1) (by omega) (by omega)]
      have q4:(v4:Int) = 0 ∨ v4 = 1:=by omega
      apply quk S m s9 (b + 18) _ (c - 1) (h9.mono (by omega)) (by simp;omega) (by omega) (by omega) (by simp;omega) (by simp) (by omega)
      · exact snoc_ok hok ⟨fun h=>by omega,fun _=>⟨a1,b1⟩,⟨a4,by dsimp only;omega⟩,⟨a9,b9⟩⟩
      · intro y hy
        rcases List.mem_append.1 hy with h | h
        · exact hmi y h
        · rw [List.mem_singleton.1 h]
          have r2:((1 + v2:Int):Rat) ≤ 4:=by exact_mod_cast (show 1 + v2 ≤ 4 by omega)
          have r2':(0:Rat) ≤ ((1 + v2:Int):Rat):=by exact_mod_cast (show 0 ≤ 1 + v2 by omega)
          have r3:(v3:Rat) ≤ 3:=by exact_mod_cast (show v3 ≤ 3 by omega)
          have r3':(0:Rat) ≤ (v3:Rat):=by exact_mod_cast a3
          have r5:(v5:Rat) ≤ 8:=by exact_mod_cast (show v5 ≤ 8 by omega)
          have r5':(0:Rat) ≤ (v5:Rat):=by exact_mod_cast a5
          have r6:(v6:Rat) ≤ 2:=by exact_mod_cast (show v6 ≤ 2 by omega)
          have r6':(0:Rat) ≤ (v6:Rat):=by exact_mod_cast a6
          have r7:(v7:Rat) ≤ 8:=by exact_mod_cast (show v7 ≤ 8 by omega)
          have r7':(0:Rat) ≤ (v7:Rat):=by exact_mod_cast a7
          have r8:(v8:Rat) ≤ 8:=by exact_mod_cast (show v8 ≤ 8 by omega)
          have r8':(0:Rat) ≤ (v8:Rat):=by exact_mod_cast a8
          have sq:∀ {x k:Rat},0 ≤ x→x ≤ k→x * x ≤ k * k:=fun h1 h2=>qkm h1 h2 h1 h2
          have p2:=sq r2' r2;have p3:=sq r3' r3;have p5:=sq r5' r5;have p6:=sq r6' r6;have p7:=sq r7' r7;have p8:=sq r8' r8
          refine ⟨?_,rfl,?_,?_,?_,q4⟩
          · exact qv2 (qth (v:=1 + v2) (by omega) (by omega)) (qth (v:=v3) (by omega) (by omega)) (by grind) (by grind) (by grind) (by grind)
          · exact qv2 (qqv (v:=v5) (by omega) (by omega)) (qqv (v:=v6) (by omega) (by omega)) (by grind) (by grind) (by grind) (by grind)
          · exact qv2 (qqv (v:=v7) (by omega) (by omega)) qnd (by grind) (by grind) (by grind) (by grind)
          · exact qv2 (qqv (v:=v8) (by omega) (by omega)) qnd (by grind) (by grind) (by grind) (by grind)
      · intro y hy
        rw [List.getElem?_append_left (by omega)] at hy
        exact hrt y hy
    · rw [if_neg hgt]
      exact ⟨bl,rfl,⟨by omega,hl1⟩,hok,hmi,hrt⟩
theorem mild_some {code:List Int} (hc:∀ x ∈ code,0 ≤ x∧x < 256):∃ f:qam,qgy 100 code = some f∧SrcM f.Source∧(f.qa9.length ≤ 6∧1 ≤ f.qa9.length)∧(∀ i y,f.qa9[i]? = some y→qnp i y)∧(∀ y ∈ f.qa9,Mild y)∧∀ y,f.qa9[0]? = some y→y.Load = ⟨⟨0,0⟩,⟨0,0⟩,⟨0,0⟩⟩:=by
  have h:=src_new hc
  obtain ⟨v,s1,e1,a1,b1,h1⟩:=qjw 100 h (by omega) 16 (by omega) (by omega)
  obtain ⟨p,e2,hp⟩:=evY_some a1 b1
  obtain ⟨w,s4,e4,a4,b4,h4⟩:=qjw 100 h1 (by omega) 5 (by omega) (by omega)
  obtain ⟨l,e5,h5,h6,h7⟩:=quk p 100 s4 4 [SBus.mk (-1) ⟨0,0⟩ ⟨0,0⟩ 0 (qa7.mk ⟨0,0⟩ ⟨0,0⟩ ⟨0,0⟩) 0] (1 + w) h4 (by simp) (by omega) (by omega) (by simp;omega) (by simp) (by omega) (by
    intro i y hy
    have hi:i = 0:=by
      rcases Nat.eq_zero_or_pos i with h | h
      · exact h
      · rw [List.getElem?_eq_none (by simp;omega)] at hy;cases hy
    subst hi
    simp at hy
    subst hy
    exact ⟨fun _=>⟨rfl,rfl,rfl⟩,fun h=>by omega,by decide,by decide⟩) (by
    intro y hy
    rw [List.mem_singleton.1 hy]
    exact ⟨cm0.mono (by decide +kernel),rfl,cm0.mono (by decide +kernel),cm0.mono (by decide +kernel),cm0.mono (by decide +kernel),.inl rfl⟩) (by intro y hy;simp at hy;subst hy;rfl)
  refine ⟨qam.mk p l,?_,hp,h5,h6,h7⟩
  unfold qgy qix
  simp only [Option.bind_some]
  rw [e1]
  simp only [Option.bind_some]
  have e2':qev 100 (Cx.mk (FloatKind.nearest .f32 (w64 ((16:Int) + v))) (0:Nat)) = some p:=e2
  rw [e2']
  simp only [Option.bind_some]
  rw [e4]
  simp only [Option.bind_some]
  rw [qcu (by omega) (by omega)]
  exact e5
end Go.Proofs.Ytdnkjocenbepaaa.AWN

namespace Go.Proofs.Ytdnkjocenbepaaa.AWN
open Go Ieee
structure PB (p:qa7) (B:Rat):Prop where
  a:CM p.A B
  b:CM p.B B
  c:CM p.C B
theorem PB.mono {p:qa7} {B C:Rat} (h:PB p B) (hb:B ≤ C):PB p C:=⟨h.a.mono hb,h.b.mono hb,h.c.mono hb⟩
theorem CM.pos {x:Cx} {B:Rat} (h:CM x B):0 ≤ B:=h.m.pos
theorem qm7 {x y:Cx} {b c e:Rat} (hx:CM x b) (hy:CM y c) (hM:b + c ≤ 1000000) (he:b + c + (b + c) / 10000000 + 1 / 100000000000000000000 ≤ e):CM (addC x y) e:=by
  have:=hx.pos;have:=hy.pos
  obtain ⟨f,n⟩:=addM hx.f hy.f hx.m hy.m (E:=(b + c) / 10000000 + 1 / 100000000000000000000) (by grind) (by grind)
  exact ⟨f,(qlg n (hx.m.add hy.m)).mono (by grind)⟩
theorem qvo (n:Nat) {x y:Cx} {b c e:Rat} (hx:CM x b) (hy:CM y c) (hM:b * c ≤ 1000000) (he:b * c + (b * c) / 10000000 + 1 / 10000000000000000000 ≤ e):∃ r,qck n x y = some r∧CM r e:=by
  have:=hx.pos;have:=hy.pos
  obtain ⟨r,e1,f,n1⟩:=mulM n hx.f hy.f hx.m hy.m (D:=b * c) (E:=(b * c) / 10000000 + 1 / 10000000000000000000) Rat.le_refl (by grind) (by grind)
  exact ⟨r,e1,f,(qlg n1 (hx.m.mul hy.m)).mono (by grind)⟩
theorem qvi {x d:Cq} {B T m:Rat} (hx:Mo x B) (hT:0 ≤ T) (hm:0 ≤ m) (hB:B ≤ T * m) (hd:m * m ≤ n2 d):n2 x ≤ T * T * n2 d:=by
  have h1:=hx.sq
  have h2:=qkm hx.pos hB hx.pos hB
  have h3:=Rat.mul_nonneg (qgl T) (show 0 ≤ n2 d - m * m by grind)
  grind
theorem quot_cm (n:Nat) {x y:Cx} {B C T m P E:Rat} (hx:CM x B) (hy:CM y C) (hm:0 < m) (hl:m * m ≤ n2 (cv y)) (hT:0 ≤ T) (hB:B ≤ T * m)
    (hP1:B * C ≤ P) (hP2:C * C ≤ P) (hP:P ≤ 1000000000) (hs:P / 1000000000000000 + 4 * tiny ≤ m * m / 2) (hE:(1 + T) * (P / 1000000000000000 + 4 * tiny) ≤ 1 / 10000000 * (m * m / 2)) (hT2:T ≤ 1000000) (hE2:T + T / 10000000 + 2 / 10000000 ≤ E) :
    ∃ r,qd2 n x y = some r∧CM r E:=by
  obtain ⟨r,t,e1,f,_,mt,nt⟩:=qwf n hx.f hy.f hx.m hy.m (Rat.mul_pos hm hm) hl hT (qvi hx.m hT (Rat.le_of_lt hm) hB hl) hP1 hP2 hP hs hE hT2 (E:=T / 10000000 + 2 / 10000000) (by grind)
  exact ⟨r,e1,f,(qlg nt mt).mono (by grind)⟩
def far:Rat:=42 / 10
structure VN (v s:Cx) (R:Rat):Prop where
  f:FC v
  n:Mo (cv v - cv s) R
structure PN (v s:qa7) (R:Rat):Prop where
  a:VN v.A s.A R
  b:VN v.B s.B R
  c:VN v.C s.C R
theorem VN.cm {v s:Cx} {R:Rat} (h:VN v s R) (hs:CM s (311 / 10)):CM v (311 / 10 + R):=⟨h.f,qlg h.n hs.m⟩
theorem VN.lo {v s:Cx} (h:VN v s far) (hs:1599 / 100 * (1599 / 100) ≤ n2 (cv s)):1178 / 100 * (1178 / 100) ≤ n2 (cv v):=by
  -- otherwise the source were short
  rcases (Rat.le_total:n2 (cv v) ≤ 1178 / 100 * (1178 / 100) ∨ 1178 / 100 * (1178 / 100) ≤ n2 (cv v)) with h1 | h1
  · exfalso
    have m1:Mo (cv v) (1178 / 100):=⟨by grind,h1⟩
    have m2:=m1.sub h.n
    have e:cv v - (cv v - cv s) = cv s:=qk3 (by simp only [qj7];grind) (by simp only [qj6];grind)
    rw [e] at m2
    have:=m2.sq
    unfold far at this
    grind
  · exact h1
def qtx (s:Cx) (load:Cx) (x:SBus) (b:Rat):Prop:=∀ v,VN v s far→∃ j,qbb 100 load v x = some j∧CM j b
theorem eql0:fcmp .eql .f32 0 0 = true:=by kernel_rfl
theorem qoi {s load:Cx} {x:SBus} (hs:CM s (311 / 10)) (hl:1599 / 100 * (1599 / 100) ≤ n2 (cv s)) (h:CM load (207 / 100)) (hk:x.Kind = 0 ∨ x.Kind = 1):qtx s load x (208 / 100):=by
  intro v hv
  unfold qbb
  split
  · exact ⟨_,rfl,cm0.mono (by grind)⟩
  · rcases hk with hk | hk
    · rw [if_pos hk]
      obtain ⟨r,e,c⟩:=quot_cm 100 h (hv.cm hs) (m:=1178 / 100) (T:=1758 / 10000) (P:=2200) (E:=18 / 100) (by grind) (hv.lo hl) (by grind) (by grind) (by unfold far;grind) (by unfold far;grind) (by grind) (by rw [ql5];grind) (by rw [ql5];grind) (by grind) (by grind)
      rw [e,Option.bind_some]
      unfold qd7
      rw [Option.bind_some]
      obtain ⟨w,q⟩:=qv8 c.f.i
      refine ⟨_,rfl,⟨c.f.r,w⟩,⟨by grind,?_⟩⟩
      have h1:=c.m.sq
      unfold n2 cv at *
      dsimp only at *
      rw [q]
      grind
    · rw [if_neg (by omega),if_pos hk]
      exact ⟨load,rfl,h.mono (by grind)⟩
structure NB (S:qa7) (x:SBus) (z t:Rat):Prop where
  own:CM x.Own z
  sh:x.Shared = ⟨0,0⟩
  la:qtx S.A x.Load.A x t
  lb:qtx S.B x.Load.B x t
  lc:qtx S.C x.Load.C x t
theorem Mild.nb {S:qa7} {x:SBus} (hS:SrcM S) (h:Mild x):NB S x (782 / 10000) (208 / 100) :=
  ⟨h.own,h.sh,qoi hS.a hS.la h.a h.kind,qoi hS.b hS.lb h.b h.kind,qoi hS.c hS.lc h.c h.kind⟩
def psum (b:Nat→Rat):Nat→Rat
  | 0=>b 0
  | i + 1=>psum b i + b (i + 1)
theorem qou {b:Nat→Rat} (h:∀ k,0 ≤ b k):∀ i,0 ≤ psum b i
  | 0=>h 0
  | i + 1=>by have:=qou h i;have:=h (i + 1);unfold psum;grind
theorem qqx {b:Nat→Rat} (h:∀ k,0 ≤ b k):∀ (i k:Nat),k ≤ i→b k ≤ psum b i
  | 0,k,hk=>by rw [show k = 0 by omega];exact Rat.le_refl
  | i + 1,k,hk=>by
    unfold psum
    rcases Nat.lt_or_ge k (i + 1) with h1 | h1
    · have:=qqx h i k (by omega);have:=h (i + 1);grind
    · rw [show k = i + 1 by omega];have:=qou h i;grind
theorem qti (b:Nat→Rat) (p:Nat) (x:Rat):∀ i,p ≤ i→psum (fun k=>if k = p then x else b k) i = psum b i - b p + x
  | 0,hp=>by have:p = 0:=by omega
             subst this;unfold psum;rw [if_pos rfl];grind
  | i + 1,hp=>by
    unfold psum
    rcases Nat.lt_or_ge p (i + 1) with h1 | h1
    · rw [qti b p x i (by omega),if_neg (by omega)];grind
    · have:p = i + 1:=by omega
      subst this
      rw [if_pos rfl]
      have:∀ j,j < i + 1→psum (fun k=>if k = i + 1 then x else b k) j = psum b j:=by
        intro j hj
        induction j with
        | zero=>unfold psum;rw [if_neg (by omega)]
        | succ j ih=>unfold psum;rw [ih (by omega),if_neg (by omega)]
      rw [this i (by omega)];grind
structure NF (f:qam) (z b ρ:Nat→Rat):Prop where
  src:SrcM f.Source
  one:1 ≤ f.qa9.length
  top:f.qa9.length ≤ 7
  ok:∀ i y,f.qa9[i]? = some y→qnp i y
  nb:∀ i y,f.qa9[i]? = some y→NB f.Source y (z i) (b i)
  pos:∀ k,0 ≤ b k
  sum:psum b (f.qa9.length - 1) ≤ 105 / 10
  zlo:∀ k,0 ≤ z k
  zhi:∀ k,z k ≤ 782 / 10000
  r0:∀ k,0 ≤ ρ k
  rfar:∀ k,k < f.qa9.length→ρ k ≤ far
  step:∀ i y,f.qa9[i]? = some y→0 < i→ρ y.qar.toNat + z i * (106 / 10) + 1 / 1000 ≤ ρ i
structure VL (f:qam) (v:List qa7):Prop where
  len:v.length = f.qa9.length
  at':∀ (i:Nat) (p:qa7),v[i]? = some p→PN p f.Source far
section
variable {f:qam} {z b ρ:Nat→Rat} (hf:NF f z b ρ)
include hf
theorem qt9 {v:List qa7} (hv:VL f v):∀ (m:Nat) (l:List qa7),l.length ≤ f.qa9.length→f.qa9.length - l.length < m→(∀ (k:Nat) (p:qa7),l[k]? = some p→PB p (b k)) →
    ∃ l',qbs 100 f v m l (l.length:Int) = some l'∧l'.length = f.qa9.length∧∀ (k:Nat) (p:qa7),l'[k]? = some p→PB p (b k)
  | 0,l,_,h,_=>by omega
  | m + 1,l,hl,hm,hok=>by
    have h7:=hf.top
    unfold qbs
    by_cases hlt:l.length < f.qa9.length
    · rw [if_pos (by omega)]
      obtain ⟨x,hx⟩:∃ x,f.qa9[l.length]? = some x:=⟨_,List.getElem?_eq_getElem hlt⟩
      obtain ⟨p,hp⟩:∃ p,v[l.length]? = some p:=⟨_,List.getElem?_eq_getElem (by rw [hv.len];exact hlt)⟩
      rw [qbp hx,Option.bind_some,qbp hp,Option.bind_some]
      have hn:=hf.nb _ _ hx
      have hpn:=hv.at' _ _ hp
      obtain ⟨ja,ea,ca⟩:=hn.la _ hpn.a
      obtain ⟨jb,eb,cb⟩:=hn.lb _ hpn.b
      obtain ⟨jc,ec,cc⟩:=hn.lc _ hpn.c
      have e:qbo 100 x p = some (qa7.mk ja jb jc):=by
        unfold qbo qi2
        rw [ea,Option.bind_some,eb,Option.bind_some,ec,Option.bind_some,Option.bind_some]
      rw [e,Option.bind_some]
      unfold grd
      rw [if_pos (show room (l.length + 1) 24 by unfold room;omega)]
      have e2:w64 ((l.length:Int) + 1) = ((l ++ [qa7.mk ja jb jc]).length:Int):=by rw [qcu (by omega) (by omega)];simp
      rw [e2]
      apply qt9 hv m (l ++ [qa7.mk ja jb jc]) (by simp;omega) (by simp;omega)
      intro k q hq
      rcases Nat.lt_or_ge k l.length with h | h
      · rw [List.getElem?_append_left h] at hq;exact hok k q hq
      · rw [List.getElem?_append_right h] at hq
        have:k - l.length = 0:=by
          rcases Nat.eq_zero_or_pos (k - l.length) with h2 | h2
          · exact h2
          · rw [List.getElem?_eq_none (by simp;omega)] at hq;cases hq
        rw [this] at hq
        simp at hq
        subst hq
        rw [show k = l.length by omega]
        exact ⟨ca,cb,cc⟩
    · rw [if_neg (by omega)]
      exact ⟨l,rfl,by omega,hok⟩
theorem qsc:∀ (m i:Nat) (l:List qa7) (β:Nat→Rat),i < f.qa9.length→i < m→l.length = f.qa9.length→(∀ k,0 ≤ β k)→psum β i ≤ 105 / 10 + (7 - (i:Rat)) / 1000→(∀ (k:Nat) (p:qa7),l[k]? = some p→PB p (106 / 10))→(∀ (k:Nat) (p:qa7),k ≤ i→l[k]? = some p→PB p (β k)) →
    ∃ l',qax 100 f m l (i:Int) = some l'∧l'.length = f.qa9.length∧∀ (k:Nat) (p:qa7),l'[k]? = some p→PB p (106 / 10)
  | 0,i,l,β,_,h,_,_,_,_,_=>by omega
  | m + 1,i,l,β,hi,hm,hlen,h0,hsum,hcap,hb=>by
    have h7:=hf.top
    unfold qax
    rcases Nat.eq_zero_or_pos i with hz | hz
    · subst hz
      rw [if_neg (by omega)]
      exact ⟨l,rfl,hlen,hcap⟩
    · rw [if_pos (by omega)]
      obtain ⟨p,hp⟩:∃ p,l[i]? = some p:=⟨_,List.getElem?_eq_getElem (by omega)⟩
      obtain ⟨x,hx⟩:∃ x,f.qa9[i]? = some x:=⟨_,List.getElem?_eq_getElem hi⟩
      obtain ⟨up0,up1⟩:=(hf.ok i x hx).up hz
      obtain ⟨q,hq⟩:∃ q:Nat,x.qar = (q:Int):=⟨x.qar.toNat,by omega⟩
      rw [qbp hp,Option.bind_some]
      have es:qgg 100 (i:Int) p = some p:=rfl
      rw [es,Option.bind_some,qbp hx,Option.bind_some]
      have hset:l.set (i:Int).toNat p = l:=by
        rw [show (i:Int).toNat = i by omega]
        apply List.ext_getElem?
        intro k
        by_cases hk:k = i
        · subst hk;rw [List.getElem?_set_self (by omega),hp]
        · rw [List.getElem?_set_ne (by omega)]
      rw [hset,hq]
      obtain ⟨o,ho⟩:∃ o,l[q]? = some o:=⟨_,List.getElem?_eq_getElem (by omega)⟩
      rw [qbp ho,Option.bind_some,qbp hp,Option.bind_some]
      have po:=hb q o (by omega) ho
      have pp:=hb i p (Nat.le_refl _) hp
      have hge:β q + β i ≤ psum β i:=by
        obtain ⟨j,rfl⟩:∃ j,i = j + 1:=⟨i - 1,by omega⟩
        have:=qqx h0 j q (by omega)
        unfold psum;grind
      have hi6:(i:Rat) ≤ 6:=by exact_mod_cast (show i ≤ 6 by omega)
      have hi1:(1:Rat) ≤ (i:Rat):=by exact_mod_cast hz
      have hq0:=h0 q;have hi0:=h0 i
      have cA:=qm7 po.a pp.a (e:=β q + β i + 1 / 1000) (by grind) (by grind)
      have cB:=qm7 po.b pp.b (e:=β q + β i + 1 / 1000) (by grind) (by grind)
      have cC:=qm7 po.c pp.c (e:=β q + β i + 1 / 1000) (by grind) (by grind)
      have ea:qfg 100 o p = some (qa7.mk (addC o.A p.A) (addC o.B p.B) (addC o.C p.C)):=rfl
      rw [ea,Option.bind_some]
      have ei:w64 ((i:Int) - 1) = ((i - 1:Nat):Int):=by rw [qcu (by omega) (by omega)];omega
      rw [ei]
      have ci:((i - 1:Nat):Rat) = (i:Rat) - 1:=by
        obtain ⟨j,rfl⟩:∃ j,i = j + 1:=⟨i - 1,by omega⟩
        push_cast;grind
      have hps:psum (fun k=>if k = q then β q + β i + 1 / 1000 else β k) (i - 1) = psum β i + 1 / 1000:=by
        obtain ⟨j,rfl⟩:∃ j,i = j + 1:=⟨i - 1,by omega⟩
        rw [show j + 1 - 1 = j by omega,qti β q _ j (by omega)]
        have:psum β (j + 1) = psum β j + β (j + 1):=rfl
        rw [this];grind
      have hqt:(q:Int).toNat = q:=by omega
      rw [hqt]
      apply qsc m (i - 1) _ (fun k=>if k = q then β q + β i + 1 / 1000 else β k) (by omega) (by omega) (by rw [List.length_set];exact hlen)
      · intro k
        by_cases hk:k = q
        · rw [if_pos hk];grind
        · rw [if_neg hk];exact h0 k
      · rw [hps,ci];grind
      · intro k r hr
        by_cases hk:k = q
        · subst hk
          rw [List.getElem?_set_self (by omega)] at hr
          rw [← Option.some.inj hr]
          exact ⟨cA.mono (by grind),cB.mono (by grind),cC.mono (by grind)⟩
        · rw [List.getElem?_set_ne (by omega)] at hr
          exact hcap k r hr
      · intro k r hk' hr
        by_cases hk:k = q
        · subst hk
          rw [List.getElem?_set_self (by omega)] at hr
          rw [← Option.some.inj hr,if_pos rfl]
          exact ⟨cA,cB,cC⟩
        · rw [List.getElem?_set_ne (by omega)] at hr
          rw [if_neg hk]
          exact hb k r (by omega) hr
omit hf in
theorem drop1 {x:SBus} {z:Rat} (hz:z ≤ 782 / 10000) (hx:CM x.Own z) (hsh:x.Shared = ⟨0,0⟩) {p q r:Cx} (hp:CM p (106 / 10)) (hq:CM q (106 / 10)) (hr:CM r (106 / 10)):∃ d,qcg 100 p q r x = some d∧CM d (z * (106 / 10) + 1 / 10000):=by
  have hz0:=hx.pos
  obtain ⟨d1,e1,c1⟩:=qvo 100 hx hp (e:=z * (106 / 10) + 1 / 100000) (by grind) (by grind)
  have cs:=qm7 hq hr (e:=76) (by grind) (by grind)
  have hs:CM x.Shared 0:=by rw [hsh];exact cm0
  obtain ⟨d2,e2,c2⟩:=qvo 100 hs cs (e:=1 / 100000) (by grind) (by grind)
  have c:=qm7 c1 c2 (e:=z * (106 / 10) + 1 / 10000) (by grind) (by grind)
  refine ⟨_,?_,c⟩
  unfold qcg
  have e2':qck 100 x.Shared (Cx.mk (qa8 .add .f32 q.re r.re) (qa8 .add .f32 q.im r.im)) = some d2:=e2
  rw [e1,Option.bind_some,e2',Option.bind_some]
  rfl
omit hf in
theorem qwa {v d s:Cx} {R e:Rat} (hs:CM s (311 / 10)) (hv:VN v s R) (hR:R ≤ far) (hd:CM d e) (he:e ≤ 10):VN (subC v d) s (R + e + 1 / 10000):=by
  have hR0:=hv.n.pos
  have he0:=hd.pos
  have hvm:=hv.cm hs
  have hfar:far = 42 / 10:=rfl
  obtain ⟨f,n⟩:=subM hv.f hd.f hvm.m hd.m (E:=1 / 10000) (by grind) (by grind)
  refine ⟨f,?_⟩
  have:=(n.add hv.n).sub hd.m
  have e1:cv (subC v d) - (cv v - cv d) + (cv v - cv s) - cv d = cv (subC v d) - cv s:=qk3 (by simp only [qku,qj7];grind) (by simp only [qkt,qj6];grind)
  rw [e1] at this
  exact this.mono (by grind)
theorem qt4 {c:List qa7} (hc:c.length = f.qa9.length) (hcb:∀ (k:Nat) (p:qa7),c[k]? = some p→PB p (106 / 10)):∀ (m:Nat) (l:List qa7),1 ≤ l.length→l.length ≤ f.qa9.length→f.qa9.length - l.length < m→(∀ (k:Nat) (p:qa7),l[k]? = some p→PN p f.Source (ρ k)) →
    ∃ l',qbr 100 f c m l (l.length:Int) = some l'∧l'.length = f.qa9.length∧∀ (k:Nat) (p:qa7),l'[k]? = some p→PN p f.Source (ρ k)
  | 0,l,_,_,h,_=>by omega
  | m + 1,l,hl1,hl,hm,hok=>by
    have h7:=hf.top
    unfold qbr
    by_cases hlt:l.length < f.qa9.length
    · rw [if_pos (by omega)]
      obtain ⟨x,hx⟩:∃ x,f.qa9[l.length]? = some x:=⟨_,List.getElem?_eq_getElem hlt⟩
      obtain ⟨up0,up1⟩:=(hf.ok _ x hx).up (by omega)
      obtain ⟨q,hq⟩:∃ q:Nat,x.qar = (q:Int):=⟨x.qar.toNat,by omega⟩
      obtain ⟨o,ho⟩:∃ o,l[q]? = some o:=⟨_,List.getElem?_eq_getElem (by omega)⟩
      obtain ⟨p,hp⟩:∃ p,c[l.length]? = some p:=⟨_,List.getElem?_eq_getElem (by omega)⟩
      have hn:=hf.nb _ _ hx
      have hpb:=hcb _ _ hp
      have hz:=hf.zhi l.length
      have hstep:=hf.step _ _ hx (by omega)
      rw [hq,show ((q:Int)).toNat = q by omega] at hstep
      have hfarq:=hf.rfar q (by omega)
      have hpo:=hok q o ho
      rw [qbp hx,Option.bind_some,hq,qbp ho,Option.bind_some,qbp hp,Option.bind_some]
      obtain ⟨da,ea,ca⟩:=drop1 hz hn.own hn.sh hpb.a hpb.b hpb.c
      obtain ⟨db,eb,cb⟩:=drop1 hz hn.own hn.sh hpb.b hpb.c hpb.a
      obtain ⟨dc,ec,cc⟩:=drop1 hz hn.own hn.sh hpb.c hpb.a hpb.b
      have ed:qd9 100 x p = some (qa7.mk da db dc):=by
        unfold qd9
        rw [ea,Option.bind_some,eb,Option.bind_some,ec,Option.bind_some]
      rw [ed,Option.bind_some]
      have el:qdk 100 o (qa7.mk da db dc) = some (qa7.mk (subC o.A da) (subC o.B db) (subC o.C dc)):=rfl
      rw [el,Option.bind_some]
      have es:qgg 100 (l.length:Int) (qa7.mk (subC o.A da) (subC o.B db) (subC o.C dc)) = some (qa7.mk (subC o.A da) (subC o.B db) (subC o.C dc)):=rfl
      rw [es,Option.bind_some]
      unfold grd
      rw [if_pos (show room (l.length + 1) 24 by unfold room;omega)]
      have e2:w64 ((l.length:Int) + 1) = ((l ++ [qa7.mk (subC o.A da) (subC o.B db) (subC o.C dc)]).length:Int):=by rw [qcu (by omega) (by omega)];simp
      rw [e2]
      have hS:=hf.src
      have w:∀ {v d s:Cx},CM s (311 / 10)→VN v s (ρ q)→CM d (z l.length * (106 / 10) + 1 / 10000)→VN (subC v d) s (ρ l.length):=by
        intro v d s h1 h2 h3
        have:=qwa h1 h2 hfarq h3 (by grind)
        exact ⟨this.f,this.n.mono (by grind)⟩
      apply qt4 hc hcb m _ (by simp) (by simp;omega) (by simp;omega)
      intro k r hr
      rcases Nat.lt_or_ge k l.length with h | h
      · rw [List.getElem?_append_left h] at hr;exact hok k r hr
      · rw [List.getElem?_append_right h] at hr
        have:k - l.length = 0:=by
          rcases Nat.eq_zero_or_pos (k - l.length) with h2 | h2
          · exact h2
          · rw [List.getElem?_eq_none (by simp;omega)] at hr;cases hr
        rw [this] at hr
        simp at hr
        subst hr
        rw [show k = l.length by omega]
        exact ⟨w hS.a hpo.a ca,w hS.b hpo.b cb,w hS.c hpo.c cc⟩
    · rw [if_neg (by omega)]
      exact ⟨l,rfl,by omega,hok⟩
omit hf in
theorem qso {S:qa7} (h:SrcM S) {R:Rat} (hR:0 ≤ R):PN S S R:=by
  have z:∀ x:Cq,Mo (x - x) R:=fun x=>⟨hR,by unfold n2;simp only [qj7,qj6];have:=qgl R;grind⟩
  exact ⟨⟨h.a.f,z _⟩,⟨h.b.f,z _⟩,⟨h.c.f,z _⟩⟩
theorem qqd {v:List qa7} (hv:VL f v):∃ v' c,qca 100 f v = some (qco.mk v' c 1 false)∧VL f v'∧c.length = f.qa9.length:=by
  have h7:=hf.top;have h1:=hf.one
  obtain ⟨l,e1,l1,l2⟩:=qt9 hf hv 100 [] (by simp) (by simp;omega) (by intro k p h;simp at h)
  have ec:qcl 100 l = some l:=by
    unfold qcl grd
    rw [if_pos (show room (([]:List qa7).length + l.length) 24 by unfold room;simp;omega)];rfl
  have hb1:∀ k,k < f.qa9.length→b k ≤ 106 / 10:=fun k hk=>by
    have:=qqx hf.pos (f.qa9.length - 1) k (by omega)
    have:=hf.sum;grind
  have c0:(0:Rat) ≤ 7 - ((f.qa9.length - 1:Nat):Rat):=by
    have:((f.qa9.length - 1:Nat):Rat) ≤ 6:=by exact_mod_cast (show f.qa9.length - 1 ≤ 6 by omega)
    grind
  obtain ⟨c,e2,c1,c2⟩:=qsc hf 100 (f.qa9.length - 1) l b (by omega) (by omega) l1 hf.pos (by have:=hf.sum;grind) (fun k p h=>(l2 k p h).mono (hb1 k (by
      rcases Nat.lt_or_ge k l.length with h3 | h3
      · omega
      · rw [List.getElem?_eq_none h3] at h;cases h))) (fun k p _ h=>l2 k p h)
  obtain ⟨v',e3,v1,v2⟩:=qt4 hf c1 c2 100 [f.Source] (by simp) (by simpa using h1) (by simp;omega) (by
    intro k p h
    have:k = 0:=by
      rcases Nat.eq_zero_or_pos k with h2 | h2
      · exact h2
      · rw [List.getElem?_eq_none (by simp;omega)] at h;cases h
    subst this
    simp at h
    subst h
    exact qso hf.src (hf.r0 0))
  refine ⟨v',c,?_,⟨v1,fun i p h=>?_⟩,c1⟩
  · unfold qca
    have e1':qf2 100 f v = some l:=e1
    have e2':qdq 100 f l = some c:=by
      unfold qdq
      rw [ec,Option.bind_some]
      have:w64 ((l.length:Int) - 1) = ((f.qa9.length - 1:Nat):Int):=by rw [qcu (by omega) (by omega)];omega
      rw [this];exact e2
    have e3':qf1 100 f c = some v':=e3
    rw [e1',Option.bind_some,e2',Option.bind_some,e3',Option.bind_some]
  · have hk:i < f.qa9.length:=by
      rcases Nat.lt_or_ge i v'.length with h3 | h3
      · omega
      · rw [List.getElem?_eq_none h3] at h;cases h
    have:=v2 i p h
    have hr:=hf.rfar i hk
    exact ⟨⟨this.a.f,this.a.n.mono hr⟩,⟨this.b.f,this.b.n.mono hr⟩,⟨this.c.f,this.c.n.mono hr⟩⟩
end
end Go.Proofs.Ytdnkjocenbepaaa.AWN

namespace Go.Proofs.Ytdnkjocenbepaaa.AWN
open Go Ieee
theorem rep_1 (S:qa7):qci 100 [S] ((1:Nat):Int) = some (List.replicate 1 S):=by kernel_rfl
theorem rep_2 (S:qa7):qci 100 [S] ((2:Nat):Int) = some (List.replicate 2 S):=by kernel_rfl
theorem rep_3 (S:qa7):qci 100 [S] ((3:Nat):Int) = some (List.replicate 3 S):=by kernel_rfl
theorem rep_4 (S:qa7):qci 100 [S] ((4:Nat):Int) = some (List.replicate 4 S):=by kernel_rfl
theorem rep_5 (S:qa7):qci 100 [S] ((5:Nat):Int) = some (List.replicate 5 S):=by kernel_rfl
theorem rep_6 (S:qa7):qci 100 [S] ((6:Nat):Int) = some (List.replicate 6 S):=by kernel_rfl
theorem rep_7 (S:qa7):qci 100 [S] ((7:Nat):Int) = some (List.replicate 7 S):=by kernel_rfl
theorem rep_some (S:qa7) {n:Nat} (h1:1 ≤ n) (h7:n ≤ 7):qci 100 [S] (n:Int) = some (List.replicate n S):=by
  have:n = 1 ∨ n = 2 ∨ n = 3 ∨ n = 4 ∨ n = 5 ∨ n = 6 ∨ n = 7:=by omega
  rcases this with rfl | rfl | rfl | rfl | rfl | rfl | rfl
  · exact rep_1 S
  · exact rep_2 S
  · exact rep_3 S
  · exact rep_4 S
  · exact rep_5 S
  · exact rep_6 S
  · exact rep_7 S
theorem NF.vf {f:qam} {z b ρ:Nat→Rat} (hf:NF f z b ρ):VF f.qa9:=⟨hf.one,hf.top,hf.ok⟩
section
variable {f:qam} {z b ρ:Nat→Rat} (hf:NF f z b ρ)
include hf
theorem flat_some:qfn 100 f = some (List.replicate f.qa9.length f.Source):=by
  unfold qfn
  rw [rep_some f.Source hf.one hf.top];rfl
theorem qqn:VL f (List.replicate f.qa9.length f.Source):=by
  refine ⟨by simp,fun i p h=>?_⟩
  have:p = f.Source:=by
    rw [List.getElem?_replicate] at h
    split at h
    · exact (Option.some.inj h).symm
    · cases h
  rw [this]
  exact qso hf.src (by unfold far;grind)
theorem qs6 (R:Int) (hR:R ≤ 50):∀ (m:Nat) (v c:List qa7) (a:Int) (r:Bool) (k:Int),VL f v→c.length = f.qa9.length→0 ≤ k→k ≤ R→R - k < m →
    ∃ v' c' r',qbe 100 f R m v c a r k = some (qco.mk v' c' R r')∧VL f v'∧c'.length = f.qa9.length
  | 0,v,c,a,r,k,_,_,_,_,h=>by omega
  | m + 1,v,c,a,r,k,hv,hc,hk0,hk,hm=>by
    unfold qbe
    by_cases hlt:k < R
    · rw [if_pos hlt]
      obtain ⟨v',c',e,hv',hc'⟩:=qqd hf hv
      rw [e,Option.bind_some,qcu (by omega) (by omega)]
      exact qs6 R hR m v' c' 1 false (k + 1) hv' hc' (by omega) (by omega) (by omega)
    · rw [if_neg hlt]
      exact ⟨v,c,r,rfl,hv,hc⟩
theorem sweeps_some {v:List qa7} (hv:VL f v) {R:Int} (h0:0 ≤ R) (hR:R ≤ 50):∃ v' c' r',qc0 100 f v R = some (qco.mk v' c' R r')∧VL f v'∧c'.length = f.qa9.length:=by
  have h7:=hf.top
  have hl:=hv.len
  have ec:qcl 100 v = some v:=by
    unfold qcl grd
    rw [if_pos (show room (([]:List qa7).length + v.length) 24 by unfold room;simp;omega)];rfl
  obtain ⟨v',c',r',e,h⟩:=qs6 hf R hR 100 v (List.replicate (f.qa9.length:Int).toNat (qa7.mk (Cx.mk (0:Nat) (0:Nat)) (Cx.mk (0:Nat) (0:Nat)) (Cx.mk (0:Nat) (0:Nat)))) 0 false 0 hv (by simp) (by omega) h0 (by omega)
  refine ⟨v',c',r',?_,h⟩
  unfold qc0
  rw [ec,Option.bind_some]
  unfold grd
  rw [if_pos (by refine ⟨by omega,?_⟩;unfold room;omega)]
  exact e
end
/-! ### The lowest voltage -/
structure PF (p:qa7):Prop where
  a:CB p.A 100
  b:CB p.B 100
  c:CB p.C 100
theorem PN.pf {p S:qa7} (h:PN p S far) (hS:SrcM S):PF p:=by
  have w:∀ {v s:Cx},VN v s far→CM s (311 / 10)→CB v 100:=fun h1 h2=>h1.f.cb ((h1.cm h2).m.mono (by unfold far;grind))
  exact ⟨w h.a hS.a,w h.b hS.b,w h.c hS.c⟩
structure Longs (p:qa7) (x y z:Nat):Prop where
  ea:qau 100 p.A = some x
  eb:qau 100 p.B = some y
  ec:qau 100 p.C = some z
  fa:FW .f32 x
  fb:FW .f32 y
  fc:FW .f32 z
theorem qlr {p:qa7} (h:PF p):∃ x y z,Longs p x y z∧qdc 100 p = some [x,y,z]:=by
  obtain ⟨x,e1,w1,_⟩:=qn3 100 h.a (by grind)
  obtain ⟨y,e2,w2,_⟩:=qn3 100 h.b (by grind)
  obtain ⟨z,e3,w3,_⟩:=qn3 100 h.c (by grind)
  refine ⟨x,y,z,⟨e1,e2,e3,w1,w2,w3⟩,?_⟩
  unfold qdc
  rw [e1,Option.bind_some,e2,Option.bind_some,e3,Option.bind_some]
def Best (i:Int) (w:Nat) (q:Nat→Prop):Prop:=(i < 0∧∀ x,¬q x) ∨ (0 ≤ i∧FW .f32 w∧∀ x,q x→key FloatKind.f32.format w ≤ key FloatKind.f32.format x)
theorem qqt {i j:Int} {w x:Nat} {q:Nat→Prop} (hj:0 ≤ j) (hx:FW .f32 x) (hb:Best i w q):∃ i' w',(∀ K:Int→Nat→Int→Option (Int × Nat × Bool),∀ k:Int,(if i < 0 then qch 100 j K i w k x true else qch 100 j K i w k x (fcmp .lss .f32 x w)) = K i' w' (w64 (k + 1)))∧Best i' w' (fun y=>q y ∨ y = x)∧(i' = i ∨ i' = j):=by
  rcases hb with ⟨h1,h2⟩ | ⟨h1,h2,h3⟩
  · refine ⟨j,x,fun K k=>?_,.inr ⟨hj,hx,fun y hy=>?_⟩,.inr rfl⟩
    · rw [if_pos h1];unfold qch;rw [if_pos rfl];rfl
    · rcases hy with h | rfl
      · exact absurd h (h2 y)
      · exact Int.le_refl _
  · by_cases hl:key FloatKind.f32.format x < key FloatKind.f32.format w
    · refine ⟨j,x,fun K k=>?_,.inr ⟨hj,hx,fun y hy=>?_⟩,.inr rfl⟩
      · rw [if_neg (by omega),qts hx h2,decide_eq_true hl];unfold qch;rw [if_pos rfl];rfl
      · rcases hy with h | rfl
        · have:=h3 y h;omega
        · exact Int.le_refl _
    · refine ⟨i,w,fun K k=>?_,.inr ⟨h1,h2,fun y hy=>?_⟩,.inl rfl⟩
      · rw [if_neg (by omega),qts hx h2,decide_eq_false hl];unfold qch;rw [if_neg (by simp)];rfl
      · rcases hy with h | rfl
        · exact h3 y h
        · omega
theorem qkx (n:Nat) {x:Nat} (h:FW .f32 x):qe7 n x = some false:=by
  unfold qe7
  rw [qwe h h];simp
theorem low_three (K:Int→Nat→Int→Option (Int × Nat × Bool)) {j:Int} (hj:0 ≤ j) {x y z:Nat} (hx:FW .f32 x) (hy:FW .f32 y) (hz:FW .f32 z) {i:Int} {w:Nat} {q:Nat→Prop} (hb:Best i w q) :
    ∃ i' w',qbj 100 K j [x,y,z] 100 i w 0 = K i' w' (w64 (j + 1))∧Best i' w' (fun t=>((q t ∨ t = x) ∨ t = y) ∨ t = z)∧(i' = i ∨ i' = j):=by
  obtain ⟨i1,w1,e1,b1,c1⟩:=qqt hj hx hb
  obtain ⟨i2,w2,e2,b2,c2⟩:=qqt hj hy b1
  obtain ⟨i3,w3,e3,b3,c3⟩:=qqt hj hz b2
  refine ⟨i3,w3,?_,b3,by omega⟩
  have g0:getI [x,y,z] 0 = some x:=rfl
  have g1:getI [x,y,z] 1 = some y:=rfl
  have g2:getI [x,y,z] 2 = some z:=rfl
  rw [qbj,if_pos (by simp),g0,Option.bind_some,qkx 100 hx,Option.bind_some,if_neg (by simp),e1,show w64 ((0:Int) + 1) = 1 from rfl]
  rw [qbj,if_pos (by simp),g1,Option.bind_some,qkx 100 hy,Option.bind_some,if_neg (by simp),e2,show w64 ((1:Int) + 1) = 2 from rfl]
  rw [qbj,if_pos (by simp),g2,Option.bind_some,qkx 100 hz,Option.bind_some,if_neg (by simp),e3,show w64 ((2:Int) + 1) = 3 from rfl]
  rw [qbj,if_neg (by simp)]
  rfl
def Seen (v:List qa7) (k:Nat) (t:Nat):Prop:=∃ (j:Nat) (p:qa7),j < k∧v[j]? = some p∧(qau 100 p.A = some t ∨ qau 100 p.B = some t ∨ qau 100 p.C = some t)
theorem qro {v:List qa7} (hl:v.length ≤ 7) (hp:∀ (k:Nat) (p:qa7),v[k]? = some p→PF p):∀ (m k:Nat) (i:Int) (w:Nat),k ≤ v.length→v.length - k < m→Best i w (Seen v k)→i < v.length →
    ∃ i' w',qbi 100 v m i w (k:Int) = qen 100 i' w'∧Best i' w' (Seen v v.length)∧i' < v.length
  | 0,k,i,w,_,h,_,_=>by omega
  | m + 1,k,i,w,hk,hm,hb,hi=>by
    unfold qbi
    by_cases hlt:k < v.length
    · rw [if_pos (by omega)]
      obtain ⟨p,hpk⟩:∃ p,v[k]? = some p:=⟨_,List.getElem?_eq_getElem hlt⟩
      rw [qbp hpk,Option.bind_some]
      obtain ⟨x,y,z,L,e⟩:=qlr (hp k p hpk)
      rw [e,Option.bind_some]
      obtain ⟨i',w',e',b',c'⟩:=low_three (qbi 100 v m) (j:=(k:Int)) (by omega) L.fa L.fb L.fc hb
      rw [e']
      have ew:w64 ((k:Int) + 1) = ((k + 1:Nat):Int):=by rw [qcu (by omega) (by omega)];omega
      rw [ew]
      apply qro hl hp m (k + 1) i' w' (by omega) (by omega) _ (by omega)
      have back:∀ t,Seen v (k + 1) t→((Seen v k t ∨ t = x) ∨ t = y) ∨ t = z:=by
        rintro t ⟨j,r,h1,h2,h3⟩
        rcases Nat.lt_or_ge j k with hj | hj
        · exact .inl (.inl (.inl ⟨j,r,hj,h2,h3⟩))
        · have:j = k:=by omega
          subst this
          rw [hpk] at h2
          rw [← Option.some.inj h2,L.ea,L.eb,L.ec] at h3
          rcases h3 with h | h | h
          · exact .inl (.inl (.inr (Option.some.inj h).symm))
          · exact .inl (.inr (Option.some.inj h).symm)
          · exact .inr (Option.some.inj h).symm
      rcases b' with ⟨h1,h2⟩ | ⟨h1,h2,h3⟩
      · exact absurd (.inr rfl) (h2 z)
      · exact .inr ⟨h1,h2,fun t ht=>h3 t (back t ht)⟩
    · rw [if_neg (by omega)]
      have:k = v.length:=by omega
      subst this
      exact ⟨i,w,rfl,hb,hi⟩
theorem lowest_some {v:List qa7} (hl:v.length ≤ 7) (h1:1 ≤ v.length) (hp:∀ (k:Nat) (p:qa7),v[k]? = some p→PF p) :
    ∃ (i:Nat) (w:Nat),qhd 100 v = some ((i:Int),w,true)∧i < v.length∧FW .f32 w∧∀ t,Seen v v.length t→key FloatKind.f32.format w ≤ key FloatKind.f32.format t:=by
  obtain ⟨i,w,e,b,hi⟩:=qro hl hp 100 0 (-1) 0 (Nat.zero_le _) (by omega) (.inl ⟨by omega,by rintro t ⟨j,p,h,_⟩;omega⟩) (by omega)
  have e':qhd 100 v = qen 100 i w:=e
  rcases b with ⟨h2,h3⟩ | ⟨h2,h3,h4⟩
  · exfalso
    obtain ⟨p,hp0⟩:∃ p,v[0]? = some p:=⟨_,List.getElem?_eq_getElem (by omega)⟩
    obtain ⟨x,y,z,L,_⟩:=qlr (hp 0 p hp0)
    exact h3 x ⟨0,p,by omega,hp0,.inl L.ea⟩
  · refine ⟨i.toNat,w,?_,by omega,h3,h4⟩
    rw [e']
    unfold qen
    rw [if_neg (by omega),show ((i.toNat:Nat):Int) = i by omega]
/-! ### Banks -/
section
variable {f:qam} (hS:SrcM f.Source) (hlen:f.qa9.length ≤ 6∧1 ≤ f.qa9.length) (hok:∀ i y,f.qa9[i]? = some y→qnp i y) (hm:∀ y ∈ f.qa9,Mild y) (hr:∀ y,f.qa9[0]? = some y→y.Load = ⟨⟨0,0⟩,⟨0,0⟩,⟨0,0⟩⟩)
def bz (m k:Nat):Rat:=if k < m then 782 / 10000 else 0
def bb (m k:Nat):Rat:=if k = 0 then 0 else if k < m then 208 / 100 else if k = m then 263 / 10 else 0
def br (m k:Nat):Rat:=if k < m then 832 / 1000 * (k:Rat) else 832 / 1000 * ((m - 1:Nat):Rat) + 1 / 1000
theorem qvg (m:Nat):∀ k,k < m→psum (bb m) k = 208 / 100 * (k:Rat)
  | 0,h=>by unfold psum bb;simp
  | k + 1,h=>by
    unfold psum
    rw [qvg m k (by omega)]
    unfold bb
    rw [if_neg (by omega),if_pos h]
    push_cast;grind
include hS hlen hok hm hr
theorem qqu:NF f (bz f.qa9.length) (bb f.qa9.length) (br f.qa9.length):=by
  have hrr:∀ k,0 ≤ br f.qa9.length k:=by
    intro k
    have:(0:Rat) ≤ (k:Rat):=by exact_mod_cast Nat.zero_le k
    have:(0:Rat) ≤ ((f.qa9.length - 1:Nat):Rat):=by exact_mod_cast Nat.zero_le _
    unfold br;split <;> grind
  have inl:∀ {i:Nat} {y:SBus},f.qa9[i]? = some y→i < f.qa9.length:=by
    intro i y h
    rcases Nat.lt_or_ge i f.qa9.length with h2 | h2
    · exact h2
    · rw [List.getElem?_eq_none h2] at h;cases h
  refine ⟨hS,hlen.2,by omega,hok,fun i y h=>?_,fun k=>?_,?_,fun k=>?_,fun k=>?_,hrr,fun k hk=>?_,fun i y h hi=>?_⟩
  · have hi:=inl h
    have hmy:=hm y (List.mem_of_getElem? h)
    unfold bz bb
    rw [if_pos hi]
    rcases Nat.eq_zero_or_pos i with h0 | h0
    · subst h0
      rw [if_pos rfl]
      have hl:=hr y h
      have z:∀ s,qtx s ⟨0,0⟩ y 0:=by
        intro s v hv
        refine ⟨⟨0,0⟩,?_,cm0⟩
        unfold qbb
        rw [eql0];rfl
      exact ⟨hmy.own,hmy.sh,by rw [hl];exact z _,by rw [hl];exact z _,by rw [hl];exact z _⟩
    · rw [if_neg (by omega),if_pos hi]
      exact hmy.nb hS
  · unfold bb;repeat' split
    all_goals grind
  · rw [qvg _ _ (by omega)]
    have:((f.qa9.length - 1:Nat):Rat) ≤ 5:=by exact_mod_cast (show f.qa9.length - 1 ≤ 5 by omega)
    grind
  · unfold bz;split <;> grind
  · unfold bz;split <;> grind
  · have:(k:Rat) ≤ 5:=by exact_mod_cast (show k ≤ 5 by omega)
    unfold br far;rw [if_pos hk];grind
  · have hi':=inl h
    have up:=(hok i y h).up hi
    have:((y.qar.toNat:Nat):Rat) + 1 ≤ (i:Rat):=by exact_mod_cast (show y.qar.toNat + 1 ≤ i by omega)
    unfold br bz
    rw [if_pos (by omega),if_pos hi',if_pos hi']
    grind
end
end Go.Proofs.Ytdnkjocenbepaaa.AWN

namespace Go.Proofs.Ytdnkjocenbepaaa.AWN
open Go Ieee
abbrev kk (w:Nat):Int:=key FloatKind.f32.format w
theorem qvj (f:Format) (Z p:Int):kz f (-Z) p = -kz f Z p:=by
  unfold kz
  rcases Int.lt_trichotomy Z 0 with h | h | h
  · rw [if_neg (by omega),if_pos h,Int.natAbs_neg];omega
  · subst h;rw [if_neg (by omega),if_neg (by omega),show (0:Int).natAbs = 0 from rfl,show (-(0:Int)).natAbs = 0 from rfl,qhw];rfl
  · rw [if_pos (by omega),if_neg (by omega),Int.natAbs_neg]
theorem quw {k:FloatKind} {x y:Nat} (hx:FW k x) (hy:FW k y) (h1:FW k (qa8 .sub k x y)) (h2:FW k (qa8 .sub k y x)):vz k.format (qa8 .sub k y x) = -vz k.format (qa8 .sub k x y):=by
  have e1:=(qns hx hy).2
  have e2:=(qns hy hx).2
  obtain ⟨wn,vn,_⟩:=qwg h1
  have e3:=wn.kz (fmtK k)
  rw [vn,qvj,h1.kz (fmtK k),e1] at e3
  have e4:key k.format (qa8 .sub k y x) = key k.format (fneg k (qa8 .sub k x y)):=by
    rw [e2,← e3,← qvj];congr 1;omega
  have:=qkl h2 wn e4
  rw [qnw this,vn]
theorem same_key {k:FloatKind} {x y:Nat} (hx:FW k x) (hy:FW k y) (h:key k.format x = key k.format y):x = y ∨ (qv k x = 0∧qv k y = 0):=by
  by_cases h0:key k.format x = 0
  · right
    constructor
    · have:=(W.qp8 (fmtK k) hx).2.2.1 h0
      unfold qv;rw [this];simp
    · have:=(W.qp8 (fmtK k) hy).2.2.1 (by rw [← h];exact h0)
      unfold qv;rw [this];simp
  · left
    have lx:=hx.lt;have ly:=hy.lt
    have hs:0 < k.format.signWeight:=Nat.two_pow_pos _
    have part:∀ w,w < 2 * k.format.signWeight→key k.format w ≠ 0→(0 < key k.format w∧(w:Int) = key k.format w) ∨ (key k.format w < 0∧(w:Int) = k.format.signWeight - key k.format w):=by
      intro w hw hk
      unfold key at hk ⊢
      generalize k.format.signWeight = s at *
      rcases Nat.lt_or_ge w s with h1 | h1
      · have e1:w / s = 0:=Nat.div_eq_of_lt h1
        have e2:w % s = w:=Nat.mod_eq_of_lt h1
        rw [e1,e2] at hk ⊢
        rw [if_neg (by decide)] at hk ⊢
        left;omega
      · have e1:w / s = 1:=by
          apply Nat.div_eq_of_lt_le <;> omega
        have e2:w % s = w - s:=by
          rw [Nat.mod_eq_sub_mod h1,Nat.mod_eq_of_lt (by omega)]
        rw [e1,e2] at hk ⊢
        rw [if_pos (by decide)] at hk ⊢
        right;omega
    rcases part x lx h0 with ⟨a1,a2⟩ | ⟨a1,a2⟩ <;> rcases part y ly (by rw [← h];exact h0) with ⟨b1,b2⟩ | ⟨b1,b2⟩ <;> omega
theorem long_opp {x y:Cx} {B:Rat} (hx:CB x B) (hy:CB y B) (h1:B ≤ 1000000) (hr:vz FloatKind.f32.format y.re = -vz FloatKind.f32.format x.re) (hi:vz FloatKind.f32.format y.im = -vz FloatKind.f32.format x.im) :
    ∃ w w',qau 100 x = some w∧qau 100 y = some w'∧FW .f32 w∧FW .f32 w'∧kk w = kk w':=by
  obtain ⟨a,b,f1,wa,wb,ha,hb⟩:=ql6 100 hx
  obtain ⟨a',b',f1',wa',wb',ha',hb'⟩:=ql6 100 hy
  have hB0:=hx.rb.nonneg
  have hBB:=Rat.mul_nonneg hB0 (show 0 ≤ 1000000 - B by grind)
  -- both are lengths
  obtain ⟨w,e1,fw,_⟩:=qn3 100 hx h1
  obtain ⟨w',e1',fw',_⟩:=qn3 100 hy h1
  refine ⟨w,w',e1,e1',fw,fw',?_⟩
  have opp:∀ {u v:Nat},FW .f32 u→FW .f32 v→vz FloatKind.f32.format v = -vz FloatKind.f32.format u→∀ {p q:Nat},qv .f64 p = qv .f32 u→qv .f64 q = qv .f32 v→vz FloatKind.f64.format q * vz FloatKind.f64.format q = vz FloatKind.f64.format p * vz FloatKind.f64.format p:=by
    intro u v hu hv h p q hp hq
    have e:qv .f64 q = -qv .f64 p:=by rw [hp,hq];unfold qv;rw [h];push_cast;grind
    have e2:vz FloatKind.f64.format q = -vz FloatKind.f64.format p:=by
      unfold qv at e
      have:(vz FloatKind.f64.format q:Rat) * p2 FloatKind.f64.format.leastPlace = ((-vz FloatKind.f64.format p:Int):Rat) * p2 FloatKind.f64.format.leastPlace:=by rw [e];push_cast;grind
      have:=qir (qhv _) this
      exact_mod_cast this
    rw [e2,Int.neg_mul_neg]
  have k1:key FloatKind.f64.format (qa8 .mul .f64 a a) = key FloatKind.f64.format (qa8 .mul .f64 a' a'):=by
    rw [(qkv wa wa).2,(qkv wa' wa').2,opp hx.r hy.r hr ha ha']
  have k2:key FloatKind.f64.format (qa8 .mul .f64 b b) = key FloatKind.f64.format (qa8 .mul .f64 b' b'):=by
    rw [(qkv wb wb).2,(qkv wb' wb').2,opp hx.i hy.i hi hb hb']
  have p1:=hx.rb.mul hx.rb;have p2:=hx.ib.mul hx.ib;have p1':=hy.rb.mul hy.rb;have p2':=hy.ib.mul hy.ib
  obtain ⟨v1,_⟩:=qpg wa wa (M:=B * B) (by rw [qim];grind) (by rw [ha];exact p1.1) (by rw [ha];exact p1.2)
  obtain ⟨v2,_⟩:=qpg wb wb (M:=B * B) (by rw [qim];grind) (by rw [hb];exact p2.1) (by rw [hb];exact p2.2)
  obtain ⟨v1',_⟩:=qpg wa' wa' (M:=B * B) (by rw [qim];grind) (by rw [ha'];exact p1'.1) (by rw [ha'];exact p1'.2)
  obtain ⟨v2',_⟩:=qpg wb' wb' (M:=B * B) (by rw [qim];grind) (by rw [hb'];exact p2'.1) (by rw [hb'];exact p2'.2)
  have k3:key FloatKind.f64.format (qa8 .add .f64 (qa8 .mul .f64 a a) (qa8 .mul .f64 b b)) = key FloatKind.f64.format (qa8 .add .f64 (qa8 .mul .f64 a' a') (qa8 .mul .f64 b' b')):=by
    rw [(qmc v1 v2).2,(qmc v1' v2').2,qnw (qkl v1 v1' k1),qnw (qkl v2 v2' k2)]
  obtain ⟨_,s,_⟩:=qqw wa wa wb wb (P:=B * B) (by rw [ha];exact p1) (by rw [hb];exact p2) (by grind)
  obtain ⟨_,s',_⟩:=qqw wa' wa' wb' wb' (P:=B * B) (by rw [ha'];exact p1') (by rw [hb'];exact p2') (by grind)
  have el:∀ {c d:Nat} {z:Cx},qe3 100 z = some (c,d)→qau 100 z = qgo .f64 .f32 (qk2 (qa8 .add .f64 (qa8 .mul .f64 c c) (qa8 .mul .f64 d d))):=by
    intro c d z h
    unfold qau qe8 qgh
    rw [h,Option.bind_some,Option.bind_some,Option.bind_some]
    cases qgo .f64 .f32 (qk2 (qa8 .add .f64 (qa8 .mul .f64 c c) (qa8 .mul .f64 d d))) <;> rfl
  rw [el f1] at e1
  rw [el f1'] at e1'
  rcases same_key s s' k3 with h | ⟨h2,h3⟩
  · rw [h] at e1
    rw [e1] at e1'
    rw [Option.some.inj e1']
  · obtain ⟨t1,t2⟩:=qk1 s h2
    obtain ⟨t1',t2'⟩:=qk1 s' h3
    obtain ⟨r,u1,u2,u3⟩:=ql0 t1 t2
    obtain ⟨r',u1',u2',u3'⟩:=ql0 t1' t2'
    rw [u1] at e1
    rw [u1'] at e1'
    rw [← Option.some.inj e1,← Option.some.inj e1']
    have:=(qjt u2 u2').2
    have:=(qjt u2' u2).2
    have a1:kk r ≤ kk r':=(qjt u2 u2').2.2 (by rw [u3,u3'];exact Rat.le_refl)
    have a2:kk r' ≤ kk r:=(qjt u2' u2).2.2 (by rw [u3,u3'];exact Rat.le_refl)
    exact Int.le_antisymm a1 a2
theorem long_key {x:Cx} {B:Rat} (hx:CB x B) (h1:B ≤ 1000000) {w:Nat} (e:qau 100 x = some w) (fw:FW .f32 w):0 ≤ kk w:=by
  obtain ⟨a,b,f1,wa,wb,ha,hb⟩:=ql6 100 hx
  have hB0:=hx.rb.nonneg
  have hBB:=Rat.mul_nonneg hB0 (show 0 ≤ 1000000 - B by grind)
  have c1:=hx.rb.mul hx.rb;have c2:=hx.ib.mul hx.ib
  obtain ⟨v1,_⟩:=qpg wa wa (M:=B * B) (by rw [qim];grind) (by rw [ha];exact c1.1) (by rw [ha];exact c1.2)
  obtain ⟨v2,_⟩:=qpg wb wb (M:=B * B) (by rw [qim];grind) (by rw [hb];exact c2.1) (by rw [hb];exact c2.2)
  obtain ⟨_,s,tt⟩:=qqw wa wa wb wb (P:=B * B) (by rw [ha];exact c1) (by rw [hb];exact c2) (by grind)
  have nn:=qne v1 v2 (ql4 wa v1) (ql4 wb v2) s
  have e2:qgo .f64 .f32 (qk2 (qa8 .add .f64 (qa8 .mul .f64 a a) (qa8 .mul .f64 b b))) = some w:=by
    unfold qau qe8 qgh at e
    rw [f1,Option.bind_some,Option.bind_some,Option.bind_some] at e
    revert e
    cases qgo .f64 .f32 (qk2 (qa8 .add .f64 (qa8 .mul .f64 a a) (qa8 .mul .f64 b b))) <;> intro e
    · cases e
    · exact e
  rw [ha,hb] at tt
  have hPB:qv .f64 (qa8 .add .f64 (qa8 .mul .f64 a a) (qa8 .mul .f64 b b)) ≤ (2 * B + 1) * (2 * B + 1):=by
    have:=tt.1;have:=c1.1;have:=c2.1;have:=Rat.mul_nonneg hB0 hB0;rw [ql5] at *;grind
  generalize qa8 .add .f64 (qa8 .mul .f64 a a) (qa8 .mul .f64 b b) = P at *
  by_cases hz:qv .f64 P = 0
  · obtain ⟨t1,t2⟩:=qk1 s hz
    obtain ⟨r,u1,u2,u3⟩:=ql0 t1 t2
    rw [u1] at e2
    rw [← Option.some.inj e2]
    have h0:=(qjt (qms .f32).1 u2).2.2 (by rw [(qms .f32).2,u3];exact Rat.le_refl)
    have:key FloatKind.f32.format 0 = 0:=rfl
    rw [this] at h0;exact h0
  · -- a root is not negative
    obtain ⟨sg,m,i,hr⟩:=s.fin
    have hq:=qh3 hr
    have hm:m ≠ 0:=by
      rintro rfl
      apply hz;rw [hq];simp
    have hmp:0 < (m:Rat) * p2 i:=Rat.mul_pos (by exact_mod_cast Nat.pos_of_ne_zero hm) (qhv i)
    have hs:sg = false:=by
      cases sg with
      | false=>rfl
      | true=>exfalso;simp only [if_true] at hq;rw [hq] at nn;grind
    subst hs
    have hw:∃ A E,qk2 P = FloatKind.f64.format.nearest false A E:=by
      unfold qk2 Format.sqrt
      rw [hr]
      unfold Datum.root
      simp only [if_neg hm,Bool.false_eq_true,if_false,Option.map_some,Option.getD_some,Format.write]
      exact ⟨_,_,rfl⟩
    obtain ⟨A,E,hw⟩:=hw
    obtain ⟨fs,_,_⟩:=qs5 s nn (B:=2 * B + 1) (by grind) (by rw [qim];grind) hPB
    have hk:0 ≤ key FloatKind.f64.format (qk2 P):=by
      rw [hw,qi1 (fmtK .f64)];simp
    have hq0:=qov fs hk
    obtain ⟨s',m',p',hr'⟩:=fs.fin
    have hv:=qh3 hr'
    have hd:FloatKind.f64.decode (qk2 P) = .number s' m' p':=hr'
    unfold qgo at e2
    have hke:fkEq FloatKind.f64 .f32 = false:=rfl
    rw [hke,cond_false,hd] at e2
    dsimp only at e2
    have hwe:w = FloatKind.f32.format.nearest s' m' p':=by
      revert e2
      cases (FloatKind.f32.decode (FloatKind.f32.encode (.number s' m' p'))).isInfinity with
      | true=>intro e2;cases e2
      | false=>intro e2;exact (Option.some.inj e2).symm
    rw [hwe]
    show 0 ≤ key FloatKind.f32.format _
    rw [qi1 (fmtK .f32)]
    cases s' with
    | false=>simp
    | true =>
      have hm0:m' = 0:=by
        rcases Nat.eq_zero_or_pos m' with h | h
        · exact h
        · exfalso
          have:0 < (m':Rat) * p2 p':=Rat.mul_pos (by exact_mod_cast h) (qhv p')
          simp only [if_true] at hv
          grind
      rw [hm0,qhw];simp
end Go.Proofs.Ytdnkjocenbepaaa.AWN

namespace Go.Proofs.Ytdnkjocenbepaaa.AWN
open Go Ieee
theorem qmm (n:Nat) (x:Cx):qct n x = qau n x:=by
  unfold qct qhs qf8 qau qe8 qe3 qbw
  simp only [Option.bind_assoc,Option.bind_some]
structure Rel2 (v v':Nat):Prop where
  f:FW .f32 v
  g:FW .f32 v'
  k:kk v = kk v'
  p:0 ≤ kk v
def mx (v x:Nat):Nat:=if kk v < kk x then x else v
theorem qtu {v x:Nat} (hv:FW .f32 v) (hx:FW .f32 x):FW .f32 (mx v x):=by unfold mx;split;exact hx;exact hv
theorem qwb {v x:Nat}:kk v ≤ kk (mx v x)∧kk x ≤ kk (mx v x):=by unfold mx;split <;> omega
theorem Rel2.mx {v v' x x':Nat} (h:Rel2 v v') (h':Rel2 x x'):Rel2 (mx v x) (mx v' x'):=by
  have a:=h.k;have b:=h'.k;have c:=h.p;have d:=h'.p
  unfold Go.Proofs.Ytdnkjocenbepaaa.AWN.mx
  by_cases hc:kk v < kk x
  · rw [if_pos hc,if_pos (by omega)];exact h'
  · rw [if_neg hc,if_neg (by omega)];exact h
theorem qlz (K:Nat→Int→Option Nat) {v x:Nat} (hv:FW .f32 v) (hx:FW .f32 x) (k:Int):(if (fcmp .gtr .f32 x v) = true then qdx 100 K v k x true else (qe7 100 x).bind fun t=>qdx 100 K v k x t) = K (mx v x) (w64 (k + 1)):=by
  rw [qw9 hx hv,qkx 100 hx,Option.bind_some]
  unfold qdx qfi qgp mx
  by_cases h:kk v < kk x
  · rw [decide_eq_true h,if_pos rfl,if_pos rfl,if_pos h,qkx 100 hx,Option.bind_some,if_neg (by simp)]
  · rw [decide_eq_false h,if_neg (by simp),if_neg (by simp),if_neg h,qkx 100 hv,Option.bind_some,if_neg (by simp)]
theorem qla (K:Nat→Int→Option Nat) {d:qks} {x y z:Nat} (e0:qau 100 d.a0 = some x) (e1:qau 100 d.a1 = some y) (e2:qau 100 d.a2 = some z) (fx:FW .f32 x) (fy:FW .f32 y) (fz:FW .f32 z) {v:Nat} (fv:FW .f32 v) (j:Int) :
    qbc 100 K j d 100 v 0 = K (mx (mx (mx v x) y) z) (w64 (j + 1)):=by
  have g0:getI [d.a0,d.a1,d.a2] 0 = some d.a0:=rfl
  have g1:getI [d.a0,d.a1,d.a2] 1 = some d.a1:=rfl
  have g2:getI [d.a0,d.a1,d.a2] 2 = some d.a2:=rfl
  rw [qbc,if_pos (by omega),g0,Option.bind_some,e0,Option.bind_some,qlz _ fv fx,show w64 ((0:Int) + 1) = 1 from rfl]
  rw [qbc,if_pos (by omega),g1,Option.bind_some,e1,Option.bind_some,qlz _ (qtu fv fx) fy,show w64 ((1:Int) + 1) = 2 from rfl]
  rw [qbc,if_pos (by omega),g2,Option.bind_some,e2,Option.bind_some,qlz _ (qtu (qtu fv fx) fy) fz,show w64 ((2:Int) + 1) = 3 from rfl]
  rw [qbc,if_neg (by omega)]
  rfl
structure Both (x y:Cx) (w w':Nat):Prop where
  a:qau 100 (subC x y) = some w
  b:qau 100 (subC y x) = some w'
  r:Rel2 w w'
theorem qke {x y:Cx} (hx:CB x 100) (hy:CB y 100):∃ w w',Both x y w w':=by
  have mk:∀ {u v:Nat},Ab (qv .f32 u) 100→Ab (qv .f32 v) 100→Ab (qv .f32 u - qv .f32 v) 200:=fun h1 h2=>⟨by have:=h1.1;have:=h2.2;grind,by have:=h1.2;have:=h2.1;grind⟩
  have cb:∀ {x y:Cx},CB x 100→CB y 100→CB (subC x y) 201:=by
    intro x y hx hy
    have a:=mk hx.rb hy.rb;have b:=mk hx.ib hy.ib
    obtain ⟨w1,r1,r2⟩:=qsk hx.r hy.r (M:=200) (by rw [qim];grind) a.1 a.2
    obtain ⟨w2,r3,r4⟩:=qsk hx.i hy.i (M:=200) (by rw [qim];grind) b.1 b.2
    rw [qss,ql5] at r1 r2 r3 r4
    obtain ⟨a1,a2⟩:=a;obtain ⟨b1,b2⟩:=b
    exact ⟨w1,w2,⟨by unfold subC;dsimp only;grind,by unfold subC;dsimp only;grind⟩,⟨by unfold subC;dsimp only;grind,by unfold subC;dsimp only;grind⟩⟩
  have c1:=cb hx hy
  have c2:=cb hy hx
  obtain ⟨w,w',e1,e2,f1,f2,k⟩:=long_opp c1 c2 (by grind) (quw hx.r hy.r c1.r c2.r) (quw hx.i hy.i c1.i c2.i)
  exact ⟨w,w',e1,e2,f1,f2,k,long_key c1 (by grind) e1 f1⟩
theorem qoh (p q:qa7):qdk 100 p q = some (qa7.mk (subC p.A q.A) (subC p.B q.B) (subC p.C q.C)):=rfl
theorem qpl {a b:List qa7} (hl:a.length = b.length) (h9:a.length ≤ 90) (ha:∀ (k:Nat) (p:qa7),a[k]? = some p→PF p) (hb:∀ (k:Nat) (p:qa7),b[k]? = some p→PF p) :
    ∀ (m k v v':Nat),k ≤ a.length→a.length - k < m→Rel2 v v'→∃ w w',qat 100 a b m v (k:Int) = some w∧qat 100 b a m v' (k:Int) = some w'∧Rel2 w w'
  | 0,k,_,_,_,h,_=>by omega
  | m + 1,k,v,v',hk,hm,hv=>by
    by_cases hlt:k < a.length
    · obtain ⟨p,hp⟩:∃ p,a[k]? = some p:=⟨_,List.getElem?_eq_getElem hlt⟩
      obtain ⟨q,hq⟩:∃ q,b[k]? = some q:=⟨_,List.getElem?_eq_getElem (by omega)⟩
      have pp:=ha k p hp;have pq:=hb k q hq
      obtain ⟨x,x',bx⟩:=qke pp.a pq.a
      obtain ⟨y,y',bY⟩:=qke pp.b pq.b
      obtain ⟨z,z',bz⟩:=qke pp.c pq.c
      have e:w64 ((k:Int) + 1) = ((k + 1:Nat):Int):=by rw [qcu (by omega) (by omega)];omega
      have s1:qat 100 a b (m + 1) v (k:Int) = qat 100 a b m (mx (mx (mx v x) y) z) ((k + 1:Nat):Int):=by
        rw [qat,if_pos (by omega),qbp hp,Option.bind_some,qbp hq,Option.bind_some,qoh,Option.bind_some]
        unfold qdd
        rw [Option.bind_some,qla (d:=qks.mk (subC p.A q.A) (subC p.B q.B) (subC p.C q.C)) _ bx.a bY.a bz.a bx.r.f bY.r.f bz.r.f hv.f,e]
      have s2:qat 100 b a (m + 1) v' (k:Int) = qat 100 b a m (mx (mx (mx v' x') y') z') ((k + 1:Nat):Int):=by
        rw [qat,if_pos (by omega),qbp hq,Option.bind_some,qbp hp,Option.bind_some,qoh,Option.bind_some]
        unfold qdd
        rw [Option.bind_some,qla (d:=qks.mk (subC q.A p.A) (subC q.B p.B) (subC q.C p.C)) _ bx.b bY.b bz.b bx.r.g bY.r.g bz.r.g hv.g,e]
      rw [s1,s2]
      exact qpl hl h9 ha hb m (k + 1) _ _ (by omega) (by omega) (((hv.mx bx.r).mx bY.r).mx bz.r)
    · refine ⟨v,v',?_,?_,hv⟩
      · rw [qat,if_neg (by omega)]
      · rw [qat,if_neg (by omega)]
theorem key0:kk 0 = 0:=rfl
theorem rel00:Rel2 0 0:=⟨(qms .f32).1,(qms .f32).1,rfl,by rw [key0];exact Int.le_refl _⟩
theorem qo6 {a b:List qa7} (hl:a.length = b.length) (h9:a.length ≤ 90) (ha:∀ (k:Nat) (p:qa7),a[k]? = some p→PF p) (hb:∀ (k:Nat) (p:qa7),b[k]? = some p→PF p) :
    ∃ w w',qet 100 a b = some w∧qet 100 b a = some w'∧Rel2 w w' :=
  qpl hl h9 ha hb 100 0 0 0 (Nat.zero_le _) (by omega) rel00
theorem long_nought {x:Cx} (h1:FW .f32 x.re) (h2:FW .f32 x.im) (z1:qv .f32 x.re = 0) (z2:qv .f32 x.im = 0):∃ w,qau 100 x = some w∧FW .f32 w∧kk w = 0:=by
  obtain ⟨a,e1,wa,ha⟩:=qrx h1
  obtain ⟨b,e2,wb,hb⟩:=qrx h2
  rw [z1] at ha;rw [z2] at hb
  obtain ⟨m1,q1⟩:=qq2 wa wa (.inl ha)
  obtain ⟨m2,q2⟩:=qq2 wb wb (.inl hb)
  obtain ⟨s,q3⟩:=add_zero_q m1 m2 q2
  rw [q1] at q3
  obtain ⟨t,q4⟩:=qk1 s q3
  obtain ⟨r,e3,fr,q5⟩:=ql0 t q4
  refine ⟨r,?_,fr,?_⟩
  · unfold qau qe8 qe3 qgh
    simp only [e1,e2,e3,Option.bind_some]
  · have a1:=(qjt fr (qms .f32).1).2.2 (by rw [q5,(qms .f32).2];exact Rat.le_refl)
    have a2:=(qjt (qms .f32).1 fr).2.2 (by rw [q5,(qms .f32).2];exact Rat.le_refl)
    have:key FloatKind.f32.format 0 = 0:=rfl
    rw [this] at a1 a2
    exact Int.le_antisymm a1 a2
theorem qo5 {a:List qa7} (h9:a.length ≤ 90) (ha:∀ (k:Nat) (p:qa7),a[k]? = some p→PF p):∀ (m k:Nat),k ≤ a.length→a.length - k < m→qat 100 a a m 0 (k:Int) = some 0
  | 0,k,_,h=>by omega
  | m + 1,k,hk,hm=>by
    by_cases hlt:k < a.length
    · obtain ⟨p,hp⟩:∃ p,a[k]? = some p:=⟨_,List.getElem?_eq_getElem hlt⟩
      have pp:=ha k p hp
      have z:∀ {x:Cx},CB x 100→∃ w,qau 100 (subC x x) = some w∧FW .f32 w∧kk w = 0:=by
        intro x hx
        obtain ⟨w1,q1⟩:=qmo hx.r
        obtain ⟨w2,q2⟩:=qmo hx.i
        exact long_nought (x:=subC x x) w1 w2 q1 q2
      obtain ⟨x,e0,f0,k0⟩:=z pp.a
      obtain ⟨y,e1,f1,k1⟩:=z pp.b
      obtain ⟨u,e2,f2,k2⟩:=z pp.c
      have e:w64 ((k:Int) + 1) = ((k + 1:Nat):Int):=by rw [qcu (by omega) (by omega)];omega
      have m0:∀ {x:Nat},kk x = 0→mx 0 x = 0:=by
        intro x hx
        unfold mx
        rw [if_neg (by rw [hx,key0];omega)]
      rw [qat,if_pos (by omega),qbp hp,Option.bind_some,Option.bind_some,qoh,Option.bind_some]
      unfold qdd
      rw [Option.bind_some,qla (d:=qks.mk (subC p.A p.A) (subC p.B p.B) (subC p.C p.C)) _ e0 e1 e2 f0 f1 f2 (qms .f32).1,m0 k0,m0 k1,m0 k2,e]
      exact qo5 h9 ha m (k + 1) (by omega) (by omega)
    · rw [qat,if_neg (by omega)]
/-! ### The widest pair -/
theorem qs8 (K:Nat→Int→Option Nat) {v x:Nat} (hv:FW .f32 v) (hx:FW .f32 x) (k:Int):(if (fcmp .gtr .f32 x v) = true then qcn 100 K v k x true else (qe7 100 v).bind fun t=>qcn 100 K v k x t) = K (mx v x) (w64 (k + 1)):=by
  rw [qw9 hx hv,qkx 100 hv,Option.bind_some]
  unfold qcn qdt mx
  by_cases h:kk v < kk x
  · rw [decide_eq_true h,if_pos rfl,if_pos rfl,if_pos h]
  · rw [decide_eq_false h,if_neg (by simp),if_neg (by simp),if_neg h]
theorem widest_some {p:qa7} (h:PF p):∃ x W,qau 100 (subC p.A p.B) = some x∧qey 100 p = some W∧FW .f32 x∧FW .f32 W∧kk x ≤ kk W:=by
  obtain ⟨x,_,bx⟩:=qke h.a h.b
  obtain ⟨y,_,bY⟩:=qke h.b h.c
  obtain ⟨z,_,bz⟩:=qke h.c h.a
  refine ⟨x,mx (mx x y) z,bx.a,?_,bx.r.f,qtu (qtu bx.r.f bY.r.f) bz.r.f,?_⟩
  · unfold qey
    have e0:qau 100 (Cx.mk (qa8 .sub .f32 p.A.re p.B.re) (qa8 .sub .f32 p.A.im p.B.im)) = some x:=bx.a
    have e1:qau 100 (Cx.mk (qa8 .sub .f32 p.B.re p.C.re) (qa8 .sub .f32 p.B.im p.C.im)) = some y:=bY.a
    have e2:qau 100 (Cx.mk (qa8 .sub .f32 p.C.re p.A.re) (qa8 .sub .f32 p.C.im p.A.im)) = some z:=bz.a
    rw [e0,Option.bind_some]
    rw [qb8,if_pos (by simp)]
    have g0:∀ (u v:Cx),getI [u,v] 0 = some u:=fun _ _=>rfl
    have g1:∀ (u v:Cx),getI [u,v] 1 = some v:=fun _ _=>rfl
    rw [g0,Option.bind_some,e1,Option.bind_some,qs8 _ bx.r.f bY.r.f,show w64 ((0:Int) + 1) = 1 from rfl]
    rw [qb8,if_pos (by simp),g1,Option.bind_some,e2,Option.bind_some,qs8 _ (qtu bx.r.f bY.r.f) bz.r.f,show w64 ((1:Int) + 1) = 2 from rfl]
    rw [qb8,if_neg (by simp)]
  · have:=(qwb (v:=x) (x:=y)).1;have:=(qwb (v:=mx x y) (x:=z)).1;omega
/-! ### Lengths along a path -/
theorem qsu {fl:qco} {s:List Nat} (hs:s.length ≤ 50) (hp:∀ i ∈ s,∃ p,fl.qa3[i]? = some p∧PF p):∀ (m k:Nat) (acc:List Nat),k ≤ s.length→s.length - k < m→acc.length = 3 * k →
    ∃ l,qcm 100 fl (toI s) m acc (k:Int) = some (l,true)∧l.length = 3 * s.length
  | 0,k,_,_,h,_=>by omega
  | m + 1,k,acc,hk,hm,ha=>by
    unfold qcm
    have ls:((toI s).length:Int) = s.length:=by simp
    rw [ls]
    by_cases hlt:k < s.length
    · rw [if_pos (by omega)]
      have g:s[k]? = some s[k]:=List.getElem?_eq_getElem hlt
      obtain ⟨p,hpk,pf⟩:=hp s[k] (List.getElem_mem hlt)
      rw [toI_getI g,Option.bind_some,qbp hpk,Option.bind_some]
      obtain ⟨x,y,z,_,e⟩:=qlr pf
      rw [e,Option.bind_some]
      unfold grd
      rw [if_pos (show room (acc.length + [x,y,z].length) 4 by unfold room;simp;omega)]
      have ew:w64 ((k:Int) + 1) = ((k + 1:Nat):Int):=by rw [qcu (by omega) (by omega)];omega
      rw [ew]
      exact qsu hs hp m (k + 1) _ (by omega) (by omega) (by simp;omega)
    · rw [if_neg (by omega)]
      exact ⟨acc,rfl,by omega⟩
end Go.Proofs.Ytdnkjocenbepaaa.AWN

namespace Go.Proofs.Ytdnkjocenbepaaa.AWN
open Go Ieee
def sw (k i:Nat):Nat:=if i = k then k + 1 else if i = k + 1 then k else i
theorem qsp (k i:Nat):sw k (sw k i) = i:=by
  have e1:sw k k = k + 1:=by unfold sw;rw [if_pos rfl]
  have e2:sw k (k + 1) = k:=by unfold sw;rw [if_neg (by omega),if_pos rfl]
  by_cases h:i = k
  · subst h;rw [e1,e2]
  · by_cases h2:i = k + 1
    · subst h2;rw [e2,e1]
    · have e3:sw k i = i:=by unfold sw;rw [if_neg h,if_neg h2]
      rw [e3,e3]
theorem qtw {k i n:Nat} (hk:k + 1 < n) (h:i < n):sw k i < n:=by unfold sw;split;omega;split <;> omega
def ren (k:Nat) (x:SBus):SBus:=if x.qar = (k:Int) then SBus.mk ((k:Int) + 1) x.Own x.Shared x.Kind x.Load x.qan else if x.qar = (k:Int) + 1 then SBus.mk (k:Int) x.Own x.Shared x.Kind x.Load x.qan else x
theorem qp1 (k:Nat) (x:SBus):(ren k x).Own = x.Own∧(ren k x).Shared = x.Shared∧(ren k x).Kind = x.Kind∧(ren k x).Load = x.Load∧(ren k x).qan = x.qan:=by
  unfold ren;split
  · exact ⟨rfl,rfl,rfl,rfl,rfl⟩
  · split <;> exact ⟨rfl,rfl,rfl,rfl,rfl⟩
theorem qp2 (k:Nat) {x:SBus} {q:Nat} (h:x.qar = (q:Int)):(ren k x).qar = ((sw k q:Nat):Int):=by
  unfold ren sw
  by_cases h1:q = k
  · subst h1;rw [if_pos h,if_pos rfl];show ((q:Int) + 1) = _;omega
  · by_cases h2:q = k + 1
    · subst h2;rw [if_neg (by omega),if_pos (by omega),if_neg (by omega),if_pos rfl]
    · rw [if_neg (by omega),if_neg (by omega),if_neg h1,if_neg h2];exact h
theorem ren_root (k:Nat) {x:SBus} (h:x.qar = -1):(ren k x).qar = -1:=by
  unfold ren;rw [if_neg (by omega),if_neg (by omega)];exact h
def swm (k:Nat) (l:List SBus) (x y:SBus):List SBus:=((l.set k x).set (k + 1) y)
theorem swm_at {k:Nat} {l:List SBus} {x y:SBus} (hk:k + 1 < l.length) (hx:l[k + 1]? = some x) (hy:l[k]? = some y) (i:Nat):(swm k l x y)[i]? = l[sw k i]?:=by
  unfold swm sw
  by_cases h1:i = k
  · subst h1
    rw [if_pos rfl,List.getElem?_set_ne (by omega),List.getElem?_set_self (by omega),hx]
  · by_cases h2:i = k + 1
    · subst h2
      rw [if_neg (by omega),if_pos rfl,List.getElem?_set_self (by simp;omega),hy]
    · rw [if_neg h1,if_neg h2,List.getElem?_set_ne (by omega),List.getElem?_set_ne (by omega)]
theorem qsq (k:Nat) (l:List SBus) (x y:SBus):(swm k l x y).length = l.length:=by unfold swm;simp
section
variable {k:Nat} {s:List SBus}
def part (k j:Nat) (s:List SBus):List SBus:=(s.take j).map (ren k) ++ s.drop j
theorem quq {j:Nat} {x:SBus} (h:s[j]? = some x):(part k j s)[j]? = some x∧(part k j s).set j (ren k x) = part k (j + 1) s:=by
  have hj:j < s.length:=by
    rcases Nat.lt_or_ge j s.length with h1 | h1
    · exact h1
    · rw [List.getElem?_eq_none h1] at h;cases h
  have hl:((s.take j).map (ren k)).length = j:=by simp;omega
  unfold part
  constructor
  · rw [List.getElem?_append_right (by omega),hl,Nat.sub_self,List.getElem?_drop];simpa using h
  · have hd:s.drop j = x :: s.drop (j + 1):=by
      rw [List.drop_eq_getElem_cons hj]
      have:s[j] = x:=by rw [List.getElem?_eq_getElem hj] at h;exact Option.some.inj h
      rw [this]
    have ht:s.take (j + 1) = s.take j ++ [x]:=by rw [List.take_add_one,h];rfl
    rw [hd,List.set_append_right _ _ (by omega),hl,Nat.sub_self,ht]
    simp
theorem qtg (j:Nat):(part k j s).length = s.length:=by
  unfold part;simp;omega
theorem part_all:part k s.length s = s.map (ren k):=by unfold part;simp
end
theorem qug {k:Nat} {l:List SBus} {S:qa7} {x y:SBus} (hk:k + 1 < l.length) (hl:l.length ≤ 16):∀ (m j:Nat),j ≤ l.length→l.length - j < m →
    qbm 100 (k:Int) (qam.mk S l) x y m (part k j (swm k l x y)) (j:Int) = qdf 100 (qam.mk S l) ((swm k l x y).map (ren k))
  | 0,j,_,h=>by omega
  | m + 1,j,hj,hm=>by
    have e1:w64 ((k:Int) + 1) = ((k + 1:Nat):Int):=by rw [qcu (by omega) (by omega)];omega
    have e2:w64 ((j:Int) + 1) = ((j + 1:Nat):Int):=by rw [qcu (by omega) (by omega)];omega
    have e3:(k:Int).toNat = k:=by omega
    have e4:((k + 1:Nat):Int).toNat = k + 1:=by omega
    have e5:(j:Int).toNat = j:=by omega
    rw [qbm]
    dsimp only
    rw [e1,e3,e4,e5]
    have hlen:((((l.set k x).set (k + 1) y).length:Nat):Int) = (l.length:Int):=by simp
    rw [hlen]
    have sl:=qsq k l x y
    by_cases hlt:j < l.length
    · rw [if_pos (by omega)]
      obtain ⟨b,hb⟩:∃ b,(swm k l x y)[j]? = some b:=⟨_,List.getElem?_eq_getElem (by omega)⟩
      obtain ⟨p1,p2⟩:=quq (k:=k) hb
      rw [qbp p1,Option.bind_some]
      unfold qdg
      rw [e2]
      have ih:=qug (S:=S) (x:=x) (y:=y) hk hl m (j + 1) (by omega) (by omega)
      have ek:(((k + 1:Nat):Int)) = (k:Int) + 1:=by omega
      by_cases h1:b.qar = (k:Int)
      · rw [if_pos h1]
        have hr:ren k b = SBus.mk ((k + 1:Nat):Int) b.Own b.Shared b.Kind b.Load b.qan:=by unfold ren;rw [if_pos h1,ek]
        rw [← hr,p2];exact ih
      · by_cases h2:b.qar = ((k + 1:Nat):Int)
        · rw [if_neg h1,if_pos h2]
          have hr:ren k b = SBus.mk (k:Int) b.Own b.Shared b.Kind b.Load b.qan:=by unfold ren;rw [if_neg h1,if_pos (by omega)]
          rw [← hr,p2];exact ih
        · rw [if_neg h1,if_neg h2]
          have hr:ren k b = b:=by unfold ren;rw [if_neg h1,if_neg (by omega)]
          rw [hr] at p2
          have:(part k j (swm k l x y)).set j b = part k j (swm k l x y):=by
            apply List.ext_getElem?
            intro i
            by_cases hi:i = j
            · subst hi;rw [List.getElem?_set_self (by rw [qtg];omega),p1]
            · rw [List.getElem?_set_ne (by omega)]
          rw [this] at p2
          rw [p2];exact ih
    · rw [if_neg (by omega)]
      have:j = (swm k l x y).length:=by omega
      rw [this,part_all]
theorem quv {k:Nat} {f:qam} {x y:SBus} (hk:k + 1 < f.qa9.length) (hl:f.qa9.length ≤ 16):∀ (m j:Nat),j ≤ f.qa9.length→f.qa9.length - j < m →
    ∃ g,qbu 100 f (k:Int) x y m (part k j (swm k f.qa9 x y)) (j:Int) = some (g,true)
  | 0,j,_,h=>by omega
  | m + 1,j,hj,hm=>by
    have e1:w64 ((k:Int) + 1) = ((k + 1:Nat):Int):=by rw [qcu (by omega) (by omega)];omega
    have e2:w64 ((j:Int) + 1) = ((j + 1:Nat):Int):=by rw [qcu (by omega) (by omega)];omega
    have e3:(k:Int).toNat = k:=by omega
    have e4:((k + 1:Nat):Int).toNat = k + 1:=by omega
    have e5:(j:Int).toNat = j:=by omega
    rw [qbu]
    rw [e1,e3,e4,e5]
    have hlen:((((([]:List SBus) ++ f.qa9).set k x).set (k + 1) y).length:Int) = (f.qa9.length:Int):=by simp
    rw [hlen]
    have sl:=qsq k f.qa9 x y
    by_cases hlt:j < f.qa9.length
    · rw [if_pos (by omega)]
      obtain ⟨b,hb⟩:∃ b,(swm k f.qa9 x y)[j]? = some b:=⟨_,List.getElem?_eq_getElem (by omega)⟩
      obtain ⟨p1,p2⟩:=quq (k:=k) hb
      rw [qbp p1,Option.bind_some]
      unfold qdh
      rw [e2]
      have ih:=quv (x:=x) (y:=y) hk hl m (j + 1) (by omega) (by omega)
      have ek:(((k + 1:Nat):Int)) = (k:Int) + 1:=by omega
      by_cases h1:b.qar = (k:Int)
      · rw [if_pos h1]
        have hr:ren k b = SBus.mk ((k + 1:Nat):Int) b.Own b.Shared b.Kind b.Load b.qan:=by unfold ren;rw [if_pos h1,ek]
        rw [← hr,p2];exact ih
      · by_cases h2:b.qar = ((k + 1:Nat):Int)
        · rw [if_neg h1,if_pos h2]
          have hr:ren k b = SBus.mk (k:Int) b.Own b.Shared b.Kind b.Load b.qan:=by unfold ren;rw [if_neg h1,if_pos (by omega)]
          rw [← hr,p2];exact ih
        · rw [if_neg h1,if_neg h2]
          have hr:ren k b = b:=by unfold ren;rw [if_neg h1,if_neg (by omega)]
          rw [hr] at p2
          have:(part k j (swm k f.qa9 x y)).set j b = part k j (swm k f.qa9 x y):=by
            apply List.ext_getElem?
            intro i
            by_cases hi:i = j
            · subst hi;rw [List.getElem?_set_self (by rw [qtg];omega),p1]
            · rw [List.getElem?_set_ne (by omega)]
          rw [this] at p2
          rw [p2];exact ih
    · rw [if_neg (by omega)]
      exact ⟨_,rfl⟩
end Go.Proofs.Ytdnkjocenbepaaa.AWN

namespace Go.Proofs.Ytdnkjocenbepaaa.AWN
open Go Ieee
theorem qto (n:Nat) {v a b:Int} (h1:a ≤ v) (h2:v ≤ b):qe9 n v a b = some true:=by
  unfold qe9
  rw [if_pos (by omega),decide_eq_true h2]
theorem qqb {f:qam} (hv:VF f.qa9) (n:Nat):∀ (m k:Nat),k ≤ f.qa9.length→f.qa9.length - k < m→qef n f m (k:Int) = some true
  | 0,k,_,h=>by omega
  | m + 1,k,hk,hm=>by
    have h6:=hv.six
    unfold qef
    by_cases hlt:k < f.qa9.length
    · rw [if_pos (by omega)]
      obtain ⟨x,hx⟩:∃ x,f.qa9[k]? = some x:=⟨_,List.getElem?_eq_getElem hlt⟩
      have hb:=hv.bus k x hx
      rw [qbp hx,Option.bind_some]
      have e:w64 ((k:Int) + 1) = ((k + 1:Nat):Int):=by rw [qcu (by omega) (by omega)];omega
      have hk2:=hb.kind;have hc:=hb.cust
      have:qhh n x (k:Int) = some true:=by
        unfold qhh
        rw [qto n hk2.1 (by omega),Option.bind_some,if_pos rfl,qto n hc.1 (by omega),Option.bind_some]
        unfold qfk
        rw [if_neg (by simp)]
        unfold qgt
        rcases Nat.eq_zero_or_pos k with h0 | h0
        · obtain ⟨r1,r2,r3⟩:=hb.root h0
          rw [if_pos (by omega),if_pos r1,r2,r3]
          simp [zero_eq]
        · have:=hb.up h0
          rw [if_neg (by omega),qcu (by omega) (by omega),qto n this.1 (by omega),Option.bind_some]
      rw [this,Option.bind_some,if_pos rfl,e]
      exact qqb hv n m (k + 1) (by omega) (by omega)
    · rw [if_neg (by omega)]
theorem specIs {f:qam} (hv:VF f.qa9):qj3 100 f = some true:=by
  have h1:=hv.one;have h6:=hv.six
  unfold qj3
  rw [if_neg (by omega),decide_eq_false (by omega)]
  unfold qg7
  rw [if_neg (by simp)]
  exact qqb hv 100 100 0 (Nat.zero_le _) (by omega)
theorem in_false (n:Nat) {x a b:Int} (h:b < x):qeq n x a b = some false:=by
  unfold qeq
  by_cases h1:x ≥ a
  · rw [if_pos h1,decide_eq_false (by omega)]
  · rw [if_neg h1]
theorem qrk {f:qam} (hv:VF f.qa9) {b:Int} (hb:(f.qa9.length:Int) ≤ b):qcj 100 f b = some false:=by
  have h6:=hv.six;have h1:=hv.one
  unfold qcj
  rw [qis hv,Option.bind_some,if_pos rfl,qcu (by omega) (by omega),in_false 100 (by omega)];rfl
structure qjm (f g:qam) (k:Nat):Prop where
  src:g.Source = f.Source
  len:g.qa9.length = f.qa9.length
  at':∀ i,g.qa9[i]? = (f.qa9[sw k i]?).map (ren k)
  k1:1 ≤ k
  k2:k + 1 < f.qa9.length
  par:∀ x,f.qa9[k + 1]? = some x→x.qar ≠ (k:Int)
theorem qjm.vf {f g:qam} {k:Nat} (h:qjm f g k) (hv:VF f.qa9):VF g.qa9:=by
  refine ⟨by rw [h.len];exact hv.one,by rw [h.len];exact hv.six,fun j y hy=>?_⟩
  rw [h.at'] at hy
  obtain ⟨x,hx,rfl⟩:∃ x,f.qa9[sw k j]? = some x∧ren k x = y:=by
    cases hh:f.qa9[sw k j]? with
    | none=>rw [hh] at hy;cases hy
    | some x=>rw [hh] at hy;exact ⟨x,rfl,Option.some.inj hy⟩
  obtain ⟨o1,o2,o3,o4,o5⟩:=qp1 k x
  have hb:=hv.bus _ x hx
  have h1:=h.k1
  refine ⟨fun h0=>?_,fun h0=>?_,by rw [o3];exact hb.kind,by rw [o5];exact hb.cust⟩
  · have e:sw k j = 0:=by unfold sw;rw [if_neg (by omega),if_neg (by omega)];exact h0
    obtain ⟨r1,r2,r3⟩:=hb.root e
    exact ⟨ren_root k r1,by rw [o1];exact r2,by rw [o2];exact r3⟩
  · have hs:0 < sw k j:=by unfold sw;split;omega;split <;> omega
    obtain ⟨u0,u1⟩:=hb.up hs
    obtain ⟨q,hq⟩:∃ q:Nat,x.qar = (q:Int):=⟨x.qar.toNat,by omega⟩
    rw [qp2 k hq]
    refine ⟨by omega,?_⟩
    have hql:q < sw k j:=by omega
    have hne:sw k j = k + 1→q ≠ k:=by
      intro e hqk
      rw [e] at hx
      exact h.par x hx (by rw [hq,hqk])
    suffices sw k q < j by omega
    by_cases c1:j = k
    · have e:sw k j = k + 1:=by unfold sw;rw [if_pos c1]
      have:=hne e
      have:sw k q = q:=by unfold sw;rw [if_neg (by omega),if_neg (by omega)]
      omega
    · by_cases c2:j = k + 1
      · have e:sw k j = k:=by unfold sw;rw [if_neg c1,if_pos c2]
        have:sw k q = q:=by unfold sw;rw [if_neg (by omega),if_neg (by omega)]
        omega
      · have e:sw k j = j:=by unfold sw;rw [if_neg c1,if_neg c2]
        rw [e] at hql
        unfold sw
        split
        · omega
        · split <;> omega
theorem qjm.mild {f g:qam} {k:Nat} (h:qjm f g k) (hm:∀ y ∈ f.qa9,Mild y):∀ y ∈ g.qa9,Mild y:=by
  intro y hy
  obtain ⟨j,hj⟩:=List.getElem?_of_mem hy
  rw [h.at'] at hj
  cases hh:f.qa9[sw k j]? with
  | none=>rw [hh] at hj;cases hj
  | some x =>
    rw [hh] at hj
    rw [← Option.some.inj hj]
    have hx:=hm x (List.mem_of_getElem? hh)
    obtain ⟨o1,o2,o3,o4,o5⟩:=qp1 k x
    exact ⟨by rw [o1];exact hx.own,by rw [o2];exact hx.sh,by rw [o4];exact hx.a,by rw [o4];exact hx.b,by rw [o4];exact hx.c,by rw [o3];exact hx.kind⟩
theorem qjm.root {f g:qam} {k:Nat} (h:qjm f g k) (hr:∀ y,f.qa9[0]? = some y→y.Load = ⟨⟨0,0⟩,⟨0,0⟩,⟨0,0⟩⟩):∀ y,g.qa9[0]? = some y→y.Load = ⟨⟨0,0⟩,⟨0,0⟩,⟨0,0⟩⟩:=by
  intro y hy
  have h1:=h.k1
  rw [h.at',show sw k 0 = 0 by unfold sw;rw [if_neg (by omega),if_neg (by omega)]] at hy
  cases hh:f.qa9[0]? with
  | none=>rw [hh] at hy;cases hy
  | some x =>
    rw [hh] at hy
    rw [← Option.some.inj hy,(qp1 k x).2.2.2.1]
    exact hr x hh
theorem swap_some {f:qam} (hv:VF f.qa9) {k:Nat} (h1:1 ≤ k) (h6:k ≤ 6) :
    (∃ g g',qda 100 f (k:Int) = some (g,false)∧qd1 100 f (k:Int) = some (g',false)) ∨
    (∃ g g',qda 100 f (k:Int) = some (g,true)∧qd1 100 f (k:Int) = some (g',true)∧qjm f g k):=by
  have hs:=hv.six;have h0:=hv.one
  have e1:w64 ((k:Int) + 1) = ((k + 1:Nat):Int):=by rw [qcu (by omega) (by omega)];omega
  have e2:w64 ((f.qa9.length:Int) - 2) = (f.qa9.length:Int) - 2:=qcu (by omega) (by omega)
  have is:=specIs hv
  by_cases hk:k + 1 < f.qa9.length
  · have a1:=qme hv (b:=k) (by omega)
    have a2:=qme hv (b:=k + 1) hk
    obtain ⟨x,hx⟩:∃ x,f.qa9[k + 1]? = some x:=⟨_,List.getElem?_eq_getElem hk⟩
    obtain ⟨y,hy⟩:∃ y,f.qa9[k]? = some y:=⟨_,List.getElem?_eq_getElem (by omega)⟩
    have pre:qda 100 f (k:Int) = qbt 100 f (k:Int) (decide (x.qar = (k:Int))):=by
      unfold qda
      rw [a1,Option.bind_some,if_pos rfl,if_neg (by omega),e1,a2,Option.bind_some,if_pos rfl,qbp hx,Option.bind_some]
    have pre2:qd1 100 f (k:Int) = qcb 100 f (k:Int) (decide (x.qar = (k:Int))):=by
      unfold qd1
      rw [is,Option.bind_some,if_pos rfl,e2,qto 100 (by omega) (by omega),Option.bind_some,if_pos rfl,e1,qbp hx,Option.bind_some]
    by_cases hp:x.qar = (k:Int)
    · left
      rw [pre,pre2,decide_eq_true hp]
      unfold qbt qcb
      rw [if_pos rfl,if_pos rfl]
      exact ⟨_,_,rfl,rfl⟩
    · right
      rw [pre,pre2,decide_eq_false hp]
      unfold qbt qcb
      rw [if_neg (by simp),if_neg (by simp)]
      have ek:(k:Int).toNat = k:=by omega
      have ek1:((k + 1:Nat):Int).toNat = k + 1:=by omega
      have hswm:(swm k f.qa9 x y).length = f.qa9.length:=qsq ..
      have gsw:qjm f (qam.mk f.Source ((swm k f.qa9 x y).map (ren k))) k:=by
        refine ⟨rfl,by simp [hswm],fun i=>?_,h1,hk,fun z hz=>?_⟩
        · dsimp only
          rw [List.getElem?_map,swm_at hk hx hy]
        · rw [hx] at hz;rw [← Option.some.inj hz];exact hp
      have p0:part k 0 (swm k f.qa9 x y) = swm k f.qa9 x y:=by unfold part;simp
      have gset:getI (f.qa9.set k x) ((k + 1:Nat):Int) = some x:=qbp (by rw [List.getElem?_set_ne (by omega)];exact hx)
      have i1:=qug (S:=f.Source) (x:=x) (y:=y) hk (by omega) 100 0 (by omega) (by omega)
      rw [p0] at i1
      obtain ⟨g',s1⟩:=quv (x:=x) (y:=y) hk (by omega) 100 0 (by omega) (by omega)
      rw [p0] at s1
      refine ⟨qam.mk f.Source ((swm k f.qa9 x y).map (ren k)),g',?_,?_,gsw⟩
      · unfold qf3
        have ec:qej 100 f = some f:=by
          unfold qej qgr grd
          rw [if_pos (show room (([]:List SBus).length + f.qa9.length) 64 by unfold room;simp;omega)];rfl
        rw [ec,Option.bind_some,e1,qbp hx,Option.bind_some,qbp hy,Option.bind_some,ek,gset,Option.bind_some,ek1]
        have i1':qbm 100 (k:Int) f x y 100 ((f.qa9.set k x).set (k + 1) y) 0 = qdf 100 f ((swm k f.qa9 x y).map (ren k)):=i1
        rw [i1']
        unfold qdf qkz
        rw [qis (gsw.vf hv),Option.bind_some,if_pos rfl,Option.bind_some]
      · unfold qf4 grd
        rw [if_pos (show room (([]:List SBus).length + f.qa9.length) 64 by unfold room;simp;omega)]
        unfold qf5
        have en:([]:List SBus) ++ f.qa9 = f.qa9:=rfl
        rw [e1,qbp hx,Option.bind_some,en,qbp hy,Option.bind_some,Option.bind_some,ek,gset,Option.bind_some,ek1]
        exact s1
  · left
    have sp:∃ g',qd1 100 f (k:Int) = some (g',false):=by
      unfold qd1
      have:qe9 100 (k:Int) 1 ((f.qa9.length:Int) - 2) = some false:=by
        unfold qe9
        rw [if_pos (by omega),decide_eq_false (by omega)]
      rw [is,Option.bind_some,if_pos rfl,e2,this,Option.bind_some,if_neg (by simp)]
      unfold qcb
      rw [if_pos rfl]
      exact ⟨_,rfl⟩
    obtain ⟨g',sp⟩:=sp
    have im:∃ g,qda 100 f (k:Int) = some (g,false):=by
      unfold qda
      by_cases hk2:k < f.qa9.length
      · rw [qme hv hk2,Option.bind_some,if_pos rfl,if_neg (by omega),e1,qrk hv (by omega),Option.bind_some,if_neg (by simp)]
        unfold qbt
        rw [if_pos rfl]
        exact ⟨_,rfl⟩
      · rw [qrk hv (by omega),Option.bind_some,if_neg (by simp)]
        unfold qbt
        rw [if_pos rfl]
        exact ⟨_,rfl⟩
    obtain ⟨g,im⟩:=im
    exact ⟨g,g',im,sp⟩
/-! ### Two runs -/
structure NP (p q:qa7) (e:Rat):Prop where
  a:Mo (cv p.A - cv q.A) e
  b:Mo (cv p.B - cv q.B) e
  c:Mo (cv p.C - cv q.C) e
theorem NP.mono {p q:qa7} {e e':Rat} (h:NP p q e) (he:e ≤ e'):NP p q e':=⟨h.a.mono he,h.b.mono he,h.c.mono he⟩
theorem qlf (x:Cq):Mo (x - x) 0:=⟨by decide,by unfold n2;simp only [qj7,qj6];grind⟩
theorem qoj {s load:Cx} {x y:SBus} (hs:CM s (311 / 10)) (hl:1599 / 100 * (1599 / 100) ≤ n2 (cv s)) (h:CM load (207 / 100)) (hk:x.Kind = 0 ∨ x.Kind = 1) (hy:y.Kind = x.Kind) {v v':Cx} (hv:VN v s far) (hv':VN v' s far) {e:Rat} (he:Mo (cv v - cv v') e) {j j':Cx}
    (e1:qbb 100 load v x = some j) (e2:qbb 100 load v' y = some j'):Mo (cv j - cv j') (e / 60 + 1 / 1000000):=by
  have he0:=he.pos
  unfold qbb at e1 e2
  by_cases hz:(fcmp .eql .f32 load.re 0 && fcmp .eql .f32 load.im 0) = true
  · rw [if_pos hz] at e1 e2
    rw [← Option.some.inj e1,← Option.some.inj e2]
    exact (qlf _).mono (by grind)
  · rw [if_neg hz] at e1 e2
    rcases hk with hk | hk
    · rw [if_pos hk] at e1
      rw [if_pos (by omega)] at e2
      have q:∀ {v:Cx},VN v s far→∃ r t,qd2 100 load v = some r∧FC r∧t * cv v = cv load∧Mo t (1758 / 10000)∧Mo (cv r - t) (1 / 4000000):=by
        intro v hv
        have hc:=hv.cm hs
        have hlo:=hv.lo hl
        obtain ⟨r,t,a1,a2,a3,a4,a5⟩:=qwf 100 h.f hc.f h.m hc.m (m:=1178 / 100 * (1178 / 100)) (T:=1758 / 10000) (P:=2200) (E:=1 / 4000000) (by grind) hlo (by grind) (qvi h.m (by grind) (m:=1178 / 100) (by grind) (by grind) hlo) (by unfold far;grind) (by unfold far;grind) (by grind) (by rw [ql5];grind) (by rw [ql5];grind) (by grind) (by grind)
        exact ⟨r,t,a1,a2,a3,a4,a5⟩
      obtain ⟨r,t,a1,fr,a2,a3,a4⟩:=q hv
      obtain ⟨r',t',b1,fr',b2,b3,b4⟩:=q hv'
      rw [a1,Option.bind_some] at e1
      rw [b1,Option.bind_some] at e2
      unfold qd7 at e1 e2
      rw [Option.bind_some] at e1 e2
      rw [← Option.some.inj e1,← Option.some.inj e2]
      -- the true quotients
      have d1:Mo ((t - t') * cv v) (1758 / 10000 * e):=by
        have m1:=b3.mul (he.neg)
        have eq1:t' * -(cv v - cv v') = (t - t') * cv v:=by
          have c1:=qt1 a2;have c2:=qt1 b2
          simp only [qm1,qm9] at c1 c2
          refine qk3 ?_ ?_ <;> simp only [qku,qkt,qj7,qj6,qpd,qpc,qm1,qm9] <;> grind
        rw [eq1] at m1;exact m1
      have d2:Mo (t - t') (e / 60):=by
        have hlo:=hv.lo hl
        exact (d1.mono (C:=e / 60 * (1178 / 100)) (by grind)).div (by grind) hlo
      have d3:=(a4.add d2).sub b4
      have eq2:cv r - t + (t - t') - (cv r' - t') = cv r - cv r':=by
        refine qk3 ?_ ?_ <;> simp only [qku,qkt,qj7,qj6] <;> grind
      rw [eq2] at d3
      have d4:=d3.mono (C:=e / 60 + 1 / 1000000) (by grind)
      obtain ⟨w1,q1⟩:=qv8 fr.i
      obtain ⟨w2,q2⟩:=qv8 fr'.i
      refine ⟨d4.pos,?_⟩
      have:=d4.sq
      unfold n2 cv at *
      simp only [qj7,qj6] at *
      rw [q1,q2]
      grind
    · have k0:¬x.Kind = 0:=by omega
      have k0':¬y.Kind = 0:=by omega
      rw [if_neg k0,if_pos hk] at e1
      rw [if_neg k0',if_pos (by omega)] at e2
      rw [← Option.some.inj e1,← Option.some.inj e2]
      exact (qlf _).mono (by grind)
end Go.Proofs.Ytdnkjocenbepaaa.AWN
