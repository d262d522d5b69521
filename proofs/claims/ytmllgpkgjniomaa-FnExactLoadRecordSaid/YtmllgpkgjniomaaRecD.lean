/- Models and contracts, printed by program. -/
import Derived.Test.YtmllgpkgjniomaaRecC
set_option linter.unusedVariables false
set_option linter.unusedSimpArgs false
set_option linter.unusedSectionVars false
set_option maxHeartbeats 2000000
namespace Go.Proofs.Ytmllgpkgjniomaa.AWN
open Go Go.Proofs.Try
def qdl (n:Nat) (a_:List STie):Nat→Int→Int→Option Int
  | 0,_,_=>none
  | m29 + 1,v20,v21 =>
    if v21 < (a_.length:Int) then
      (getI a_ v21).bind fun x38 =>
      if x38.A = v20 then
        if x38.B = (w64 (v20 + (1:Int))) then
          (qcf .f64 .f32 (FloatKind.nearest .f64 (w64 ((w64 (v20 + (1:Int))) + (1:Int))))).bind fun x43 =>
          (qcf .f64 .f32 (4607182418800017408:Nat)).bind fun x44 =>
          if (fcmp .eql .f32 x38.Own.re x43 && fcmp .eql .f32 x38.Own.im x44) = true then
            (qcf .f64 .f32 (FloatKind.nearest .f64 (w64 ((w64 ((w64 (v20 + (1:Int))) + (1:Int))) + (1:Int))))).bind fun x48 =>
            (qcf .f64 .f32 (4607182418800017408:Nat)).bind fun x49 =>
            if (fcmp .eql .f32 x38.Shared.re x48 && fcmp .eql .f32 x38.Shared.im x49) = true then
              if x38.Most = (w64 ((w64 ((w64 ((w64 (v20 + (1:Int))) + (1:Int))) + (1:Int))) + (1:Int))) then
                (qdl n a_ m29) (w64 ((w64 ((w64 ((w64 ((w64 (v20 + (1:Int))) + (1:Int))) + (1:Int))) + (1:Int))) + (1:Int))) (w64 (v21 + (1:Int)))
              else
                some (-1:Int)
            else
              some (-1:Int)
          else
            some (-1:Int)
        else
          some (-1:Int)
      else
        some (-1:Int)
    else
      some v20
def qhf (n:Nat) (a_:List STie) (k_:Int):Option Int :=
  qdl n a_ n k_ (0:Int)
theorem laws_heldTieS_ok_fr0 (fr:Bool) (n:Nat) (a_:List STie) (k_:Int) {r:Int} (h:qhf n a_ k_ = some r):qb5 prog fr 40 [.d (.sl false (a_.map qan)),.d (.int .i64 k_)] [] (fun v o new=>v = .d (.int .i64 r)∧o = []∧new = []):=by
  refine qar hτ func40 rfl (by simp) (by simp) ?_
  unfold qhf at h
  refine qa5 ?_
  refine qa2 ?_
  refine qa0 hτ rfl rfl rfl ?_
  refine qa4 ?_
  refine qa5 ?_
  refine qa5 ?_
  refine qa2 ?_
  refine qa0 hτ rfl rfl rfl ?_
  refine qa4 ?_
  refine qb6 ?_
  refine qe1 (ι:=Nat × Int × Int) (fun (m29,v20,v21)=>St.of [(0,.d (.sl false (a_.map qan))),(1,.d (.int .i64 v20)),(5,.d (.int .i64 v21))] [] f40.ntmps 0) (fun (m29,v20,v21)=>qdl n a_ m29 v20 v21 = some r) (fun x=>x.1) (n,k_,(0:Int)) h (qa3 [] (l:=[(0,.d (.sl false (a_.map qan))),(1,.d (.int .i64 k_)),(5,.d (.int .i64 (0:Int)))]) (objs:=[]) rfl (by simp) rfl (by trivial) ⟨rfl,trivial,rfl,trivial,rfl,trivial,trivial⟩) ?_
  rintro ⟨m29,v20,v21⟩ h
  replace h:qdl n a_ m29 v20 v21 = some r:=h
  rcases m29 with _ | m29
  · rw [qdl] at h;cases h
  rw [qdl] at h
  refine qa5 ?_
  refine qa5 ?_
  refine qa2 ?_
  refine qa0 hτ rfl rfl rfl ?_
  refine qa0 hτ rfl rfl rfl ?_
  refine qa0 hτ (v:=.d (.int .i64 (a_.length:Int))) rfl rfl (Eq.trans rfl (qfo (f:=qan) a_)) ?_
  refine qa0 hτ rfl rfl rfl ?_
  refine qa4 ?_
  refine qau rfl (fun hc31=>?_) (fun hc31=>?_)
  · have h:=if_t h hc31
    refine qav ?_
    refine qa5 ?_
    refine qb6 ?_
    refine qa5 ?_
    refine qa5 ?_
    refine qa2 ?_
    refine qa0 hτ rfl rfl rfl ?_
    refine qa0 hτ rfl rfl rfl ?_
    refine qab h fun x38 hx38 h=>?_
    refine qdw hτ rfl rfl rfl (qbo hx38).1 (qcd hx38) rfl ?_
    refine qa0 hτ rfl rfl rfl ?_
    refine qa0 hτ rfl rfl rfl ?_
    refine qa0 hτ rfl rfl rfl ?_
    refine qa0 hτ (v:=.d (.bool (!(decide (x38.A = v20))))) rfl rfl (qhx _ _) ?_
    refine qa4 ?_
    refine qa9 (qa3 [] (l:=[(0,.d (.sl false (a_.map qan))),(1,.d (.int .i64 v20)),(5,.d (.int .i64 v21)),(18,.d (.bool (!(decide (x38.A = v20)))))]) (objs:=[]) rfl (by simp) rfl (by trivial) ⟨rfl,trivial,rfl,trivial,rfl,trivial,rfl,trivial,trivial⟩) ?_
    refine qau rfl (fun hc39=>?_) (fun hc39=>?_)
    · have hc39:=qdd hc39
      have h:=if_f h hc39
      refine qa5 ?_
      refine qa2 ?_
      refine qa0 hτ rfl rfl rfl ?_
      refine qa4 ?_
      refine qa9 (qa3 [] (l:=[(4,.d (.int .i64 (-1:Int)))]) (objs:=[]) rfl (by simp) rfl (by trivial) ⟨rfl,trivial,trivial⟩) ?_
      refine qas ?_
      have hr:=Option.some.inj h
      subst hr
      exact qaf (.inr rfl) [] (objs':=[]) (new:=[]) rfl (by simp) (by simp) rfl (by trivial) rfl rfl (by trivial) (fun _=>⟨by simp [V.flat,V.qb2,V.qay,D.flat],qai⟩) ⟨rfl,rfl,rfl⟩
    · have hc39:=qdc hc39
      have h:=if_t h hc39
      refine qav ?_
      refine qa5 ?_
      refine qa2 ?_
      refine qa0 hτ rfl rfl rfl ?_
      refine qa0 hτ rfl rfl rfl ?_
      refine qa0 hτ rfl rfl rfl ?_
      refine qa4 ?_
      refine qa5 ?_
      refine qa5 ?_
      refine qa2 ?_
      refine qa0 hτ rfl rfl rfl ?_
      refine qa0 hτ rfl rfl rfl ?_
      refine qdw hτ rfl rfl rfl (qbo hx38).1 (qcd hx38) rfl ?_
      refine qa0 hτ rfl rfl rfl ?_
      refine qa0 hτ rfl rfl rfl ?_
      refine qa0 hτ rfl rfl rfl ?_
      refine qa0 hτ (v:=.d (.bool (!(decide (x38.B = (w64 (v20 + (1:Int)))))))) rfl rfl (qhx _ _) ?_
      refine qa4 ?_
      refine qa9 (qa3 [] (l:=[(0,.d (.sl false (a_.map qan))),(1,.d (.int .i64 (w64 (v20 + (1:Int))))),(5,.d (.int .i64 v21)),(27,.d (.bool (!(decide (x38.B = (w64 (v20 + (1:Int))))))))]) (objs:=[]) rfl (by simp) rfl (by trivial) ⟨rfl,trivial,rfl,trivial,rfl,trivial,rfl,trivial,trivial⟩) ?_
      refine qau rfl (fun hc40=>?_) (fun hc40=>?_)
      · have hc40:=qdd hc40
        have h:=if_f h hc40
        refine qa5 ?_
        refine qa2 ?_
        refine qa0 hτ rfl rfl rfl ?_
        refine qa4 ?_
        refine qa9 (qa3 [] (l:=[(4,.d (.int .i64 (-1:Int)))]) (objs:=[]) rfl (by simp) rfl (by trivial) ⟨rfl,trivial,trivial⟩) ?_
        refine qas ?_
        have hr:=Option.some.inj h
        subst hr
        exact qaf (.inr rfl) [] (objs':=[]) (new:=[]) rfl (by simp) (by simp) rfl (by trivial) rfl rfl (by trivial) (fun _=>⟨by simp [V.flat,V.qb2,V.qay,D.flat],qai⟩) ⟨rfl,rfl,rfl⟩
      · have hc40:=qdc hc40
        have h:=if_t h hc40
        refine qav ?_
        refine qa5 ?_
        refine qa2 ?_
        refine qa0 hτ rfl rfl rfl ?_
        refine qa0 hτ rfl rfl rfl ?_
        refine qa0 hτ rfl rfl rfl ?_
        refine qa4 ?_
        refine qa5 ?_
        refine qa5 ?_
        refine qa2 ?_
        refine qa0 hτ rfl rfl rfl ?_
        refine qa0 hτ rfl rfl rfl ?_
        refine qdw hτ rfl rfl rfl (qbo hx38).1 (qcd hx38) rfl ?_
        refine qa0 hτ rfl rfl rfl ?_
        refine qa0 hτ rfl rfl rfl ?_
        refine qa0 hτ rfl rfl rfl ?_
        refine qa0 hτ rfl rfl rfl ?_
        refine qa0 hτ rfl rfl rfl ?_
        refine qab h fun x43 hx43 h=>?_
        refine qab h fun x44 hx44 h=>?_
        refine qha rfl rfl (qhw hτ rfl rfl rfl rfl rfl rfl hx43 hx44) ?_
        refine qbn (qa3 [] (l:=[(0,.d (.sl false (a_.map qan))),(1,.d (.int .i64 (w64 ((w64 (v20 + (1:Int))) + (1:Int))))),(5,.d (.int .i64 v21)),(34,.d (.cx .f32 x38.Own.re x38.Own.im)),(38,.d (.cx .f32 x43 x44))]) (objs:=[]) rfl (by simp) rfl (by trivial) ⟨rfl,trivial,rfl,trivial,rfl,trivial,rfl,trivial,rfl,trivial,trivial⟩) ?_
        refine qa0 hτ rfl rfl rfl ?_
        refine qa4 ?_
        refine qau rfl (fun hc45=>?_) (fun hc45=>?_)
        · have hc45:=qdd hc45
          have h:=qch h hc45
          refine qa5 ?_
          refine qa2 ?_
          refine qa0 hτ rfl rfl rfl ?_
          refine qa4 ?_
          refine qa9 (qa3 [] (l:=[(4,.d (.int .i64 (-1:Int)))]) (objs:=[]) rfl (by simp) rfl (by trivial) ⟨rfl,trivial,trivial⟩) ?_
          refine qas ?_
          have hr:=Option.some.inj h
          subst hr
          exact qaf (.inr rfl) [] (objs':=[]) (new:=[]) rfl (by simp) (by simp) rfl (by trivial) rfl rfl (by trivial) (fun _=>⟨by simp [V.flat,V.qb2,V.qay,D.flat],qai⟩) ⟨rfl,rfl,rfl⟩
        · have hc45:=qdc hc45
          have h:=qci h hc45
          refine qav ?_
          refine qa5 ?_
          refine qa2 ?_
          refine qa0 hτ rfl rfl rfl ?_
          refine qa0 hτ rfl rfl rfl ?_
          refine qa0 hτ rfl rfl rfl ?_
          refine qa4 ?_
          refine qa5 ?_
          refine qa5 ?_
          refine qa2 ?_
          refine qa0 hτ rfl rfl rfl ?_
          refine qa0 hτ rfl rfl rfl ?_
          refine qdw hτ rfl rfl rfl (qbo hx38).1 (qcd hx38) rfl ?_
          refine qa0 hτ rfl rfl rfl ?_
          refine qa0 hτ rfl rfl rfl ?_
          refine qa0 hτ rfl rfl rfl ?_
          refine qa0 hτ rfl rfl rfl ?_
          refine qa0 hτ rfl rfl rfl ?_
          refine qbn (qa3 [] (l:=[(0,.d (.sl false (a_.map qan))),(1,.d (.int .i64 (w64 ((w64 ((w64 (v20 + (1:Int))) + (1:Int))) + (1:Int))))),(5,.d (.int .i64 v21)),(46,.d (.cx .f32 x38.Shared.re x38.Shared.im)),(49,.d (.cx .f64 (FloatKind.nearest .f64 (w64 ((w64 ((w64 (v20 + (1:Int))) + (1:Int))) + (1:Int)))) (4607182418800017408:Nat)))]) (objs:=[]) rfl (by simp) rfl (by trivial) ⟨rfl,trivial,rfl,trivial,rfl,trivial,rfl,trivial,rfl,trivial,trivial⟩) ?_
          refine qab h fun x48 hx48 h=>?_
          refine qab h fun x49 hx49 h=>?_
          refine qha rfl rfl (qhw hτ rfl rfl rfl rfl rfl rfl hx48 hx49) ?_
          refine qa0 hτ rfl rfl rfl ?_
          refine qa4 ?_
          refine qau rfl (fun hc50=>?_) (fun hc50=>?_)
          · have hc50:=qdd hc50
            have h:=qch h hc50
            refine qa5 ?_
            refine qa2 ?_
            refine qa0 hτ rfl rfl rfl ?_
            refine qa4 ?_
            refine qa9 (qa3 [] (l:=[(4,.d (.int .i64 (-1:Int)))]) (objs:=[]) rfl (by simp) rfl (by trivial) ⟨rfl,trivial,trivial⟩) ?_
            refine qas ?_
            have hr:=Option.some.inj h
            subst hr
            exact qaf (.inr rfl) [] (objs':=[]) (new:=[]) rfl (by simp) (by simp) rfl (by trivial) rfl rfl (by trivial) (fun _=>⟨by simp [V.flat,V.qb2,V.qay,D.flat],qai⟩) ⟨rfl,rfl,rfl⟩
          · have hc50:=qdc hc50
            have h:=qci h hc50
            refine qav ?_
            refine qa5 ?_
            refine qa2 ?_
            refine qa0 hτ rfl rfl rfl ?_
            refine qa0 hτ rfl rfl rfl ?_
            refine qa0 hτ rfl rfl rfl ?_
            refine qa4 ?_
            refine qa5 ?_
            refine qa5 ?_
            refine qa2 ?_
            refine qa0 hτ rfl rfl rfl ?_
            refine qa0 hτ rfl rfl rfl ?_
            refine qdw hτ rfl rfl rfl (qbo hx38).1 (qcd hx38) rfl ?_
            refine qa0 hτ rfl rfl rfl ?_
            refine qa0 hτ rfl rfl rfl ?_
            refine qa0 hτ rfl rfl rfl ?_
            refine qa0 hτ (v:=.d (.bool (!(decide (x38.Most = (w64 ((w64 ((w64 ((w64 (v20 + (1:Int))) + (1:Int))) + (1:Int))) + (1:Int)))))))) rfl rfl (qhx _ _) ?_
            refine qa4 ?_
            refine qa9 (qa3 [] (l:=[(0,.d (.sl false (a_.map qan))),(1,.d (.int .i64 (w64 ((w64 ((w64 ((w64 (v20 + (1:Int))) + (1:Int))) + (1:Int))) + (1:Int))))),(5,.d (.int .i64 v21)),(60,.d (.bool (!(decide (x38.Most = (w64 ((w64 ((w64 ((w64 (v20 + (1:Int))) + (1:Int))) + (1:Int))) + (1:Int))))))))]) (objs:=[]) rfl (by simp) rfl (by trivial) ⟨rfl,trivial,rfl,trivial,rfl,trivial,rfl,trivial,trivial⟩) ?_
            refine qau rfl (fun hc51=>?_) (fun hc51=>?_)
            · have hc51:=qdd hc51
              have h:=if_f h hc51
              refine qa5 ?_
              refine qa2 ?_
              refine qa0 hτ rfl rfl rfl ?_
              refine qa4 ?_
              refine qa9 (qa3 [] (l:=[(4,.d (.int .i64 (-1:Int)))]) (objs:=[]) rfl (by simp) rfl (by trivial) ⟨rfl,trivial,trivial⟩) ?_
              refine qas ?_
              have hr:=Option.some.inj h
              subst hr
              exact qaf (.inr rfl) [] (objs':=[]) (new:=[]) rfl (by simp) (by simp) rfl (by trivial) rfl rfl (by trivial) (fun _=>⟨by simp [V.flat,V.qb2,V.qay,D.flat],qai⟩) ⟨rfl,rfl,rfl⟩
            · have hc51:=qdc hc51
              have h:=if_t h hc51
              refine qav ?_
              refine qa2 ?_
              refine qa0 hτ rfl rfl rfl ?_
              refine qa0 hτ rfl rfl rfl ?_
              refine qa0 hτ rfl rfl rfl ?_
              refine qa4 ?_
              refine qa2 ?_
              refine qa0 hτ rfl rfl rfl ?_
              refine qa0 hτ rfl rfl rfl ?_
              refine qa0 hτ rfl rfl rfl ?_
              refine qa4 ?_
              exact ⟨(m29,(w64 ((w64 ((w64 ((w64 ((w64 (v20 + (1:Int))) + (1:Int))) + (1:Int))) + (1:Int))) + (1:Int))),(w64 (v21 + (1:Int)))),h,Nat.lt_succ_self m29,(qa3 [] (l:=[(0,.d (.sl false (a_.map qan))),(1,.d (.int .i64 (w64 ((w64 ((w64 ((w64 ((w64 (v20 + (1:Int))) + (1:Int))) + (1:Int))) + (1:Int))) + (1:Int))))),(5,.d (.int .i64 (w64 (v21 + (1:Int)))))]) (objs:=[]) rfl (by simp) rfl (by trivial) ⟨rfl,trivial,rfl,trivial,rfl,trivial,trivial⟩)⟩
  · have h:=if_f h hc31
    refine qdv ?_
    refine qa5 ?_
    refine qa2 ?_
    refine qa0 hτ rfl rfl rfl ?_
    refine qa0 hτ rfl rfl rfl ?_
    refine qa4 ?_
    refine qa9 (qa3 [] (l:=[(4,.d (.int .i64 v20))]) (objs:=[]) rfl (by simp) rfl (by trivial) ⟨rfl,trivial,trivial⟩) ?_
    refine qas ?_
    have hr:=Option.some.inj h
    subst hr
    exact qaf (.inr rfl) [] (objs':=[]) (new:=[]) rfl (by simp) (by simp) rfl (by trivial) rfl rfl (by trivial) (fun _=>⟨by simp [V.flat,V.qb2,V.qay,D.flat],qai⟩) ⟨rfl,rfl,rfl⟩
theorem laws_heldTieS_ok (n:Nat) (a_:List STie) (k_:Int) {r:Int} (h:qhf n a_ k_ = some r):qb5 prog false 40 [.d (.sl false (a_.map qan)),.d (.int .i64 k_)] [] (fun v o new=>v = .d (.int .i64 r)∧o = []∧new = []):=laws_heldTieS_ok_fr0 false n a_ k_ h
def qf6 (n:Nat) (a_:qbi) (k_:Int):Option Int :=
  (qfp n a_.qa1 k_).bind fun x3 =>
  if x3 < (0:Int) then
    some (-1:Int)
  else
    (qhf n a_.Ties x3).bind fun x5 =>
    if x5 < (0:Int) then
      some (-1:Int)
    else
      some x5
theorem laws_heldGrid_ok_fr0 (fr:Bool) (n:Nat) (a_:qbi) (k_:Int) {r:Int} (h:qf6 n a_ k_ = some r):qb5 prog fr 11 [.agg [.d (.cx .f32 a_.qa1.Source.A.re a_.qa1.Source.A.im),.d (.cx .f32 a_.qa1.Source.B.re a_.qa1.Source.B.im),.d (.cx .f32 a_.qa1.Source.C.re a_.qa1.Source.C.im),.d (.sl false (a_.qa1.qac.map qah)),.d (.sl false (a_.Ties.map qan))],.d (.int .i64 k_)] [] (fun v o new=>v = .d (.int .i64 r)∧o = []∧new = []):=by
  refine qar hτ func11 rfl (by simp) (by simp) ?_
  unfold qf6 at h
  refine qa5 ?_
  refine qa2 ?_
  refine qaq hτ rfl rfl rfl ?_
  refine qa0 hτ rfl rfl rfl ?_
  refine qa4 ?_
  refine qa5 ?_
  refine qa2 ?_
  refine qa0 hτ rfl rfl rfl ?_
  refine qa0 hτ rfl rfl rfl ?_
  refine qa0 hτ rfl rfl rfl ?_
  refine qab h fun x3 hx3 h=>?_
  refine qam hτ false [] rfl rfl rfl (qap func39 rfl rfl) rfl rfl (by simp) ⟨(by trivial),trivial,trivial⟩ (by trivial) (laws_heldFeeder_ok n a_.qa1 k_ hx3) ?_
  rintro r0 o0 n0 ⟨rfl,rfl,rfl⟩ -
  refine qa0 hτ rfl rfl rfl ?_
  refine qa4 ?_
  refine qa5 ?_
  refine qa5 ?_
  refine qa9 (qa3 [0] (l:=[(1,.d (.int .i64 x3)),(2,.ptr 0 0)]) (objs:=[.box [.d (.cx .f32 a_.qa1.Source.A.re a_.qa1.Source.A.im),.d (.cx .f32 a_.qa1.Source.B.re a_.qa1.Source.B.im),.d (.cx .f32 a_.qa1.Source.C.re a_.qa1.Source.C.im),.d (.sl false (a_.qa1.qac.map qah)),.d (.sl false (a_.Ties.map qan))]]) rfl (by simp) rfl (by trivial) ⟨rfl,trivial,rfl,trivial,trivial⟩) ?_
  refine qa2 ?_
  refine qa0 hτ rfl rfl rfl ?_
  refine qa0 hτ rfl rfl rfl ?_
  refine qa4 ?_
  refine qau rfl (fun hc4=>?_) (fun hc4=>?_)
  · have h:=if_t h hc4
    refine qa5 ?_
    refine qa2 ?_
    refine qa0 hτ rfl rfl rfl ?_
    refine qa4 ?_
    refine qa9 (qa3 [] (l:=[(4,.d (.int .i64 (-1:Int)))]) (objs:=[]) rfl (by simp) rfl (by trivial) ⟨rfl,trivial,trivial⟩) ?_
    refine qas ?_
    have hr:=Option.some.inj h
    subst hr
    exact qaf (.inr rfl) [] (objs':=[]) (new:=[]) rfl (by simp) (by simp) rfl (by trivial) rfl rfl (by trivial) (fun _=>⟨by simp [V.flat,V.qb2,V.qay,D.flat],qai⟩) ⟨rfl,rfl,rfl⟩
  · have h:=if_f h hc4
    refine qav ?_
    refine qa5 ?_
    refine qa2 ?_
    refine qa0 hτ rfl rfl rfl ?_
    refine qa0 hτ rfl rfl rfl ?_
    refine qa0 hτ rfl rfl rfl ?_
    refine qab h fun x5 hx5 h=>?_
    refine qam hτ false [] rfl rfl rfl (qap func40 rfl rfl) rfl rfl (by simp) ⟨trivial,trivial,trivial⟩ (by trivial) (laws_heldTieS_ok n a_.Ties x3 hx5) ?_
    rintro r0 o0 n0 ⟨rfl,rfl,rfl⟩ -
    refine qa0 hτ rfl rfl rfl ?_
    refine qa4 ?_
    refine qa5 ?_
    refine qa5 ?_
    refine qa9 (qa3 [] (l:=[(1,.d (.int .i64 x5))]) (objs:=[]) rfl (by simp) rfl (by trivial) ⟨rfl,trivial,trivial⟩) ?_
    refine qa2 ?_
    refine qa0 hτ rfl rfl rfl ?_
    refine qa0 hτ rfl rfl rfl ?_
    refine qa4 ?_
    refine qau rfl (fun hc6=>?_) (fun hc6=>?_)
    · have h:=if_t h hc6
      refine qa5 ?_
      refine qa2 ?_
      refine qa0 hτ rfl rfl rfl ?_
      refine qa4 ?_
      refine qa9 (qa3 [] (l:=[(4,.d (.int .i64 (-1:Int)))]) (objs:=[]) rfl (by simp) rfl (by trivial) ⟨rfl,trivial,trivial⟩) ?_
      refine qas ?_
      have hr:=Option.some.inj h
      subst hr
      exact qaf (.inr rfl) [] (objs':=[]) (new:=[]) rfl (by simp) (by simp) rfl (by trivial) rfl rfl (by trivial) (fun _=>⟨by simp [V.flat,V.qb2,V.qay,D.flat],qai⟩) ⟨rfl,rfl,rfl⟩
    · have h:=if_f h hc6
      refine qav ?_
      refine qa5 ?_
      refine qa2 ?_
      refine qa0 hτ rfl rfl rfl ?_
      refine qa0 hτ rfl rfl rfl ?_
      refine qa4 ?_
      refine qa9 (qa3 [] (l:=[(4,.d (.int .i64 x5))]) (objs:=[]) rfl (by simp) rfl (by trivial) ⟨rfl,trivial,trivial⟩) ?_
      refine qas ?_
      have hr:=Option.some.inj h
      subst hr
      exact qaf (.inr rfl) [] (objs':=[]) (new:=[]) rfl (by simp) (by simp) rfl (by trivial) rfl rfl (by trivial) (fun _=>⟨by simp [V.flat,V.qb2,V.qay,D.flat],qai⟩) ⟨rfl,rfl,rfl⟩
theorem laws_heldGrid_ok (n:Nat) (a_:qbi) (k_:Int) {r:Int} (h:qf6 n a_ k_ = some r):qb5 prog false 11 [.agg [.d (.cx .f32 a_.qa1.Source.A.re a_.qa1.Source.A.im),.d (.cx .f32 a_.qa1.Source.B.re a_.qa1.Source.B.im),.d (.cx .f32 a_.qa1.Source.C.re a_.qa1.Source.C.im),.d (.sl false (a_.qa1.qac.map qah)),.d (.sl false (a_.Ties.map qan))],.d (.int .i64 k_)] [] (fun v o new=>v = .d (.int .i64 r)∧o = []∧new = []):=laws_heldGrid_ok_fr0 false n a_ k_ h
def qcq (n:Nat) (a_:List qaa):Nat→Int→Int→Option Int
  | 0,_,_=>none
  | m37 + 1,v26,v27 =>
    if v27 < (a_.length:Int) then
      (getI a_ v27).bind fun x50 =>
      (qcf .f64 .f32 (FloatKind.nearest .f64 v26)).bind fun x51 =>
      (qcf .f64 .f32 (4607182418800017408:Nat)).bind fun x52 =>
      if (fcmp .eql .f32 x50.A.re x51 && fcmp .eql .f32 x50.A.im x52) = true then
        (qcf .f64 .f32 (FloatKind.nearest .f64 (w64 (v26 + (1:Int))))).bind fun x56 =>
        (qcf .f64 .f32 (4607182418800017408:Nat)).bind fun x57 =>
        if (fcmp .eql .f32 x50.B.re x56 && fcmp .eql .f32 x50.B.im x57) = true then
          (qcf .f64 .f32 (FloatKind.nearest .f64 (w64 ((w64 (v26 + (1:Int))) + (1:Int))))).bind fun x61 =>
          (qcf .f64 .f32 (4607182418800017408:Nat)).bind fun x62 =>
          if (fcmp .eql .f32 x50.C.re x61 && fcmp .eql .f32 x50.C.im x62) = true then
            (qcq n a_ m37) (w64 ((w64 ((w64 (v26 + (1:Int))) + (1:Int))) + (1:Int))) (w64 (v27 + (1:Int)))
          else
            some (-1:Int)
        else
          some (-1:Int)
      else
        some (-1:Int)
    else
      some v26
def qd0 (n:Nat) (a_:List qaa) (k_:Int):Option Int :=
  qcq n a_ n k_ (0:Int)
theorem laws_heldPhasesS_ok_fr0 (fr:Bool) (n:Nat) (a_:List qaa) (k_:Int) {r:Int} (h:qd0 n a_ k_ = some r):qb5 prog fr 95 [.d (.sl false (a_.map qa8)),.d (.int .i64 k_)] [] (fun v o new=>v = .d (.int .i64 r)∧o = []∧new = []):=by
  refine qar hτ func95 rfl (by simp) (by simp) ?_
  unfold qd0 at h
  refine qa5 ?_
  refine qa2 ?_
  refine qa0 hτ rfl rfl rfl ?_
  refine qa4 ?_
  refine qa5 ?_
  refine qa5 ?_
  refine qa2 ?_
  refine qa0 hτ rfl rfl rfl ?_
  refine qa4 ?_
  refine qb6 ?_
  refine qe1 (ι:=Nat × Int × Int) (fun (m37,v26,v27)=>St.of [(0,.d (.sl false (a_.map qa8))),(1,.d (.int .i64 v26)),(5,.d (.int .i64 v27))] [] f95.ntmps 0) (fun (m37,v26,v27)=>qcq n a_ m37 v26 v27 = some r) (fun x=>x.1) (n,k_,(0:Int)) h (qa3 [] (l:=[(0,.d (.sl false (a_.map qa8))),(1,.d (.int .i64 k_)),(5,.d (.int .i64 (0:Int)))]) (objs:=[]) rfl (by simp) rfl (by trivial) ⟨rfl,trivial,rfl,trivial,rfl,trivial,trivial⟩) ?_
  rintro ⟨m37,v26,v27⟩ h
  replace h:qcq n a_ m37 v26 v27 = some r:=h
  rcases m37 with _ | m37
  · rw [qcq] at h;cases h
  rw [qcq] at h
  refine qa5 ?_
  refine qa5 ?_
  refine qa2 ?_
  refine qa0 hτ rfl rfl rfl ?_
  refine qa0 hτ rfl rfl rfl ?_
  refine qa0 hτ (v:=.d (.int .i64 (a_.length:Int))) rfl rfl (Eq.trans rfl (qfo (f:=qa8) a_)) ?_
  refine qa0 hτ rfl rfl rfl ?_
  refine qa4 ?_
  refine qau rfl (fun hc39=>?_) (fun hc39=>?_)
  · have h:=if_t h hc39
    refine qav ?_
    refine qa5 ?_
    refine qb6 ?_
    refine qa5 ?_
    refine qa5 ?_
    refine qa2 ?_
    refine qa0 hτ rfl rfl rfl ?_
    refine qa0 hτ rfl rfl rfl ?_
    refine qab h fun x50 hx50 h=>?_
    refine qdw hτ rfl rfl rfl (qbo hx50).1 (qcd hx50) rfl ?_
    refine qa0 hτ rfl rfl rfl ?_
    refine qa0 hτ rfl rfl rfl ?_
    refine qa0 hτ rfl rfl rfl ?_
    refine qa0 hτ rfl rfl rfl ?_
    refine qa0 hτ rfl rfl rfl ?_
    refine qbn (qa3 [] (l:=[(0,.d (.sl false (a_.map qa8))),(1,.d (.int .i64 v26)),(5,.d (.int .i64 v27)),(16,.d (.cx .f32 x50.A.re x50.A.im)),(19,.d (.cx .f64 (FloatKind.nearest .f64 v26) (4607182418800017408:Nat)))]) (objs:=[]) rfl (by simp) rfl (by trivial) ⟨rfl,trivial,rfl,trivial,rfl,trivial,rfl,trivial,rfl,trivial,trivial⟩) ?_
    refine qab h fun x51 hx51 h=>?_
    refine qab h fun x52 hx52 h=>?_
    refine qha rfl rfl (qhw hτ rfl rfl rfl rfl rfl rfl hx51 hx52) ?_
    refine qa0 hτ rfl rfl rfl ?_
    refine qa4 ?_
    refine qau rfl (fun hc53=>?_) (fun hc53=>?_)
    · have hc53:=qdd hc53
      have h:=qch h hc53
      refine qa5 ?_
      refine qa2 ?_
      refine qa0 hτ rfl rfl rfl ?_
      refine qa4 ?_
      refine qa9 (qa3 [] (l:=[(4,.d (.int .i64 (-1:Int)))]) (objs:=[]) rfl (by simp) rfl (by trivial) ⟨rfl,trivial,trivial⟩) ?_
      refine qas ?_
      have hr:=Option.some.inj h
      subst hr
      exact qaf (.inr rfl) [] (objs':=[]) (new:=[]) rfl (by simp) (by simp) rfl (by trivial) rfl rfl (by trivial) (fun _=>⟨by simp [V.flat,V.qb2,V.qay,D.flat],qai⟩) ⟨rfl,rfl,rfl⟩
    · have hc53:=qdc hc53
      have h:=qci h hc53
      refine qav ?_
      refine qa5 ?_
      refine qa2 ?_
      refine qa0 hτ rfl rfl rfl ?_
      refine qa0 hτ rfl rfl rfl ?_
      refine qa0 hτ rfl rfl rfl ?_
      refine qa4 ?_
      refine qa5 ?_
      refine qa5 ?_
      refine qa2 ?_
      refine qa0 hτ rfl rfl rfl ?_
      refine qa0 hτ rfl rfl rfl ?_
      refine qdw hτ rfl rfl rfl (qbo hx50).1 (qcd hx50) rfl ?_
      refine qa0 hτ rfl rfl rfl ?_
      refine qa0 hτ rfl rfl rfl ?_
      refine qa0 hτ rfl rfl rfl ?_
      refine qa0 hτ rfl rfl rfl ?_
      refine qbn (qa3 [] (l:=[(0,.d (.sl false (a_.map qa8))),(1,.d (.int .i64 (w64 (v26 + (1:Int))))),(5,.d (.int .i64 v27)),(28,.d (.cx .f32 x50.B.re x50.B.im)),(30,.d (.fl .f64 (FloatKind.nearest .f64 (w64 (v26 + (1:Int))))))]) (objs:=[]) rfl (by simp) rfl (by trivial) ⟨rfl,trivial,rfl,trivial,rfl,trivial,rfl,trivial,rfl,trivial,trivial⟩) ?_
      refine qa0 hτ rfl rfl rfl ?_
      refine qab h fun x56 hx56 h=>?_
      refine qab h fun x57 hx57 h=>?_
      refine qha rfl rfl (qhw hτ rfl rfl rfl rfl rfl rfl hx56 hx57) ?_
      refine qa0 hτ rfl rfl rfl ?_
      refine qa4 ?_
      refine qau rfl (fun hc58=>?_) (fun hc58=>?_)
      · have hc58:=qdd hc58
        have h:=qch h hc58
        refine qa5 ?_
        refine qa2 ?_
        refine qa0 hτ rfl rfl rfl ?_
        refine qa4 ?_
        refine qa9 (qa3 [] (l:=[(4,.d (.int .i64 (-1:Int)))]) (objs:=[]) rfl (by simp) rfl (by trivial) ⟨rfl,trivial,trivial⟩) ?_
        refine qas ?_
        have hr:=Option.some.inj h
        subst hr
        exact qaf (.inr rfl) [] (objs':=[]) (new:=[]) rfl (by simp) (by simp) rfl (by trivial) rfl rfl (by trivial) (fun _=>⟨by simp [V.flat,V.qb2,V.qay,D.flat],qai⟩) ⟨rfl,rfl,rfl⟩
      · have hc58:=qdc hc58
        have h:=qci h hc58
        refine qav ?_
        refine qa5 ?_
        refine qa2 ?_
        refine qa0 hτ rfl rfl rfl ?_
        refine qa0 hτ rfl rfl rfl ?_
        refine qa0 hτ rfl rfl rfl ?_
        refine qa4 ?_
        refine qa5 ?_
        refine qa5 ?_
        refine qa9 (qa3 [] (l:=[(0,.d (.sl false (a_.map qa8))),(1,.d (.int .i64 (w64 ((w64 (v26 + (1:Int))) + (1:Int))))),(5,.d (.int .i64 v27))]) (objs:=[]) rfl (by simp) rfl (by trivial) ⟨rfl,trivial,rfl,trivial,rfl,trivial,trivial⟩) ?_
        refine qa2 ?_
        refine qa0 hτ rfl rfl rfl ?_
        refine qa0 hτ rfl rfl rfl ?_
        refine qdw hτ rfl rfl rfl (qbo hx50).1 (qcd hx50) rfl ?_
        refine qa0 hτ rfl rfl rfl ?_
        refine qa0 hτ rfl rfl rfl ?_
        refine qa0 hτ rfl rfl rfl ?_
        refine qa0 hτ rfl rfl rfl ?_
        refine qa0 hτ rfl rfl rfl ?_
        refine qab h fun x61 hx61 h=>?_
        refine qab h fun x62 hx62 h=>?_
        refine qha rfl rfl (qhw hτ rfl rfl rfl rfl rfl rfl hx61 hx62) ?_
        refine qa0 hτ rfl rfl rfl ?_
        refine qa4 ?_
        refine qa9 (qa3 [] (l:=[(0,.d (.sl false (a_.map qa8))),(1,.d (.int .i64 (w64 ((w64 (v26 + (1:Int))) + (1:Int))))),(5,.d (.int .i64 v27)),(45,.d (.bool (!(fcmp .eql .f32 x50.C.re x61 && fcmp .eql .f32 x50.C.im x62))))]) (objs:=[]) rfl (by simp) rfl (by trivial) ⟨rfl,trivial,rfl,trivial,rfl,trivial,rfl,trivial,trivial⟩) ?_
        refine qau rfl (fun hc63=>?_) (fun hc63=>?_)
        · have hc63:=qdd hc63
          have h:=qch h hc63
          refine qa5 ?_
          refine qa2 ?_
          refine qa0 hτ rfl rfl rfl ?_
          refine qa4 ?_
          refine qa9 (qa3 [] (l:=[(4,.d (.int .i64 (-1:Int)))]) (objs:=[]) rfl (by simp) rfl (by trivial) ⟨rfl,trivial,trivial⟩) ?_
          refine qas ?_
          have hr:=Option.some.inj h
          subst hr
          exact qaf (.inr rfl) [] (objs':=[]) (new:=[]) rfl (by simp) (by simp) rfl (by trivial) rfl rfl (by trivial) (fun _=>⟨by simp [V.flat,V.qb2,V.qay,D.flat],qai⟩) ⟨rfl,rfl,rfl⟩
        · have hc63:=qdc hc63
          have h:=qci h hc63
          refine qav ?_
          refine qa2 ?_
          refine qa0 hτ rfl rfl rfl ?_
          refine qa0 hτ rfl rfl rfl ?_
          refine qa0 hτ rfl rfl rfl ?_
          refine qa4 ?_
          refine qa2 ?_
          refine qa0 hτ rfl rfl rfl ?_
          refine qa0 hτ rfl rfl rfl ?_
          refine qa0 hτ rfl rfl rfl ?_
          refine qa4 ?_
          exact ⟨(m37,(w64 ((w64 ((w64 (v26 + (1:Int))) + (1:Int))) + (1:Int))),(w64 (v27 + (1:Int)))),h,Nat.lt_succ_self m37,(qa3 [] (l:=[(0,.d (.sl false (a_.map qa8))),(1,.d (.int .i64 (w64 ((w64 ((w64 (v26 + (1:Int))) + (1:Int))) + (1:Int))))),(5,.d (.int .i64 (w64 (v27 + (1:Int)))))]) (objs:=[]) rfl (by simp) rfl (by trivial) ⟨rfl,trivial,rfl,trivial,rfl,trivial,trivial⟩)⟩
  · have h:=if_f h hc39
    refine qdv ?_
    refine qa5 ?_
    refine qa2 ?_
    refine qa0 hτ rfl rfl rfl ?_
    refine qa0 hτ rfl rfl rfl ?_
    refine qa4 ?_
    refine qa9 (qa3 [] (l:=[(4,.d (.int .i64 v26))]) (objs:=[]) rfl (by simp) rfl (by trivial) ⟨rfl,trivial,trivial⟩) ?_
    refine qas ?_
    have hr:=Option.some.inj h
    subst hr
    exact qaf (.inr rfl) [] (objs':=[]) (new:=[]) rfl (by simp) (by simp) rfl (by trivial) rfl rfl (by trivial) (fun _=>⟨by simp [V.flat,V.qb2,V.qay,D.flat],qai⟩) ⟨rfl,rfl,rfl⟩
theorem qjl (n:Nat) (a_:List qaa) (k_:Int) {r:Int} (h:qd0 n a_ k_ = some r):qb5 prog false 95 [.d (.sl false (a_.map qa8)),.d (.int .i64 k_)] [] (fun v o new=>v = .d (.int .i64 r)∧o = []∧new = []):=laws_heldPhasesS_ok_fr0 false n a_ k_ h
def qcv (n:Nat) (a_:List qbb):Nat→Int→Int→Option Int
  | 0,_,_=>none
  | m21 + 1,v14,v15 =>
    if v15 < (a_.length:Int) then
      (getI a_ v15).bind fun x27 =>
      (qd0 n x27.qad v14).bind fun x28 =>
      if x28 < (0:Int) then
        some (-1:Int)
      else
        (qd0 n x27.qae x28).bind fun x30 =>
        if x30 < (0:Int) then
          some (-1:Int)
        else
          if x27.Rounds = x30 then
            if (x27.qcj == (decide (((w64 (x30 + (1:Int))).tmod (3:Int)) = (0:Int)))) = true then
              (qcv n a_ m21) (w64 ((w64 (x30 + (1:Int))) + (1:Int))) (w64 (v15 + (1:Int)))
            else
              some (-1:Int)
          else
            some (-1:Int)
    else
      some v14
def qgz (n:Nat) (a_:List qbb) (k_:Int):Option Int :=
  qcv n a_ n k_ (0:Int)
theorem laws_heldFlowS_ok_fr0 (fr:Bool) (n:Nat) (a_:List qbb) (k_:Int) {r:Int} (h:qgz n a_ k_ = some r):qb5 prog fr 47 [.d (.sl false (a_.map qbm)),.d (.int .i64 k_)] [] (fun v o new=>v = .d (.int .i64 r)∧o = []∧new = []):=by
  refine qar hτ func47 rfl (by simp) (by simp) ?_
  unfold qgz at h
  refine qa5 ?_
  refine qa2 ?_
  refine qa0 hτ rfl rfl rfl ?_
  refine qa4 ?_
  refine qa5 ?_
  refine qa5 ?_
  refine qa2 ?_
  refine qa0 hτ rfl rfl rfl ?_
  refine qa4 ?_
  refine qb6 ?_
  refine qe1 (ι:=Nat × Int × Int) (fun (m21,v14,v15)=>St.of [(0,.d (.sl false (a_.map qbm))),(1,.d (.int .i64 v14)),(5,.d (.int .i64 v15))] [] f47.ntmps 0) (fun (m21,v14,v15)=>qcv n a_ m21 v14 v15 = some r) (fun x=>x.1) (n,k_,(0:Int)) h (qa3 [] (l:=[(0,.d (.sl false (a_.map qbm))),(1,.d (.int .i64 k_)),(5,.d (.int .i64 (0:Int)))]) (objs:=[]) rfl (by simp) rfl (by trivial) ⟨rfl,trivial,rfl,trivial,rfl,trivial,trivial⟩) ?_
  rintro ⟨m21,v14,v15⟩ h
  replace h:qcv n a_ m21 v14 v15 = some r:=h
  rcases m21 with _ | m21
  · rw [qcv] at h;cases h
  rw [qcv] at h
  refine qa5 ?_
  refine qa5 ?_
  refine qa2 ?_
  refine qa0 hτ rfl rfl rfl ?_
  refine qa0 hτ rfl rfl rfl ?_
  refine qa0 hτ (v:=.d (.int .i64 (a_.length:Int))) rfl rfl (Eq.trans rfl (qfo (f:=qbm) a_)) ?_
  refine qa0 hτ rfl rfl rfl ?_
  refine qa4 ?_
  refine qau rfl (fun hc23=>?_) (fun hc23=>?_)
  · have h:=if_t h hc23
    refine qav ?_
    refine qa5 ?_
    refine qb6 ?_
    refine qa5 ?_
    refine qa2 ?_
    refine qa0 hτ rfl rfl rfl ?_
    refine qa0 hτ rfl rfl rfl ?_
    refine qab h fun x27 hx27 h=>?_
    refine qdw hτ rfl rfl rfl (qbo hx27).1 (qcd hx27) rfl ?_
    refine qa0 hτ rfl rfl rfl ?_
    refine qa0 hτ rfl rfl rfl ?_
    refine qa0 hτ rfl rfl rfl ?_
    refine qab h fun x28 hx28 h=>?_
    refine qam hτ false [] rfl rfl rfl (qap func95 rfl rfl) rfl rfl (by simp) ⟨trivial,trivial,trivial⟩ (by trivial) (qjl n x27.qad v14 hx28) ?_
    rintro r0 o0 n0 ⟨rfl,rfl,rfl⟩ -
    refine qa0 hτ rfl rfl rfl ?_
    refine qa4 ?_
    refine qa5 ?_
    refine qa5 ?_
    refine qa9 (qa3 [] (l:=[(0,.d (.sl false (a_.map qbm))),(1,.d (.int .i64 x28)),(5,.d (.int .i64 v15))]) (objs:=[]) rfl (by simp) rfl (by trivial) ⟨rfl,trivial,rfl,trivial,rfl,trivial,trivial⟩) ?_
    refine qa2 ?_
    refine qa0 hτ rfl rfl rfl ?_
    refine qa0 hτ rfl rfl rfl ?_
    refine qa4 ?_
    refine qau rfl (fun hc29=>?_) (fun hc29=>?_)
    · have h:=if_t h hc29
      refine qa5 ?_
      refine qa2 ?_
      refine qa0 hτ rfl rfl rfl ?_
      refine qa4 ?_
      refine qa9 (qa3 [] (l:=[(4,.d (.int .i64 (-1:Int)))]) (objs:=[]) rfl (by simp) rfl (by trivial) ⟨rfl,trivial,trivial⟩) ?_
      refine qas ?_
      have hr:=Option.some.inj h
      subst hr
      exact qaf (.inr rfl) [] (objs':=[]) (new:=[]) rfl (by simp) (by simp) rfl (by trivial) rfl rfl (by trivial) (fun _=>⟨by simp [V.flat,V.qb2,V.qay,D.flat],qai⟩) ⟨rfl,rfl,rfl⟩
    · have h:=if_f h hc29
      refine qav ?_
      refine qa5 ?_
      refine qa2 ?_
      refine qa0 hτ rfl rfl rfl ?_
      refine qa0 hτ rfl rfl rfl ?_
      refine qdw hτ rfl rfl rfl (qbo hx27).1 (qcd hx27) rfl ?_
      refine qa0 hτ rfl rfl rfl ?_
      refine qa0 hτ rfl rfl rfl ?_
      refine qa0 hτ rfl rfl rfl ?_
      refine qab h fun x30 hx30 h=>?_
      refine qam hτ false [] rfl rfl rfl (qap func95 rfl rfl) rfl rfl (by simp) ⟨trivial,trivial,trivial⟩ (by trivial) (qjl n x27.qae x28 hx30) ?_
      rintro r0 o0 n0 ⟨rfl,rfl,rfl⟩ -
      refine qa0 hτ rfl rfl rfl ?_
      refine qa4 ?_
      refine qa5 ?_
      refine qa5 ?_
      refine qa9 (qa3 [] (l:=[(0,.d (.sl false (a_.map qbm))),(1,.d (.int .i64 x30)),(5,.d (.int .i64 v15))]) (objs:=[]) rfl (by simp) rfl (by trivial) ⟨rfl,trivial,rfl,trivial,rfl,trivial,trivial⟩) ?_
      refine qa2 ?_
      refine qa0 hτ rfl rfl rfl ?_
      refine qa0 hτ rfl rfl rfl ?_
      refine qa4 ?_
      refine qau rfl (fun hc31=>?_) (fun hc31=>?_)
      · have h:=if_t h hc31
        refine qa5 ?_
        refine qa2 ?_
        refine qa0 hτ rfl rfl rfl ?_
        refine qa4 ?_
        refine qa9 (qa3 [] (l:=[(4,.d (.int .i64 (-1:Int)))]) (objs:=[]) rfl (by simp) rfl (by trivial) ⟨rfl,trivial,trivial⟩) ?_
        refine qas ?_
        have hr:=Option.some.inj h
        subst hr
        exact qaf (.inr rfl) [] (objs':=[]) (new:=[]) rfl (by simp) (by simp) rfl (by trivial) rfl rfl (by trivial) (fun _=>⟨by simp [V.flat,V.qb2,V.qay,D.flat],qai⟩) ⟨rfl,rfl,rfl⟩
      · have h:=if_f h hc31
        refine qav ?_
        refine qa5 ?_
        refine qa5 ?_
        refine qa2 ?_
        refine qa0 hτ rfl rfl rfl ?_
        refine qa0 hτ rfl rfl rfl ?_
        refine qdw hτ rfl rfl rfl (qbo hx27).1 (qcd hx27) rfl ?_
        refine qa0 hτ rfl rfl rfl ?_
        refine qa0 hτ rfl rfl rfl ?_
        refine qa0 hτ rfl rfl rfl ?_
        refine qa0 hτ (v:=.d (.bool (!(decide (x27.Rounds = x30))))) rfl rfl (qhx _ _) ?_
        refine qa4 ?_
        refine qa9 (qa3 [] (l:=[(0,.d (.sl false (a_.map qbm))),(1,.d (.int .i64 x30)),(5,.d (.int .i64 v15)),(36,.d (.bool (!(decide (x27.Rounds = x30)))))]) (objs:=[]) rfl (by simp) rfl (by trivial) ⟨rfl,trivial,rfl,trivial,rfl,trivial,rfl,trivial,trivial⟩) ?_
        refine qau rfl (fun hc32=>?_) (fun hc32=>?_)
        · have hc32:=qdd hc32
          have h:=if_f h hc32
          refine qa5 ?_
          refine qa2 ?_
          refine qa0 hτ rfl rfl rfl ?_
          refine qa4 ?_
          refine qa9 (qa3 [] (l:=[(4,.d (.int .i64 (-1:Int)))]) (objs:=[]) rfl (by simp) rfl (by trivial) ⟨rfl,trivial,trivial⟩) ?_
          refine qas ?_
          have hr:=Option.some.inj h
          subst hr
          exact qaf (.inr rfl) [] (objs':=[]) (new:=[]) rfl (by simp) (by simp) rfl (by trivial) rfl rfl (by trivial) (fun _=>⟨by simp [V.flat,V.qb2,V.qay,D.flat],qai⟩) ⟨rfl,rfl,rfl⟩
        · have hc32:=qdc hc32
          have h:=if_t h hc32
          refine qav ?_
          refine qa5 ?_
          refine qa2 ?_
          refine qa0 hτ rfl rfl rfl ?_
          refine qa0 hτ rfl rfl rfl ?_
          refine qa0 hτ rfl rfl rfl ?_
          refine qa4 ?_
          refine qa5 ?_
          refine qa5 ?_
          refine qa2 ?_
          refine qa0 hτ rfl rfl rfl ?_
          refine qa0 hτ rfl rfl rfl ?_
          refine qdw hτ rfl rfl rfl (qbo hx27).1 (qcd hx27) rfl ?_
          refine qa0 hτ rfl rfl rfl ?_
          refine qa0 hτ rfl rfl rfl ?_
          refine qa0 hτ rfl rfl rfl ?_
          refine qbd hτ rfl rfl rfl (by decide) ?_
          refine qa0 hτ (v:=.d (.bool (decide (((w64 (x30 + (1:Int))).tmod (3:Int)) = (0:Int))))) rfl rfl (qom _ _) ?_
          refine qa0 hτ rfl rfl rfl ?_
          refine qa4 ?_
          refine qa9 (qa3 [] (l:=[(0,.d (.sl false (a_.map qbm))),(1,.d (.int .i64 (w64 (x30 + (1:Int))))),(5,.d (.int .i64 v15)),(47,.d (.bool (!(x27.qcj == (decide (((w64 (x30 + (1:Int))).tmod (3:Int)) = (0:Int)))))))]) (objs:=[]) rfl (by simp) rfl (by trivial) ⟨rfl,trivial,rfl,trivial,rfl,trivial,rfl,trivial,trivial⟩) ?_
          refine qau rfl (fun hc33=>?_) (fun hc33=>?_)
          · have hc33:=qdd hc33
            have h:=qch h hc33
            refine qa5 ?_
            refine qa2 ?_
            refine qa0 hτ rfl rfl rfl ?_
            refine qa4 ?_
            refine qa9 (qa3 [] (l:=[(4,.d (.int .i64 (-1:Int)))]) (objs:=[]) rfl (by simp) rfl (by trivial) ⟨rfl,trivial,trivial⟩) ?_
            refine qas ?_
            have hr:=Option.some.inj h
            subst hr
            exact qaf (.inr rfl) [] (objs':=[]) (new:=[]) rfl (by simp) (by simp) rfl (by trivial) rfl rfl (by trivial) (fun _=>⟨by simp [V.flat,V.qb2,V.qay,D.flat],qai⟩) ⟨rfl,rfl,rfl⟩
          · have hc33:=qdc hc33
            have h:=qci h hc33
            refine qav ?_
            refine qa2 ?_
            refine qa0 hτ rfl rfl rfl ?_
            refine qa0 hτ rfl rfl rfl ?_
            refine qa0 hτ rfl rfl rfl ?_
            refine qa4 ?_
            refine qa2 ?_
            refine qa0 hτ rfl rfl rfl ?_
            refine qa0 hτ rfl rfl rfl ?_
            refine qa0 hτ rfl rfl rfl ?_
            refine qa4 ?_
            exact ⟨(m21,(w64 ((w64 (x30 + (1:Int))) + (1:Int))),(w64 (v15 + (1:Int)))),h,Nat.lt_succ_self m21,(qa3 [] (l:=[(0,.d (.sl false (a_.map qbm))),(1,.d (.int .i64 (w64 ((w64 (x30 + (1:Int))) + (1:Int))))),(5,.d (.int .i64 (w64 (v15 + (1:Int)))))]) (objs:=[]) rfl (by simp) rfl (by trivial) ⟨rfl,trivial,rfl,trivial,rfl,trivial,trivial⟩)⟩
  · have h:=if_f h hc23
    refine qdv ?_
    refine qa5 ?_
    refine qa2 ?_
    refine qa0 hτ rfl rfl rfl ?_
    refine qa0 hτ rfl rfl rfl ?_
    refine qa4 ?_
    refine qa9 (qa3 [] (l:=[(4,.d (.int .i64 v14))]) (objs:=[]) rfl (by simp) rfl (by trivial) ⟨rfl,trivial,trivial⟩) ?_
    refine qas ?_
    have hr:=Option.some.inj h
    subst hr
    exact qaf (.inr rfl) [] (objs':=[]) (new:=[]) rfl (by simp) (by simp) rfl (by trivial) rfl rfl (by trivial) (fun _=>⟨by simp [V.flat,V.qb2,V.qay,D.flat],qai⟩) ⟨rfl,rfl,rfl⟩
theorem laws_heldFlowS_ok (n:Nat) (a_:List qbb) (k_:Int) {r:Int} (h:qgz n a_ k_ = some r):qb5 prog false 47 [.d (.sl false (a_.map qbm)),.d (.int .i64 k_)] [] (fun v o new=>v = .d (.int .i64 r)∧o = []∧new = []):=laws_heldFlowS_ok_fr0 false n a_ k_ h
def qeu (n:Nat) (a_:qc7) (k_:Int):Option Int :=
  (qf6 n a_.Grid k_).bind fun x3 =>
  if x3 < (0:Int) then
    some (-1:Int)
  else
    (qgz n a_.qce x3).bind fun x5 =>
    if x5 < (0:Int) then
      some (-1:Int)
    else
      some x5
theorem laws_heldRecord_ok_fr0 (fr:Bool) (n:Nat) (a_:qc7) (k_:Int) {r:Int} (h:qeu n a_ k_ = some r):qb5 prog fr 16 [.agg [.d (.cx .f32 a_.Grid.qa1.Source.A.re a_.Grid.qa1.Source.A.im),.d (.cx .f32 a_.Grid.qa1.Source.B.re a_.Grid.qa1.Source.B.im),.d (.cx .f32 a_.Grid.qa1.Source.C.re a_.Grid.qa1.Source.C.im),.d (.sl false (a_.Grid.qa1.qac.map qah)),.d (.sl false (a_.Grid.Ties.map qan)),.d (.sl false (a_.qce.map qbm))],.d (.int .i64 k_)] [] (fun v o new=>v = .d (.int .i64 r)∧o = []∧new = []):=by
  refine qar hτ func16 rfl (by simp) (by simp) ?_
  unfold qeu at h
  refine qa5 ?_
  refine qa2 ?_
  refine qaq hτ rfl rfl rfl ?_
  refine qa0 hτ rfl rfl rfl ?_
  refine qa4 ?_
  refine qa5 ?_
  refine qa2 ?_
  refine qa0 hτ rfl rfl rfl ?_
  refine qa0 hτ rfl rfl rfl ?_
  refine qa0 hτ rfl rfl rfl ?_
  refine qab h fun x3 hx3 h=>?_
  refine qam hτ false [] rfl rfl rfl (qap func11 rfl rfl) rfl rfl (by simp) ⟨(by trivial),trivial,trivial⟩ (by trivial) (laws_heldGrid_ok n a_.Grid k_ hx3) ?_
  rintro r0 o0 n0 ⟨rfl,rfl,rfl⟩ -
  refine qa0 hτ rfl rfl rfl ?_
  refine qa4 ?_
  refine qa5 ?_
  refine qa5 ?_
  refine qa9 (qa3 [0] (l:=[(1,.d (.int .i64 x3)),(2,.ptr 0 0)]) (objs:=[.box [.d (.cx .f32 a_.Grid.qa1.Source.A.re a_.Grid.qa1.Source.A.im),.d (.cx .f32 a_.Grid.qa1.Source.B.re a_.Grid.qa1.Source.B.im),.d (.cx .f32 a_.Grid.qa1.Source.C.re a_.Grid.qa1.Source.C.im),.d (.sl false (a_.Grid.qa1.qac.map qah)),.d (.sl false (a_.Grid.Ties.map qan)),.d (.sl false (a_.qce.map qbm))]]) rfl (by simp) rfl (by trivial) ⟨rfl,trivial,rfl,trivial,trivial⟩) ?_
  refine qa2 ?_
  refine qa0 hτ rfl rfl rfl ?_
  refine qa0 hτ rfl rfl rfl ?_
  refine qa4 ?_
  refine qau rfl (fun hc4=>?_) (fun hc4=>?_)
  · have h:=if_t h hc4
    refine qa5 ?_
    refine qa2 ?_
    refine qa0 hτ rfl rfl rfl ?_
    refine qa4 ?_
    refine qa9 (qa3 [] (l:=[(4,.d (.int .i64 (-1:Int)))]) (objs:=[]) rfl (by simp) rfl (by trivial) ⟨rfl,trivial,trivial⟩) ?_
    refine qas ?_
    have hr:=Option.some.inj h
    subst hr
    exact qaf (.inr rfl) [] (objs':=[]) (new:=[]) rfl (by simp) (by simp) rfl (by trivial) rfl rfl (by trivial) (fun _=>⟨by simp [V.flat,V.qb2,V.qay,D.flat],qai⟩) ⟨rfl,rfl,rfl⟩
  · have h:=if_f h hc4
    refine qav ?_
    refine qa5 ?_
    refine qa2 ?_
    refine qa0 hτ rfl rfl rfl ?_
    refine qa0 hτ rfl rfl rfl ?_
    refine qa0 hτ rfl rfl rfl ?_
    refine qab h fun x5 hx5 h=>?_
    refine qam hτ false [] rfl rfl rfl (qap func47 rfl rfl) rfl rfl (by simp) ⟨trivial,trivial,trivial⟩ (by trivial) (laws_heldFlowS_ok n a_.qce x3 hx5) ?_
    rintro r0 o0 n0 ⟨rfl,rfl,rfl⟩ -
    refine qa0 hτ rfl rfl rfl ?_
    refine qa4 ?_
    refine qa5 ?_
    refine qa5 ?_
    refine qa9 (qa3 [] (l:=[(1,.d (.int .i64 x5))]) (objs:=[]) rfl (by simp) rfl (by trivial) ⟨rfl,trivial,trivial⟩) ?_
    refine qa2 ?_
    refine qa0 hτ rfl rfl rfl ?_
    refine qa0 hτ rfl rfl rfl ?_
    refine qa4 ?_
    refine qau rfl (fun hc6=>?_) (fun hc6=>?_)
    · have h:=if_t h hc6
      refine qa5 ?_
      refine qa2 ?_
      refine qa0 hτ rfl rfl rfl ?_
      refine qa4 ?_
      refine qa9 (qa3 [] (l:=[(4,.d (.int .i64 (-1:Int)))]) (objs:=[]) rfl (by simp) rfl (by trivial) ⟨rfl,trivial,trivial⟩) ?_
      refine qas ?_
      have hr:=Option.some.inj h
      subst hr
      exact qaf (.inr rfl) [] (objs':=[]) (new:=[]) rfl (by simp) (by simp) rfl (by trivial) rfl rfl (by trivial) (fun _=>⟨by simp [V.flat,V.qb2,V.qay,D.flat],qai⟩) ⟨rfl,rfl,rfl⟩
    · have h:=if_f h hc6
      refine qav ?_
      refine qa5 ?_
      refine qa2 ?_
      refine qa0 hτ rfl rfl rfl ?_
      refine qa0 hτ rfl rfl rfl ?_
      refine qa4 ?_
      refine qa9 (qa3 [] (l:=[(4,.d (.int .i64 x5))]) (objs:=[]) rfl (by simp) rfl (by trivial) ⟨rfl,trivial,trivial⟩) ?_
      refine qas ?_
      have hr:=Option.some.inj h
      subst hr
      exact qaf (.inr rfl) [] (objs':=[]) (new:=[]) rfl (by simp) (by simp) rfl (by trivial) rfl rfl (by trivial) (fun _=>⟨by simp [V.flat,V.qb2,V.qay,D.flat],qai⟩) ⟨rfl,rfl,rfl⟩
theorem laws_heldRecord_ok (n:Nat) (a_:qc7) (k_:Int) {r:Int} (h:qeu n a_ k_ = some r):qb5 prog false 16 [.agg [.d (.cx .f32 a_.Grid.qa1.Source.A.re a_.Grid.qa1.Source.A.im),.d (.cx .f32 a_.Grid.qa1.Source.B.re a_.Grid.qa1.Source.B.im),.d (.cx .f32 a_.Grid.qa1.Source.C.re a_.Grid.qa1.Source.C.im),.d (.sl false (a_.Grid.qa1.qac.map qah)),.d (.sl false (a_.Grid.Ties.map qan)),.d (.sl false (a_.qce.map qbm))],.d (.int .i64 k_)] [] (fun v o new=>v = .d (.int .i64 r)∧o = []∧new = []):=laws_heldRecord_ok_fr0 false n a_ k_ h
def qcr (n:Nat):Nat→List qaa→Int→Int→Option (Int × List qaa)
  | 0,_,_,_=>none
  | m49 + 1,v34,v35,v36 =>
    if v36 < (v34.length:Int) then
      (qcf .f64 .f32 (FloatKind.nearest .f64 v35)).bind fun x52 =>
      (qcf .f64 .f32 (4607182418800017408:Nat)).bind fun x53 =>
      (getI v34 v36).bind fun x54 =>
      (qcf .f64 .f32 (FloatKind.nearest .f64 (w64 (v35 + (1:Int))))).bind fun x55 =>
      (qcf .f64 .f32 (4607182418800017408:Nat)).bind fun x56 =>
      (getI (v34.set v36.toNat (qaa.mk (Cx.mk x52 x53) x54.B x54.C)) v36).bind fun x57 =>
      (qcf .f64 .f32 (FloatKind.nearest .f64 (w64 ((w64 (v35 + (1:Int))) + (1:Int))))).bind fun x58 =>
      (qcf .f64 .f32 (4607182418800017408:Nat)).bind fun x59 =>
      (getI ((v34.set v36.toNat (qaa.mk (Cx.mk x52 x53) x54.B x54.C)).set v36.toNat (qaa.mk x57.A (Cx.mk x55 x56) x57.C)) v36).bind fun x60 =>
      (qcr n m49) (((v34.set v36.toNat (qaa.mk (Cx.mk x52 x53) x54.B x54.C)).set v36.toNat (qaa.mk x57.A (Cx.mk x55 x56) x57.C)).set v36.toNat (qaa.mk x60.A x60.B (Cx.mk x58 x59))) (w64 ((w64 ((w64 (v35 + (1:Int))) + (1:Int))) + (1:Int))) (w64 (v36 + (1:Int)))
    else
      some (v35,v34)
def qby (n:Nat) (a_:List qaa) (k_:Int):Option (Int × List qaa) :=
  qcr n n a_ k_ (0:Int)
theorem laws_markPhasesS_ok_fr0 (fr:Bool) (n:Nat) (a_:List qaa) (k_:Int) {r:Int × List qaa} (h:qby n a_ k_ = some r):qb5 prog fr 94 [.row 0 a_.length 0 a_.length,.d (.int .i64 k_)] [.row 3 (a_.map qa8)] (fun v o new=>v = .d (.int .i64 r.1)∧o = [.row 3 (r.2.map qa8)]∧new = []):=by
  refine qar hτ func94 rfl (by simp) (by simp) ?_
  unfold qby at h
  refine qa5 ?_
  refine qa2 ?_
  refine qa0 hτ rfl rfl rfl ?_
  refine qa4 ?_
  refine qa5 ?_
  refine qa5 ?_
  refine qa2 ?_
  refine qa0 hτ rfl rfl rfl ?_
  refine qa4 ?_
  refine qb6 ?_
  refine qe1 (ι:=Nat × List qaa × Int × Int) (fun (m49,v34,v35,v36)=>St.of [(0,.row 0 v34.length 0 v34.length),(1,.d (.int .i64 v35)),(5,.d (.int .i64 v36))] [.row 3 (v34.map qa8)] f94.ntmps 1) (fun (m49,v34,v35,v36)=>qcr n m49 v34 v35 v36 = some r) (fun x=>x.1) (n,a_,k_,(0:Int)) h (qa3 [0] (l:=[(0,.row 0 a_.length 0 a_.length),(1,.d (.int .i64 k_)),(5,.d (.int .i64 (0:Int)))]) (objs:=[.row 3 (a_.map qa8)]) rfl (by simp) rfl (by trivial) ⟨rfl,trivial,rfl,trivial,rfl,trivial,trivial⟩) ?_
  rintro ⟨m49,v34,v35,v36⟩ h
  replace h:qcr n m49 v34 v35 v36 = some r:=h
  rcases m49 with _ | m49
  · rw [qcr] at h;cases h
  rw [qcr] at h
  refine qa5 ?_
  refine qa5 ?_
  refine qa2 ?_
  refine qa0 hτ rfl rfl rfl ?_
  refine qa0 hτ rfl rfl rfl ?_
  refine qbd hτ rfl rfl rfl (qc8 _) ?_
  refine qa0 hτ rfl rfl rfl ?_
  refine qa4 ?_
  refine qau rfl (fun hc51=>?_) (fun hc51=>?_)
  · have h:=if_t h hc51
    refine qav ?_
    refine qa5 ?_
    refine qb6 ?_
    refine qa5 ?_
    refine qa2 ?_
    refine qa0 hτ rfl rfl rfl ?_
    refine qa0 hτ rfl rfl rfl ?_
    refine qa0 hτ rfl rfl rfl ?_
    refine qa0 hτ rfl rfl rfl ?_
    refine qa0 hτ rfl rfl rfl ?_
    refine qab h fun x52 hx52 h=>?_
    refine qab h fun x53 hx53 h=>?_
    refine qha rfl rfl (qhw hτ rfl rfl rfl rfl rfl rfl hx52 hx53) ?_
    refine qab h fun x54 hx54 h=>?_
    refine qbd hτ rfl rfl rfl (qgo hx54) ?_
    refine qbd hτ rfl rfl rfl (qc8 _) ?_
    refine qbn (qa3 [0] (l:=[(0,.row 0 v34.length 0 v34.length),(1,.d (.int .i64 v35)),(5,.d (.int .i64 v36)),(17,.d (.cx .f32 x52 x53)),(19,.eptr 0 v34.length (0 + v36.toNat) 0)]) (objs:=[.row 3 (v34.map qa8)]) rfl (by simp) rfl (by trivial) ⟨rfl,trivial,rfl,trivial,rfl,trivial,rfl,trivial,rfl,trivial,trivial⟩) ?_
    refine qfe hτ rfl rfl rfl (qc8 _) (qh7 hx54) (qi0 (f:=qa8) (l:=v34) (i:=v36) (y:=(qaa.mk (Cx.mk x52 x53) x54.B x54.C)) rfl) ?_
    refine qa4 ?_
    refine qa5 ?_
    refine qa2 ?_
    refine qa0 hτ rfl rfl rfl ?_
    refine qa0 hτ rfl rfl rfl ?_
    refine qa0 hτ rfl rfl rfl ?_
    refine qa4 ?_
    refine qa5 ?_
    refine qa2 ?_
    refine qa0 hτ rfl rfl rfl ?_
    refine qa0 hτ rfl rfl rfl ?_
    refine qa0 hτ rfl rfl rfl ?_
    refine qa0 hτ rfl rfl rfl ?_
    refine qa0 hτ rfl rfl rfl ?_
    refine qab h fun x55 hx55 h=>?_
    refine qab h fun x56 hx56 h=>?_
    refine qha rfl rfl (qhw hτ rfl rfl rfl rfl rfl rfl hx55 hx56) ?_
    refine qab h fun x57 hx57 h=>?_
    refine qbd hτ rfl rfl rfl (qlq hx57 (by simp)) ?_
    refine qbd hτ rfl rfl rfl (by simp) ?_
    refine qbn (qa3 [0] (l:=[(0,.row 0 ((v34.set v36.toNat (qaa.mk (Cx.mk x52 x53) x54.B x54.C)).length) 0 ((v34.set v36.toNat (qaa.mk (Cx.mk x52 x53) x54.B x54.C)).length)),(1,.d (.int .i64 (w64 (v35 + (1:Int))))),(5,.d (.int .i64 v36)),(27,.d (.cx .f32 x55 x56)),(29,.eptr 0 v34.length (0 + v36.toNat) 1)]) (objs:=[.row 3 ((v34.set v36.toNat (qaa.mk (Cx.mk x52 x53) x54.B x54.C)).map qa8)]) rfl (by simp) rfl (by trivial) ⟨(qgn rfl (by simp)),trivial,rfl,trivial,rfl,trivial,rfl,trivial,rfl,trivial,trivial⟩) ?_
    refine qfe hτ rfl rfl rfl (by simp) (qh7 hx57) (qi0 (f:=qa8) (l:=(v34.set v36.toNat (qaa.mk (Cx.mk x52 x53) x54.B x54.C))) (i:=v36) (y:=(qaa.mk x57.A (Cx.mk x55 x56) x57.C)) rfl) ?_
    refine qa4 ?_
    refine qa5 ?_
    refine qa2 ?_
    refine qa0 hτ rfl rfl rfl ?_
    refine qa0 hτ rfl rfl rfl ?_
    refine qa0 hτ rfl rfl rfl ?_
    refine qa4 ?_
    refine qa5 ?_
    refine qa2 ?_
    refine qa0 hτ rfl rfl rfl ?_
    refine qa0 hτ rfl rfl rfl ?_
    refine qa0 hτ rfl rfl rfl ?_
    refine qa0 hτ rfl rfl rfl ?_
    refine qa0 hτ rfl rfl rfl ?_
    refine qab h fun x58 hx58 h=>?_
    refine qab h fun x59 hx59 h=>?_
    refine qha rfl rfl (qhw hτ rfl rfl rfl rfl rfl rfl hx58 hx59) ?_
    refine qab h fun x60 hx60 h=>?_
    refine qbd hτ rfl rfl rfl (qlq hx60 (by simp)) ?_
    refine qbd hτ rfl rfl rfl (by simp) ?_
    refine qbn (qa3 [0] (l:=[(0,.row 0 (((v34.set v36.toNat (qaa.mk (Cx.mk x52 x53) x54.B x54.C)).set v36.toNat (qaa.mk x57.A (Cx.mk x55 x56) x57.C)).length) 0 (((v34.set v36.toNat (qaa.mk (Cx.mk x52 x53) x54.B x54.C)).set v36.toNat (qaa.mk x57.A (Cx.mk x55 x56) x57.C)).length)),(1,.d (.int .i64 (w64 ((w64 (v35 + (1:Int))) + (1:Int))))),(5,.d (.int .i64 v36)),(37,.d (.cx .f32 x58 x59)),(39,.eptr 0 ((v34.set v36.toNat (qaa.mk (Cx.mk x52 x53) x54.B x54.C)).length) (0 + v36.toNat) 2)]) (objs:=[.row 3 (((v34.set v36.toNat (qaa.mk (Cx.mk x52 x53) x54.B x54.C)).set v36.toNat (qaa.mk x57.A (Cx.mk x55 x56) x57.C)).map qa8)]) rfl (by simp) rfl (by trivial) ⟨(qgn rfl (by simp)),trivial,rfl,trivial,rfl,trivial,rfl,trivial,rfl,trivial,trivial⟩) ?_
    refine qfe hτ rfl rfl rfl (by simp) (qh7 hx60) (qi0 (f:=qa8) (l:=((v34.set v36.toNat (qaa.mk (Cx.mk x52 x53) x54.B x54.C)).set v36.toNat (qaa.mk x57.A (Cx.mk x55 x56) x57.C))) (i:=v36) (y:=(qaa.mk x60.A x60.B (Cx.mk x58 x59))) rfl) ?_
    refine qa4 ?_
    refine qa2 ?_
    refine qa0 hτ rfl rfl rfl ?_
    refine qa0 hτ rfl rfl rfl ?_
    refine qa0 hτ rfl rfl rfl ?_
    refine qa4 ?_
    refine qa2 ?_
    refine qa0 hτ rfl rfl rfl ?_
    refine qa0 hτ rfl rfl rfl ?_
    refine qa0 hτ rfl rfl rfl ?_
    refine qa4 ?_
    exact ⟨(m49,(((v34.set v36.toNat (qaa.mk (Cx.mk x52 x53) x54.B x54.C)).set v36.toNat (qaa.mk x57.A (Cx.mk x55 x56) x57.C)).set v36.toNat (qaa.mk x60.A x60.B (Cx.mk x58 x59))),(w64 ((w64 ((w64 (v35 + (1:Int))) + (1:Int))) + (1:Int))),(w64 (v36 + (1:Int)))),h,Nat.lt_succ_self m49,(qa3 [0] (l:=[(0,.row 0 ((((v34.set v36.toNat (qaa.mk (Cx.mk x52 x53) x54.B x54.C)).set v36.toNat (qaa.mk x57.A (Cx.mk x55 x56) x57.C)).set v36.toNat (qaa.mk x60.A x60.B (Cx.mk x58 x59))).length) 0 ((((v34.set v36.toNat (qaa.mk (Cx.mk x52 x53) x54.B x54.C)).set v36.toNat (qaa.mk x57.A (Cx.mk x55 x56) x57.C)).set v36.toNat (qaa.mk x60.A x60.B (Cx.mk x58 x59))).length)),(1,.d (.int .i64 (w64 ((w64 ((w64 (v35 + (1:Int))) + (1:Int))) + (1:Int))))),(5,.d (.int .i64 (w64 (v36 + (1:Int)))))]) (objs:=[.row 3 ((((v34.set v36.toNat (qaa.mk (Cx.mk x52 x53) x54.B x54.C)).set v36.toNat (qaa.mk x57.A (Cx.mk x55 x56) x57.C)).set v36.toNat (qaa.mk x60.A x60.B (Cx.mk x58 x59))).map qa8)]) rfl (by simp) rfl (by trivial) ⟨(qgn rfl (by simp)),trivial,rfl,trivial,rfl,trivial,trivial⟩)⟩
  · have h:=if_f h hc51
    refine qdv ?_
    refine qa5 ?_
    refine qa2 ?_
    refine qa0 hτ rfl rfl rfl ?_
    refine qa0 hτ rfl rfl rfl ?_
    refine qa4 ?_
    refine qa9 (qa3 [0] (l:=[(4,.d (.int .i64 v35))]) (objs:=[.row 3 (v34.map qa8)]) rfl (by simp) rfl (by trivial) ⟨rfl,trivial,trivial⟩) ?_
    refine qas ?_
    have hr:=Option.some.inj h
    subst hr
    exact qaf (.inr rfl) [] (objs':=[.row 3 (v34.map qa8)]) (new:=[]) rfl (by simp) (by simp) rfl (by trivial) rfl rfl (by trivial) (fun _=>⟨by simp [V.flat,V.qb2,V.qay,D.flat],(qb8 (qd2 qca _) qai)⟩) ⟨rfl,rfl,rfl⟩
theorem laws_markPhasesS_ok_fr (n:Nat) (a_:List qaa) (k_:Int) {r:Int × List qaa} (h:qby n a_ k_ = some r):qb5 prog true 94 [.row 0 a_.length 0 a_.length,.d (.int .i64 k_)] [.row 3 (a_.map qa8)] (fun v o new=>v = .d (.int .i64 r.1)∧o = [.row 3 (r.2.map qa8)]∧new = []):=laws_markPhasesS_ok_fr0 true n a_ k_ h
def qdm (n:Nat):Nat→List SBus→Int→Int→Option (Int × List SBus)
  | 0,_,_,_=>none
  | m85 + 1,v61,v62,v63 =>
    if v63 < (v61.length:Int) then
      (getI v61 v63).bind fun x88 =>
      (qcf .f64 .f32 (FloatKind.nearest .f64 (w64 (v62 + (1:Int))))).bind fun x89 =>
      (qcf .f64 .f32 (4607182418800017408:Nat)).bind fun x90 =>
      (getI (v61.set v63.toNat (SBus.mk v62 x88.Own x88.Shared x88.Kind x88.Load x88.qa6)) v63).bind fun x91 =>
      (qcf .f64 .f32 (FloatKind.nearest .f64 (w64 ((w64 (v62 + (1:Int))) + (1:Int))))).bind fun x92 =>
      (qcf .f64 .f32 (4607182418800017408:Nat)).bind fun x93 =>
      (getI ((v61.set v63.toNat (SBus.mk v62 x88.Own x88.Shared x88.Kind x88.Load x88.qa6)).set v63.toNat (SBus.mk x91.qag (Cx.mk x89 x90) x91.Shared x91.Kind x91.Load x91.qa6)) v63).bind fun x94 =>
      (getI (((v61.set v63.toNat (SBus.mk v62 x88.Own x88.Shared x88.Kind x88.Load x88.qa6)).set v63.toNat (SBus.mk x91.qag (Cx.mk x89 x90) x91.Shared x91.Kind x91.Load x91.qa6)).set v63.toNat (SBus.mk x94.qag x94.Own (Cx.mk x92 x93) x94.Kind x94.Load x94.qa6)) v63).bind fun x95 =>
      (qcf .f64 .f32 (FloatKind.nearest .f64 (w64 ((w64 ((w64 ((w64 (v62 + (1:Int))) + (1:Int))) + (1:Int))) + (1:Int))))).bind fun x96 =>
      (qcf .f64 .f32 (4607182418800017408:Nat)).bind fun x97 =>
      (getI ((((v61.set v63.toNat (SBus.mk v62 x88.Own x88.Shared x88.Kind x88.Load x88.qa6)).set v63.toNat (SBus.mk x91.qag (Cx.mk x89 x90) x91.Shared x91.Kind x91.Load x91.qa6)).set v63.toNat (SBus.mk x94.qag x94.Own (Cx.mk x92 x93) x94.Kind x94.Load x94.qa6)).set v63.toNat (SBus.mk x95.qag x95.Own x95.Shared (w64 ((w64 ((w64 (v62 + (1:Int))) + (1:Int))) + (1:Int))) x95.Load x95.qa6)) v63).bind fun x98 =>
      (qcf .f64 .f32 (FloatKind.nearest .f64 (w64 ((w64 ((w64 ((w64 ((w64 (v62 + (1:Int))) + (1:Int))) + (1:Int))) + (1:Int))) + (1:Int))))).bind fun x99 =>
      (qcf .f64 .f32 (4607182418800017408:Nat)).bind fun x100 =>
      (getI (((((v61.set v63.toNat (SBus.mk v62 x88.Own x88.Shared x88.Kind x88.Load x88.qa6)).set v63.toNat (SBus.mk x91.qag (Cx.mk x89 x90) x91.Shared x91.Kind x91.Load x91.qa6)).set v63.toNat (SBus.mk x94.qag x94.Own (Cx.mk x92 x93) x94.Kind x94.Load x94.qa6)).set v63.toNat (SBus.mk x95.qag x95.Own x95.Shared (w64 ((w64 ((w64 (v62 + (1:Int))) + (1:Int))) + (1:Int))) x95.Load x95.qa6)).set v63.toNat (SBus.mk x98.qag x98.Own x98.Shared x98.Kind (qaa.mk (Cx.mk x96 x97) x98.Load.B x98.Load.C) x98.qa6)) v63).bind fun x101 =>
      (qcf .f64 .f32 (FloatKind.nearest .f64 (w64 ((w64 ((w64 ((w64 ((w64 ((w64 (v62 + (1:Int))) + (1:Int))) + (1:Int))) + (1:Int))) + (1:Int))) + (1:Int))))).bind fun x102 =>
      (qcf .f64 .f32 (4607182418800017408:Nat)).bind fun x103 =>
      (getI ((((((v61.set v63.toNat (SBus.mk v62 x88.Own x88.Shared x88.Kind x88.Load x88.qa6)).set v63.toNat (SBus.mk x91.qag (Cx.mk x89 x90) x91.Shared x91.Kind x91.Load x91.qa6)).set v63.toNat (SBus.mk x94.qag x94.Own (Cx.mk x92 x93) x94.Kind x94.Load x94.qa6)).set v63.toNat (SBus.mk x95.qag x95.Own x95.Shared (w64 ((w64 ((w64 (v62 + (1:Int))) + (1:Int))) + (1:Int))) x95.Load x95.qa6)).set v63.toNat (SBus.mk x98.qag x98.Own x98.Shared x98.Kind (qaa.mk (Cx.mk x96 x97) x98.Load.B x98.Load.C) x98.qa6)).set v63.toNat (SBus.mk x101.qag x101.Own x101.Shared x101.Kind (qaa.mk x101.Load.A (Cx.mk x99 x100) x101.Load.C) x101.qa6)) v63).bind fun x104 =>
      (getI (((((((v61.set v63.toNat (SBus.mk v62 x88.Own x88.Shared x88.Kind x88.Load x88.qa6)).set v63.toNat (SBus.mk x91.qag (Cx.mk x89 x90) x91.Shared x91.Kind x91.Load x91.qa6)).set v63.toNat (SBus.mk x94.qag x94.Own (Cx.mk x92 x93) x94.Kind x94.Load x94.qa6)).set v63.toNat (SBus.mk x95.qag x95.Own x95.Shared (w64 ((w64 ((w64 (v62 + (1:Int))) + (1:Int))) + (1:Int))) x95.Load x95.qa6)).set v63.toNat (SBus.mk x98.qag x98.Own x98.Shared x98.Kind (qaa.mk (Cx.mk x96 x97) x98.Load.B x98.Load.C) x98.qa6)).set v63.toNat (SBus.mk x101.qag x101.Own x101.Shared x101.Kind (qaa.mk x101.Load.A (Cx.mk x99 x100) x101.Load.C) x101.qa6)).set v63.toNat (SBus.mk x104.qag x104.Own x104.Shared x104.Kind (qaa.mk x104.Load.A x104.Load.B (Cx.mk x102 x103)) x104.qa6)) v63).bind fun x105 =>
      (qdm n m85) ((((((((v61.set v63.toNat (SBus.mk v62 x88.Own x88.Shared x88.Kind x88.Load x88.qa6)).set v63.toNat (SBus.mk x91.qag (Cx.mk x89 x90) x91.Shared x91.Kind x91.Load x91.qa6)).set v63.toNat (SBus.mk x94.qag x94.Own (Cx.mk x92 x93) x94.Kind x94.Load x94.qa6)).set v63.toNat (SBus.mk x95.qag x95.Own x95.Shared (w64 ((w64 ((w64 (v62 + (1:Int))) + (1:Int))) + (1:Int))) x95.Load x95.qa6)).set v63.toNat (SBus.mk x98.qag x98.Own x98.Shared x98.Kind (qaa.mk (Cx.mk x96 x97) x98.Load.B x98.Load.C) x98.qa6)).set v63.toNat (SBus.mk x101.qag x101.Own x101.Shared x101.Kind (qaa.mk x101.Load.A (Cx.mk x99 x100) x101.Load.C) x101.qa6)).set v63.toNat (SBus.mk x104.qag x104.Own x104.Shared x104.Kind (qaa.mk x104.Load.A x104.Load.B (Cx.mk x102 x103)) x104.qa6)).set v63.toNat (SBus.mk x105.qag x105.Own x105.Shared x105.Kind x105.Load (w64 ((w64 ((w64 ((w64 ((w64 ((w64 ((w64 (v62 + (1:Int))) + (1:Int))) + (1:Int))) + (1:Int))) + (1:Int))) + (1:Int))) + (1:Int))))) (w64 ((w64 ((w64 ((w64 ((w64 ((w64 ((w64 ((w64 (v62 + (1:Int))) + (1:Int))) + (1:Int))) + (1:Int))) + (1:Int))) + (1:Int))) + (1:Int))) + (1:Int))) (w64 (v63 + (1:Int)))
    else
      some (v62,v61)
def qfx (n:Nat) (a_:List SBus) (k_:Int):Option (Int × List SBus) :=
  qdm n n a_ k_ (0:Int)
theorem laws_markBusS_ok_fr0 (fr:Bool) (n:Nat) (a_:List SBus) (k_:Int) {r:Int × List SBus} (h:qfx n a_ k_ = some r):qb5 prog fr 88 [.row 0 a_.length 0 a_.length,.d (.int .i64 k_)] [.row 8 (a_.map qah)] (fun v o new=>v = .d (.int .i64 r.1)∧o = [.row 8 (r.2.map qah)]∧new = []):=by
  refine qar hτ func88 rfl (by simp) (by simp) ?_
  unfold qfx at h
  refine qa5 ?_
  refine qa2 ?_
  refine qa0 hτ rfl rfl rfl ?_
  refine qa4 ?_
  refine qa5 ?_
  refine qa5 ?_
  refine qa2 ?_
  refine qa0 hτ rfl rfl rfl ?_
  refine qa4 ?_
  refine qb6 ?_
  refine qe1 (ι:=Nat × List SBus × Int × Int) (fun (m85,v61,v62,v63)=>St.of [(0,.row 0 v61.length 0 v61.length),(1,.d (.int .i64 v62)),(5,.d (.int .i64 v63))] [.row 8 (v61.map qah)] f88.ntmps 1) (fun (m85,v61,v62,v63)=>qdm n m85 v61 v62 v63 = some r) (fun x=>x.1) (n,a_,k_,(0:Int)) h (qa3 [0] (l:=[(0,.row 0 a_.length 0 a_.length),(1,.d (.int .i64 k_)),(5,.d (.int .i64 (0:Int)))]) (objs:=[.row 8 (a_.map qah)]) rfl (by simp) rfl (by trivial) ⟨rfl,trivial,rfl,trivial,rfl,trivial,trivial⟩) ?_
  rintro ⟨m85,v61,v62,v63⟩ h
  replace h:qdm n m85 v61 v62 v63 = some r:=h
  rcases m85 with _ | m85
  · rw [qdm] at h;cases h
  rw [qdm] at h
  refine qa5 ?_
  refine qa5 ?_
  refine qa2 ?_
  refine qa0 hτ rfl rfl rfl ?_
  refine qa0 hτ rfl rfl rfl ?_
  refine qbd hτ rfl rfl rfl (qc8 _) ?_
  refine qa0 hτ rfl rfl rfl ?_
  refine qa4 ?_
  refine qau rfl (fun hc87=>?_) (fun hc87=>?_)
  · have h:=if_t h hc87
    refine qav ?_
    refine qa5 ?_
    refine qb6 ?_
    refine qa5 ?_
    refine qa2 ?_
    refine qa0 hτ rfl rfl rfl ?_
    refine qa0 hτ rfl rfl rfl ?_
    refine qa0 hτ rfl rfl rfl ?_
    refine qab h fun x88 hx88 h=>?_
    refine qbd hτ rfl rfl rfl (qgo hx88) ?_
    refine qbd hτ rfl rfl rfl (qc8 _) ?_
    refine qfe hτ rfl rfl rfl (qc8 _) (qh7 hx88) (qi0 (f:=qah) (l:=v61) (i:=v63) (y:=(SBus.mk v62 x88.Own x88.Shared x88.Kind x88.Load x88.qa6)) rfl) ?_
    refine qa4 ?_
    refine qa5 ?_
    refine qa9 (qa3 [0] (l:=[(0,.row 0 ((v61.set v63.toNat (SBus.mk v62 x88.Own x88.Shared x88.Kind x88.Load x88.qa6)).length) 0 ((v61.set v63.toNat (SBus.mk v62 x88.Own x88.Shared x88.Kind x88.Load x88.qa6)).length)),(1,.d (.int .i64 v62)),(5,.d (.int .i64 v63))]) (objs:=[.row 8 ((v61.set v63.toNat (SBus.mk v62 x88.Own x88.Shared x88.Kind x88.Load x88.qa6)).map qah)]) rfl (by simp) rfl (by trivial) ⟨(qgn rfl (by simp)),trivial,rfl,trivial,rfl,trivial,trivial⟩) ?_
    refine qa2 ?_
    refine qa0 hτ rfl rfl rfl ?_
    refine qa0 hτ rfl rfl rfl ?_
    refine qa0 hτ rfl rfl rfl ?_
    refine qa4 ?_
    refine qa5 ?_
    refine qa2 ?_
    refine qa0 hτ rfl rfl rfl ?_
    refine qa0 hτ rfl rfl rfl ?_
    refine qa0 hτ rfl rfl rfl ?_
    refine qa0 hτ rfl rfl rfl ?_
    refine qa0 hτ rfl rfl rfl ?_
    refine qab h fun x89 hx89 h=>?_
    refine qab h fun x90 hx90 h=>?_
    refine qha rfl rfl (qhw hτ rfl rfl rfl rfl rfl rfl hx89 hx90) ?_
    refine qab h fun x91 hx91 h=>?_
    refine qbd hτ rfl rfl rfl (qgo hx91) ?_
    refine qbd hτ rfl rfl rfl (qc8 _) ?_
    refine qfe hτ rfl rfl rfl (qc8 _) (qh7 hx91) (qi0 (f:=qah) (l:=(v61.set v63.toNat (SBus.mk v62 x88.Own x88.Shared x88.Kind x88.Load x88.qa6))) (i:=v63) (y:=(SBus.mk x91.qag (Cx.mk x89 x90) x91.Shared x91.Kind x91.Load x91.qa6)) rfl) ?_
    refine qa4 ?_
    refine qa5 ?_
    refine qa9 (qa3 [0] (l:=[(0,.row 0 (((v61.set v63.toNat (SBus.mk v62 x88.Own x88.Shared x88.Kind x88.Load x88.qa6)).set v63.toNat (SBus.mk x91.qag (Cx.mk x89 x90) x91.Shared x91.Kind x91.Load x91.qa6)).length) 0 (((v61.set v63.toNat (SBus.mk v62 x88.Own x88.Shared x88.Kind x88.Load x88.qa6)).set v63.toNat (SBus.mk x91.qag (Cx.mk x89 x90) x91.Shared x91.Kind x91.Load x91.qa6)).length)),(1,.d (.int .i64 (w64 (v62 + (1:Int))))),(5,.d (.int .i64 v63))]) (objs:=[.row 8 (((v61.set v63.toNat (SBus.mk v62 x88.Own x88.Shared x88.Kind x88.Load x88.qa6)).set v63.toNat (SBus.mk x91.qag (Cx.mk x89 x90) x91.Shared x91.Kind x91.Load x91.qa6)).map qah)]) rfl (by simp) rfl (by trivial) ⟨(qgn rfl (by simp)),trivial,rfl,trivial,rfl,trivial,trivial⟩) ?_
    refine qa2 ?_
    refine qa0 hτ rfl rfl rfl ?_
    refine qa0 hτ rfl rfl rfl ?_
    refine qa0 hτ rfl rfl rfl ?_
    refine qa4 ?_
    refine qa5 ?_
    refine qa2 ?_
    refine qa0 hτ rfl rfl rfl ?_
    refine qa0 hτ rfl rfl rfl ?_
    refine qa0 hτ rfl rfl rfl ?_
    refine qa0 hτ rfl rfl rfl ?_
    refine qa0 hτ rfl rfl rfl ?_
    refine qab h fun x92 hx92 h=>?_
    refine qab h fun x93 hx93 h=>?_
    refine qha rfl rfl (qhw hτ rfl rfl rfl rfl rfl rfl hx92 hx93) ?_
    refine qab h fun x94 hx94 h=>?_
    refine qbd hτ rfl rfl rfl (qgo hx94) ?_
    refine qbd hτ rfl rfl rfl (qc8 _) ?_
    refine qfe hτ rfl rfl rfl (qc8 _) (qh7 hx94) (qi0 (f:=qah) (l:=((v61.set v63.toNat (SBus.mk v62 x88.Own x88.Shared x88.Kind x88.Load x88.qa6)).set v63.toNat (SBus.mk x91.qag (Cx.mk x89 x90) x91.Shared x91.Kind x91.Load x91.qa6))) (i:=v63) (y:=(SBus.mk x94.qag x94.Own (Cx.mk x92 x93) x94.Kind x94.Load x94.qa6)) rfl) ?_
    refine qa4 ?_
    refine qa5 ?_
    refine qa9 (qa3 [0] (l:=[(0,.row 0 ((((v61.set v63.toNat (SBus.mk v62 x88.Own x88.Shared x88.Kind x88.Load x88.qa6)).set v63.toNat (SBus.mk x91.qag (Cx.mk x89 x90) x91.Shared x91.Kind x91.Load x91.qa6)).set v63.toNat (SBus.mk x94.qag x94.Own (Cx.mk x92 x93) x94.Kind x94.Load x94.qa6)).length) 0 ((((v61.set v63.toNat (SBus.mk v62 x88.Own x88.Shared x88.Kind x88.Load x88.qa6)).set v63.toNat (SBus.mk x91.qag (Cx.mk x89 x90) x91.Shared x91.Kind x91.Load x91.qa6)).set v63.toNat (SBus.mk x94.qag x94.Own (Cx.mk x92 x93) x94.Kind x94.Load x94.qa6)).length)),(1,.d (.int .i64 (w64 ((w64 (v62 + (1:Int))) + (1:Int))))),(5,.d (.int .i64 v63))]) (objs:=[.row 8 ((((v61.set v63.toNat (SBus.mk v62 x88.Own x88.Shared x88.Kind x88.Load x88.qa6)).set v63.toNat (SBus.mk x91.qag (Cx.mk x89 x90) x91.Shared x91.Kind x91.Load x91.qa6)).set v63.toNat (SBus.mk x94.qag x94.Own (Cx.mk x92 x93) x94.Kind x94.Load x94.qa6)).map qah)]) rfl (by simp) rfl (by trivial) ⟨(qgn rfl (by simp)),trivial,rfl,trivial,rfl,trivial,trivial⟩) ?_
    refine qa2 ?_
    refine qa0 hτ rfl rfl rfl ?_
    refine qa0 hτ rfl rfl rfl ?_
    refine qa0 hτ rfl rfl rfl ?_
    refine qa4 ?_
    refine qa5 ?_
    refine qa2 ?_
    refine qa0 hτ rfl rfl rfl ?_
    refine qa0 hτ rfl rfl rfl ?_
    refine qa0 hτ rfl rfl rfl ?_
    refine qab h fun x95 hx95 h=>?_
    refine qbd hτ rfl rfl rfl (qgo hx95) ?_
    refine qbd hτ rfl rfl rfl (qc8 _) ?_
    refine qfe hτ rfl rfl rfl (qc8 _) (qh7 hx95) (qi0 (f:=qah) (l:=(((v61.set v63.toNat (SBus.mk v62 x88.Own x88.Shared x88.Kind x88.Load x88.qa6)).set v63.toNat (SBus.mk x91.qag (Cx.mk x89 x90) x91.Shared x91.Kind x91.Load x91.qa6)).set v63.toNat (SBus.mk x94.qag x94.Own (Cx.mk x92 x93) x94.Kind x94.Load x94.qa6))) (i:=v63) (y:=(SBus.mk x95.qag x95.Own x95.Shared (w64 ((w64 ((w64 (v62 + (1:Int))) + (1:Int))) + (1:Int))) x95.Load x95.qa6)) rfl) ?_
    refine qa4 ?_
    refine qa5 ?_
    refine qa9 (qa3 [0] (l:=[(0,.row 0 (((((v61.set v63.toNat (SBus.mk v62 x88.Own x88.Shared x88.Kind x88.Load x88.qa6)).set v63.toNat (SBus.mk x91.qag (Cx.mk x89 x90) x91.Shared x91.Kind x91.Load x91.qa6)).set v63.toNat (SBus.mk x94.qag x94.Own (Cx.mk x92 x93) x94.Kind x94.Load x94.qa6)).set v63.toNat (SBus.mk x95.qag x95.Own x95.Shared (w64 ((w64 ((w64 (v62 + (1:Int))) + (1:Int))) + (1:Int))) x95.Load x95.qa6)).length) 0 (((((v61.set v63.toNat (SBus.mk v62 x88.Own x88.Shared x88.Kind x88.Load x88.qa6)).set v63.toNat (SBus.mk x91.qag (Cx.mk x89 x90) x91.Shared x91.Kind x91.Load x91.qa6)).set v63.toNat (SBus.mk x94.qag x94.Own (Cx.mk x92 x93) x94.Kind x94.Load x94.qa6)).set v63.toNat (SBus.mk x95.qag x95.Own x95.Shared (w64 ((w64 ((w64 (v62 + (1:Int))) + (1:Int))) + (1:Int))) x95.Load x95.qa6)).length)),(1,.d (.int .i64 (w64 ((w64 ((w64 (v62 + (1:Int))) + (1:Int))) + (1:Int))))),(5,.d (.int .i64 v63))]) (objs:=[.row 8 (((((v61.set v63.toNat (SBus.mk v62 x88.Own x88.Shared x88.Kind x88.Load x88.qa6)).set v63.toNat (SBus.mk x91.qag (Cx.mk x89 x90) x91.Shared x91.Kind x91.Load x91.qa6)).set v63.toNat (SBus.mk x94.qag x94.Own (Cx.mk x92 x93) x94.Kind x94.Load x94.qa6)).set v63.toNat (SBus.mk x95.qag x95.Own x95.Shared (w64 ((w64 ((w64 (v62 + (1:Int))) + (1:Int))) + (1:Int))) x95.Load x95.qa6)).map qah)]) rfl (by simp) rfl (by trivial) ⟨(qgn rfl (by simp)),trivial,rfl,trivial,rfl,trivial,trivial⟩) ?_
    refine qa2 ?_
    refine qa0 hτ rfl rfl rfl ?_
    refine qa0 hτ rfl rfl rfl ?_
    refine qa0 hτ rfl rfl rfl ?_
    refine qa4 ?_
    refine qa5 ?_
    refine qa2 ?_
    refine qa0 hτ rfl rfl rfl ?_
    refine qa0 hτ rfl rfl rfl ?_
    refine qa0 hτ rfl rfl rfl ?_
    refine qa0 hτ rfl rfl rfl ?_
    refine qa0 hτ rfl rfl rfl ?_
    refine qab h fun x96 hx96 h=>?_
    refine qab h fun x97 hx97 h=>?_
    refine qha rfl rfl (qhw hτ rfl rfl rfl rfl rfl rfl hx96 hx97) ?_
    refine qab h fun x98 hx98 h=>?_
    refine qbd hτ rfl rfl rfl (qgo hx98) ?_
    refine qbd hτ rfl rfl rfl (qc8 _) ?_
    refine qbd hτ rfl rfl rfl (qc8 _) ?_
    refine qbn (qa3 [0] (l:=[(0,.row 0 (((((v61.set v63.toNat (SBus.mk v62 x88.Own x88.Shared x88.Kind x88.Load x88.qa6)).set v63.toNat (SBus.mk x91.qag (Cx.mk x89 x90) x91.Shared x91.Kind x91.Load x91.qa6)).set v63.toNat (SBus.mk x94.qag x94.Own (Cx.mk x92 x93) x94.Kind x94.Load x94.qa6)).set v63.toNat (SBus.mk x95.qag x95.Own x95.Shared (w64 ((w64 ((w64 (v62 + (1:Int))) + (1:Int))) + (1:Int))) x95.Load x95.qa6)).length) 0 (((((v61.set v63.toNat (SBus.mk v62 x88.Own x88.Shared x88.Kind x88.Load x88.qa6)).set v63.toNat (SBus.mk x91.qag (Cx.mk x89 x90) x91.Shared x91.Kind x91.Load x91.qa6)).set v63.toNat (SBus.mk x94.qag x94.Own (Cx.mk x92 x93) x94.Kind x94.Load x94.qa6)).set v63.toNat (SBus.mk x95.qag x95.Own x95.Shared (w64 ((w64 ((w64 (v62 + (1:Int))) + (1:Int))) + (1:Int))) x95.Load x95.qa6)).length)),(1,.d (.int .i64 (w64 ((w64 ((w64 ((w64 (v62 + (1:Int))) + (1:Int))) + (1:Int))) + (1:Int))))),(5,.d (.int .i64 v63)),(51,.d (.cx .f32 x96 x97)),(54,.eptr 0 (((((v61.set v63.toNat (SBus.mk v62 x88.Own x88.Shared x88.Kind x88.Load x88.qa6)).set v63.toNat (SBus.mk x91.qag (Cx.mk x89 x90) x91.Shared x91.Kind x91.Load x91.qa6)).set v63.toNat (SBus.mk x94.qag x94.Own (Cx.mk x92 x93) x94.Kind x94.Load x94.qa6)).set v63.toNat (SBus.mk x95.qag x95.Own x95.Shared (w64 ((w64 ((w64 (v62 + (1:Int))) + (1:Int))) + (1:Int))) x95.Load x95.qa6)).length) (0 + v63.toNat) 4)]) (objs:=[.row 8 (((((v61.set v63.toNat (SBus.mk v62 x88.Own x88.Shared x88.Kind x88.Load x88.qa6)).set v63.toNat (SBus.mk x91.qag (Cx.mk x89 x90) x91.Shared x91.Kind x91.Load x91.qa6)).set v63.toNat (SBus.mk x94.qag x94.Own (Cx.mk x92 x93) x94.Kind x94.Load x94.qa6)).set v63.toNat (SBus.mk x95.qag x95.Own x95.Shared (w64 ((w64 ((w64 (v62 + (1:Int))) + (1:Int))) + (1:Int))) x95.Load x95.qa6)).map qah)]) rfl (by simp) rfl (by trivial) ⟨rfl,trivial,rfl,trivial,rfl,trivial,rfl,trivial,rfl,trivial,trivial⟩) ?_
    refine qfe hτ rfl rfl rfl (qc8 _) (qh7 hx98) (qi0 (f:=qah) (l:=((((v61.set v63.toNat (SBus.mk v62 x88.Own x88.Shared x88.Kind x88.Load x88.qa6)).set v63.toNat (SBus.mk x91.qag (Cx.mk x89 x90) x91.Shared x91.Kind x91.Load x91.qa6)).set v63.toNat (SBus.mk x94.qag x94.Own (Cx.mk x92 x93) x94.Kind x94.Load x94.qa6)).set v63.toNat (SBus.mk x95.qag x95.Own x95.Shared (w64 ((w64 ((w64 (v62 + (1:Int))) + (1:Int))) + (1:Int))) x95.Load x95.qa6))) (i:=v63) (y:=(SBus.mk x98.qag x98.Own x98.Shared x98.Kind (qaa.mk (Cx.mk x96 x97) x98.Load.B x98.Load.C) x98.qa6)) rfl) ?_
    refine qa4 ?_
    refine qa5 ?_
    refine qa2 ?_
    refine qa0 hτ rfl rfl rfl ?_
    refine qa0 hτ rfl rfl rfl ?_
    refine qa0 hτ rfl rfl rfl ?_
    refine qa4 ?_
    refine qa5 ?_
    refine qa2 ?_
    refine qa0 hτ rfl rfl rfl ?_
    refine qa0 hτ rfl rfl rfl ?_
    refine qa0 hτ rfl rfl rfl ?_
    refine qa0 hτ rfl rfl rfl ?_
    refine qa0 hτ rfl rfl rfl ?_
    refine qab h fun x99 hx99 h=>?_
    refine qab h fun x100 hx100 h=>?_
    refine qha rfl rfl (qhw hτ rfl rfl rfl rfl rfl rfl hx99 hx100) ?_
    refine qab h fun x101 hx101 h=>?_
    refine qbd hτ rfl rfl rfl (qlq hx101 (by simp)) ?_
    refine qbd hτ rfl rfl rfl (by simp) ?_
    refine qbn (qa3 [0] (l:=[(0,.row 0 ((((((v61.set v63.toNat (SBus.mk v62 x88.Own x88.Shared x88.Kind x88.Load x88.qa6)).set v63.toNat (SBus.mk x91.qag (Cx.mk x89 x90) x91.Shared x91.Kind x91.Load x91.qa6)).set v63.toNat (SBus.mk x94.qag x94.Own (Cx.mk x92 x93) x94.Kind x94.Load x94.qa6)).set v63.toNat (SBus.mk x95.qag x95.Own x95.Shared (w64 ((w64 ((w64 (v62 + (1:Int))) + (1:Int))) + (1:Int))) x95.Load x95.qa6)).set v63.toNat (SBus.mk x98.qag x98.Own x98.Shared x98.Kind (qaa.mk (Cx.mk x96 x97) x98.Load.B x98.Load.C) x98.qa6)).length) 0 ((((((v61.set v63.toNat (SBus.mk v62 x88.Own x88.Shared x88.Kind x88.Load x88.qa6)).set v63.toNat (SBus.mk x91.qag (Cx.mk x89 x90) x91.Shared x91.Kind x91.Load x91.qa6)).set v63.toNat (SBus.mk x94.qag x94.Own (Cx.mk x92 x93) x94.Kind x94.Load x94.qa6)).set v63.toNat (SBus.mk x95.qag x95.Own x95.Shared (w64 ((w64 ((w64 (v62 + (1:Int))) + (1:Int))) + (1:Int))) x95.Load x95.qa6)).set v63.toNat (SBus.mk x98.qag x98.Own x98.Shared x98.Kind (qaa.mk (Cx.mk x96 x97) x98.Load.B x98.Load.C) x98.qa6)).length)),(1,.d (.int .i64 (w64 ((w64 ((w64 ((w64 ((w64 (v62 + (1:Int))) + (1:Int))) + (1:Int))) + (1:Int))) + (1:Int))))),(5,.d (.int .i64 v63)),(62,.d (.cx .f32 x99 x100)),(64,.eptr 0 (((((v61.set v63.toNat (SBus.mk v62 x88.Own x88.Shared x88.Kind x88.Load x88.qa6)).set v63.toNat (SBus.mk x91.qag (Cx.mk x89 x90) x91.Shared x91.Kind x91.Load x91.qa6)).set v63.toNat (SBus.mk x94.qag x94.Own (Cx.mk x92 x93) x94.Kind x94.Load x94.qa6)).set v63.toNat (SBus.mk x95.qag x95.Own x95.Shared (w64 ((w64 ((w64 (v62 + (1:Int))) + (1:Int))) + (1:Int))) x95.Load x95.qa6)).length) (0 + v63.toNat) 4)]) (objs:=[.row 8 ((((((v61.set v63.toNat (SBus.mk v62 x88.Own x88.Shared x88.Kind x88.Load x88.qa6)).set v63.toNat (SBus.mk x91.qag (Cx.mk x89 x90) x91.Shared x91.Kind x91.Load x91.qa6)).set v63.toNat (SBus.mk x94.qag x94.Own (Cx.mk x92 x93) x94.Kind x94.Load x94.qa6)).set v63.toNat (SBus.mk x95.qag x95.Own x95.Shared (w64 ((w64 ((w64 (v62 + (1:Int))) + (1:Int))) + (1:Int))) x95.Load x95.qa6)).set v63.toNat (SBus.mk x98.qag x98.Own x98.Shared x98.Kind (qaa.mk (Cx.mk x96 x97) x98.Load.B x98.Load.C) x98.qa6)).map qah)]) rfl (by simp) rfl (by trivial) ⟨(qgn rfl (by simp)),trivial,rfl,trivial,rfl,trivial,rfl,trivial,rfl,trivial,trivial⟩) ?_
    refine qbd hτ rfl rfl rfl (by simp) ?_
    refine qfe hτ rfl rfl rfl (by simp) (qh7 hx101) (qi0 (f:=qah) (l:=(((((v61.set v63.toNat (SBus.mk v62 x88.Own x88.Shared x88.Kind x88.Load x88.qa6)).set v63.toNat (SBus.mk x91.qag (Cx.mk x89 x90) x91.Shared x91.Kind x91.Load x91.qa6)).set v63.toNat (SBus.mk x94.qag x94.Own (Cx.mk x92 x93) x94.Kind x94.Load x94.qa6)).set v63.toNat (SBus.mk x95.qag x95.Own x95.Shared (w64 ((w64 ((w64 (v62 + (1:Int))) + (1:Int))) + (1:Int))) x95.Load x95.qa6)).set v63.toNat (SBus.mk x98.qag x98.Own x98.Shared x98.Kind (qaa.mk (Cx.mk x96 x97) x98.Load.B x98.Load.C) x98.qa6))) (i:=v63) (y:=(SBus.mk x101.qag x101.Own x101.Shared x101.Kind (qaa.mk x101.Load.A (Cx.mk x99 x100) x101.Load.C) x101.qa6)) rfl) ?_
    refine qa4 ?_
    refine qa5 ?_
    refine qa2 ?_
    refine qa0 hτ rfl rfl rfl ?_
    refine qa0 hτ rfl rfl rfl ?_
    refine qa0 hτ rfl rfl rfl ?_
    refine qa4 ?_
    refine qa5 ?_
    refine qa2 ?_
    refine qa0 hτ rfl rfl rfl ?_
    refine qa0 hτ rfl rfl rfl ?_
    refine qa0 hτ rfl rfl rfl ?_
    refine qa0 hτ rfl rfl rfl ?_
    refine qa0 hτ rfl rfl rfl ?_
    refine qab h fun x102 hx102 h=>?_
    refine qab h fun x103 hx103 h=>?_
    refine qha rfl rfl (qhw hτ rfl rfl rfl rfl rfl rfl hx102 hx103) ?_
    refine qab h fun x104 hx104 h=>?_
    refine qbd hτ rfl rfl rfl (qlq hx104 (by simp)) ?_
    refine qbn (qa3 [0] (l:=[(0,.row 0 (((((((v61.set v63.toNat (SBus.mk v62 x88.Own x88.Shared x88.Kind x88.Load x88.qa6)).set v63.toNat (SBus.mk x91.qag (Cx.mk x89 x90) x91.Shared x91.Kind x91.Load x91.qa6)).set v63.toNat (SBus.mk x94.qag x94.Own (Cx.mk x92 x93) x94.Kind x94.Load x94.qa6)).set v63.toNat (SBus.mk x95.qag x95.Own x95.Shared (w64 ((w64 ((w64 (v62 + (1:Int))) + (1:Int))) + (1:Int))) x95.Load x95.qa6)).set v63.toNat (SBus.mk x98.qag x98.Own x98.Shared x98.Kind (qaa.mk (Cx.mk x96 x97) x98.Load.B x98.Load.C) x98.qa6)).set v63.toNat (SBus.mk x101.qag x101.Own x101.Shared x101.Kind (qaa.mk x101.Load.A (Cx.mk x99 x100) x101.Load.C) x101.qa6)).length) 0 (((((((v61.set v63.toNat (SBus.mk v62 x88.Own x88.Shared x88.Kind x88.Load x88.qa6)).set v63.toNat (SBus.mk x91.qag (Cx.mk x89 x90) x91.Shared x91.Kind x91.Load x91.qa6)).set v63.toNat (SBus.mk x94.qag x94.Own (Cx.mk x92 x93) x94.Kind x94.Load x94.qa6)).set v63.toNat (SBus.mk x95.qag x95.Own x95.Shared (w64 ((w64 ((w64 (v62 + (1:Int))) + (1:Int))) + (1:Int))) x95.Load x95.qa6)).set v63.toNat (SBus.mk x98.qag x98.Own x98.Shared x98.Kind (qaa.mk (Cx.mk x96 x97) x98.Load.B x98.Load.C) x98.qa6)).set v63.toNat (SBus.mk x101.qag x101.Own x101.Shared x101.Kind (qaa.mk x101.Load.A (Cx.mk x99 x100) x101.Load.C) x101.qa6)).length)),(1,.d (.int .i64 (w64 ((w64 ((w64 ((w64 ((w64 ((w64 (v62 + (1:Int))) + (1:Int))) + (1:Int))) + (1:Int))) + (1:Int))) + (1:Int))))),(5,.d (.int .i64 v63)),(73,.d (.cx .f32 x102 x103)),(74,.eptr 0 ((((((v61.set v63.toNat (SBus.mk v62 x88.Own x88.Shared x88.Kind x88.Load x88.qa6)).set v63.toNat (SBus.mk x91.qag (Cx.mk x89 x90) x91.Shared x91.Kind x91.Load x91.qa6)).set v63.toNat (SBus.mk x94.qag x94.Own (Cx.mk x92 x93) x94.Kind x94.Load x94.qa6)).set v63.toNat (SBus.mk x95.qag x95.Own x95.Shared (w64 ((w64 ((w64 (v62 + (1:Int))) + (1:Int))) + (1:Int))) x95.Load x95.qa6)).set v63.toNat (SBus.mk x98.qag x98.Own x98.Shared x98.Kind (qaa.mk (Cx.mk x96 x97) x98.Load.B x98.Load.C) x98.qa6)).length) (0 + v63.toNat) 0)]) (objs:=[.row 8 (((((((v61.set v63.toNat (SBus.mk v62 x88.Own x88.Shared x88.Kind x88.Load x88.qa6)).set v63.toNat (SBus.mk x91.qag (Cx.mk x89 x90) x91.Shared x91.Kind x91.Load x91.qa6)).set v63.toNat (SBus.mk x94.qag x94.Own (Cx.mk x92 x93) x94.Kind x94.Load x94.qa6)).set v63.toNat (SBus.mk x95.qag x95.Own x95.Shared (w64 ((w64 ((w64 (v62 + (1:Int))) + (1:Int))) + (1:Int))) x95.Load x95.qa6)).set v63.toNat (SBus.mk x98.qag x98.Own x98.Shared x98.Kind (qaa.mk (Cx.mk x96 x97) x98.Load.B x98.Load.C) x98.qa6)).set v63.toNat (SBus.mk x101.qag x101.Own x101.Shared x101.Kind (qaa.mk x101.Load.A (Cx.mk x99 x100) x101.Load.C) x101.qa6)).map qah)]) rfl (by simp) rfl (by trivial) ⟨(qgn rfl (by simp)),trivial,rfl,trivial,rfl,trivial,rfl,trivial,rfl,trivial,trivial⟩) ?_
    refine qbd hτ rfl rfl rfl (by simp) ?_
    refine qbd hτ rfl rfl rfl (by simp) ?_
    refine qfe hτ rfl rfl rfl (by simp) (qh7 hx104) (qi0 (f:=qah) (l:=((((((v61.set v63.toNat (SBus.mk v62 x88.Own x88.Shared x88.Kind x88.Load x88.qa6)).set v63.toNat (SBus.mk x91.qag (Cx.mk x89 x90) x91.Shared x91.Kind x91.Load x91.qa6)).set v63.toNat (SBus.mk x94.qag x94.Own (Cx.mk x92 x93) x94.Kind x94.Load x94.qa6)).set v63.toNat (SBus.mk x95.qag x95.Own x95.Shared (w64 ((w64 ((w64 (v62 + (1:Int))) + (1:Int))) + (1:Int))) x95.Load x95.qa6)).set v63.toNat (SBus.mk x98.qag x98.Own x98.Shared x98.Kind (qaa.mk (Cx.mk x96 x97) x98.Load.B x98.Load.C) x98.qa6)).set v63.toNat (SBus.mk x101.qag x101.Own x101.Shared x101.Kind (qaa.mk x101.Load.A (Cx.mk x99 x100) x101.Load.C) x101.qa6))) (i:=v63) (y:=(SBus.mk x104.qag x104.Own x104.Shared x104.Kind (qaa.mk x104.Load.A x104.Load.B (Cx.mk x102 x103)) x104.qa6)) rfl) ?_
    refine qa4 ?_
    refine qa5 ?_
    refine qa2 ?_
    refine qa0 hτ rfl rfl rfl ?_
    refine qa0 hτ rfl rfl rfl ?_
    refine qa0 hτ rfl rfl rfl ?_
    refine qa4 ?_
    refine qa5 ?_
    refine qa9 (qa3 [0] (l:=[(0,.row 0 ((((((((v61.set v63.toNat (SBus.mk v62 x88.Own x88.Shared x88.Kind x88.Load x88.qa6)).set v63.toNat (SBus.mk x91.qag (Cx.mk x89 x90) x91.Shared x91.Kind x91.Load x91.qa6)).set v63.toNat (SBus.mk x94.qag x94.Own (Cx.mk x92 x93) x94.Kind x94.Load x94.qa6)).set v63.toNat (SBus.mk x95.qag x95.Own x95.Shared (w64 ((w64 ((w64 (v62 + (1:Int))) + (1:Int))) + (1:Int))) x95.Load x95.qa6)).set v63.toNat (SBus.mk x98.qag x98.Own x98.Shared x98.Kind (qaa.mk (Cx.mk x96 x97) x98.Load.B x98.Load.C) x98.qa6)).set v63.toNat (SBus.mk x101.qag x101.Own x101.Shared x101.Kind (qaa.mk x101.Load.A (Cx.mk x99 x100) x101.Load.C) x101.qa6)).set v63.toNat (SBus.mk x104.qag x104.Own x104.Shared x104.Kind (qaa.mk x104.Load.A x104.Load.B (Cx.mk x102 x103)) x104.qa6)).length) 0 ((((((((v61.set v63.toNat (SBus.mk v62 x88.Own x88.Shared x88.Kind x88.Load x88.qa6)).set v63.toNat (SBus.mk x91.qag (Cx.mk x89 x90) x91.Shared x91.Kind x91.Load x91.qa6)).set v63.toNat (SBus.mk x94.qag x94.Own (Cx.mk x92 x93) x94.Kind x94.Load x94.qa6)).set v63.toNat (SBus.mk x95.qag x95.Own x95.Shared (w64 ((w64 ((w64 (v62 + (1:Int))) + (1:Int))) + (1:Int))) x95.Load x95.qa6)).set v63.toNat (SBus.mk x98.qag x98.Own x98.Shared x98.Kind (qaa.mk (Cx.mk x96 x97) x98.Load.B x98.Load.C) x98.qa6)).set v63.toNat (SBus.mk x101.qag x101.Own x101.Shared x101.Kind (qaa.mk x101.Load.A (Cx.mk x99 x100) x101.Load.C) x101.qa6)).set v63.toNat (SBus.mk x104.qag x104.Own x104.Shared x104.Kind (qaa.mk x104.Load.A x104.Load.B (Cx.mk x102 x103)) x104.qa6)).length)),(1,.d (.int .i64 (w64 ((w64 ((w64 ((w64 ((w64 ((w64 ((w64 (v62 + (1:Int))) + (1:Int))) + (1:Int))) + (1:Int))) + (1:Int))) + (1:Int))) + (1:Int))))),(5,.d (.int .i64 v63))]) (objs:=[.row 8 ((((((((v61.set v63.toNat (SBus.mk v62 x88.Own x88.Shared x88.Kind x88.Load x88.qa6)).set v63.toNat (SBus.mk x91.qag (Cx.mk x89 x90) x91.Shared x91.Kind x91.Load x91.qa6)).set v63.toNat (SBus.mk x94.qag x94.Own (Cx.mk x92 x93) x94.Kind x94.Load x94.qa6)).set v63.toNat (SBus.mk x95.qag x95.Own x95.Shared (w64 ((w64 ((w64 (v62 + (1:Int))) + (1:Int))) + (1:Int))) x95.Load x95.qa6)).set v63.toNat (SBus.mk x98.qag x98.Own x98.Shared x98.Kind (qaa.mk (Cx.mk x96 x97) x98.Load.B x98.Load.C) x98.qa6)).set v63.toNat (SBus.mk x101.qag x101.Own x101.Shared x101.Kind (qaa.mk x101.Load.A (Cx.mk x99 x100) x101.Load.C) x101.qa6)).set v63.toNat (SBus.mk x104.qag x104.Own x104.Shared x104.Kind (qaa.mk x104.Load.A x104.Load.B (Cx.mk x102 x103)) x104.qa6)).map qah)]) rfl (by simp) rfl (by trivial) ⟨(qgn rfl (by simp)),trivial,rfl,trivial,rfl,trivial,trivial⟩) ?_
    refine qa2 ?_
    refine qa0 hτ rfl rfl rfl ?_
    refine qa0 hτ rfl rfl rfl ?_
    refine qa0 hτ rfl rfl rfl ?_
    refine qab h fun x105 hx105 h=>?_
    refine qbd hτ rfl rfl rfl (qgo hx105) ?_
    refine qbd hτ rfl rfl rfl (qc8 _) ?_
    refine qfe hτ rfl rfl rfl (qc8 _) (qh7 hx105) (qi0 (f:=qah) (l:=(((((((v61.set v63.toNat (SBus.mk v62 x88.Own x88.Shared x88.Kind x88.Load x88.qa6)).set v63.toNat (SBus.mk x91.qag (Cx.mk x89 x90) x91.Shared x91.Kind x91.Load x91.qa6)).set v63.toNat (SBus.mk x94.qag x94.Own (Cx.mk x92 x93) x94.Kind x94.Load x94.qa6)).set v63.toNat (SBus.mk x95.qag x95.Own x95.Shared (w64 ((w64 ((w64 (v62 + (1:Int))) + (1:Int))) + (1:Int))) x95.Load x95.qa6)).set v63.toNat (SBus.mk x98.qag x98.Own x98.Shared x98.Kind (qaa.mk (Cx.mk x96 x97) x98.Load.B x98.Load.C) x98.qa6)).set v63.toNat (SBus.mk x101.qag x101.Own x101.Shared x101.Kind (qaa.mk x101.Load.A (Cx.mk x99 x100) x101.Load.C) x101.qa6)).set v63.toNat (SBus.mk x104.qag x104.Own x104.Shared x104.Kind (qaa.mk x104.Load.A x104.Load.B (Cx.mk x102 x103)) x104.qa6))) (i:=v63) (y:=(SBus.mk x105.qag x105.Own x105.Shared x105.Kind x105.Load (w64 ((w64 ((w64 ((w64 ((w64 ((w64 ((w64 (v62 + (1:Int))) + (1:Int))) + (1:Int))) + (1:Int))) + (1:Int))) + (1:Int))) + (1:Int))))) rfl) ?_
    refine qa4 ?_
    refine qa9 (qa3 [0] (l:=[(0,.row 0 (((((((((v61.set v63.toNat (SBus.mk v62 x88.Own x88.Shared x88.Kind x88.Load x88.qa6)).set v63.toNat (SBus.mk x91.qag (Cx.mk x89 x90) x91.Shared x91.Kind x91.Load x91.qa6)).set v63.toNat (SBus.mk x94.qag x94.Own (Cx.mk x92 x93) x94.Kind x94.Load x94.qa6)).set v63.toNat (SBus.mk x95.qag x95.Own x95.Shared (w64 ((w64 ((w64 (v62 + (1:Int))) + (1:Int))) + (1:Int))) x95.Load x95.qa6)).set v63.toNat (SBus.mk x98.qag x98.Own x98.Shared x98.Kind (qaa.mk (Cx.mk x96 x97) x98.Load.B x98.Load.C) x98.qa6)).set v63.toNat (SBus.mk x101.qag x101.Own x101.Shared x101.Kind (qaa.mk x101.Load.A (Cx.mk x99 x100) x101.Load.C) x101.qa6)).set v63.toNat (SBus.mk x104.qag x104.Own x104.Shared x104.Kind (qaa.mk x104.Load.A x104.Load.B (Cx.mk x102 x103)) x104.qa6)).set v63.toNat (SBus.mk x105.qag x105.Own x105.Shared x105.Kind x105.Load (w64 ((w64 ((w64 ((w64 ((w64 ((w64 ((w64 (v62 + (1:Int))) + (1:Int))) + (1:Int))) + (1:Int))) + (1:Int))) + (1:Int))) + (1:Int))))).length) 0 (((((((((v61.set v63.toNat (SBus.mk v62 x88.Own x88.Shared x88.Kind x88.Load x88.qa6)).set v63.toNat (SBus.mk x91.qag (Cx.mk x89 x90) x91.Shared x91.Kind x91.Load x91.qa6)).set v63.toNat (SBus.mk x94.qag x94.Own (Cx.mk x92 x93) x94.Kind x94.Load x94.qa6)).set v63.toNat (SBus.mk x95.qag x95.Own x95.Shared (w64 ((w64 ((w64 (v62 + (1:Int))) + (1:Int))) + (1:Int))) x95.Load x95.qa6)).set v63.toNat (SBus.mk x98.qag x98.Own x98.Shared x98.Kind (qaa.mk (Cx.mk x96 x97) x98.Load.B x98.Load.C) x98.qa6)).set v63.toNat (SBus.mk x101.qag x101.Own x101.Shared x101.Kind (qaa.mk x101.Load.A (Cx.mk x99 x100) x101.Load.C) x101.qa6)).set v63.toNat (SBus.mk x104.qag x104.Own x104.Shared x104.Kind (qaa.mk x104.Load.A x104.Load.B (Cx.mk x102 x103)) x104.qa6)).set v63.toNat (SBus.mk x105.qag x105.Own x105.Shared x105.Kind x105.Load (w64 ((w64 ((w64 ((w64 ((w64 ((w64 ((w64 (v62 + (1:Int))) + (1:Int))) + (1:Int))) + (1:Int))) + (1:Int))) + (1:Int))) + (1:Int))))).length)),(1,.d (.int .i64 (w64 ((w64 ((w64 ((w64 ((w64 ((w64 ((w64 (v62 + (1:Int))) + (1:Int))) + (1:Int))) + (1:Int))) + (1:Int))) + (1:Int))) + (1:Int))))),(5,.d (.int .i64 v63))]) (objs:=[.row 8 (((((((((v61.set v63.toNat (SBus.mk v62 x88.Own x88.Shared x88.Kind x88.Load x88.qa6)).set v63.toNat (SBus.mk x91.qag (Cx.mk x89 x90) x91.Shared x91.Kind x91.Load x91.qa6)).set v63.toNat (SBus.mk x94.qag x94.Own (Cx.mk x92 x93) x94.Kind x94.Load x94.qa6)).set v63.toNat (SBus.mk x95.qag x95.Own x95.Shared (w64 ((w64 ((w64 (v62 + (1:Int))) + (1:Int))) + (1:Int))) x95.Load x95.qa6)).set v63.toNat (SBus.mk x98.qag x98.Own x98.Shared x98.Kind (qaa.mk (Cx.mk x96 x97) x98.Load.B x98.Load.C) x98.qa6)).set v63.toNat (SBus.mk x101.qag x101.Own x101.Shared x101.Kind (qaa.mk x101.Load.A (Cx.mk x99 x100) x101.Load.C) x101.qa6)).set v63.toNat (SBus.mk x104.qag x104.Own x104.Shared x104.Kind (qaa.mk x104.Load.A x104.Load.B (Cx.mk x102 x103)) x104.qa6)).set v63.toNat (SBus.mk x105.qag x105.Own x105.Shared x105.Kind x105.Load (w64 ((w64 ((w64 ((w64 ((w64 ((w64 ((w64 (v62 + (1:Int))) + (1:Int))) + (1:Int))) + (1:Int))) + (1:Int))) + (1:Int))) + (1:Int))))).map qah)]) rfl (by simp) rfl (by trivial) ⟨(qgn rfl (by simp)),trivial,rfl,trivial,rfl,trivial,trivial⟩) ?_
    refine qa2 ?_
    refine qa0 hτ rfl rfl rfl ?_
    refine qa0 hτ rfl rfl rfl ?_
    refine qa0 hτ rfl rfl rfl ?_
    refine qa4 ?_
    refine qa2 ?_
    refine qa0 hτ rfl rfl rfl ?_
    refine qa0 hτ rfl rfl rfl ?_
    refine qa0 hτ rfl rfl rfl ?_
    refine qa4 ?_
    exact ⟨(m85,((((((((v61.set v63.toNat (SBus.mk v62 x88.Own x88.Shared x88.Kind x88.Load x88.qa6)).set v63.toNat (SBus.mk x91.qag (Cx.mk x89 x90) x91.Shared x91.Kind x91.Load x91.qa6)).set v63.toNat (SBus.mk x94.qag x94.Own (Cx.mk x92 x93) x94.Kind x94.Load x94.qa6)).set v63.toNat (SBus.mk x95.qag x95.Own x95.Shared (w64 ((w64 ((w64 (v62 + (1:Int))) + (1:Int))) + (1:Int))) x95.Load x95.qa6)).set v63.toNat (SBus.mk x98.qag x98.Own x98.Shared x98.Kind (qaa.mk (Cx.mk x96 x97) x98.Load.B x98.Load.C) x98.qa6)).set v63.toNat (SBus.mk x101.qag x101.Own x101.Shared x101.Kind (qaa.mk x101.Load.A (Cx.mk x99 x100) x101.Load.C) x101.qa6)).set v63.toNat (SBus.mk x104.qag x104.Own x104.Shared x104.Kind (qaa.mk x104.Load.A x104.Load.B (Cx.mk x102 x103)) x104.qa6)).set v63.toNat (SBus.mk x105.qag x105.Own x105.Shared x105.Kind x105.Load (w64 ((w64 ((w64 ((w64 ((w64 ((w64 ((w64 (v62 + (1:Int))) + (1:Int))) + (1:Int))) + (1:Int))) + (1:Int))) + (1:Int))) + (1:Int))))),(w64 ((w64 ((w64 ((w64 ((w64 ((w64 ((w64 ((w64 (v62 + (1:Int))) + (1:Int))) + (1:Int))) + (1:Int))) + (1:Int))) + (1:Int))) + (1:Int))) + (1:Int))),(w64 (v63 + (1:Int)))),h,Nat.lt_succ_self m85,(qa3 [0] (l:=[(0,.row 0 (((((((((v61.set v63.toNat (SBus.mk v62 x88.Own x88.Shared x88.Kind x88.Load x88.qa6)).set v63.toNat (SBus.mk x91.qag (Cx.mk x89 x90) x91.Shared x91.Kind x91.Load x91.qa6)).set v63.toNat (SBus.mk x94.qag x94.Own (Cx.mk x92 x93) x94.Kind x94.Load x94.qa6)).set v63.toNat (SBus.mk x95.qag x95.Own x95.Shared (w64 ((w64 ((w64 (v62 + (1:Int))) + (1:Int))) + (1:Int))) x95.Load x95.qa6)).set v63.toNat (SBus.mk x98.qag x98.Own x98.Shared x98.Kind (qaa.mk (Cx.mk x96 x97) x98.Load.B x98.Load.C) x98.qa6)).set v63.toNat (SBus.mk x101.qag x101.Own x101.Shared x101.Kind (qaa.mk x101.Load.A (Cx.mk x99 x100) x101.Load.C) x101.qa6)).set v63.toNat (SBus.mk x104.qag x104.Own x104.Shared x104.Kind (qaa.mk x104.Load.A x104.Load.B (Cx.mk x102 x103)) x104.qa6)).set v63.toNat (SBus.mk x105.qag x105.Own x105.Shared x105.Kind x105.Load (w64 ((w64 ((w64 ((w64 ((w64 ((w64 ((w64 (v62 + (1:Int))) + (1:Int))) + (1:Int))) + (1:Int))) + (1:Int))) + (1:Int))) + (1:Int))))).length) 0 (((((((((v61.set v63.toNat (SBus.mk v62 x88.Own x88.Shared x88.Kind x88.Load x88.qa6)).set v63.toNat (SBus.mk x91.qag (Cx.mk x89 x90) x91.Shared x91.Kind x91.Load x91.qa6)).set v63.toNat (SBus.mk x94.qag x94.Own (Cx.mk x92 x93) x94.Kind x94.Load x94.qa6)).set v63.toNat (SBus.mk x95.qag x95.Own x95.Shared (w64 ((w64 ((w64 (v62 + (1:Int))) + (1:Int))) + (1:Int))) x95.Load x95.qa6)).set v63.toNat (SBus.mk x98.qag x98.Own x98.Shared x98.Kind (qaa.mk (Cx.mk x96 x97) x98.Load.B x98.Load.C) x98.qa6)).set v63.toNat (SBus.mk x101.qag x101.Own x101.Shared x101.Kind (qaa.mk x101.Load.A (Cx.mk x99 x100) x101.Load.C) x101.qa6)).set v63.toNat (SBus.mk x104.qag x104.Own x104.Shared x104.Kind (qaa.mk x104.Load.A x104.Load.B (Cx.mk x102 x103)) x104.qa6)).set v63.toNat (SBus.mk x105.qag x105.Own x105.Shared x105.Kind x105.Load (w64 ((w64 ((w64 ((w64 ((w64 ((w64 ((w64 (v62 + (1:Int))) + (1:Int))) + (1:Int))) + (1:Int))) + (1:Int))) + (1:Int))) + (1:Int))))).length)),(1,.d (.int .i64 (w64 ((w64 ((w64 ((w64 ((w64 ((w64 ((w64 ((w64 (v62 + (1:Int))) + (1:Int))) + (1:Int))) + (1:Int))) + (1:Int))) + (1:Int))) + (1:Int))) + (1:Int))))),(5,.d (.int .i64 (w64 (v63 + (1:Int)))))]) (objs:=[.row 8 (((((((((v61.set v63.toNat (SBus.mk v62 x88.Own x88.Shared x88.Kind x88.Load x88.qa6)).set v63.toNat (SBus.mk x91.qag (Cx.mk x89 x90) x91.Shared x91.Kind x91.Load x91.qa6)).set v63.toNat (SBus.mk x94.qag x94.Own (Cx.mk x92 x93) x94.Kind x94.Load x94.qa6)).set v63.toNat (SBus.mk x95.qag x95.Own x95.Shared (w64 ((w64 ((w64 (v62 + (1:Int))) + (1:Int))) + (1:Int))) x95.Load x95.qa6)).set v63.toNat (SBus.mk x98.qag x98.Own x98.Shared x98.Kind (qaa.mk (Cx.mk x96 x97) x98.Load.B x98.Load.C) x98.qa6)).set v63.toNat (SBus.mk x101.qag x101.Own x101.Shared x101.Kind (qaa.mk x101.Load.A (Cx.mk x99 x100) x101.Load.C) x101.qa6)).set v63.toNat (SBus.mk x104.qag x104.Own x104.Shared x104.Kind (qaa.mk x104.Load.A x104.Load.B (Cx.mk x102 x103)) x104.qa6)).set v63.toNat (SBus.mk x105.qag x105.Own x105.Shared x105.Kind x105.Load (w64 ((w64 ((w64 ((w64 ((w64 ((w64 ((w64 (v62 + (1:Int))) + (1:Int))) + (1:Int))) + (1:Int))) + (1:Int))) + (1:Int))) + (1:Int))))).map qah)]) rfl (by simp) rfl (by trivial) ⟨rfl,trivial,rfl,trivial,rfl,trivial,trivial⟩)⟩
  · have h:=if_f h hc87
    refine qdv ?_
    refine qa5 ?_
    refine qa2 ?_
    refine qa0 hτ rfl rfl rfl ?_
    refine qa0 hτ rfl rfl rfl ?_
    refine qa4 ?_
    refine qa9 (qa3 [0] (l:=[(4,.d (.int .i64 v62))]) (objs:=[.row 8 (v61.map qah)]) rfl (by simp) rfl (by trivial) ⟨rfl,trivial,trivial⟩) ?_
    refine qas ?_
    have hr:=Option.some.inj h
    subst hr
    exact qaf (.inr rfl) [] (objs':=[.row 8 (v61.map qah)]) (new:=[]) rfl (by simp) (by simp) rfl (by trivial) rfl rfl (by trivial) (fun _=>⟨by simp [V.flat,V.qb2,V.qay,D.flat],(qb8 (qd2 qjf _) qai)⟩) ⟨rfl,rfl,rfl⟩
theorem laws_markBusS_ok (n:Nat) (a_:List SBus) (k_:Int) {r:Int × List SBus} (h:qfx n a_ k_ = some r):qb5 prog false 88 [.row 0 a_.length 0 a_.length,.d (.int .i64 k_)] [.row 8 (a_.map qah)] (fun v o new=>v = .d (.int .i64 r.1)∧o = [.row 8 (r.2.map qah)]∧new = []):=laws_markBusS_ok_fr0 false n a_ k_ h
def qfq (n:Nat) (a_:qck) (k_:Int):Option (Int × List SBus) :=
  (qfx n a_.qac k_).bind fun x3 =>
  grd (x3.2.length = a_.qac.length) <|
  some (x3.1,x3.2)
theorem laws_markFeeder_ok_fr0 (fr:Bool) (n:Nat) (a_:qck) (k_:Int) {r:Int × List SBus} (h:qfq n a_ k_ = some r):qb5 prog fr 37 [.agg [.d (.cx .f32 a_.Source.A.re a_.Source.A.im),.d (.cx .f32 a_.Source.B.re a_.Source.B.im),.d (.cx .f32 a_.Source.C.re a_.Source.C.im),.row 0 a_.qac.length 0 a_.qac.length],.d (.int .i64 k_)] [.row 8 (a_.qac.map qah)] (fun v o new=>v = .d (.int .i64 r.1)∧o = [.row 8 (r.2.map qah)]∧new = []):=by
  refine qar hτ func37 rfl (by simp) (by simp) ?_
  unfold qfq at h
  refine qa5 ?_
  refine qa2 ?_
  refine qaq hτ rfl rfl rfl ?_
  refine qa0 hτ rfl rfl rfl ?_
  refine qa4 ?_
  refine qa5 ?_
  refine qa2 ?_
  refine qa0 hτ rfl rfl rfl ?_
  refine qa0 hτ rfl rfl rfl ?_
  refine qa0 hτ rfl rfl rfl ?_
  refine qab h fun x3 hx3 h=>?_
  refine qam hτ false [0] rfl rfl rfl (qap func88 rfl rfl) rfl rfl (by simp) ⟨trivial,trivial,trivial⟩ (by trivial) (laws_markBusS_ok n a_.qac k_ hx3) ?_
  rintro r0 o0 n0 ⟨rfl,rfl,rfl⟩ -
  refine qbh h fun hg4 h=>?_
  refine qa0 hτ rfl rfl rfl ?_
  refine qa4 ?_
  refine qa5 ?_
  refine qa9 (qa3 [0] (l:=[(1,.d (.int .i64 x3.1))]) (objs:=[.row 8 (x3.2.map qah)]) rfl (by simp) rfl (by trivial) ⟨rfl,trivial,trivial⟩) ?_
  refine qa2 ?_
  refine qa0 hτ rfl rfl rfl ?_
  refine qa0 hτ rfl rfl rfl ?_
  refine qa4 ?_
  refine qa9 (qa3 [0] (l:=[(4,.d (.int .i64 x3.1))]) (objs:=[.row 8 (x3.2.map qah)]) rfl (by simp) rfl (by trivial) ⟨rfl,trivial,trivial⟩) ?_
  refine qas ?_
  have hr:=Option.some.inj h
  subst hr
  exact qaf (.inr rfl) [] (objs':=[.row 8 (x3.2.map qah)]) (new:=[]) rfl (by simp) (by simp) rfl (by trivial) rfl rfl (by trivial) (fun _=>⟨by simp [V.flat,V.qb2,V.qay,D.flat],(qb8 (qd2 qjf _) qai)⟩) ⟨rfl,rfl,rfl⟩
theorem laws_markFeeder_ok (n:Nat) (a_:qck) (k_:Int) {r:Int × List SBus} (h:qfq n a_ k_ = some r):qb5 prog false 37 [.agg [.d (.cx .f32 a_.Source.A.re a_.Source.A.im),.d (.cx .f32 a_.Source.B.re a_.Source.B.im),.d (.cx .f32 a_.Source.C.re a_.Source.C.im),.row 0 a_.qac.length 0 a_.qac.length],.d (.int .i64 k_)] [.row 8 (a_.qac.map qah)] (fun v o new=>v = .d (.int .i64 r.1)∧o = [.row 8 (r.2.map qah)]∧new = []):=laws_markFeeder_ok_fr0 false n a_ k_ h
def qdn (n:Nat):Nat→List STie→Int→Int→Option (Int × List STie)
  | 0,_,_,_=>none
  | m49 + 1,v34,v35,v36 =>
    if v36 < (v34.length:Int) then
      (getI v34 v36).bind fun x52 =>
      (getI (v34.set v36.toNat (STie.mk v35 x52.B x52.Own x52.Shared x52.Most)) v36).bind fun x53 =>
      (qcf .f64 .f32 (FloatKind.nearest .f64 (w64 ((w64 (v35 + (1:Int))) + (1:Int))))).bind fun x54 =>
      (qcf .f64 .f32 (4607182418800017408:Nat)).bind fun x55 =>
      (getI ((v34.set v36.toNat (STie.mk v35 x52.B x52.Own x52.Shared x52.Most)).set v36.toNat (STie.mk x53.A (w64 (v35 + (1:Int))) x53.Own x53.Shared x53.Most)) v36).bind fun x56 =>
      (qcf .f64 .f32 (FloatKind.nearest .f64 (w64 ((w64 ((w64 (v35 + (1:Int))) + (1:Int))) + (1:Int))))).bind fun x57 =>
      (qcf .f64 .f32 (4607182418800017408:Nat)).bind fun x58 =>
      (getI (((v34.set v36.toNat (STie.mk v35 x52.B x52.Own x52.Shared x52.Most)).set v36.toNat (STie.mk x53.A (w64 (v35 + (1:Int))) x53.Own x53.Shared x53.Most)).set v36.toNat (STie.mk x56.A x56.B (Cx.mk x54 x55) x56.Shared x56.Most)) v36).bind fun x59 =>
      (getI ((((v34.set v36.toNat (STie.mk v35 x52.B x52.Own x52.Shared x52.Most)).set v36.toNat (STie.mk x53.A (w64 (v35 + (1:Int))) x53.Own x53.Shared x53.Most)).set v36.toNat (STie.mk x56.A x56.B (Cx.mk x54 x55) x56.Shared x56.Most)).set v36.toNat (STie.mk x59.A x59.B x59.Own (Cx.mk x57 x58) x59.Most)) v36).bind fun x60 =>
      (qdn n m49) (((((v34.set v36.toNat (STie.mk v35 x52.B x52.Own x52.Shared x52.Most)).set v36.toNat (STie.mk x53.A (w64 (v35 + (1:Int))) x53.Own x53.Shared x53.Most)).set v36.toNat (STie.mk x56.A x56.B (Cx.mk x54 x55) x56.Shared x56.Most)).set v36.toNat (STie.mk x59.A x59.B x59.Own (Cx.mk x57 x58) x59.Most)).set v36.toNat (STie.mk x60.A x60.B x60.Own x60.Shared (w64 ((w64 ((w64 ((w64 (v35 + (1:Int))) + (1:Int))) + (1:Int))) + (1:Int))))) (w64 ((w64 ((w64 ((w64 ((w64 (v35 + (1:Int))) + (1:Int))) + (1:Int))) + (1:Int))) + (1:Int))) (w64 (v36 + (1:Int)))
    else
      some (v35,v34)
def qhg (n:Nat) (a_:List STie) (k_:Int):Option (Int × List STie) :=
  qdn n n a_ k_ (0:Int)
theorem laws_markTieS_ok_fr0 (fr:Bool) (n:Nat) (a_:List STie) (k_:Int) {r:Int × List STie} (h:qhg n a_ k_ = some r):qb5 prog fr 38 [.row 0 a_.length 0 a_.length,.d (.int .i64 k_)] [.row 5 (a_.map qan)] (fun v o new=>v = .d (.int .i64 r.1)∧o = [.row 5 (r.2.map qan)]∧new = []):=by
  refine qar hτ func38 rfl (by simp) (by simp) ?_
  unfold qhg at h
  refine qa5 ?_
  refine qa2 ?_
  refine qa0 hτ rfl rfl rfl ?_
  refine qa4 ?_
  refine qa5 ?_
  refine qa5 ?_
  refine qa2 ?_
  refine qa0 hτ rfl rfl rfl ?_
  refine qa4 ?_
  refine qb6 ?_
  refine qe1 (ι:=Nat × List STie × Int × Int) (fun (m49,v34,v35,v36)=>St.of [(0,.row 0 v34.length 0 v34.length),(1,.d (.int .i64 v35)),(5,.d (.int .i64 v36))] [.row 5 (v34.map qan)] f38.ntmps 1) (fun (m49,v34,v35,v36)=>qdn n m49 v34 v35 v36 = some r) (fun x=>x.1) (n,a_,k_,(0:Int)) h (qa3 [0] (l:=[(0,.row 0 a_.length 0 a_.length),(1,.d (.int .i64 k_)),(5,.d (.int .i64 (0:Int)))]) (objs:=[.row 5 (a_.map qan)]) rfl (by simp) rfl (by trivial) ⟨rfl,trivial,rfl,trivial,rfl,trivial,trivial⟩) ?_
  rintro ⟨m49,v34,v35,v36⟩ h
  replace h:qdn n m49 v34 v35 v36 = some r:=h
  rcases m49 with _ | m49
  · rw [qdn] at h;cases h
  rw [qdn] at h
  refine qa5 ?_
  refine qa5 ?_
  refine qa2 ?_
  refine qa0 hτ rfl rfl rfl ?_
  refine qa0 hτ rfl rfl rfl ?_
  refine qbd hτ rfl rfl rfl (qc8 _) ?_
  refine qa0 hτ rfl rfl rfl ?_
  refine qa4 ?_
  refine qau rfl (fun hc51=>?_) (fun hc51=>?_)
  · have h:=if_t h hc51
    refine qav ?_
    refine qa5 ?_
    refine qb6 ?_
    refine qa5 ?_
    refine qa2 ?_
    refine qa0 hτ rfl rfl rfl ?_
    refine qa0 hτ rfl rfl rfl ?_
    refine qa0 hτ rfl rfl rfl ?_
    refine qab h fun x52 hx52 h=>?_
    refine qbd hτ rfl rfl rfl (qgo hx52) ?_
    refine qbd hτ rfl rfl rfl (qc8 _) ?_
    refine qfe hτ rfl rfl rfl (qc8 _) (qh7 hx52) (qi0 (f:=qan) (l:=v34) (i:=v36) (y:=(STie.mk v35 x52.B x52.Own x52.Shared x52.Most)) rfl) ?_
    refine qa4 ?_
    refine qa5 ?_
    refine qa9 (qa3 [0] (l:=[(0,.row 0 ((v34.set v36.toNat (STie.mk v35 x52.B x52.Own x52.Shared x52.Most)).length) 0 ((v34.set v36.toNat (STie.mk v35 x52.B x52.Own x52.Shared x52.Most)).length)),(1,.d (.int .i64 v35)),(5,.d (.int .i64 v36))]) (objs:=[.row 5 ((v34.set v36.toNat (STie.mk v35 x52.B x52.Own x52.Shared x52.Most)).map qan)]) rfl (by simp) rfl (by trivial) ⟨(qgn rfl (by simp)),trivial,rfl,trivial,rfl,trivial,trivial⟩) ?_
    refine qa2 ?_
    refine qa0 hτ rfl rfl rfl ?_
    refine qa0 hτ rfl rfl rfl ?_
    refine qa0 hτ rfl rfl rfl ?_
    refine qa4 ?_
    refine qa5 ?_
    refine qa2 ?_
    refine qa0 hτ rfl rfl rfl ?_
    refine qa0 hτ rfl rfl rfl ?_
    refine qa0 hτ rfl rfl rfl ?_
    refine qab h fun x53 hx53 h=>?_
    refine qbd hτ rfl rfl rfl (qgo hx53) ?_
    refine qbd hτ rfl rfl rfl (qc8 _) ?_
    refine qfe hτ rfl rfl rfl (qc8 _) (qh7 hx53) (qi0 (f:=qan) (l:=(v34.set v36.toNat (STie.mk v35 x52.B x52.Own x52.Shared x52.Most))) (i:=v36) (y:=(STie.mk x53.A (w64 (v35 + (1:Int))) x53.Own x53.Shared x53.Most)) rfl) ?_
    refine qa4 ?_
    refine qa5 ?_
    refine qa9 (qa3 [0] (l:=[(0,.row 0 (((v34.set v36.toNat (STie.mk v35 x52.B x52.Own x52.Shared x52.Most)).set v36.toNat (STie.mk x53.A (w64 (v35 + (1:Int))) x53.Own x53.Shared x53.Most)).length) 0 (((v34.set v36.toNat (STie.mk v35 x52.B x52.Own x52.Shared x52.Most)).set v36.toNat (STie.mk x53.A (w64 (v35 + (1:Int))) x53.Own x53.Shared x53.Most)).length)),(1,.d (.int .i64 (w64 (v35 + (1:Int))))),(5,.d (.int .i64 v36))]) (objs:=[.row 5 (((v34.set v36.toNat (STie.mk v35 x52.B x52.Own x52.Shared x52.Most)).set v36.toNat (STie.mk x53.A (w64 (v35 + (1:Int))) x53.Own x53.Shared x53.Most)).map qan)]) rfl (by simp) rfl (by trivial) ⟨(qgn rfl (by simp)),trivial,rfl,trivial,rfl,trivial,trivial⟩) ?_
    refine qa2 ?_
    refine qa0 hτ rfl rfl rfl ?_
    refine qa0 hτ rfl rfl rfl ?_
    refine qa0 hτ rfl rfl rfl ?_
    refine qa4 ?_
    refine qa5 ?_
    refine qa2 ?_
    refine qa0 hτ rfl rfl rfl ?_
    refine qa0 hτ rfl rfl rfl ?_
    refine qa0 hτ rfl rfl rfl ?_
    refine qa0 hτ rfl rfl rfl ?_
    refine qa0 hτ rfl rfl rfl ?_
    refine qab h fun x54 hx54 h=>?_
    refine qab h fun x55 hx55 h=>?_
    refine qha rfl rfl (qhw hτ rfl rfl rfl rfl rfl rfl hx54 hx55) ?_
    refine qab h fun x56 hx56 h=>?_
    refine qbd hτ rfl rfl rfl (qgo hx56) ?_
    refine qbd hτ rfl rfl rfl (qc8 _) ?_
    refine qfe hτ rfl rfl rfl (qc8 _) (qh7 hx56) (qi0 (f:=qan) (l:=((v34.set v36.toNat (STie.mk v35 x52.B x52.Own x52.Shared x52.Most)).set v36.toNat (STie.mk x53.A (w64 (v35 + (1:Int))) x53.Own x53.Shared x53.Most))) (i:=v36) (y:=(STie.mk x56.A x56.B (Cx.mk x54 x55) x56.Shared x56.Most)) rfl) ?_
    refine qa4 ?_
    refine qa5 ?_
    refine qa9 (qa3 [0] (l:=[(0,.row 0 ((((v34.set v36.toNat (STie.mk v35 x52.B x52.Own x52.Shared x52.Most)).set v36.toNat (STie.mk x53.A (w64 (v35 + (1:Int))) x53.Own x53.Shared x53.Most)).set v36.toNat (STie.mk x56.A x56.B (Cx.mk x54 x55) x56.Shared x56.Most)).length) 0 ((((v34.set v36.toNat (STie.mk v35 x52.B x52.Own x52.Shared x52.Most)).set v36.toNat (STie.mk x53.A (w64 (v35 + (1:Int))) x53.Own x53.Shared x53.Most)).set v36.toNat (STie.mk x56.A x56.B (Cx.mk x54 x55) x56.Shared x56.Most)).length)),(1,.d (.int .i64 (w64 ((w64 (v35 + (1:Int))) + (1:Int))))),(5,.d (.int .i64 v36))]) (objs:=[.row 5 ((((v34.set v36.toNat (STie.mk v35 x52.B x52.Own x52.Shared x52.Most)).set v36.toNat (STie.mk x53.A (w64 (v35 + (1:Int))) x53.Own x53.Shared x53.Most)).set v36.toNat (STie.mk x56.A x56.B (Cx.mk x54 x55) x56.Shared x56.Most)).map qan)]) rfl (by simp) rfl (by trivial) ⟨(qgn rfl (by simp)),trivial,rfl,trivial,rfl,trivial,trivial⟩) ?_
    refine qa2 ?_
    refine qa0 hτ rfl rfl rfl ?_
    refine qa0 hτ rfl rfl rfl ?_
    refine qa0 hτ rfl rfl rfl ?_
    refine qa4 ?_
    refine qa5 ?_
    refine qa2 ?_
    refine qa0 hτ rfl rfl rfl ?_
    refine qa0 hτ rfl rfl rfl ?_
    refine qa0 hτ rfl rfl rfl ?_
    refine qa0 hτ rfl rfl rfl ?_
    refine qa0 hτ rfl rfl rfl ?_
    refine qab h fun x57 hx57 h=>?_
    refine qab h fun x58 hx58 h=>?_
    refine qha rfl rfl (qhw hτ rfl rfl rfl rfl rfl rfl hx57 hx58) ?_
    refine qab h fun x59 hx59 h=>?_
    refine qbd hτ rfl rfl rfl (qgo hx59) ?_
    refine qbd hτ rfl rfl rfl (qc8 _) ?_
    refine qfe hτ rfl rfl rfl (qc8 _) (qh7 hx59) (qi0 (f:=qan) (l:=(((v34.set v36.toNat (STie.mk v35 x52.B x52.Own x52.Shared x52.Most)).set v36.toNat (STie.mk x53.A (w64 (v35 + (1:Int))) x53.Own x53.Shared x53.Most)).set v36.toNat (STie.mk x56.A x56.B (Cx.mk x54 x55) x56.Shared x56.Most))) (i:=v36) (y:=(STie.mk x59.A x59.B x59.Own (Cx.mk x57 x58) x59.Most)) rfl) ?_
    refine qa4 ?_
    refine qa5 ?_
    refine qa9 (qa3 [0] (l:=[(0,.row 0 (((((v34.set v36.toNat (STie.mk v35 x52.B x52.Own x52.Shared x52.Most)).set v36.toNat (STie.mk x53.A (w64 (v35 + (1:Int))) x53.Own x53.Shared x53.Most)).set v36.toNat (STie.mk x56.A x56.B (Cx.mk x54 x55) x56.Shared x56.Most)).set v36.toNat (STie.mk x59.A x59.B x59.Own (Cx.mk x57 x58) x59.Most)).length) 0 (((((v34.set v36.toNat (STie.mk v35 x52.B x52.Own x52.Shared x52.Most)).set v36.toNat (STie.mk x53.A (w64 (v35 + (1:Int))) x53.Own x53.Shared x53.Most)).set v36.toNat (STie.mk x56.A x56.B (Cx.mk x54 x55) x56.Shared x56.Most)).set v36.toNat (STie.mk x59.A x59.B x59.Own (Cx.mk x57 x58) x59.Most)).length)),(1,.d (.int .i64 (w64 ((w64 ((w64 (v35 + (1:Int))) + (1:Int))) + (1:Int))))),(5,.d (.int .i64 v36))]) (objs:=[.row 5 (((((v34.set v36.toNat (STie.mk v35 x52.B x52.Own x52.Shared x52.Most)).set v36.toNat (STie.mk x53.A (w64 (v35 + (1:Int))) x53.Own x53.Shared x53.Most)).set v36.toNat (STie.mk x56.A x56.B (Cx.mk x54 x55) x56.Shared x56.Most)).set v36.toNat (STie.mk x59.A x59.B x59.Own (Cx.mk x57 x58) x59.Most)).map qan)]) rfl (by simp) rfl (by trivial) ⟨(qgn rfl (by simp)),trivial,rfl,trivial,rfl,trivial,trivial⟩) ?_
    refine qa2 ?_
    refine qa0 hτ rfl rfl rfl ?_
    refine qa0 hτ rfl rfl rfl ?_
    refine qa0 hτ rfl rfl rfl ?_
    refine qa4 ?_
    refine qa5 ?_
    refine qa2 ?_
    refine qa0 hτ rfl rfl rfl ?_
    refine qa0 hτ rfl rfl rfl ?_
    refine qa0 hτ rfl rfl rfl ?_
    refine qab h fun x60 hx60 h=>?_
    refine qbd hτ rfl rfl rfl (qgo hx60) ?_
    refine qbd hτ rfl rfl rfl (qc8 _) ?_
    refine qfe hτ rfl rfl rfl (qc8 _) (qh7 hx60) (qi0 (f:=qan) (l:=((((v34.set v36.toNat (STie.mk v35 x52.B x52.Own x52.Shared x52.Most)).set v36.toNat (STie.mk x53.A (w64 (v35 + (1:Int))) x53.Own x53.Shared x53.Most)).set v36.toNat (STie.mk x56.A x56.B (Cx.mk x54 x55) x56.Shared x56.Most)).set v36.toNat (STie.mk x59.A x59.B x59.Own (Cx.mk x57 x58) x59.Most))) (i:=v36) (y:=(STie.mk x60.A x60.B x60.Own x60.Shared (w64 ((w64 ((w64 ((w64 (v35 + (1:Int))) + (1:Int))) + (1:Int))) + (1:Int))))) rfl) ?_
    refine qa4 ?_
    refine qa9 (qa3 [0] (l:=[(0,.row 0 ((((((v34.set v36.toNat (STie.mk v35 x52.B x52.Own x52.Shared x52.Most)).set v36.toNat (STie.mk x53.A (w64 (v35 + (1:Int))) x53.Own x53.Shared x53.Most)).set v36.toNat (STie.mk x56.A x56.B (Cx.mk x54 x55) x56.Shared x56.Most)).set v36.toNat (STie.mk x59.A x59.B x59.Own (Cx.mk x57 x58) x59.Most)).set v36.toNat (STie.mk x60.A x60.B x60.Own x60.Shared (w64 ((w64 ((w64 ((w64 (v35 + (1:Int))) + (1:Int))) + (1:Int))) + (1:Int))))).length) 0 ((((((v34.set v36.toNat (STie.mk v35 x52.B x52.Own x52.Shared x52.Most)).set v36.toNat (STie.mk x53.A (w64 (v35 + (1:Int))) x53.Own x53.Shared x53.Most)).set v36.toNat (STie.mk x56.A x56.B (Cx.mk x54 x55) x56.Shared x56.Most)).set v36.toNat (STie.mk x59.A x59.B x59.Own (Cx.mk x57 x58) x59.Most)).set v36.toNat (STie.mk x60.A x60.B x60.Own x60.Shared (w64 ((w64 ((w64 ((w64 (v35 + (1:Int))) + (1:Int))) + (1:Int))) + (1:Int))))).length)),(1,.d (.int .i64 (w64 ((w64 ((w64 ((w64 (v35 + (1:Int))) + (1:Int))) + (1:Int))) + (1:Int))))),(5,.d (.int .i64 v36))]) (objs:=[.row 5 ((((((v34.set v36.toNat (STie.mk v35 x52.B x52.Own x52.Shared x52.Most)).set v36.toNat (STie.mk x53.A (w64 (v35 + (1:Int))) x53.Own x53.Shared x53.Most)).set v36.toNat (STie.mk x56.A x56.B (Cx.mk x54 x55) x56.Shared x56.Most)).set v36.toNat (STie.mk x59.A x59.B x59.Own (Cx.mk x57 x58) x59.Most)).set v36.toNat (STie.mk x60.A x60.B x60.Own x60.Shared (w64 ((w64 ((w64 ((w64 (v35 + (1:Int))) + (1:Int))) + (1:Int))) + (1:Int))))).map qan)]) rfl (by simp) rfl (by trivial) ⟨(qgn rfl (by simp)),trivial,rfl,trivial,rfl,trivial,trivial⟩) ?_
    refine qa2 ?_
    refine qa0 hτ rfl rfl rfl ?_
    refine qa0 hτ rfl rfl rfl ?_
    refine qa0 hτ rfl rfl rfl ?_
    refine qa4 ?_
    refine qa2 ?_
    refine qa0 hτ rfl rfl rfl ?_
    refine qa0 hτ rfl rfl rfl ?_
    refine qa0 hτ rfl rfl rfl ?_
    refine qa4 ?_
    exact ⟨(m49,(((((v34.set v36.toNat (STie.mk v35 x52.B x52.Own x52.Shared x52.Most)).set v36.toNat (STie.mk x53.A (w64 (v35 + (1:Int))) x53.Own x53.Shared x53.Most)).set v36.toNat (STie.mk x56.A x56.B (Cx.mk x54 x55) x56.Shared x56.Most)).set v36.toNat (STie.mk x59.A x59.B x59.Own (Cx.mk x57 x58) x59.Most)).set v36.toNat (STie.mk x60.A x60.B x60.Own x60.Shared (w64 ((w64 ((w64 ((w64 (v35 + (1:Int))) + (1:Int))) + (1:Int))) + (1:Int))))),(w64 ((w64 ((w64 ((w64 ((w64 (v35 + (1:Int))) + (1:Int))) + (1:Int))) + (1:Int))) + (1:Int))),(w64 (v36 + (1:Int)))),h,Nat.lt_succ_self m49,(qa3 [0] (l:=[(0,.row 0 ((((((v34.set v36.toNat (STie.mk v35 x52.B x52.Own x52.Shared x52.Most)).set v36.toNat (STie.mk x53.A (w64 (v35 + (1:Int))) x53.Own x53.Shared x53.Most)).set v36.toNat (STie.mk x56.A x56.B (Cx.mk x54 x55) x56.Shared x56.Most)).set v36.toNat (STie.mk x59.A x59.B x59.Own (Cx.mk x57 x58) x59.Most)).set v36.toNat (STie.mk x60.A x60.B x60.Own x60.Shared (w64 ((w64 ((w64 ((w64 (v35 + (1:Int))) + (1:Int))) + (1:Int))) + (1:Int))))).length) 0 ((((((v34.set v36.toNat (STie.mk v35 x52.B x52.Own x52.Shared x52.Most)).set v36.toNat (STie.mk x53.A (w64 (v35 + (1:Int))) x53.Own x53.Shared x53.Most)).set v36.toNat (STie.mk x56.A x56.B (Cx.mk x54 x55) x56.Shared x56.Most)).set v36.toNat (STie.mk x59.A x59.B x59.Own (Cx.mk x57 x58) x59.Most)).set v36.toNat (STie.mk x60.A x60.B x60.Own x60.Shared (w64 ((w64 ((w64 ((w64 (v35 + (1:Int))) + (1:Int))) + (1:Int))) + (1:Int))))).length)),(1,.d (.int .i64 (w64 ((w64 ((w64 ((w64 ((w64 (v35 + (1:Int))) + (1:Int))) + (1:Int))) + (1:Int))) + (1:Int))))),(5,.d (.int .i64 (w64 (v36 + (1:Int)))))]) (objs:=[.row 5 ((((((v34.set v36.toNat (STie.mk v35 x52.B x52.Own x52.Shared x52.Most)).set v36.toNat (STie.mk x53.A (w64 (v35 + (1:Int))) x53.Own x53.Shared x53.Most)).set v36.toNat (STie.mk x56.A x56.B (Cx.mk x54 x55) x56.Shared x56.Most)).set v36.toNat (STie.mk x59.A x59.B x59.Own (Cx.mk x57 x58) x59.Most)).set v36.toNat (STie.mk x60.A x60.B x60.Own x60.Shared (w64 ((w64 ((w64 ((w64 (v35 + (1:Int))) + (1:Int))) + (1:Int))) + (1:Int))))).map qan)]) rfl (by simp) rfl (by trivial) ⟨rfl,trivial,rfl,trivial,rfl,trivial,trivial⟩)⟩
  · have h:=if_f h hc51
    refine qdv ?_
    refine qa5 ?_
    refine qa2 ?_
    refine qa0 hτ rfl rfl rfl ?_
    refine qa0 hτ rfl rfl rfl ?_
    refine qa4 ?_
    refine qa9 (qa3 [0] (l:=[(4,.d (.int .i64 v35))]) (objs:=[.row 5 (v34.map qan)]) rfl (by simp) rfl (by trivial) ⟨rfl,trivial,trivial⟩) ?_
    refine qas ?_
    have hr:=Option.some.inj h
    subst hr
    exact qaf (.inr rfl) [] (objs':=[.row 5 (v34.map qan)]) (new:=[]) rfl (by simp) (by simp) rfl (by trivial) rfl rfl (by trivial) (fun _=>⟨by simp [V.flat,V.qb2,V.qay,D.flat],(qb8 (qd2 qjv _) qai)⟩) ⟨rfl,rfl,rfl⟩
theorem laws_markTieS_ok (n:Nat) (a_:List STie) (k_:Int) {r:Int × List STie} (h:qhg n a_ k_ = some r):qb5 prog false 38 [.row 0 a_.length 0 a_.length,.d (.int .i64 k_)] [.row 5 (a_.map qan)] (fun v o new=>v = .d (.int .i64 r.1)∧o = [.row 5 (r.2.map qan)]∧new = []):=laws_markTieS_ok_fr0 false n a_ k_ h
def qd7 (n:Nat) (a_:qbi) (k_:Int):Option (Int × List SBus × List STie) :=
  (qfq n (qck.mk a_.qa1.Source a_.qa1.qac) k_).bind fun x5 =>
  grd (x5.2.length = a_.qa1.qac.length) <|
  (qhg n a_.Ties x5.1).bind fun x7 =>
  grd (x7.2.length = a_.Ties.length) <|
  some (x7.1,x5.2,x7.2)
theorem laws_markGrid_ok_fr0 (fr:Bool) (n:Nat) (a_:qbi) (k_:Int) {r:Int × List SBus × List STie} (h:qd7 n a_ k_ = some r):qb5 prog fr 10 [.agg [.d (.cx .f32 a_.qa1.Source.A.re a_.qa1.Source.A.im),.d (.cx .f32 a_.qa1.Source.B.re a_.qa1.Source.B.im),.d (.cx .f32 a_.qa1.Source.C.re a_.qa1.Source.C.im),.row 0 a_.qa1.qac.length 0 a_.qa1.qac.length,.row 1 a_.Ties.length 0 a_.Ties.length],.d (.int .i64 k_)] [.row 8 (a_.qa1.qac.map qah),.row 5 (a_.Ties.map qan)] (fun v o new=>v = .d (.int .i64 r.1)∧o = [.row 8 (r.2.1.map qah),.row 5 (r.2.2.map qan)]∧new = []):=by
  refine qar hτ func10 rfl (by simp) (by simp) ?_
  unfold qd7 at h
  refine qa5 ?_
  refine qa2 ?_
  refine qaq hτ rfl rfl rfl ?_
  refine qa0 hτ rfl rfl rfl ?_
  refine qa4 ?_
  refine qa5 ?_
  refine qa2 ?_
  refine qa0 hτ rfl rfl rfl ?_
  refine qa0 hτ rfl rfl rfl ?_
  refine qa0 hτ rfl rfl rfl ?_
  refine qab h fun x5 hx5 h=>?_
  refine qam hτ false [0] rfl rfl rfl (qap func37 rfl rfl) rfl rfl (by simp) ⟨(by trivial),trivial,trivial⟩ (by trivial) (laws_markFeeder_ok n (qck.mk a_.qa1.Source a_.qa1.qac) k_ hx5) ?_
  rintro r0 o0 n0 ⟨rfl,rfl,rfl⟩ -
  refine qbh h fun hg6 h=>?_
  refine qa0 hτ rfl rfl rfl ?_
  refine qa4 ?_
  refine qa5 ?_
  refine qa9 (qa3 [0,1,2] (l:=[(1,.d (.int .i64 x5.1)),(2,.ptr 2 0)]) (objs:=[.row 8 (x5.2.map qah),.row 5 (a_.Ties.map qan),.box [.d (.cx .f32 a_.qa1.Source.A.re a_.qa1.Source.A.im),.d (.cx .f32 a_.qa1.Source.B.re a_.qa1.Source.B.im),.d (.cx .f32 a_.qa1.Source.C.re a_.qa1.Source.C.im),.row 0 x5.2.length 0 x5.2.length,.row 1 a_.Ties.length 0 a_.Ties.length]]) rfl (by simp) (qbg rfl (qbg rfl (qbg (qr7 (qbg rfl (qbg rfl (qbg rfl (qbg (qrx rfl (by simp [hg6])) (qbg rfl qht)))))) qht))) ⟨trivial,trivial,⟨trivial,trivial,trivial,trivial,trivial⟩,trivial⟩ ⟨rfl,trivial,rfl,trivial,trivial⟩) ?_
  refine qa2 ?_
  refine qa0 hτ rfl rfl rfl ?_
  refine qa0 hτ rfl rfl rfl ?_
  refine qa0 hτ rfl rfl rfl ?_
  refine qab h fun x7 hx7 h=>?_
  refine qam hτ false [1] rfl rfl rfl (qap func38 rfl rfl) rfl rfl (by simp) ⟨trivial,trivial,trivial⟩ (by trivial) (laws_markTieS_ok n a_.Ties x5.1 hx7) ?_
  rintro r0 o0 n0 ⟨rfl,rfl,rfl⟩ -
  refine qbh h fun hg8 h=>?_
  refine qa0 hτ rfl rfl rfl ?_
  refine qa4 ?_
  refine qa5 ?_
  refine qa2 ?_
  refine qa0 hτ rfl rfl rfl ?_
  refine qa0 hτ rfl rfl rfl ?_
  refine qa4 ?_
  refine qa9 (qa3 [0,1] (l:=[(4,.d (.int .i64 x7.1))]) (objs:=[.row 8 (x5.2.map qah),.row 5 (x7.2.map qan)]) rfl (by simp) rfl (by trivial) ⟨rfl,trivial,trivial⟩) ?_
  refine qas ?_
  have hr:=Option.some.inj h
  subst hr
  exact qaf (.inr rfl) [] (objs':=[.row 8 (x5.2.map qah),.row 5 (x7.2.map qan)]) (new:=[]) rfl (by simp) (by simp) rfl (by trivial) rfl rfl (by trivial) (fun _=>⟨by simp [V.flat,V.qb2,V.qay,D.flat],(qb8 (qd2 qjf _) (qb8 (qd2 qjv _) qai))⟩) ⟨rfl,rfl,rfl⟩
theorem laws_markGrid_ok_fr (n:Nat) (a_:qbi) (k_:Int) {r:Int × List SBus × List STie} (h:qd7 n a_ k_ = some r):qb5 prog true 10 [.agg [.d (.cx .f32 a_.qa1.Source.A.re a_.qa1.Source.A.im),.d (.cx .f32 a_.qa1.Source.B.re a_.qa1.Source.B.im),.d (.cx .f32 a_.qa1.Source.C.re a_.qa1.Source.C.im),.row 0 a_.qa1.qac.length 0 a_.qa1.qac.length,.row 1 a_.Ties.length 0 a_.Ties.length],.d (.int .i64 k_)] [.row 8 (a_.qa1.qac.map qah),.row 5 (a_.Ties.map qan)] (fun v o new=>v = .d (.int .i64 r.1)∧o = [.row 8 (r.2.1.map qah),.row 5 (r.2.2.map qan)]∧new = []):=laws_markGrid_ok_fr0 true n a_ k_ h
end Go.Proofs.Ytmllgpkgjniomaa.AWN
