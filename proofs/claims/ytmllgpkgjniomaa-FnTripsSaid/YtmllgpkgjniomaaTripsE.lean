/- Models and contracts, printed by program. -/
import Derived.Test.YtmllgpkgjniomaaTripsD
set_option linter.unusedVariables false
set_option linter.unusedSimpArgs false
set_option linter.unusedSectionVars false
set_option maxHeartbeats 2000000
namespace Go.Proofs.Ytmllgpkgjniomaa.AWN
open Go Go.Proofs.Try
def qfj (n:Nat) (k28:List Int→Int→Option (List Int)) (v20:Int) (v34:List Int):Option (List Int) :=
  k28 v34 (w64 (v20 + (1:Int)))
def qcj (n:Nat) (devices_:List qas) (x14:List Int):Nat→List Int→Int→Option (List Int)
  | 0,_,_=>none
  | m27 + 1,v19,v20 =>
    if v20 < (devices_.length:Int) then
      (getI devices_ v20).bind fun x36 =>
      (qjx n x14 x36.Bus).bind fun x37 =>
      if x37 = true then
        grd (room (v19.length + 1) 8) <|
        qfj n (qcj n devices_ x14 m27) v20 (v19 ++ [v20])
      else
        qfj n (qcj n devices_ x14 m27) v20 v19
    else
      some v19
def qin (n:Nat) (f_:qax) (devices_:List qas) (bus_:Int):Option (List Int) :=
  (qjf n f_ bus_).bind fun x14 =>
  qcj n devices_ x14 n ([]:List Int) (0:Int)
theorem spec_l07Above_ok (n:Nat) (f_:qax) (devices_:List qas) (bus_:Int) {r:List Int} (h:qin n f_ devices_ bus_ = some r):qb9 prog false 58 [.ptr 0 0,.d (.sl false (devices_.map qa9)),.d (.int .i64 bus_)] [.box [.d (.cx .f32 f_.Source.A.re f_.Source.A.im),.d (.cx .f32 f_.Source.B.re f_.Source.B.im),.d (.cx .f32 f_.Source.C.re f_.Source.C.im),.d (.sl false (f_.qaf.map qai))]] (fun v o new=>v = .row 1 r.length 0 r.length∧o = [.box [.d (.cx .f32 f_.Source.A.re f_.Source.A.im),.d (.cx .f32 f_.Source.B.re f_.Source.B.im),.d (.cx .f32 f_.Source.C.re f_.Source.C.im),.d (.sl false (f_.qaf.map qai))]]∧new = [.row 1 (r.map qac)]):=by
  refine qak hτ func58 rfl (by simp) (by simp) ?_
  unfold qin at h
  refine qa5 ?_
  refine qa1 ?_
  refine qa0 hτ rfl rfl rfl ?_
  refine qa3 ?_
  refine qa5 ?_
  refine qa1 ?_
  refine qa0 hτ rfl rfl rfl ?_
  refine qa0 hτ rfl rfl rfl ?_
  refine qaa h fun x14 hx14 h=>?_
  refine qag hτ false [0] rfl rfl rfl (qaj func102 rfl rfl) rfl rfl (by simp) ⟨trivial,trivial,trivial⟩ (by trivial) (spec_l02Path_ok n f_ bus_ hx14) ?_
  rintro r0 o0 n0 ⟨rfl,rfl,rfl⟩ -
  refine qa0 hτ rfl rfl rfl ?_
  refine qa3 ?_
  refine qa5 ?_
  refine qa1 ?_
  refine qav hτ rfl rfl rfl ?_
  refine qa0 hτ rfl rfl rfl ?_
  refine qa3 ?_
  refine qa5 ?_
  refine qa5 ?_
  refine qa7 (qa2 [0,1,2] (l:=[(1,.d (.sl false (devices_.map qa9))),(7,.row 1 x14.length 0 x14.length),(8,.row 2 (([]:List Int).length) 0 (([]:List Int).length))]) (objs:=[.box [.d (.cx .f32 f_.Source.A.re f_.Source.A.im),.d (.cx .f32 f_.Source.B.re f_.Source.B.im),.d (.cx .f32 f_.Source.C.re f_.Source.C.im),.d (.sl false (f_.qaf.map qai))],.row 1 (x14.map qac),.row 1 (([]:List Int).map qac)]) rfl (by simp) rfl (by trivial) ⟨rfl,trivial,rfl,trivial,rfl,trivial,trivial⟩) ?_
  refine qa1 ?_
  refine qa0 hτ rfl rfl rfl ?_
  refine qa0 hτ (v:=.d (.int .i64 (devices_.length:Int))) rfl rfl (Eq.trans rfl (qdb (f:=qa9) devices_)) ?_
  refine qa0 hτ rfl rfl rfl ?_
  refine qa3 ?_
  refine qaz ?_
  refine qcs (ι:=Nat × List Int × Int) (fun (m27,v19,v20)=>St.of [(1,.d (.sl false (devices_.map qa9))),(7,.row 1 x14.length 0 x14.length),(8,.row 2 v19.length 0 v19.length),(15,.d (.int .i64 (devices_.length:Int))),(16,.d (.int .i64 v20))] [.box [.d (.cx .f32 f_.Source.A.re f_.Source.A.im),.d (.cx .f32 f_.Source.B.re f_.Source.B.im),.d (.cx .f32 f_.Source.C.re f_.Source.C.im),.d (.sl false (f_.qaf.map qai))],.row 1 (x14.map qac),.row 1 (v19.map qac)] f58.ntmps 1) (fun (m27,v19,v20)=>qcj n devices_ x14 m27 v19 v20 = some r) (fun x=>x.1) (n,([]:List Int),(0:Int)) h (qa2 [0,1,2] (l:=[(1,.d (.sl false (devices_.map qa9))),(7,.row 1 x14.length 0 x14.length),(8,.row 2 (([]:List Int).length) 0 (([]:List Int).length)),(15,.d (.int .i64 (devices_.length:Int))),(16,.d (.int .i64 (0:Int)))]) (objs:=[.box [.d (.cx .f32 f_.Source.A.re f_.Source.A.im),.d (.cx .f32 f_.Source.B.re f_.Source.B.im),.d (.cx .f32 f_.Source.C.re f_.Source.C.im),.d (.sl false (f_.qaf.map qai))],.row 1 (x14.map qac),.row 1 (([]:List Int).map qac)]) rfl (by simp) rfl (by trivial) ⟨rfl,trivial,rfl,trivial,rfl,trivial,rfl,trivial,rfl,trivial,trivial⟩) ?_
  rintro ⟨m27,v19,v20⟩ h
  replace h:qcj n devices_ x14 m27 v19 v20 = some r:=h
  rcases m27 with _ | m27
  · rw [qcj] at h;cases h
  rw [qcj] at h
  refine qa5 ?_
  refine qa1 ?_
  refine qa0 hτ rfl rfl rfl ?_
  refine qa3 ?_
  refine qa5 ?_
  refine qao rfl (fun hc29=>?_) (fun hc29=>?_)
  · have h:=if_t h hc29
    refine qap ?_
    refine qb8 (ι:=List Int) (fun v34=>St.of [(1,.d (.sl false (devices_.map qa9))),(7,.row 1 x14.length 0 x14.length),(8,.row 2 v34.length 0 v34.length),(15,.d (.int .i64 (devices_.length:Int))),(16,.d (.int .i64 v20))] [.box [.d (.cx .f32 f_.Source.A.re f_.Source.A.im),.d (.cx .f32 f_.Source.B.re f_.Source.B.im),.d (.cx .f32 f_.Source.C.re f_.Source.C.im),.d (.sl false (f_.qaf.map qai))],.row 1 (x14.map qac),.row 1 (v34.map qac)] f58.ntmps 1) (fun v34=>qfj n (qcj n devices_ x14 m27) v20 v34 = some r) ?_ (fun hk35=>?_)
    · rintro v34 h
      replace h:qfj n (qcj n devices_ x14 m27) v20 v34 = some r:=h
      unfold qfj at h
      refine qa1 ?_
      refine qa0 hτ rfl rfl rfl ?_
      refine qa0 hτ rfl rfl rfl ?_
      refine qa3 ?_
      exact ⟨(m27,v34,(w64 (v20 + (1:Int)))),h,Nat.lt_succ_self m27,(qa2 [0,1,2] (l:=[(1,.d (.sl false (devices_.map qa9))),(7,.row 1 x14.length 0 x14.length),(8,.row 2 v34.length 0 v34.length),(15,.d (.int .i64 (devices_.length:Int))),(16,.d (.int .i64 (w64 (v20 + (1:Int)))))]) (objs:=[.box [.d (.cx .f32 f_.Source.A.re f_.Source.A.im),.d (.cx .f32 f_.Source.B.re f_.Source.B.im),.d (.cx .f32 f_.Source.C.re f_.Source.C.im),.d (.sl false (f_.qaf.map qai))],.row 1 (x14.map qac),.row 1 (v34.map qac)]) rfl (by simp) rfl (by trivial) ⟨rfl,trivial,rfl,trivial,rfl,trivial,rfl,trivial,rfl,trivial,trivial⟩)⟩
    · refine qa5 ?_
      refine qaz ?_
      refine qa5 ?_
      refine qa1 ?_
      refine qa0 hτ rfl rfl rfl ?_
      refine qa0 hτ rfl rfl rfl ?_
      refine qa3 ?_
      refine qa5 ?_
      refine qa1 ?_
      refine qa0 hτ rfl rfl rfl ?_
      refine qa0 hτ rfl rfl rfl ?_
      refine qa0 hτ rfl rfl rfl ?_
      refine qaa h fun x36 hx36 h=>?_
      refine qbe hτ rfl rfl rfl (qaw hx36).1 (qb5 hx36) rfl ?_
      refine qa0 hτ rfl rfl rfl ?_
      refine qa0 hτ rfl rfl rfl ?_
      refine qat (qa2 [0,1,2] (l:=[(1,.d (.sl false (devices_.map qa9))),(7,.row 1 x14.length 0 x14.length),(8,.row 2 v19.length 0 v19.length),(9,.d (.int .i64 v20)),(15,.d (.int .i64 (devices_.length:Int))),(16,.d (.int .i64 v20)),(19,.row 1 x14.length 0 x14.length),(24,.d (.int .i64 x36.Bus))]) (objs:=[.box [.d (.cx .f32 f_.Source.A.re f_.Source.A.im),.d (.cx .f32 f_.Source.B.re f_.Source.B.im),.d (.cx .f32 f_.Source.C.re f_.Source.C.im),.d (.sl false (f_.qaf.map qai))],.row 1 (x14.map qac),.row 1 (v19.map qac)]) rfl (by simp) rfl (by trivial) ⟨rfl,trivial,rfl,trivial,rfl,trivial,rfl,trivial,rfl,trivial,rfl,trivial,rfl,trivial,rfl,trivial,trivial⟩) ?_
      refine qaa h fun x37 hx37 h=>?_
      refine qag hτ true [] rfl rfl rfl (qaj func103 rfl rfl) (qbd (qf0 (f:=qac) x14 rfl rfl rfl) (qbd rfl qfs)) rfl (by simp) ⟨(qdo (f:=qac) x14 rfl rfl rfl),trivial,trivial⟩ (by trivial) (spec_l00Has_ok_fr n x14 x36.Bus hx37) ?_
      rintro r0 o0 n0 ⟨rfl,rfl,rfl⟩ -
      refine qa3 ?_
      refine qao rfl (fun hc38=>?_) (fun hc38=>?_)
      · have h:=qbn h hc38
        refine qa1 ?_
        refine qa0 hτ rfl rfl rfl ?_
        refine qa0 hτ rfl rfl rfl ?_
        refine qav hτ rfl rfl rfl ?_
        refine qf2 h fun hg39 h=>?_
        refine qih hτ rfl rfl (Eq.trans rfl (or_append (f:=qac) v19 [v20] rfl)) ⟨⟨rfl,Nat.le_of_ble_eq_true rfl⟩,qbx _,rfl,rfl,hg39,by decide,(all1 rfl)⟩ ?_
        refine qa0 hτ rfl rfl rfl ?_
        refine qa3 ?_
        refine qa7 (qa2 [0,1,2] (l:=[(1,.d (.sl false (devices_.map qa9))),(7,.row 1 x14.length 0 x14.length),(8,.row 2 ((v19 ++ [v20]).length) 0 ((v19 ++ [v20]).length)),(15,.d (.int .i64 (devices_.length:Int))),(16,.d (.int .i64 v20))]) (objs:=[.box [.d (.cx .f32 f_.Source.A.re f_.Source.A.im),.d (.cx .f32 f_.Source.B.re f_.Source.B.im),.d (.cx .f32 f_.Source.C.re f_.Source.C.im),.d (.sl false (f_.qaf.map qai))],.row 1 (x14.map qac),.row 1 ((v19 ++ [v20]).map qac)]) rfl (by simp) rfl (by trivial) ⟨rfl,trivial,rfl,trivial,rfl,trivial,rfl,trivial,rfl,trivial,trivial⟩) ?_
        exact hk35 (v19 ++ [v20]) h
      · have h:=qbm h hc38
        refine qap ?_
        refine qa7 (qa2 [0,1,2] (l:=[(1,.d (.sl false (devices_.map qa9))),(7,.row 1 x14.length 0 x14.length),(8,.row 2 v19.length 0 v19.length),(15,.d (.int .i64 (devices_.length:Int))),(16,.d (.int .i64 v20))]) (objs:=[.box [.d (.cx .f32 f_.Source.A.re f_.Source.A.im),.d (.cx .f32 f_.Source.B.re f_.Source.B.im),.d (.cx .f32 f_.Source.C.re f_.Source.C.im),.d (.sl false (f_.qaf.map qai))],.row 1 (x14.map qac),.row 1 (v19.map qac)]) rfl (by simp) rfl (by trivial) ⟨rfl,trivial,rfl,trivial,rfl,trivial,rfl,trivial,rfl,trivial,trivial⟩) ?_
        exact hk35 v19 h
  · have h:=if_f h hc29
    refine qcr ?_
    refine qa5 ?_
    refine qa1 ?_
    refine qa0 hτ rfl rfl rfl ?_
    refine qa0 hτ rfl rfl rfl ?_
    refine qa3 ?_
    refine qa7 (qa2 [0,2] (l:=[(6,.row 1 v19.length 0 v19.length)]) (objs:=[.box [.d (.cx .f32 f_.Source.A.re f_.Source.A.im),.d (.cx .f32 f_.Source.B.re f_.Source.B.im),.d (.cx .f32 f_.Source.C.re f_.Source.C.im),.d (.sl false (f_.qaf.map qai))],.row 1 (v19.map qac)]) rfl (by simp) rfl (by trivial) ⟨rfl,trivial,trivial⟩) ?_
    refine qar ?_
    have hr:=Option.some.inj h
    subst hr
    exact qah (.inr rfl) [1] (objs':=[.box [.d (.cx .f32 f_.Source.A.re f_.Source.A.im),.d (.cx .f32 f_.Source.B.re f_.Source.B.im),.d (.cx .f32 f_.Source.C.re f_.Source.C.im),.d (.sl false (f_.qaf.map qai))]]) (new:=[.row 1 (v19.map qac)]) rfl (by simp) (by simp) rfl (by trivial) rfl rfl (by trivial) (fun h=>nomatch h) ⟨rfl,rfl,rfl⟩
def qhk (n:Nat) (c_:qbq):Option (Nat × Bool) :=
  (getI c_.Times (w64 ((c_.qa8.length:Int) - (1:Int)))).bind fun x26 =>
  some (x26,true)
def qe5 (n:Nat) (c_:qbq) (current_:Nat):Nat→Int→Option (Nat × Bool)
  | 0,_=>none
  | m38 + 1,v32 =>
    if v32 < (c_.qa8.length:Int) then
      (getI c_.qa8 (w64 (v32 - (1:Int)))).bind fun x45 =>
      (getI c_.qa8 v32).bind fun x46 =>
      if (fcmp .lss .f32 current_ x46) = true then
        (getI c_.Times (w64 (v32 - (1:Int)))).bind fun x48 =>
        (getI c_.Times v32).bind fun x49 =>
        some ((qad .add .f32 x48 (qad .mul .f32 (qad .sub .f32 x49 x48) (qad .quo .f32 (qad .sub .f32 current_ x45) (qad .sub .f32 x46 x45)))),true)
      else
        (qe5 n c_ current_ m38) (w64 (v32 + (1:Int)))
    else
      qhk n c_
def qh2 (n:Nat) (c_:qbq) (current_:Nat):Option (Nat × Bool) :=
  (getI c_.qa8 (0:Int)).bind fun x14 =>
  if (fcmp .geq .f32 current_ x14) = true then
    qe5 n c_ current_ n (1:Int)
  else
    some ((0:Nat),false)
theorem spec_l07Time_ok_fr0 (fr:Bool) (n:Nat) (d0_0:D) (c_:qbq) (current_:Nat) {r:Nat × Bool} (h:qh2 n c_ current_ = some r):qb9 prog fr 59 [.rop [d0_0,.sl false (c_.qa8.map qa4),.sl false (c_.Times.map qa4)] 1,.d (.fl .f32 current_)] [] (fun v o new=>v = .tup [.d (.fl .f32 r.1),.d (.bool r.2)]∧o = []∧new = []):=by
  refine qak hτ func59 rfl (by simp) (by simp) ?_
  unfold qh2 at h
  refine qa5 ?_
  refine qa1 ?_
  refine qa0 hτ rfl rfl rfl ?_
  refine qa0 hτ rfl rfl rfl ?_
  refine qa3 ?_
  refine qa5 ?_
  refine qa5 ?_
  refine qa1 ?_
  refine qa0 hτ rfl rfl rfl ?_
  refine qa0 hτ rfl rfl rfl ?_
  refine qa0 hτ rfl rfl rfl ?_
  refine qa0 hτ rfl rfl rfl ?_
  refine qa0 hτ rfl rfl rfl ?_
  refine qaa h fun x14 hx14 h=>?_
  refine qbe hτ rfl rfl rfl (qaw hx14).1 (qb5 hx14) rfl ?_
  refine qa0 hτ rfl rfl rfl ?_
  refine qa0 hτ rfl rfl rfl ?_
  refine qa0 hτ rfl rfl rfl ?_
  refine qa3 ?_
  refine qa7 (qa2 [] (l:=[(0,.rop [d0_0,.sl false (c_.qa8.map qa4),.sl false (c_.Times.map qa4)] 1),(1,.d (.fl .f32 current_)),(19,.d (.bool (!(fcmp .geq .f32 current_ x14))))]) (objs:=[]) rfl (by simp) rfl (by trivial) ⟨rfl,trivial,rfl,trivial,rfl,trivial,trivial⟩) ?_
  refine qao rfl (fun hc15=>?_) (fun hc15=>?_)
  · have hc15:=qgh hc15
    have h:=qbm h hc15
    refine qa5 ?_
    refine qa1 ?_
    refine qa0 hτ rfl rfl rfl ?_
    refine qa0 hτ rfl rfl rfl ?_
    refine qa3 ?_
    refine qa7 (qa2 [] (l:=[(4,.d (.fl .f32 (0:Nat))),(5,.d (.bool false))]) (objs:=[]) rfl (by simp) rfl (by trivial) ⟨rfl,trivial,rfl,trivial,trivial⟩) ?_
    refine qar ?_
    have hr:=Option.some.inj h
    subst hr
    exact qah (.inr rfl) [] (objs':=[]) (new:=[]) rfl (by simp) (by simp) rfl (by trivial) rfl rfl (by trivial) (fun _=>⟨by simp [V.flat,V.qbk,V.qbf,D.flat],qal⟩) ⟨rfl,rfl,rfl⟩
  · have hc15:=qgg hc15
    have h:=qbn h hc15
    refine qap ?_
    refine qa5 ?_
    refine qa1 ?_
    refine qa0 hτ rfl rfl rfl ?_
    refine qa0 hτ rfl rfl rfl ?_
    refine qa0 hτ rfl rfl rfl ?_
    refine qa0 hτ rfl rfl rfl ?_
    refine qa0 hτ (v:=.d (.int .i64 (c_.qa8.length:Int))) rfl rfl (Eq.trans rfl (qdb (f:=qa4) c_.qa8)) ?_
    refine qa0 hτ rfl rfl rfl ?_
    refine qa3 ?_
    refine qb8 (ι:=Unit) (fun _=>St.of [(0,.rop [d0_0,.sl false (c_.qa8.map qa4),.sl false (c_.Times.map qa4)] 1),(6,.d (.int .i64 (c_.qa8.length:Int)))] [] f59.ntmps 0) (fun _=>qhk n c_ = some r) ?_ (fun hk27=>?_)
    · rintro ⟨⟩ h
      replace h:qhk n c_ = some r:=h
      unfold qhk at h
      refine qa5 ?_
      refine qa1 ?_
      refine qa0 hτ rfl rfl rfl ?_
      refine qa0 hτ rfl rfl rfl ?_
      refine qa0 hτ rfl rfl rfl ?_
      refine qa0 hτ rfl rfl rfl ?_
      refine qa0 hτ rfl rfl rfl ?_
      refine qa0 hτ rfl rfl rfl ?_
      refine qaa h fun x26 hx26 h=>?_
      refine qbe hτ rfl rfl rfl (qaw hx26).1 (qb5 hx26) rfl ?_
      refine qa0 hτ rfl rfl rfl ?_
      refine qa0 hτ rfl rfl rfl ?_
      refine qa0 hτ rfl rfl rfl ?_
      refine qa3 ?_
      refine qa7 (qa2 [] (l:=[(4,.d (.fl .f32 x26)),(5,.d (.bool true))]) (objs:=[]) rfl (by simp) rfl (by trivial) ⟨rfl,trivial,rfl,trivial,trivial⟩) ?_
      refine qar ?_
      have hr:=Option.some.inj h
      subst hr
      exact qah (.inr rfl) [] (objs':=[]) (new:=[]) rfl (by simp) (by simp) rfl (by trivial) rfl rfl (by trivial) (fun _=>⟨by simp [V.flat,V.qbk,V.qbf,D.flat],qal⟩) ⟨rfl,rfl,rfl⟩
    · refine qa5 ?_
      refine qa5 ?_
      refine qa7 (qa2 [] (l:=[(0,.rop [d0_0,.sl false (c_.qa8.map qa4),.sl false (c_.Times.map qa4)] 1),(1,.d (.fl .f32 current_)),(6,.d (.int .i64 (c_.qa8.length:Int)))]) (objs:=[]) rfl (by simp) rfl (by trivial) ⟨rfl,trivial,rfl,trivial,rfl,trivial,trivial⟩) ?_
      refine qa1 ?_
      refine qa0 hτ rfl rfl rfl ?_
      refine qa3 ?_
      refine qaz ?_
      refine qcs (ι:=Nat × Int) (fun (m38,v32)=>St.of [(0,.rop [d0_0,.sl false (c_.qa8.map qa4),.sl false (c_.Times.map qa4)] 1),(1,.d (.fl .f32 current_)),(6,.d (.int .i64 (c_.qa8.length:Int))),(7,.d (.int .i64 v32))] [] f59.ntmps 0) (fun (m38,v32)=>qe5 n c_ current_ m38 v32 = some r) (fun x=>x.1) (n,(1:Int)) h (qa2 [] (l:=[(0,.rop [d0_0,.sl false (c_.qa8.map qa4),.sl false (c_.Times.map qa4)] 1),(1,.d (.fl .f32 current_)),(6,.d (.int .i64 (c_.qa8.length:Int))),(7,.d (.int .i64 (1:Int)))]) (objs:=[]) rfl (by simp) rfl (by trivial) ⟨rfl,trivial,rfl,trivial,rfl,trivial,rfl,trivial,trivial⟩) ?_
      rintro ⟨m38,v32⟩ h
      replace h:qe5 n c_ current_ m38 v32 = some r:=h
      rcases m38 with _ | m38
      · rw [qe5] at h;cases h
      rw [qe5] at h
      refine qa5 ?_
      refine qa5 ?_
      refine qa1 ?_
      refine qa0 hτ rfl rfl rfl ?_
      refine qa0 hτ rfl rfl rfl ?_
      refine qa0 hτ rfl rfl rfl ?_
      refine qa3 ?_
      refine qao rfl (fun hc40=>?_) (fun hc40=>?_)
      · have h:=if_t h hc40
        refine qap ?_
        refine qa5 ?_
        refine qaz ?_
        refine qa5 ?_
        refine qa1 ?_
        refine qa0 hτ rfl rfl rfl ?_
        refine qa0 hτ rfl rfl rfl ?_
        refine qa0 hτ rfl rfl rfl ?_
        refine qa0 hτ rfl rfl rfl ?_
        refine qa0 hτ rfl rfl rfl ?_
        refine qa0 hτ rfl rfl rfl ?_
        refine qaa h fun x45 hx45 h=>?_
        refine qbe hτ rfl rfl rfl (qaw hx45).1 (qb5 hx45) rfl ?_
        refine qa0 hτ rfl rfl rfl ?_
        refine qa0 hτ rfl rfl rfl ?_
        refine qa3 ?_
        refine qa5 ?_
        refine qa7 (qa2 [] (l:=[(0,.rop [d0_0,.sl false (c_.qa8.map qa4),.sl false (c_.Times.map qa4)] 1),(1,.d (.fl .f32 current_)),(6,.d (.int .i64 (c_.qa8.length:Int))),(7,.d (.int .i64 v32)),(8,.d (.fl .f32 x45))]) (objs:=[]) rfl (by simp) rfl (by trivial) ⟨rfl,trivial,rfl,trivial,rfl,trivial,rfl,trivial,rfl,trivial,trivial⟩) ?_
        refine qa1 ?_
        refine qa0 hτ rfl rfl rfl ?_
        refine qa0 hτ rfl rfl rfl ?_
        refine qa0 hτ rfl rfl rfl ?_
        refine qa0 hτ rfl rfl rfl ?_
        refine qa0 hτ rfl rfl rfl ?_
        refine qaa h fun x46 hx46 h=>?_
        refine qbe hτ rfl rfl rfl (qaw hx46).1 (qb5 hx46) rfl ?_
        refine qa0 hτ rfl rfl rfl ?_
        refine qa0 hτ rfl rfl rfl ?_
        refine qa3 ?_
        refine qa5 ?_
        refine qa7 (qa2 [] (l:=[(0,.rop [d0_0,.sl false (c_.qa8.map qa4),.sl false (c_.Times.map qa4)] 1),(1,.d (.fl .f32 current_)),(6,.d (.int .i64 (c_.qa8.length:Int))),(7,.d (.int .i64 v32)),(8,.d (.fl .f32 x45)),(9,.d (.fl .f32 x46))]) (objs:=[]) rfl (by simp) rfl (by trivial) ⟨rfl,trivial,rfl,trivial,rfl,trivial,rfl,trivial,rfl,trivial,rfl,trivial,trivial⟩) ?_
        refine qa1 ?_
        refine qa0 hτ rfl rfl rfl ?_
        refine qa0 hτ rfl rfl rfl ?_
        refine qa0 hτ rfl rfl rfl ?_
        refine qa3 ?_
        refine qao rfl (fun hc47=>?_) (fun hc47=>?_)
        · have h:=qbn h hc47
          refine qa5 ?_
          refine qa1 ?_
          refine qa0 hτ rfl rfl rfl ?_
          refine qa0 hτ rfl rfl rfl ?_
          refine qa0 hτ rfl rfl rfl ?_
          refine qa0 hτ rfl rfl rfl ?_
          refine qa0 hτ rfl rfl rfl ?_
          refine qa0 hτ rfl rfl rfl ?_
          refine qa0 hτ rfl rfl rfl ?_
          refine qa0 hτ rfl rfl rfl ?_
          refine qa3 ?_
          refine qa5 ?_
          refine qa7 (qa2 [] (l:=[(0,.rop [d0_0,.sl false (c_.qa8.map qa4),.sl false (c_.Times.map qa4)] 1),(7,.d (.int .i64 v32)),(10,.d (.fl .f32 (qad .quo .f32 (qad .sub .f32 current_ x45) (qad .sub .f32 x46 x45))))]) (objs:=[]) rfl (by simp) rfl (by trivial) ⟨rfl,trivial,rfl,trivial,rfl,trivial,trivial⟩) ?_
          refine qel ?_
          refine qab hτ [] 0 rfl rfl rfl rfl rfl ?_
          refine qab hτ [] 1 rfl rfl rfl rfl rfl ?_
          refine qab hτ [] 2 rfl rfl rfl rfl rfl ?_
          refine qab hτ [] 3 rfl rfl rfl rfl rfl ?_
          refine qab hτ [] 4 rfl rfl rfl rfl rfl ?_
          refine qab hτ [] 5 rfl rfl rfl rfl rfl ?_
          refine qaa h fun x48 hx48 h=>?_
          refine qc8 hτ [] 6 rfl rfl rfl rfl rfl (qaw hx48).1 (qb5 hx48) rfl ?_
          refine qab hτ [] 7 rfl rfl rfl rfl rfl ?_
          refine qab hτ [] 8 rfl rfl rfl rfl rfl ?_
          refine qab hτ [] 9 rfl rfl rfl rfl rfl ?_
          refine qab hτ [] 10 rfl rfl rfl rfl rfl ?_
          refine qab hτ [] 11 rfl rfl rfl rfl rfl ?_
          refine qab hτ [] 12 rfl rfl rfl rfl rfl ?_
          refine qaa h fun x49 hx49 h=>?_
          refine qc8 hτ [] 13 rfl rfl rfl rfl rfl (qaw hx49).1 (qb5 hx49) rfl ?_
          refine qab hτ [] 14 rfl rfl rfl rfl rfl ?_
          refine qab hτ [] 15 rfl rfl rfl rfl rfl ?_
          refine qab hτ [] 16 rfl rfl rfl rfl rfl ?_
          refine qab hτ [] 17 rfl rfl rfl rfl rfl ?_
          refine qab hτ [] 18 rfl rfl rfl rfl rfl ?_
          refine qab hτ [] 19 rfl rfl rfl rfl rfl ?_
          refine qab hτ [] 20 rfl rfl rfl rfl rfl ?_
          refine qc8 hτ [] 21 rfl rfl rfl rfl rfl (qaw hx48).1 (qb5 hx48) rfl ?_
          refine qab hτ [] 22 rfl rfl rfl rfl rfl ?_
          refine qab hτ [] 23 rfl rfl rfl rfl rfl ?_
          refine qab hτ [] 24 rfl rfl rfl rfl rfl ?_
          refine qab hτ [] 25 rfl rfl rfl rfl rfl ?_
          refine qab hτ [] 26 rfl rfl rfl rfl rfl ?_
          refine qab hτ [] 27 rfl rfl rfl rfl rfl ?_
          refine qab hτ [] 28 rfl rfl rfl rfl rfl ?_
          refine qcy mixed (by kernel_rfl) ?_
          refine qa7 (qa2 [] (l:=[(4,.d (.fl .f32 (qad .add .f32 x48 (qad .mul .f32 (qad .sub .f32 x49 x48) (qad .quo .f32 (qad .sub .f32 current_ x45) (qad .sub .f32 x46 x45)))))),(5,.d (.bool true))]) (objs:=[]) rfl (by simp) rfl (by trivial) ⟨rfl,trivial,rfl,trivial,trivial⟩) ?_
          refine qar ?_
          have hr:=Option.some.inj h
          subst hr
          exact qah (.inr rfl) [] (objs':=[]) (new:=[]) rfl (by simp) (by simp) rfl (by trivial) rfl rfl (by trivial) (fun _=>⟨by simp [V.flat,V.qbk,V.qbf,D.flat],qal⟩) ⟨rfl,rfl,rfl⟩
        · have h:=qbm h hc47
          refine qap ?_
          refine qa1 ?_
          refine qa0 hτ rfl rfl rfl ?_
          refine qa0 hτ rfl rfl rfl ?_
          refine qa0 hτ rfl rfl rfl ?_
          refine qa3 ?_
          exact ⟨(m38,(w64 (v32 + (1:Int)))),h,Nat.lt_succ_self m38,(qa2 [] (l:=[(0,.rop [d0_0,.sl false (c_.qa8.map qa4),.sl false (c_.Times.map qa4)] 1),(1,.d (.fl .f32 current_)),(6,.d (.int .i64 (c_.qa8.length:Int))),(7,.d (.int .i64 (w64 (v32 + (1:Int)))))]) (objs:=[]) rfl (by simp) rfl (by trivial) ⟨rfl,trivial,rfl,trivial,rfl,trivial,rfl,trivial,trivial⟩)⟩
      · have h:=if_f h hc40
        refine qcr ?_
        refine qa7 (qa2 [] (l:=[(0,.rop [d0_0,.sl false (c_.qa8.map qa4),.sl false (c_.Times.map qa4)] 1),(6,.d (.int .i64 (c_.qa8.length:Int)))]) (objs:=[]) rfl (by simp) rfl (by trivial) ⟨rfl,trivial,rfl,trivial,trivial⟩) ?_
        exact hk27 () h
theorem spec_l07Time_ok (n:Nat) (d0_0:D) (c_:qbq) (current_:Nat) {r:Nat × Bool} (h:qh2 n c_ current_ = some r):qb9 prog false 59 [.rop [d0_0,.sl false (c_.qa8.map qa4),.sl false (c_.Times.map qa4)] 1,.d (.fl .f32 current_)] [] (fun v o new=>v = .tup [.d (.fl .f32 r.1),.d (.bool r.2)]∧o = []∧new = []):=spec_l07Time_ok_fr0 false n d0_0 c_ current_ h
def qhs (n:Nat) (v67:Int) (v68:Nat):Option (Int × Nat × Bool) :=
  if v67 < (0:Int) then
    some ((0:Int),(0:Nat),false)
  else
    some (v67,v68,true)
def qeu (n:Nat) (k98:Int→Nat→Int→Option (Int × Nat × Bool)) (v83:Int) (v110:Int) (v111:Nat):Option (Int × Nat × Bool) :=
  k98 v110 v111 (w64 (v83 + (1:Int)))
def qdr (n:Nat) (x40:List Int) (k98:Int→Nat→Int→Option (Int × Nat × Bool)) (v81:Int) (v82:Nat) (v83:Int) (x115:Nat × Bool) (v120:Bool):Option (Int × Nat × Bool) :=
  if v120 = true then
    (getI x40 v83).bind fun x122 =>
    qeu n k98 v83 x122 x115.1
  else
    qeu n k98 v83 v81 v82
def qbp (n:Nat) (devices_:List qas) (current_:Nat) (x40:List Int):Nat→Int→Nat→Int→Option (Int × Nat × Bool)
  | 0,_,_,_=>none
  | m97 + 1,v81,v82,v83 =>
    if v83 < (x40.length:Int) then
      (getI x40 v83).bind fun x113 =>
      (getI devices_ x113).bind fun x114 =>
      (qh2 n x114.qcp current_).bind fun x115 =>
      if x115.2 = true then
        if v81 < (0:Int) then
          qdr n x40 (qbp n devices_ current_ x40 m97) v81 v82 v83 x115 true
        else
          qdr n x40 (qbp n devices_ current_ x40 m97) v81 v82 v83 x115 (fcmp .leq .f32 x115.1 v82)
      else
        qdr n x40 (qbp n devices_ current_ x40 m97) v81 v82 v83 x115 false
    else
      qhs n v81 v82
def qg7 (n:Nat) (f_:qax) (devices_:List qas) (bus_:Int) (current_:Nat):Option (Int × Nat × Bool) :=
  (qin n f_ devices_ bus_).bind fun x40 =>
  qbp n devices_ current_ x40 n (-1:Int) (0:Nat) (0:Int)
def qds (n:Nat) (f_:qax) (devices_:List qas) (bus_:Int) (current_:Nat) (v133:Bool):Option (Int × Nat × Bool) :=
  if v133 = true then
    some ((0:Int),(0:Nat),false)
  else
    qg7 n f_ devices_ bus_ current_
def qgn (n:Nat) (f_:qax) (devices_:List qas) (bus_:Int) (current_:Nat):Option (Int × Nat × Bool) :=
  (qke n f_).bind fun x136 =>
  if x136 = true then
    (qkr n f_ devices_).bind fun x138 =>
    if x138 = true then
      (qj3 n f_ bus_).bind fun x140 =>
      qds n f_ devices_ bus_ current_ (!x140)
    else
      qds n f_ devices_ bus_ current_ true
  else
    qds n f_ devices_ bus_ current_ true
theorem spec_FirstTrip_ok_fr0 (fr:Bool) (n:Nat) (f_:qax) (devices_:List qas) (bus_:Int) (current_:Nat) {r:Int × Nat × Bool} (h:qgn n f_ devices_ bus_ current_ = some r):qb9 prog fr 25 [.agg [.d (.cx .f32 f_.Source.A.re f_.Source.A.im),.d (.cx .f32 f_.Source.B.re f_.Source.B.im),.d (.cx .f32 f_.Source.C.re f_.Source.C.im),.d (.sl false (f_.qaf.map qai))],.d (.sl false (devices_.map qa9)),.d (.int .i64 bus_),.d (.fl .f32 current_)] [] (fun v o new=>v = .tup [.d (.int .i64 r.1),.d (.fl .f32 r.2.1),.d (.bool r.2.2)]∧o = []∧new = []):=by
  refine qak hτ func25 rfl (by simp) (by simp) ?_
  unfold qgn at h
  refine qa5 ?_
  refine qa1 ?_
  refine qav hτ rfl rfl rfl ?_
  refine qa0 hτ rfl rfl rfl ?_
  refine qa0 hτ rfl rfl rfl ?_
  refine qa0 hτ rfl rfl rfl ?_
  refine qa3 ?_
  refine qb8 (ι:=Unit) (fun _=>St.of [(1,.d (.sl false (devices_.map qa9))),(2,.d (.int .i64 bus_)),(3,.d (.fl .f32 current_)),(4,.ptr 0 0)] [.box [.d (.cx .f32 f_.Source.A.re f_.Source.A.im),.d (.cx .f32 f_.Source.B.re f_.Source.B.im),.d (.cx .f32 f_.Source.C.re f_.Source.C.im),.d (.sl false (f_.qaf.map qai))]] f25.ntmps 0) (fun _=>qg7 n f_ devices_ bus_ current_ = some r) ?_ (fun hk126=>?_)
  · rintro ⟨⟩ h
    replace h:qg7 n f_ devices_ bus_ current_ = some r:=h
    unfold qg7 at h
    refine qa5 ?_
    refine qa1 ?_
    refine qa0 hτ rfl rfl rfl ?_
    refine qa0 hτ rfl rfl rfl ?_
    refine qaa h fun x40 hx40 h=>?_
    refine qag hτ false [0] rfl rfl rfl (qaj func58 rfl rfl) rfl rfl (by simp) ⟨trivial,trivial,trivial,trivial⟩ (by trivial) (spec_l07Above_ok n f_ devices_ bus_ hx40) ?_
    rintro r0 o0 n0 ⟨rfl,rfl,rfl⟩ -
    refine qa0 hτ rfl rfl rfl ?_
    refine qa3 ?_
    refine qa5 ?_
    refine qa1 ?_
    refine qa0 hτ rfl rfl rfl ?_
    refine qa3 ?_
    refine qa5 ?_
    refine qa1 ?_
    refine qa0 hτ rfl rfl rfl ?_
    refine qa3 ?_
    refine qb8 (ι:=Int × Nat) (fun (v67,v68)=>St.of [(12,.d (.int .i64 v67)),(13,.d (.fl .f32 v68))] [] f25.ntmps 0) (fun (v67,v68)=>qhs n v67 v68 = some r) ?_ (fun hk70=>?_)
    · rintro ⟨v67,v68⟩ h
      replace h:qhs n v67 v68 = some r:=h
      unfold qhs at h
      refine qa5 ?_
      refine qa5 ?_
      refine qa1 ?_
      refine qa0 hτ rfl rfl rfl ?_
      refine qa0 hτ rfl rfl rfl ?_
      refine qa3 ?_
      refine qao rfl (fun hc69=>?_) (fun hc69=>?_)
      · have h:=if_t h hc69
        refine qa5 ?_
        refine qa1 ?_
        refine qa0 hτ rfl rfl rfl ?_
        refine qa0 hτ rfl rfl rfl ?_
        refine qa0 hτ rfl rfl rfl ?_
        refine qa3 ?_
        refine qa7 (qa2 [] (l:=[(8,.d (.int .i64 (0:Int))),(9,.d (.fl .f32 (0:Nat))),(10,.d (.bool false))]) (objs:=[]) rfl (by simp) rfl (by trivial) ⟨rfl,trivial,rfl,trivial,rfl,trivial,trivial⟩) ?_
        refine qar ?_
        have hr:=Option.some.inj h
        subst hr
        exact qah (.inr rfl) [] (objs':=[]) (new:=[]) rfl (by simp) (by simp) rfl (by trivial) rfl rfl (by trivial) (fun _=>⟨by simp [V.flat,V.qbk,V.qbf,D.flat],qal⟩) ⟨rfl,rfl,rfl⟩
      · have h:=if_f h hc69
        refine qap ?_
        refine qa5 ?_
        refine qa1 ?_
        refine qa0 hτ rfl rfl rfl ?_
        refine qa0 hτ rfl rfl rfl ?_
        refine qa0 hτ rfl rfl rfl ?_
        refine qa0 hτ rfl rfl rfl ?_
        refine qa0 hτ rfl rfl rfl ?_
        refine qa3 ?_
        refine qa7 (qa2 [] (l:=[(8,.d (.int .i64 v67)),(9,.d (.fl .f32 v68)),(10,.d (.bool true))]) (objs:=[]) rfl (by simp) rfl (by trivial) ⟨rfl,trivial,rfl,trivial,rfl,trivial,trivial⟩) ?_
        refine qar ?_
        have hr:=Option.some.inj h
        subst hr
        exact qah (.inr rfl) [] (objs':=[]) (new:=[]) rfl (by simp) (by simp) rfl (by trivial) rfl rfl (by trivial) (fun _=>⟨by simp [V.flat,V.qbk,V.qbf,D.flat],qal⟩) ⟨rfl,rfl,rfl⟩
    · refine qa5 ?_
      refine qa5 ?_
      refine qa7 (qa2 [1] (l:=[(1,.d (.sl false (devices_.map qa9))),(3,.d (.fl .f32 current_)),(11,.row 0 x40.length 0 x40.length),(12,.d (.int .i64 (-1:Int))),(13,.d (.fl .f32 (0:Nat)))]) (objs:=[.row 1 (x40.map qac)]) rfl (by simp) rfl (by trivial) ⟨rfl,trivial,rfl,trivial,rfl,trivial,rfl,trivial,rfl,trivial,trivial⟩) ?_
      refine qa1 ?_
      refine qa0 hτ rfl rfl rfl ?_
      refine qcl hτ rfl rfl rfl (qbx _) ?_
      refine qa0 hτ rfl rfl rfl ?_
      refine qa3 ?_
      refine qaz ?_
      refine qcs (ι:=Nat × Int × Nat × Int) (fun (m97,v81,v82,v83)=>St.of [(1,.d (.sl false (devices_.map qa9))),(3,.d (.fl .f32 current_)),(11,.row 0 x40.length 0 x40.length),(12,.d (.int .i64 v81)),(13,.d (.fl .f32 v82)),(33,.d (.int .i64 (x40.length:Int))),(34,.d (.int .i64 v83))] [.row 1 (x40.map qac)] f25.ntmps 0) (fun (m97,v81,v82,v83)=>qbp n devices_ current_ x40 m97 v81 v82 v83 = some r) (fun x=>x.1) (n,(-1:Int),(0:Nat),(0:Int)) h (qa2 [0] (l:=[(1,.d (.sl false (devices_.map qa9))),(3,.d (.fl .f32 current_)),(11,.row 0 x40.length 0 x40.length),(12,.d (.int .i64 (-1:Int))),(13,.d (.fl .f32 (0:Nat))),(33,.d (.int .i64 (x40.length:Int))),(34,.d (.int .i64 (0:Int)))]) (objs:=[.row 1 (x40.map qac)]) rfl (by simp) rfl (by trivial) ⟨rfl,trivial,rfl,trivial,rfl,trivial,rfl,trivial,rfl,trivial,rfl,trivial,rfl,trivial,trivial⟩) ?_
      rintro ⟨m97,v81,v82,v83⟩ h
      replace h:qbp n devices_ current_ x40 m97 v81 v82 v83 = some r:=h
      rcases m97 with _ | m97
      · rw [qbp] at h;cases h
      rw [qbp] at h
      refine qa5 ?_
      refine qa1 ?_
      refine qa0 hτ rfl rfl rfl ?_
      refine qa3 ?_
      refine qa5 ?_
      refine qao rfl (fun hc99=>?_) (fun hc99=>?_)
      · have h:=if_t h hc99
        refine qap ?_
        refine qb8 (ι:=Int × Nat) (fun (v110,v111)=>St.of [(1,.d (.sl false (devices_.map qa9))),(3,.d (.fl .f32 current_)),(11,.row 0 x40.length 0 x40.length),(12,.d (.int .i64 v110)),(13,.d (.fl .f32 v111)),(33,.d (.int .i64 (x40.length:Int))),(34,.d (.int .i64 v83))] [.row 1 (x40.map qac)] f25.ntmps 0) (fun (v110,v111)=>qeu n (qbp n devices_ current_ x40 m97) v83 v110 v111 = some r) ?_ (fun hk112=>?_)
        · rintro ⟨v110,v111⟩ h
          replace h:qeu n (qbp n devices_ current_ x40 m97) v83 v110 v111 = some r:=h
          unfold qeu at h
          refine qa1 ?_
          refine qa0 hτ rfl rfl rfl ?_
          refine qa0 hτ rfl rfl rfl ?_
          refine qa3 ?_
          exact ⟨(m97,v110,v111,(w64 (v83 + (1:Int)))),h,Nat.lt_succ_self m97,(qa2 [0] (l:=[(1,.d (.sl false (devices_.map qa9))),(3,.d (.fl .f32 current_)),(11,.row 0 x40.length 0 x40.length),(12,.d (.int .i64 v110)),(13,.d (.fl .f32 v111)),(33,.d (.int .i64 (x40.length:Int))),(34,.d (.int .i64 (w64 (v83 + (1:Int)))))]) (objs:=[.row 1 (x40.map qac)]) rfl (by simp) rfl (by trivial) ⟨rfl,trivial,rfl,trivial,rfl,trivial,rfl,trivial,rfl,trivial,rfl,trivial,rfl,trivial,trivial⟩)⟩
        · refine qa5 ?_
          refine qaz ?_
          refine qa5 ?_
          refine qa1 ?_
          refine qa0 hτ rfl rfl rfl ?_
          refine qa0 hτ rfl rfl rfl ?_
          refine qa3 ?_
          refine qa5 ?_
          refine qa1 ?_
          refine qa0 hτ rfl rfl rfl ?_
          refine qa0 hτ rfl rfl rfl ?_
          refine qa0 hτ rfl rfl rfl ?_
          refine qaa h fun x113 hx113 h=>?_
          refine qcl hτ rfl rfl rfl (qd0 hx113) ?_
          refine qbe hτ rfl rfl rfl (qbx _) (qek hx113) rfl ?_
          refine qaa h fun x114 hx114 h=>?_
          refine qbe hτ rfl rfl rfl (qaw hx114).1 (qb5 hx114) rfl ?_
          refine qa0 hτ rfl rfl rfl ?_
          refine qa0 hτ rfl rfl rfl ?_
          refine qaa h fun x115 hx115 h=>?_
          refine qag hτ false [] rfl rfl rfl (qaj func59 rfl rfl) rfl rfl (by simp) ⟨trivial,trivial,trivial⟩ (by trivial) (spec_l07Time_ok n (.int .i64 x114.Bus) x114.qcp current_ hx115) ?_
          rintro r0 o0 n0 ⟨rfl,rfl,rfl⟩ -
          refine qat (qa2 [0] (l:=[(1,.d (.sl false (devices_.map qa9))),(3,.d (.fl .f32 current_)),(11,.row 0 x40.length 0 x40.length),(12,.d (.int .i64 v81)),(13,.d (.fl .f32 v82)),(14,.d (.int .i64 v83)),(33,.d (.int .i64 (x40.length:Int))),(34,.d (.int .i64 v83)),(46,.tup [.d (.fl .f32 x115.1),.d (.bool x115.2)])]) (objs:=[.row 1 (x40.map qac)]) rfl (by simp) rfl (by trivial) ⟨rfl,trivial,rfl,trivial,rfl,trivial,rfl,trivial,rfl,trivial,rfl,trivial,rfl,trivial,rfl,trivial,rfl,(by trivial),trivial⟩) ?_
          refine qa0 hτ rfl rfl rfl ?_
          refine qa0 hτ rfl rfl rfl ?_
          refine qa0 hτ rfl rfl rfl ?_
          refine qa0 hτ rfl rfl rfl ?_
          refine qa0 hτ rfl rfl rfl ?_
          refine qa3 ?_
          refine qb8 (ι:=Bool) (fun v120=>St.of [(1,.d (.sl false (devices_.map qa9))),(3,.d (.fl .f32 current_)),(11,.row 0 x40.length 0 x40.length),(12,.d (.int .i64 v81)),(13,.d (.fl .f32 v82)),(14,.d (.int .i64 v83)),(15,.d (.fl .f32 x115.1)),(33,.d (.int .i64 (x40.length:Int))),(34,.d (.int .i64 v83)),(58,.d (.bool v120))] [.row 1 (x40.map qac)] f25.ntmps 0) (fun v120=>qdr n x40 (qbp n devices_ current_ x40 m97) v81 v82 v83 x115 v120 = some r) ?_ (fun hk123=>?_)
          · rintro v120 h
            replace h:qdr n x40 (qbp n devices_ current_ x40 m97) v81 v82 v83 x115 v120 = some r:=h
            unfold qdr at h
            refine qao rfl (fun hc121=>?_) (fun hc121=>?_)
            · have h:=qbn h hc121
              refine qa5 ?_
              refine qa1 ?_
              refine qa0 hτ rfl rfl rfl ?_
              refine qa0 hτ rfl rfl rfl ?_
              refine qaa h fun x122 hx122 h=>?_
              refine qcl hτ rfl rfl rfl (qd0 hx122) ?_
              refine qbe hτ rfl rfl rfl (qbx _) (qek hx122) rfl ?_
              refine qa0 hτ rfl rfl rfl ?_
              refine qa3 ?_
              refine qa1 ?_
              refine qa0 hτ rfl rfl rfl ?_
              refine qa0 hτ rfl rfl rfl ?_
              refine qa3 ?_
              refine qa7 (qa2 [0] (l:=[(1,.d (.sl false (devices_.map qa9))),(3,.d (.fl .f32 current_)),(11,.row 0 x40.length 0 x40.length),(12,.d (.int .i64 x122)),(13,.d (.fl .f32 x115.1)),(33,.d (.int .i64 (x40.length:Int))),(34,.d (.int .i64 v83))]) (objs:=[.row 1 (x40.map qac)]) rfl (by simp) rfl (by trivial) ⟨rfl,trivial,rfl,trivial,rfl,trivial,rfl,trivial,rfl,trivial,rfl,trivial,rfl,trivial,trivial⟩) ?_
              exact hk112 (x122,x115.1) h
            · have h:=qbm h hc121
              refine qap ?_
              refine qa7 (qa2 [0] (l:=[(1,.d (.sl false (devices_.map qa9))),(3,.d (.fl .f32 current_)),(11,.row 0 x40.length 0 x40.length),(12,.d (.int .i64 v81)),(13,.d (.fl .f32 v82)),(33,.d (.int .i64 (x40.length:Int))),(34,.d (.int .i64 v83))]) (objs:=[.row 1 (x40.map qac)]) rfl (by simp) rfl (by trivial) ⟨rfl,trivial,rfl,trivial,rfl,trivial,rfl,trivial,rfl,trivial,rfl,trivial,rfl,trivial,trivial⟩) ?_
              exact hk112 (v81,v82) h
          · refine qa5 ?_
            refine qa1 ?_
            refine qa0 hτ rfl rfl rfl ?_
            refine qa0 hτ rfl rfl rfl ?_
            refine qb4 50 rfl (fun hb124=>?_) (fun hb124=>?_)
            · have h:=qbn h hb124
              refine qa0 hτ rfl rfl rfl ?_
              refine qa0 hτ rfl rfl rfl ?_
              refine qa0 hτ rfl rfl rfl ?_
              refine qb4 53 rfl (fun hb125=>?_) (fun hb125=>?_)
              · have h:=if_t h hb125
                refine qa6 rfl rfl ?_
                refine qa6 rfl rfl ?_
                refine qat (qa2 [0] (l:=[(1,.d (.sl false (devices_.map qa9))),(3,.d (.fl .f32 current_)),(11,.row 0 x40.length 0 x40.length),(12,.d (.int .i64 v81)),(13,.d (.fl .f32 v82)),(14,.d (.int .i64 v83)),(15,.d (.fl .f32 x115.1)),(33,.d (.int .i64 (x40.length:Int))),(34,.d (.int .i64 v83)),(50,.d (.bool true)),(53,.d (.bool true)),(54,.und),(55,.und)]) (objs:=[.row 1 (x40.map qac)]) rfl (by simp) rfl (by trivial) ⟨rfl,trivial,rfl,trivial,rfl,trivial,rfl,trivial,rfl,trivial,rfl,trivial,rfl,trivial,rfl,trivial,rfl,trivial,rfl,trivial,rfl,trivial,rfl,trivial,rfl,trivial,trivial⟩) ?_
                refine qa6 rfl rfl ?_
                refine qa0 hτ rfl rfl rfl ?_
                refine qa0 hτ rfl rfl rfl ?_
                refine qa3 ?_
                refine qa7 (qa2 [0] (l:=[(1,.d (.sl false (devices_.map qa9))),(3,.d (.fl .f32 current_)),(11,.row 0 x40.length 0 x40.length),(12,.d (.int .i64 v81)),(13,.d (.fl .f32 v82)),(14,.d (.int .i64 v83)),(15,.d (.fl .f32 x115.1)),(33,.d (.int .i64 (x40.length:Int))),(34,.d (.int .i64 v83)),(58,.d (.bool true))]) (objs:=[.row 1 (x40.map qac)]) rfl (by simp) rfl (by trivial) ⟨rfl,trivial,rfl,trivial,rfl,trivial,rfl,trivial,rfl,trivial,rfl,trivial,rfl,trivial,rfl,trivial,rfl,trivial,rfl,trivial,trivial⟩) ?_
                exact hk123 true h
              · have h:=if_f h hb125
                refine qa0 hτ rfl rfl rfl ?_
                refine qa0 hτ rfl rfl rfl ?_
                refine qat (qa2 [0] (l:=[(1,.d (.sl false (devices_.map qa9))),(3,.d (.fl .f32 current_)),(11,.row 0 x40.length 0 x40.length),(12,.d (.int .i64 v81)),(13,.d (.fl .f32 v82)),(14,.d (.int .i64 v83)),(15,.d (.fl .f32 x115.1)),(33,.d (.int .i64 (x40.length:Int))),(34,.d (.int .i64 v83)),(50,.d (.bool true)),(53,.d (.bool false)),(54,.d (.fl .f32 x115.1)),(55,.d (.fl .f32 v82))]) (objs:=[.row 1 (x40.map qac)]) rfl (by simp) rfl (by trivial) ⟨rfl,trivial,rfl,trivial,rfl,trivial,rfl,trivial,rfl,trivial,rfl,trivial,rfl,trivial,rfl,trivial,rfl,trivial,rfl,trivial,rfl,trivial,rfl,trivial,rfl,trivial,trivial⟩) ?_
                refine qa0 hτ rfl rfl rfl ?_
                refine qa0 hτ rfl rfl rfl ?_
                refine qa0 hτ rfl rfl rfl ?_
                refine qa3 ?_
                refine qa7 (qa2 [0] (l:=[(1,.d (.sl false (devices_.map qa9))),(3,.d (.fl .f32 current_)),(11,.row 0 x40.length 0 x40.length),(12,.d (.int .i64 v81)),(13,.d (.fl .f32 v82)),(14,.d (.int .i64 v83)),(15,.d (.fl .f32 x115.1)),(33,.d (.int .i64 (x40.length:Int))),(34,.d (.int .i64 v83)),(58,.d (.bool (fcmp .leq .f32 x115.1 v82)))]) (objs:=[.row 1 (x40.map qac)]) rfl (by simp) rfl (by trivial) ⟨rfl,trivial,rfl,trivial,rfl,trivial,rfl,trivial,rfl,trivial,rfl,trivial,rfl,trivial,rfl,trivial,rfl,trivial,rfl,trivial,trivial⟩) ?_
                exact hk123 (fcmp .leq .f32 x115.1 v82) h
            · have h:=qbm h hb124
              refine qa6 rfl rfl ?_
              refine qa6 rfl rfl ?_
              refine qa6 rfl rfl ?_
              refine qa6 rfl rfl ?_
              refine qa6 rfl rfl ?_
              refine qat (qa2 [0] (l:=[(1,.d (.sl false (devices_.map qa9))),(3,.d (.fl .f32 current_)),(11,.row 0 x40.length 0 x40.length),(12,.d (.int .i64 v81)),(13,.d (.fl .f32 v82)),(14,.d (.int .i64 v83)),(15,.d (.fl .f32 x115.1)),(33,.d (.int .i64 (x40.length:Int))),(34,.d (.int .i64 v83)),(50,.d (.bool false)),(53,.und),(54,.und),(55,.und)]) (objs:=[.row 1 (x40.map qac)]) rfl (by simp) rfl (by trivial) ⟨rfl,trivial,rfl,trivial,rfl,trivial,rfl,trivial,rfl,trivial,rfl,trivial,rfl,trivial,rfl,trivial,rfl,trivial,rfl,trivial,rfl,trivial,rfl,trivial,rfl,trivial,trivial⟩) ?_
              refine qa6 rfl rfl ?_
              refine qa6 rfl rfl ?_
              refine qa0 hτ rfl rfl rfl ?_
              refine qa3 ?_
              refine qa7 (qa2 [0] (l:=[(1,.d (.sl false (devices_.map qa9))),(3,.d (.fl .f32 current_)),(11,.row 0 x40.length 0 x40.length),(12,.d (.int .i64 v81)),(13,.d (.fl .f32 v82)),(14,.d (.int .i64 v83)),(15,.d (.fl .f32 x115.1)),(33,.d (.int .i64 (x40.length:Int))),(34,.d (.int .i64 v83)),(58,.d (.bool false))]) (objs:=[.row 1 (x40.map qac)]) rfl (by simp) rfl (by trivial) ⟨rfl,trivial,rfl,trivial,rfl,trivial,rfl,trivial,rfl,trivial,rfl,trivial,rfl,trivial,rfl,trivial,rfl,trivial,rfl,trivial,trivial⟩) ?_
              exact hk123 false h
      · have h:=if_f h hc99
        refine qcr ?_
        refine qa7 (qa2 [] (l:=[(12,.d (.int .i64 v81)),(13,.d (.fl .f32 v82))]) (objs:=[]) rfl (by simp) rfl (by trivial) ⟨rfl,trivial,rfl,trivial,trivial⟩) ?_
        exact hk70 (v81,v82) h
  · refine qa5 ?_
    refine qb8 (ι:=Bool) (fun v133=>St.of [(1,.d (.sl false (devices_.map qa9))),(2,.d (.int .i64 bus_)),(3,.d (.fl .f32 current_)),(4,.ptr 0 0),(28,.d (.bool v133))] [.box [.d (.cx .f32 f_.Source.A.re f_.Source.A.im),.d (.cx .f32 f_.Source.B.re f_.Source.B.im),.d (.cx .f32 f_.Source.C.re f_.Source.C.im),.d (.sl false (f_.qaf.map qai))]] f25.ntmps 0) (fun v133=>qds n f_ devices_ bus_ current_ v133 = some r) ?_ (fun hk135=>?_)
    · rintro v133 h
      replace h:qds n f_ devices_ bus_ current_ v133 = some r:=h
      unfold qds at h
      refine qao rfl (fun hc134=>?_) (fun hc134=>?_)
      · have h:=qbn h hc134
        refine qa5 ?_
        refine qa1 ?_
        refine qa0 hτ rfl rfl rfl ?_
        refine qa0 hτ rfl rfl rfl ?_
        refine qa0 hτ rfl rfl rfl ?_
        refine qa3 ?_
        refine qa7 (qa2 [] (l:=[(8,.d (.int .i64 (0:Int))),(9,.d (.fl .f32 (0:Nat))),(10,.d (.bool false))]) (objs:=[]) rfl (by simp) rfl (by trivial) ⟨rfl,trivial,rfl,trivial,rfl,trivial,trivial⟩) ?_
        refine qar ?_
        have hr:=Option.some.inj h
        subst hr
        exact qah (.inr rfl) [] (objs':=[]) (new:=[]) rfl (by simp) (by simp) rfl (by trivial) rfl rfl (by trivial) (fun _=>⟨by simp [V.flat,V.qbk,V.qbf,D.flat],qal⟩) ⟨rfl,rfl,rfl⟩
      · have h:=qbm h hc134
        refine qap ?_
        refine qa7 (qa2 [0] (l:=[(1,.d (.sl false (devices_.map qa9))),(2,.d (.int .i64 bus_)),(3,.d (.fl .f32 current_)),(4,.ptr 0 0)]) (objs:=[.box [.d (.cx .f32 f_.Source.A.re f_.Source.A.im),.d (.cx .f32 f_.Source.B.re f_.Source.B.im),.d (.cx .f32 f_.Source.C.re f_.Source.C.im),.d (.sl false (f_.qaf.map qai))]]) rfl (by simp) rfl (by trivial) ⟨rfl,trivial,rfl,trivial,rfl,trivial,rfl,trivial,trivial⟩) ?_
        exact hk126 () h
    · refine qa5 ?_
      refine qa1 ?_
      refine qaa h fun x136 hx136 h=>?_
      refine qag hτ false [0] rfl rfl rfl (qaj func55 rfl rfl) rfl rfl (by simp) ⟨trivial,trivial⟩ (by trivial) (spec_l02Is_ok n f_ hx136) ?_
      rintro r0 o0 n0 ⟨rfl,rfl,rfl⟩ -
      refine qa0 hτ rfl rfl rfl ?_
      refine qa0 hτ rfl rfl rfl ?_
      refine qb4 19 rfl (fun hb137=>?_) (fun hb137=>?_)
      · have hb137:=qgh hb137
        have h:=qbm h hb137
        refine qa6 rfl rfl ?_
        refine qa6 rfl rfl ?_
        refine qa6 rfl rfl ?_
        refine qa0 hτ rfl rfl rfl ?_
        refine qa0 hτ rfl rfl rfl ?_
        refine qat (qa2 [0] (l:=[(1,.d (.sl false (devices_.map qa9))),(2,.d (.int .i64 bus_)),(3,.d (.fl .f32 current_)),(4,.ptr 0 0),(24,.d (.bool true))]) (objs:=[.box [.d (.cx .f32 f_.Source.A.re f_.Source.A.im),.d (.cx .f32 f_.Source.B.re f_.Source.B.im),.d (.cx .f32 f_.Source.C.re f_.Source.C.im),.d (.sl false (f_.qaf.map qai))]]) rfl (by simp) rfl (by trivial) ⟨rfl,trivial,rfl,trivial,rfl,trivial,rfl,trivial,rfl,trivial,trivial⟩) ?_
        refine qa6 rfl rfl ?_
        refine qa6 rfl rfl ?_
        refine qa6 rfl rfl ?_
        refine qa0 hτ rfl rfl rfl ?_
        refine qa3 ?_
        refine qa7 (qa2 [0] (l:=[(1,.d (.sl false (devices_.map qa9))),(2,.d (.int .i64 bus_)),(3,.d (.fl .f32 current_)),(4,.ptr 0 0),(28,.d (.bool true))]) (objs:=[.box [.d (.cx .f32 f_.Source.A.re f_.Source.A.im),.d (.cx .f32 f_.Source.B.re f_.Source.B.im),.d (.cx .f32 f_.Source.C.re f_.Source.C.im),.d (.sl false (f_.qaf.map qai))]]) rfl (by simp) rfl (by trivial) ⟨rfl,trivial,rfl,trivial,rfl,trivial,rfl,trivial,rfl,trivial,trivial⟩) ?_
        exact hk135 true h
      · have hb137:=qgg hb137
        have h:=qbn h hb137
        refine qa0 hτ rfl rfl rfl ?_
        refine qaa h fun x138 hx138 h=>?_
        refine qag hτ false [0] rfl rfl rfl (qaj func56 rfl rfl) rfl rfl (by simp) ⟨trivial,trivial,trivial⟩ (by trivial) (spec_l07Are_ok n f_ devices_ hx138) ?_
        rintro r0 o0 n0 ⟨rfl,rfl,rfl⟩ -
        refine qa0 hτ rfl rfl rfl ?_
        refine qa0 hτ rfl rfl rfl ?_
        refine qa0 hτ rfl rfl rfl ?_
        refine qat (qa2 [0] (l:=[(1,.d (.sl false (devices_.map qa9))),(2,.d (.int .i64 bus_)),(3,.d (.fl .f32 current_)),(4,.ptr 0 0),(24,.d (.bool (!x138)))]) (objs:=[.box [.d (.cx .f32 f_.Source.A.re f_.Source.A.im),.d (.cx .f32 f_.Source.B.re f_.Source.B.im),.d (.cx .f32 f_.Source.C.re f_.Source.C.im),.d (.sl false (f_.qaf.map qai))]]) rfl (by simp) rfl (by trivial) ⟨rfl,trivial,rfl,trivial,rfl,trivial,rfl,trivial,rfl,trivial,trivial⟩) ?_
        refine qb4 24 rfl (fun hb139=>?_) (fun hb139=>?_)
        · have hb139:=qgh hb139
          have h:=qbm h hb139
          refine qa6 rfl rfl ?_
          refine qa6 rfl rfl ?_
          refine qa6 rfl rfl ?_
          refine qa0 hτ rfl rfl rfl ?_
          refine qa3 ?_
          refine qa7 (qa2 [0] (l:=[(1,.d (.sl false (devices_.map qa9))),(2,.d (.int .i64 bus_)),(3,.d (.fl .f32 current_)),(4,.ptr 0 0),(28,.d (.bool true))]) (objs:=[.box [.d (.cx .f32 f_.Source.A.re f_.Source.A.im),.d (.cx .f32 f_.Source.B.re f_.Source.B.im),.d (.cx .f32 f_.Source.C.re f_.Source.C.im),.d (.sl false (f_.qaf.map qai))]]) rfl (by simp) rfl (by trivial) ⟨rfl,trivial,rfl,trivial,rfl,trivial,rfl,trivial,rfl,trivial,trivial⟩) ?_
          exact hk135 true h
        · have hb139:=qgg hb139
          have h:=qbn h hb139
          refine qa0 hτ rfl rfl rfl ?_
          refine qaa h fun x140 hx140 h=>?_
          refine qag hτ false [0] rfl rfl rfl (qaj func57 rfl rfl) rfl rfl (by simp) ⟨trivial,trivial,trivial⟩ (by trivial) (qmj n f_ bus_ hx140) ?_
          rintro r0 o0 n0 ⟨rfl,rfl,rfl⟩ -
          refine qa0 hτ rfl rfl rfl ?_
          refine qa0 hτ rfl rfl rfl ?_
          refine qa3 ?_
          refine qa7 (qa2 [0] (l:=[(1,.d (.sl false (devices_.map qa9))),(2,.d (.int .i64 bus_)),(3,.d (.fl .f32 current_)),(4,.ptr 0 0),(28,.d (.bool (!x140)))]) (objs:=[.box [.d (.cx .f32 f_.Source.A.re f_.Source.A.im),.d (.cx .f32 f_.Source.B.re f_.Source.B.im),.d (.cx .f32 f_.Source.C.re f_.Source.C.im),.d (.sl false (f_.qaf.map qai))]]) rfl (by simp) rfl (by trivial) ⟨rfl,trivial,rfl,trivial,rfl,trivial,rfl,trivial,rfl,trivial,trivial⟩) ?_
          exact hk135 (!x140) h
theorem spec_FirstTrip_ok_fr (n:Nat) (f_:qax) (devices_:List qas) (bus_:Int) (current_:Nat) {r:Int × Nat × Bool} (h:qgn n f_ devices_ bus_ current_ = some r):qb9 prog true 25 [.agg [.d (.cx .f32 f_.Source.A.re f_.Source.A.im),.d (.cx .f32 f_.Source.B.re f_.Source.B.im),.d (.cx .f32 f_.Source.C.re f_.Source.C.im),.d (.sl false (f_.qaf.map qai))],.d (.sl false (devices_.map qa9)),.d (.int .i64 bus_),.d (.fl .f32 current_)] [] (fun v o new=>v = .tup [.d (.int .i64 r.1),.d (.fl .f32 r.2.1),.d (.bool r.2.2)]∧o = []∧new = []):=spec_FirstTrip_ok_fr0 true n f_ devices_ bus_ current_ h
def qhq (n:Nat) (f_:qax) (bus_:Int):Option (List Int × Bool) :=
  (qfv n f_ bus_).bind fun x4 =>
  if x4 = true then
    (qe7 n f_ bus_).bind fun x6 =>
    some (x6,true)
  else
    some (([]:List Int),false)
theorem impl_PathTo_ok_fr0 (fr:Bool) (n:Nat) (f_:qax) (bus_:Int) {r:List Int × Bool} (h:qhq n f_ bus_ = some r):qb9 prog fr 26 [.agg [.d (.cx .f32 f_.Source.A.re f_.Source.A.im),.d (.cx .f32 f_.Source.B.re f_.Source.B.im),.d (.cx .f32 f_.Source.C.re f_.Source.C.im),.d (.sl false (f_.qaf.map qai))],.d (.int .i64 bus_)] [] (fun v o new=>v = .tup [.row 0 r.1.length 0 r.1.length,.d (.bool r.2)]∧o = []∧new = [.row 1 (r.1.map qac)]):=by
  refine qak hτ func26 rfl (by simp) (by simp) ?_
  unfold qhq at h
  refine qa5 ?_
  refine qa1 ?_
  refine qav hτ rfl rfl rfl ?_
  refine qa0 hτ rfl rfl rfl ?_
  refine qa0 hτ rfl rfl rfl ?_
  refine qa3 ?_
  refine qa5 ?_
  refine qa5 ?_
  refine qa1 ?_
  refine qa0 hτ rfl rfl rfl ?_
  refine qaa h fun x4 hx4 h=>?_
  refine qag hτ false [0] rfl rfl rfl (qaj func52 rfl rfl) rfl rfl (by simp) ⟨trivial,trivial,trivial⟩ (by trivial) (ql8 n f_ bus_ hx4) ?_
  rintro r0 o0 n0 ⟨rfl,rfl,rfl⟩ -
  refine qa0 hτ rfl rfl rfl ?_
  refine qa3 ?_
  refine qa7 (qa2 [0] (l:=[(1,.d (.int .i64 bus_)),(2,.ptr 0 0),(8,.d (.bool (!x4)))]) (objs:=[.box [.d (.cx .f32 f_.Source.A.re f_.Source.A.im),.d (.cx .f32 f_.Source.B.re f_.Source.B.im),.d (.cx .f32 f_.Source.C.re f_.Source.C.im),.d (.sl false (f_.qaf.map qai))]]) rfl (by simp) rfl (by trivial) ⟨rfl,trivial,rfl,trivial,rfl,trivial,trivial⟩) ?_
  refine qao rfl (fun hc5=>?_) (fun hc5=>?_)
  · have hc5:=qgh hc5
    have h:=qbm h hc5
    refine qa5 ?_
    refine qa1 ?_
    refine qa0 hτ rfl rfl rfl ?_
    refine qa0 hτ rfl rfl rfl ?_
    refine qa3 ?_
    refine qa7 (qa2 [] (l:=[(4,.d (.nils)),(5,.d (.bool false))]) (objs:=[]) rfl (by simp) rfl (by trivial) ⟨rfl,trivial,rfl,trivial,trivial⟩) ?_
    refine qa7 (qlo [1] (l':=[(4,.row 0 (([]:List Int).length) 0 (([]:List Int).length)),(5,.d (.bool false))]) (objs':=[]) (.cons (.c (.ghost ⟨Nat.le_of_ble_eq_true rfl,Nat.le_of_ble_eq_true rfl⟩)) (.cons (.c (.refl _)) .nil)) .nil) ?_
    refine qar ?_
    have hr:=Option.some.inj h
    subst hr
    exact qah (.inr rfl) [0] (objs':=[]) (new:=[.row 1 (([]:List Int).map qac)]) rfl (by simp) (by simp) rfl (by trivial) rfl rfl (by trivial) (fun _=>⟨by simp [V.flat,V.qbk,V.qbf,D.flat],(qe6 (qjs qft _) qal)⟩) ⟨rfl,rfl,rfl⟩
  · have hc5:=qgg hc5
    have h:=qbn h hc5
    refine qap ?_
    refine qa5 ?_
    refine qa1 ?_
    refine qa0 hτ rfl rfl rfl ?_
    refine qaa h fun x6 hx6 h=>?_
    refine qag hτ false [0] rfl rfl rfl (qaj func60 rfl rfl) rfl rfl (by simp) ⟨trivial,trivial,trivial⟩ (by trivial) (qjj n f_ bus_ hx6) ?_
    rintro r0 o0 n0 ⟨rfl,rfl,rfl⟩ -
    refine qa0 hτ rfl rfl rfl ?_
    refine qa0 hτ rfl rfl rfl ?_
    refine qa3 ?_
    refine qa7 (qa2 [1] (l:=[(4,.row 0 x6.length 0 x6.length),(5,.d (.bool true))]) (objs:=[.row 1 (x6.map qac)]) rfl (by simp) rfl (by trivial) ⟨rfl,trivial,rfl,trivial,trivial⟩) ?_
    refine qar ?_
    have hr:=Option.some.inj h
    subst hr
    exact qah (.inr rfl) [0] (objs':=[]) (new:=[.row 1 (x6.map qac)]) rfl (by simp) (by simp) rfl (by trivial) rfl rfl (by trivial) (fun _=>⟨by simp [V.flat,V.qbk,V.qbf,D.flat],(qe6 (qjs qft _) qal)⟩) ⟨rfl,rfl,rfl⟩
theorem qmc (n:Nat) (f_:qax) (bus_:Int) {r:List Int × Bool} (h:qhq n f_ bus_ = some r):qb9 prog false 26 [.agg [.d (.cx .f32 f_.Source.A.re f_.Source.A.im),.d (.cx .f32 f_.Source.B.re f_.Source.B.im),.d (.cx .f32 f_.Source.C.re f_.Source.C.im),.d (.sl false (f_.qaf.map qai))],.d (.int .i64 bus_)] [] (fun v o new=>v = .tup [.row 0 r.1.length 0 r.1.length,.d (.bool r.2)]∧o = []∧new = [.row 1 (r.1.map qac)]):=impl_PathTo_ok_fr0 false n f_ bus_ h
def qeg (n:Nat) (list_:List Int) (n_:Int):Nat→Int→Option Bool
  | 0,_=>none
  | m9 + 1,v6 =>
    if v6 < (list_.length:Int) then
      (getI list_ v6).bind fun x13 =>
      if x13 = n_ then
        some true
      else
        (qeg n list_ n_ m9) (w64 (v6 + (1:Int)))
    else
      some false
def qfr (n:Nat) (list_:List Int) (n_:Int):Option Bool :=
  qeg n list_ n_ n (0:Int)
theorem laws_b10Has_ok_fr0 (fr:Bool) (n:Nat) (list_:List Int) (n_:Int) {r:Bool} (h:qfr n list_ n_ = some r):qb9 prog fr 28 [.d (.sl false (list_.map qac)),.d (.int .i64 n_)] [] (fun v o new=>v = .d (.bool r)∧o = []∧new = []):=by
  refine qak hτ func28 rfl (by simp) (by simp) ?_
  unfold qfr at h
  refine qa5 ?_
  refine qa1 ?_
  refine qa0 hτ rfl rfl rfl ?_
  refine qa3 ?_
  refine qa5 ?_
  refine qa5 ?_
  refine qa1 ?_
  refine qa0 hτ rfl rfl rfl ?_
  refine qa0 hτ (v:=.d (.int .i64 (list_.length:Int))) rfl rfl (Eq.trans rfl (qdb (f:=qac) list_)) ?_
  refine qa0 hτ rfl rfl rfl ?_
  refine qa3 ?_
  refine qaz ?_
  refine qcs (ι:=Nat × Int) (fun (m9,v6)=>St.of [(0,.d (.sl false (list_.map qac))),(1,.d (.int .i64 n_)),(7,.d (.int .i64 (list_.length:Int))),(8,.d (.int .i64 v6))] [] f28.ntmps 0) (fun (m9,v6)=>qeg n list_ n_ m9 v6 = some r) (fun x=>x.1) (n,(0:Int)) h (qa2 [] (l:=[(0,.d (.sl false (list_.map qac))),(1,.d (.int .i64 n_)),(7,.d (.int .i64 (list_.length:Int))),(8,.d (.int .i64 (0:Int)))]) (objs:=[]) rfl (by simp) rfl (by trivial) ⟨rfl,trivial,rfl,trivial,rfl,trivial,rfl,trivial,trivial⟩) ?_
  rintro ⟨m9,v6⟩ h
  replace h:qeg n list_ n_ m9 v6 = some r:=h
  rcases m9 with _ | m9
  · rw [qeg] at h;cases h
  rw [qeg] at h
  refine qa5 ?_
  refine qa1 ?_
  refine qa0 hτ rfl rfl rfl ?_
  refine qa3 ?_
  refine qa5 ?_
  refine qao rfl (fun hc11=>?_) (fun hc11=>?_)
  · have h:=if_t h hc11
    refine qap ?_
    refine qa5 ?_
    refine qaz ?_
    refine qa5 ?_
    refine qa1 ?_
    refine qa0 hτ rfl rfl rfl ?_
    refine qa0 hτ rfl rfl rfl ?_
    refine qa3 ?_
    refine qa5 ?_
    refine qa1 ?_
    refine qa0 hτ rfl rfl rfl ?_
    refine qa0 hτ rfl rfl rfl ?_
    refine qaa h fun x13 hx13 h=>?_
    refine qbe hτ rfl rfl rfl (qaw hx13).1 (qb5 hx13) rfl ?_
    refine qa0 hτ rfl rfl rfl ?_
    refine qa0 hτ rfl rfl rfl ?_
    refine qa0 hτ (v:=.d (.bool (decide (x13 = n_)))) rfl rfl (ql2 _ _) ?_
    refine qa3 ?_
    refine qa7 (qa2 [] (l:=[(0,.d (.sl false (list_.map qac))),(1,.d (.int .i64 n_)),(7,.d (.int .i64 (list_.length:Int))),(8,.d (.int .i64 v6)),(16,.d (.bool (decide (x13 = n_))))]) (objs:=[]) rfl (by simp) rfl (by trivial) ⟨rfl,trivial,rfl,trivial,rfl,trivial,rfl,trivial,rfl,trivial,trivial⟩) ?_
    refine qao rfl (fun hc14=>?_) (fun hc14=>?_)
    · have h:=if_t h hc14
      refine qa5 ?_
      refine qa1 ?_
      refine qa0 hτ rfl rfl rfl ?_
      refine qa3 ?_
      refine qa7 (qa2 [] (l:=[(4,.d (.bool true))]) (objs:=[]) rfl (by simp) rfl (by trivial) ⟨rfl,trivial,trivial⟩) ?_
      refine qar ?_
      have hr:=Option.some.inj h
      subst hr
      exact qah (.inr rfl) [] (objs':=[]) (new:=[]) rfl (by simp) (by simp) rfl (by trivial) rfl rfl (by trivial) (fun _=>⟨by simp [V.flat,V.qbk,V.qbf,D.flat],qal⟩) ⟨rfl,rfl,rfl⟩
    · have h:=if_f h hc14
      refine qap ?_
      refine qa1 ?_
      refine qa0 hτ rfl rfl rfl ?_
      refine qa0 hτ rfl rfl rfl ?_
      refine qa3 ?_
      exact ⟨(m9,(w64 (v6 + (1:Int)))),h,Nat.lt_succ_self m9,(qa2 [] (l:=[(0,.d (.sl false (list_.map qac))),(1,.d (.int .i64 n_)),(7,.d (.int .i64 (list_.length:Int))),(8,.d (.int .i64 (w64 (v6 + (1:Int)))))]) (objs:=[]) rfl (by simp) rfl (by trivial) ⟨rfl,trivial,rfl,trivial,rfl,trivial,rfl,trivial,trivial⟩)⟩
  · have h:=if_f h hc11
    refine qcr ?_
    refine qa5 ?_
    refine qa1 ?_
    refine qa0 hτ rfl rfl rfl ?_
    refine qa3 ?_
    refine qa7 (qa2 [] (l:=[(4,.d (.bool false))]) (objs:=[]) rfl (by simp) rfl (by trivial) ⟨rfl,trivial,trivial⟩) ?_
    refine qar ?_
    have hr:=Option.some.inj h
    subst hr
    exact qah (.inr rfl) [] (objs':=[]) (new:=[]) rfl (by simp) (by simp) rfl (by trivial) rfl rfl (by trivial) (fun _=>⟨by simp [V.flat,V.qbk,V.qbf,D.flat],qal⟩) ⟨rfl,rfl,rfl⟩
theorem qh6 (n:Nat) (list_:List Int) (n_:Int) {r:Bool} (h:qfr n list_ n_ = some r):qb9 prog true 28 [.d (.sl false (list_.map qac)),.d (.int .i64 n_)] [] (fun v o new=>v = .d (.bool r)∧o = []∧new = []):=laws_b10Has_ok_fr0 true n list_ n_ h
def qge (n:Nat) (c_:qbq) (current_:Nat) (v23:Int):Option (Nat × Bool) :=
  (getI c_.qa8 v23).bind fun x24 =>
  (getI c_.qa8 (w64 (v23 + (1:Int)))).bind fun x25 =>
  (getI c_.Times v23).bind fun x26 =>
  (getI c_.Times (w64 (v23 + (1:Int)))).bind fun x27 =>
  some ((qad .add .f32 x26 (qad .mul .f32 (qad .sub .f32 x27 x26) (qad .quo .f32 (qad .sub .f32 current_ x24) (qad .sub .f32 x25 x24)))),true)
def qcn (n:Nat) (c_:qbq) (current_:Nat):Nat→Int→Option (Nat × Bool)
  | 0,_=>none
  | m33 + 1,v30 =>
    (getI c_.qa8 (w64 (v30 + (1:Int)))).bind fun x36 =>
    if (fcmp .leq .f32 x36 current_) = true then
      (qcn n c_ current_ m33) (w64 (v30 + (1:Int)))
    else
      qge n c_ current_ v30
def qd1 (n:Nat) (c_:qbq) (current_:Nat):Option (Nat × Bool) :=
  (getI c_.qa8 (0:Int)).bind fun x12 =>
  if (fcmp .geq .f32 current_ x12) = true then
    (getI c_.qa8 (w64 ((c_.qa8.length:Int) - (1:Int)))).bind fun x16 =>
    if (fcmp .geq .f32 current_ x16) = true then
      (getI c_.Times (w64 ((c_.qa8.length:Int) - (1:Int)))).bind fun x18 =>
      some (x18,true)
    else
      qcn n c_ current_ n (0:Int)
  else
    some ((0:Nat),false)
theorem qj8 (n:Nat) (c_:qbq) (current_:Nat) {r:Nat × Bool} (h:qd1 n c_ current_ = some r):qb9 prog false 54 [.ptr 0 0,.d (.fl .f32 current_)] [.box [.d (.sl false (c_.qa8.map qa4)),.d (.sl false (c_.Times.map qa4))]] (fun v o new=>v = .tup [.d (.fl .f32 r.1),.d (.bool r.2)]∧o = [.box [.d (.sl false (c_.qa8.map qa4)),.d (.sl false (c_.Times.map qa4))]]∧new = []):=by
  refine qak hτ func54 rfl (by simp) (by simp) ?_
  unfold qd1 at h
  refine qa5 ?_
  refine qa1 ?_
  refine qa0 hτ rfl rfl rfl ?_
  refine qa0 hτ rfl rfl rfl ?_
  refine qa3 ?_
  refine qa5 ?_
  refine qa1 ?_
  refine qa0 hτ rfl rfl rfl ?_
  refine qa0 hτ rfl rfl rfl ?_
  refine qa0 hτ rfl rfl rfl ?_
  refine qa0 hτ rfl rfl rfl ?_
  refine qa0 hτ (v:=.d (.int .i64 (c_.qa8.length:Int))) rfl rfl (Eq.trans rfl (qdb (f:=qa4) c_.qa8)) ?_
  refine qa0 hτ rfl rfl rfl ?_
  refine qa0 hτ rfl rfl rfl ?_
  refine qa3 ?_
  refine qa5 ?_
  refine qa5 ?_
  refine qa7 (qa2 [0] (l:=[(0,.ptr 0 0),(1,.d (.fl .f32 current_)),(6,.d (.int .i64 (w64 ((c_.qa8.length:Int) - (1:Int)))))]) (objs:=[.box [.d (.sl false (c_.qa8.map qa4)),.d (.sl false (c_.Times.map qa4))]]) rfl (by simp) rfl (by trivial) ⟨rfl,trivial,rfl,trivial,rfl,trivial,trivial⟩) ?_
  refine qa1 ?_
  refine qa0 hτ rfl rfl rfl ?_
  refine qa0 hτ rfl rfl rfl ?_
  refine qa0 hτ rfl rfl rfl ?_
  refine qa0 hτ rfl rfl rfl ?_
  refine qa0 hτ rfl rfl rfl ?_
  refine qaa h fun x12 hx12 h=>?_
  refine qbe hτ rfl rfl rfl (qaw hx12).1 (qb5 hx12) rfl ?_
  refine qa0 hτ rfl rfl rfl ?_
  refine qa0 hτ rfl rfl rfl ?_
  refine qa0 hτ rfl rfl rfl ?_
  refine qa3 ?_
  refine qa7 (qa2 [0] (l:=[(0,.ptr 0 0),(1,.d (.fl .f32 current_)),(6,.d (.int .i64 (w64 ((c_.qa8.length:Int) - (1:Int))))),(27,.d (.bool (!(fcmp .geq .f32 current_ x12))))]) (objs:=[.box [.d (.sl false (c_.qa8.map qa4)),.d (.sl false (c_.Times.map qa4))]]) rfl (by simp) rfl (by trivial) ⟨rfl,trivial,rfl,trivial,rfl,trivial,rfl,trivial,trivial⟩) ?_
  refine qao rfl (fun hc13=>?_) (fun hc13=>?_)
  · have hc13:=qgh hc13
    have h:=qbm h hc13
    refine qa5 ?_
    refine qa1 ?_
    refine qa0 hτ rfl rfl rfl ?_
    refine qa0 hτ rfl rfl rfl ?_
    refine qa3 ?_
    refine qa7 (qa2 [0] (l:=[(4,.d (.fl .f32 (0:Nat))),(5,.d (.bool false))]) (objs:=[.box [.d (.sl false (c_.qa8.map qa4)),.d (.sl false (c_.Times.map qa4))]]) rfl (by simp) rfl (by trivial) ⟨rfl,trivial,rfl,trivial,trivial⟩) ?_
    refine qar ?_
    have hr:=Option.some.inj h
    subst hr
    exact qah (.inr rfl) [] (objs':=[.box [.d (.sl false (c_.qa8.map qa4)),.d (.sl false (c_.Times.map qa4))]]) (new:=[]) rfl (by simp) (by simp) rfl (by trivial) rfl rfl (by trivial) (fun h=>nomatch h) ⟨rfl,rfl,rfl⟩
  · have hc13:=qgg hc13
    have h:=qbn h hc13
    refine qap ?_
    refine qa5 ?_
    refine qa5 ?_
    refine qa1 ?_
    refine qa0 hτ rfl rfl rfl ?_
    refine qa0 hτ rfl rfl rfl ?_
    refine qa0 hτ rfl rfl rfl ?_
    refine qa0 hτ rfl rfl rfl ?_
    refine qa0 hτ rfl rfl rfl ?_
    refine qa0 hτ rfl rfl rfl ?_
    refine qaa h fun x16 hx16 h=>?_
    refine qbe hτ rfl rfl rfl (qaw hx16).1 (qb5 hx16) rfl ?_
    refine qa0 hτ rfl rfl rfl ?_
    refine qa0 hτ rfl rfl rfl ?_
    refine qa3 ?_
    refine qa7 (qa2 [0] (l:=[(0,.ptr 0 0),(1,.d (.fl .f32 current_)),(6,.d (.int .i64 (w64 ((c_.qa8.length:Int) - (1:Int))))),(36,.d (.bool (fcmp .geq .f32 current_ x16)))]) (objs:=[.box [.d (.sl false (c_.qa8.map qa4)),.d (.sl false (c_.Times.map qa4))]]) rfl (by simp) rfl (by trivial) ⟨rfl,trivial,rfl,trivial,rfl,trivial,rfl,trivial,trivial⟩) ?_
    refine qao rfl (fun hc17=>?_) (fun hc17=>?_)
    · have h:=qbn h hc17
      refine qa5 ?_
      refine qa1 ?_
      refine qa0 hτ rfl rfl rfl ?_
      refine qa0 hτ rfl rfl rfl ?_
      refine qa0 hτ rfl rfl rfl ?_
      refine qa0 hτ rfl rfl rfl ?_
      refine qa0 hτ rfl rfl rfl ?_
      refine qaa h fun x18 hx18 h=>?_
      refine qbe hτ rfl rfl rfl (qaw hx18).1 (qb5 hx18) rfl ?_
      refine qa0 hτ rfl rfl rfl ?_
      refine qa0 hτ rfl rfl rfl ?_
      refine qa0 hτ rfl rfl rfl ?_
      refine qa3 ?_
      refine qa7 (qa2 [0] (l:=[(4,.d (.fl .f32 x18)),(5,.d (.bool true))]) (objs:=[.box [.d (.sl false (c_.qa8.map qa4)),.d (.sl false (c_.Times.map qa4))]]) rfl (by simp) rfl (by trivial) ⟨rfl,trivial,rfl,trivial,trivial⟩) ?_
      refine qar ?_
      have hr:=Option.some.inj h
      subst hr
      exact qah (.inr rfl) [] (objs':=[.box [.d (.sl false (c_.qa8.map qa4)),.d (.sl false (c_.Times.map qa4))]]) (new:=[]) rfl (by simp) (by simp) rfl (by trivial) rfl rfl (by trivial) (fun h=>nomatch h) ⟨rfl,rfl,rfl⟩
    · have h:=qbm h hc17
      refine qap ?_
      refine qa5 ?_
      refine qa1 ?_
      refine qa0 hτ rfl rfl rfl ?_
      refine qa3 ?_
      refine qb8 (ι:=Int) (fun v23=>St.of [(0,.ptr 0 0),(1,.d (.fl .f32 current_)),(7,.d (.int .i64 v23))] [.box [.d (.sl false (c_.qa8.map qa4)),.d (.sl false (c_.Times.map qa4))]] f54.ntmps 1) (fun v23=>qge n c_ current_ v23 = some r) ?_ (fun hk28=>?_)
      · rintro v23 h
        replace h:qge n c_ current_ v23 = some r:=h
        unfold qge at h
        refine qa5 ?_
        refine qel ?_
        refine qab hτ [] 0 rfl rfl rfl rfl rfl ?_
        refine qab hτ [] 1 rfl rfl rfl rfl rfl ?_
        refine qab hτ [0] 2 rfl rfl rfl rfl rfl ?_
        refine qab hτ [0] 3 rfl rfl rfl rfl rfl ?_
        refine qab hτ [] 4 rfl rfl rfl rfl rfl ?_
        refine qaa h fun x24 hx24 h=>?_
        refine qc8 hτ [] 5 rfl rfl rfl rfl rfl (qaw hx24).1 (qb5 hx24) rfl ?_
        refine qab hτ [] 6 rfl rfl rfl rfl rfl ?_
        refine qab hτ [] 7 rfl rfl rfl rfl rfl ?_
        refine qab hτ [] 8 rfl rfl rfl rfl rfl ?_
        refine qab hτ [0] 9 rfl rfl rfl rfl rfl ?_
        refine qab hτ [0] 10 rfl rfl rfl rfl rfl ?_
        refine qab hτ [] 11 rfl rfl rfl rfl rfl ?_
        refine qab hτ [] 12 rfl rfl rfl rfl rfl ?_
        refine qaa h fun x25 hx25 h=>?_
        refine qc8 hτ [] 13 rfl rfl rfl rfl rfl (qaw hx25).1 (qb5 hx25) rfl ?_
        refine qab hτ [] 14 rfl rfl rfl rfl rfl ?_
        refine qab hτ [] 15 rfl rfl rfl rfl rfl ?_
        refine qab hτ [] 16 rfl rfl rfl rfl rfl ?_
        refine qab hτ [0] 17 rfl rfl rfl rfl rfl ?_
        refine qab hτ [0] 18 rfl rfl rfl rfl rfl ?_
        refine qab hτ [] 19 rfl rfl rfl rfl rfl ?_
        refine qaa h fun x26 hx26 h=>?_
        refine qc8 hτ [] 20 rfl rfl rfl rfl rfl (qaw hx26).1 (qb5 hx26) rfl ?_
        refine qab hτ [] 21 rfl rfl rfl rfl rfl ?_
        refine qab hτ [] 22 rfl rfl rfl rfl rfl ?_
        refine qab hτ [] 23 rfl rfl rfl rfl rfl ?_
        refine qab hτ [0] 24 rfl rfl rfl rfl rfl ?_
        refine qab hτ [0] 25 rfl rfl rfl rfl rfl ?_
        refine qab hτ [] 26 rfl rfl rfl rfl rfl ?_
        refine qab hτ [] 27 rfl rfl rfl rfl rfl ?_
        refine qaa h fun x27 hx27 h=>?_
        refine qc8 hτ [] 28 rfl rfl rfl rfl rfl (qaw hx27).1 (qb5 hx27) rfl ?_
        refine qab hτ [] 29 rfl rfl rfl rfl rfl ?_
        refine qab hτ [] 30 rfl rfl rfl rfl rfl ?_
        refine qab hτ [] 31 rfl rfl rfl rfl rfl ?_
        refine qab hτ [] 32 rfl rfl rfl rfl rfl ?_
        refine qab hτ [] 33 rfl rfl rfl rfl rfl ?_
        refine qcy mixed (by kernel_rfl) ?_
        refine qa5 ?_
        refine qa7 (qa2 [0] (l:=[(1,.d (.fl .f32 current_)),(8,.d (.fl .f32 x24)),(9,.d (.fl .f32 x25)),(10,.d (.fl .f32 x26)),(11,.d (.fl .f32 x27))]) (objs:=[.box [.d (.sl false (c_.qa8.map qa4)),.d (.sl false (c_.Times.map qa4))]]) rfl (by simp) rfl (by trivial) ⟨rfl,trivial,rfl,trivial,rfl,trivial,rfl,trivial,rfl,trivial,trivial⟩) ?_
        refine qa1 ?_
        refine qa0 hτ rfl rfl rfl ?_
        refine qa0 hτ rfl rfl rfl ?_
        refine qa0 hτ rfl rfl rfl ?_
        refine qa0 hτ rfl rfl rfl ?_
        refine qa0 hτ rfl rfl rfl ?_
        refine qa0 hτ rfl rfl rfl ?_
        refine qa0 hτ rfl rfl rfl ?_
        refine qa0 hτ rfl rfl rfl ?_
        refine qa3 ?_
        refine qa5 ?_
        refine qa7 (qa2 [0] (l:=[(10,.d (.fl .f32 x26)),(11,.d (.fl .f32 x27)),(12,.d (.fl .f32 (qad .quo .f32 (qad .sub .f32 current_ x24) (qad .sub .f32 x25 x24))))]) (objs:=[.box [.d (.sl false (c_.qa8.map qa4)),.d (.sl false (c_.Times.map qa4))]]) rfl (by simp) rfl (by trivial) ⟨rfl,trivial,rfl,trivial,rfl,trivial,trivial⟩) ?_
        refine qa1 ?_
        refine qa0 hτ rfl rfl rfl ?_
        refine qa0 hτ rfl rfl rfl ?_
        refine qa0 hτ rfl rfl rfl ?_
        refine qa0 hτ rfl rfl rfl ?_
        refine qa0 hτ rfl rfl rfl ?_
        refine qa0 hτ rfl rfl rfl ?_
        refine qa0 hτ rfl rfl rfl ?_
        refine qa0 hτ rfl rfl rfl ?_
        refine qa0 hτ rfl rfl rfl ?_
        refine qa3 ?_
        refine qa7 (qa2 [0] (l:=[(4,.d (.fl .f32 (qad .add .f32 x26 (qad .mul .f32 (qad .sub .f32 x27 x26) (qad .quo .f32 (qad .sub .f32 current_ x24) (qad .sub .f32 x25 x24)))))),(5,.d (.bool true))]) (objs:=[.box [.d (.sl false (c_.qa8.map qa4)),.d (.sl false (c_.Times.map qa4))]]) rfl (by simp) rfl (by trivial) ⟨rfl,trivial,rfl,trivial,trivial⟩) ?_
        refine qar ?_
        have hr:=Option.some.inj h
        subst hr
        exact qah (.inr rfl) [] (objs':=[.box [.d (.sl false (c_.qa8.map qa4)),.d (.sl false (c_.Times.map qa4))]]) (new:=[]) rfl (by simp) (by simp) rfl (by trivial) rfl rfl (by trivial) (fun h=>nomatch h) ⟨rfl,rfl,rfl⟩
      · refine qa5 ?_
        refine qaz ?_
        refine qcs (ι:=Nat × Int) (fun (m33,v30)=>St.of [(0,.ptr 0 0),(1,.d (.fl .f32 current_)),(7,.d (.int .i64 v30))] [.box [.d (.sl false (c_.qa8.map qa4)),.d (.sl false (c_.Times.map qa4))]] f54.ntmps 1) (fun (m33,v30)=>qcn n c_ current_ m33 v30 = some r) (fun x=>x.1) (n,(0:Int)) h (qa2 [0] (l:=[(0,.ptr 0 0),(1,.d (.fl .f32 current_)),(7,.d (.int .i64 (0:Int)))]) (objs:=[.box [.d (.sl false (c_.qa8.map qa4)),.d (.sl false (c_.Times.map qa4))]]) rfl (by simp) rfl (by trivial) ⟨rfl,trivial,rfl,trivial,rfl,trivial,trivial⟩) ?_
        rintro ⟨m33,v30⟩ h
        replace h:qcn n c_ current_ m33 v30 = some r:=h
        rcases m33 with _ | m33
        · rw [qcn] at h;cases h
        rw [qcn] at h
        refine qa5 ?_
        refine qa5 ?_
        refine qa1 ?_
        refine qa0 hτ rfl rfl rfl ?_
        refine qa0 hτ rfl rfl rfl ?_
        refine qa0 hτ rfl rfl rfl ?_
        refine qa0 hτ rfl rfl rfl ?_
        refine qa0 hτ rfl rfl rfl ?_
        refine qa0 hτ rfl rfl rfl ?_
        refine qaa h fun x36 hx36 h=>?_
        refine qbe hτ rfl rfl rfl (qaw hx36).1 (qb5 hx36) rfl ?_
        refine qa0 hτ rfl rfl rfl ?_
        refine qa0 hτ rfl rfl rfl ?_
        refine qa0 hτ rfl rfl rfl ?_
        refine qa3 ?_
        refine qa7 (qa2 [0] (l:=[(0,.ptr 0 0),(1,.d (.fl .f32 current_)),(7,.d (.int .i64 v30)),(53,.d (.bool (fcmp .leq .f32 x36 current_)))]) (objs:=[.box [.d (.sl false (c_.qa8.map qa4)),.d (.sl false (c_.Times.map qa4))]]) rfl (by simp) rfl (by trivial) ⟨rfl,trivial,rfl,trivial,rfl,trivial,rfl,trivial,trivial⟩) ?_
        refine qao rfl (fun hc37=>?_) (fun hc37=>?_)
        · have h:=qbn h hc37
          refine qap ?_
          refine qaz ?_
          refine qa1 ?_
          refine qa0 hτ rfl rfl rfl ?_
          refine qa0 hτ rfl rfl rfl ?_
          refine qa0 hτ rfl rfl rfl ?_
          refine qa3 ?_
          exact ⟨(m33,(w64 (v30 + (1:Int)))),h,Nat.lt_succ_self m33,(qa2 [0] (l:=[(0,.ptr 0 0),(1,.d (.fl .f32 current_)),(7,.d (.int .i64 (w64 (v30 + (1:Int)))))]) (objs:=[.box [.d (.sl false (c_.qa8.map qa4)),.d (.sl false (c_.Times.map qa4))]]) rfl (by simp) rfl (by trivial) ⟨rfl,trivial,rfl,trivial,rfl,trivial,trivial⟩)⟩
        · have h:=qbm h hc37
          refine qcr ?_
          refine qa7 (qa2 [0] (l:=[(0,.ptr 0 0),(1,.d (.fl .f32 current_)),(7,.d (.int .i64 v30))]) (objs:=[.box [.d (.sl false (c_.qa8.map qa4)),.d (.sl false (c_.Times.map qa4))]]) rfl (by simp) rfl (by trivial) ⟨rfl,trivial,rfl,trivial,rfl,trivial,trivial⟩) ?_
          exact hk28 v30 h
def qhr (n:Nat) (c_:qbq) (current_:Nat):Option (Nat × Bool) :=
  (qdd n c_).bind fun x4 =>
  if x4 = true then
    (qd1 n c_ current_).bind fun x6 =>
    some (x6.1,x6.2)
  else
    some ((0:Nat),false)
theorem impl_TimeAt_ok_fr0 (fr:Bool) (n:Nat) (c_:qbq) (current_:Nat) {r:Nat × Bool} (h:qhr n c_ current_ = some r):qb9 prog fr 29 [.agg [.d (.sl false (c_.qa8.map qa4)),.d (.sl false (c_.Times.map qa4))],.d (.fl .f32 current_)] [] (fun v o new=>v = .tup [.d (.fl .f32 r.1),.d (.bool r.2)]∧o = []∧new = []):=by
  refine qak hτ func29 rfl (by simp) (by simp) ?_
  unfold qhr at h
  refine qa5 ?_
  refine qa1 ?_
  refine qav hτ rfl rfl rfl ?_
  refine qa0 hτ rfl rfl rfl ?_
  refine qa0 hτ rfl rfl rfl ?_
  refine qa3 ?_
  refine qa5 ?_
  refine qa5 ?_
  refine qa1 ?_
  refine qa0 hτ rfl rfl rfl ?_
  refine qaa h fun x4 hx4 h=>?_
  refine qag hτ false [] rfl rfl rfl (qaj func61 rfl rfl) rfl rfl (by simp) ⟨(by trivial),trivial⟩ (by trivial) (qib n c_ hx4) ?_
  rintro r0 o0 n0 ⟨rfl,rfl,rfl⟩ -
  refine qa0 hτ rfl rfl rfl ?_
  refine qa3 ?_
  refine qa7 (qa2 [0] (l:=[(1,.d (.fl .f32 current_)),(2,.ptr 0 0),(8,.d (.bool (!x4)))]) (objs:=[.box [.d (.sl false (c_.qa8.map qa4)),.d (.sl false (c_.Times.map qa4))]]) rfl (by simp) rfl (by trivial) ⟨rfl,trivial,rfl,trivial,rfl,trivial,trivial⟩) ?_
  refine qao rfl (fun hc5=>?_) (fun hc5=>?_)
  · have hc5:=qgh hc5
    have h:=qbm h hc5
    refine qa5 ?_
    refine qa1 ?_
    refine qa0 hτ rfl rfl rfl ?_
    refine qa0 hτ rfl rfl rfl ?_
    refine qa3 ?_
    refine qa7 (qa2 [] (l:=[(4,.d (.fl .f32 (0:Nat))),(5,.d (.bool false))]) (objs:=[]) rfl (by simp) rfl (by trivial) ⟨rfl,trivial,rfl,trivial,trivial⟩) ?_
    refine qar ?_
    have hr:=Option.some.inj h
    subst hr
    exact qah (.inr rfl) [] (objs':=[]) (new:=[]) rfl (by simp) (by simp) rfl (by trivial) rfl rfl (by trivial) (fun _=>⟨by simp [V.flat,V.qbk,V.qbf,D.flat],qal⟩) ⟨rfl,rfl,rfl⟩
  · have hc5:=qgg hc5
    have h:=qbn h hc5
    refine qap ?_
    refine qa5 ?_
    refine qa1 ?_
    refine qa0 hτ rfl rfl rfl ?_
    refine qaa h fun x6 hx6 h=>?_
    refine qag hτ false [0] rfl rfl rfl (qaj func54 rfl rfl) rfl rfl (by simp) ⟨trivial,trivial,trivial⟩ (by trivial) (qj8 n c_ current_ hx6) ?_
    rintro r0 o0 n0 ⟨rfl,rfl,rfl⟩ -
    refine qa0 hτ rfl rfl rfl ?_
    refine qa0 hτ rfl rfl rfl ?_
    refine qa0 hτ rfl rfl rfl ?_
    refine qa0 hτ rfl rfl rfl ?_
    refine qa3 ?_
    refine qa7 (qa2 [] (l:=[(4,.d (.fl .f32 x6.1)),(5,.d (.bool x6.2))]) (objs:=[]) rfl (by simp) rfl (by trivial) ⟨rfl,trivial,rfl,trivial,trivial⟩) ?_
    refine qar ?_
    have hr:=Option.some.inj h
    subst hr
    exact qah (.inr rfl) [] (objs':=[]) (new:=[]) rfl (by simp) (by simp) rfl (by trivial) rfl rfl (by trivial) (fun _=>⟨by simp [V.flat,V.qbk,V.qbf,D.flat],qal⟩) ⟨rfl,rfl,rfl⟩
theorem qmd (n:Nat) (c_:qbq) (current_:Nat) {r:Nat × Bool} (h:qhr n c_ current_ = some r):qb9 prog false 29 [.agg [.d (.sl false (c_.qa8.map qa4)),.d (.sl false (c_.Times.map qa4))],.d (.fl .f32 current_)] [] (fun v o new=>v = .tup [.d (.fl .f32 r.1),.d (.bool r.2)]∧o = []∧new = []):=impl_TimeAt_ok_fr0 false n c_ current_ h
def qik (n:Nat) (v18:Int) (v19:Int):Option Int :=
  (getI ([0,1,2,2,3,3,3,3,4,4,4,4,4,4,4,4,5,5,5,5,5,5,5,5,5,5,5,5,5,5,5,5,6,6,6,6,6,6,6,6,6,6,6,6,6,6,6,6,6,6,6,6,6,6,6,6,6,6,6,6,6,6,6,6,7,7,7,7,7,7,7,7,7,7,7,7,7,7,7,7,7,7,7,7,7,7,7,7,7,7,7,7,7,7,7,7,7,7,7,7,7,7,7,7,7,7,7,7,7,7,7,7,7,7,7,7,7,7,7,7,7,7,7,7,7,7,7,7,8,8,8,8,8,8,8,8,8,8,8,8,8,8,8,8,8,8,8,8,8,8,8,8,8,8,8,8,8,8,8,8,8,8,8,8,8,8,8,8,8,8,8,8,8,8,8,8,8,8,8,8,8,8,8,8,8,8,8,8,8,8,8,8,8,8,8,8,8,8,8,8,8,8,8,8,8,8,8,8,8,8,8,8,8,8,8,8,8,8,8,8,8,8,8,8,8,8,8,8,8,8,8,8,8,8,8,8,8,8,8,8,8,8,8,8,8,8,8,8,8,8,8,8,8,8,8,8]:Str) (IntKind.wrap .u8 (v18))).bind fun x20 =>
  some (w64 (v19 + (w64 ((x20.toNat:Int)))))
def qij (n:Nat) (v14:Int) (v15:Int):Option Int :=
  if v14 ≥ (256:Int) then
    qik n (v14.fdiv (2 ^ min (8:Int).toNat (IntKind.bits .u64))) (w64 (v15 + (8:Int)))
  else
    qik n v14 v15
def qii (n:Nat) (v10:Int) (v11:Int):Option Int :=
  if v10 ≥ (65536:Int) then
    qij n (v10.fdiv (2 ^ min (16:Int).toNat (IntKind.bits .u64))) (w64 (v11 + (16:Int)))
  else
    qij n v10 v11
def qla (n:Nat) (x_:Int):Option Int :=
  if x_ ≥ (4294967296:Int) then
    qii n (x_.fdiv (2 ^ min (32:Int).toNat (IntKind.bits .u64))) (32:Int)
  else
    qii n x_ (0:Int)
theorem bits_Len64_ok_fr0 (fr:Bool) (n:Nat) (x_:Int) {r:Int} (h:qla n x_ = some r):qb9 prog fr 150 [.d (.int .u64 x_)] [] (fun v o new=>v = .d (.int .i64 r)∧o = []∧new = []):=by
  refine qak hτ func150 rfl (by simp) (by simp) ?_
  unfold qla at h
  refine qa5 ?_
  refine qa1 ?_
  refine qa0 hτ rfl rfl rfl ?_
  refine qa3 ?_
  refine qb8 (ι:=Int × Int) (fun (v10,v11)=>St.of [(0,.d (.int .u64 v10)),(2,.d (.int .i64 v11))] [] f150.ntmps 0) (fun (v10,v11)=>qii n v10 v11 = some r) ?_ (fun hk25=>?_)
  · rintro ⟨v10,v11⟩ h
    replace h:qii n v10 v11 = some r:=h
    unfold qii at h
    refine qb8 (ι:=Int × Int) (fun (v14,v15)=>St.of [(0,.d (.int .u64 v14)),(2,.d (.int .i64 v15))] [] f150.ntmps 0) (fun (v14,v15)=>qij n v14 v15 = some r) ?_ (fun hk23=>?_)
    · rintro ⟨v14,v15⟩ h
      replace h:qij n v14 v15 = some r:=h
      unfold qij at h
      refine qb8 (ι:=Int × Int) (fun (v18,v19)=>St.of [(0,.d (.int .u64 v18)),(2,.d (.int .i64 v19))] [] f150.ntmps 0) (fun (v18,v19)=>qik n v18 v19 = some r) ?_ (fun hk21=>?_)
      · rintro ⟨v18,v19⟩ h
        replace h:qik n v18 v19 = some r:=h
        unfold qik at h
        refine qa5 ?_
        refine qa1 ?_
        refine qa0 hτ rfl rfl rfl ?_
        refine qa0 hτ rfl rfl rfl ?_
        refine qa0 hτ rfl rfl rfl ?_
        refine qaa h fun x20 hx20 h=>?_
        refine qcl hτ (v:=.d (.int .u8 (x20.toNat:Int))) rfl rfl (Eq.trans rfl (or_sidx hx20)) (sidx_need hx20) ?_
        refine qa0 hτ rfl rfl rfl ?_
        refine qa0 hτ rfl rfl rfl ?_
        refine qa0 hτ rfl rfl rfl ?_
        refine qa3 ?_
        refine qa7 (qa2 [] (l:=[(2,.d (.int .i64 (w64 (v19 + (w64 ((x20.toNat:Int)))))))]) (objs:=[]) rfl (by simp) rfl (by trivial) ⟨rfl,trivial,trivial⟩) ?_
        refine qar ?_
        have hr:=Option.some.inj h
        subst hr
        exact qah (.inr rfl) [] (objs':=[]) (new:=[]) rfl (by simp) (by simp) rfl (by trivial) rfl rfl (by trivial) (fun _=>⟨by simp [V.flat,V.qbk,V.qbf,D.flat],qal⟩) ⟨rfl,rfl,rfl⟩
      · refine qa5 ?_
        refine qa5 ?_
        refine qa1 ?_
        refine qa0 hτ rfl rfl rfl ?_
        refine qa0 hτ rfl rfl rfl ?_
        refine qa3 ?_
        refine qao rfl (fun hc22=>?_) (fun hc22=>?_)
        · have h:=if_t h hc22
          refine qa5 ?_
          refine qa1 ?_
          refine qa0 hτ rfl rfl rfl ?_
          refine qcl hτ rfl rfl rfl (by decide) ?_
          refine qa0 hτ rfl rfl rfl ?_
          refine qa3 ?_
          refine qa1 ?_
          refine qa0 hτ rfl rfl rfl ?_
          refine qa0 hτ rfl rfl rfl ?_
          refine qa0 hτ rfl rfl rfl ?_
          refine qa3 ?_
          refine qa7 (qa2 [] (l:=[(0,.d (.int .u64 (v14.fdiv (2 ^ min (8:Int).toNat (IntKind.bits .u64))))),(2,.d (.int .i64 (w64 (v15 + (8:Int)))))]) (objs:=[]) rfl (by simp) rfl (by trivial) ⟨rfl,trivial,rfl,trivial,trivial⟩) ?_
          exact hk21 ((v14.fdiv (2 ^ min (8:Int).toNat (IntKind.bits .u64))),(w64 (v15 + (8:Int)))) h
        · have h:=if_f h hc22
          refine qap ?_
          refine qa7 (qa2 [] (l:=[(0,.d (.int .u64 v14)),(2,.d (.int .i64 v15))]) (objs:=[]) rfl (by simp) rfl (by trivial) ⟨rfl,trivial,rfl,trivial,trivial⟩) ?_
          exact hk21 (v14,v15) h
    · refine qa5 ?_
      refine qa5 ?_
      refine qa1 ?_
      refine qa0 hτ rfl rfl rfl ?_
      refine qa0 hτ rfl rfl rfl ?_
      refine qa3 ?_
      refine qao rfl (fun hc24=>?_) (fun hc24=>?_)
      · have h:=if_t h hc24
        refine qa5 ?_
        refine qa1 ?_
        refine qa0 hτ rfl rfl rfl ?_
        refine qcl hτ rfl rfl rfl (by decide) ?_
        refine qa0 hτ rfl rfl rfl ?_
        refine qa3 ?_
        refine qa1 ?_
        refine qa0 hτ rfl rfl rfl ?_
        refine qa0 hτ rfl rfl rfl ?_
        refine qa0 hτ rfl rfl rfl ?_
        refine qa3 ?_
        refine qa7 (qa2 [] (l:=[(0,.d (.int .u64 (v10.fdiv (2 ^ min (16:Int).toNat (IntKind.bits .u64))))),(2,.d (.int .i64 (w64 (v11 + (16:Int)))))]) (objs:=[]) rfl (by simp) rfl (by trivial) ⟨rfl,trivial,rfl,trivial,trivial⟩) ?_
        exact hk23 ((v10.fdiv (2 ^ min (16:Int).toNat (IntKind.bits .u64))),(w64 (v11 + (16:Int)))) h
      · have h:=if_f h hc24
        refine qap ?_
        refine qa7 (qa2 [] (l:=[(0,.d (.int .u64 v10)),(2,.d (.int .i64 v11))]) (objs:=[]) rfl (by simp) rfl (by trivial) ⟨rfl,trivial,rfl,trivial,trivial⟩) ?_
        exact hk23 (v10,v11) h
  · refine qa5 ?_
    refine qa5 ?_
    refine qa1 ?_
    refine qa0 hτ rfl rfl rfl ?_
    refine qa0 hτ rfl rfl rfl ?_
    refine qa3 ?_
    refine qao rfl (fun hc26=>?_) (fun hc26=>?_)
    · have h:=if_t h hc26
      refine qa5 ?_
      refine qa1 ?_
      refine qa0 hτ rfl rfl rfl ?_
      refine qcl hτ rfl rfl rfl (by decide) ?_
      refine qa0 hτ rfl rfl rfl ?_
      refine qa3 ?_
      refine qa7 (qa2 [] (l:=[(0,.d (.int .u64 (x_.fdiv (2 ^ min (32:Int).toNat (IntKind.bits .u64)))))]) (objs:=[]) rfl (by simp) rfl (by trivial) ⟨rfl,trivial,trivial⟩) ?_
      refine qa1 ?_
      refine qa0 hτ rfl rfl rfl ?_
      refine qa3 ?_
      refine qa7 (qa2 [] (l:=[(0,.d (.int .u64 (x_.fdiv (2 ^ min (32:Int).toNat (IntKind.bits .u64))))),(2,.d (.int .i64 (32:Int)))]) (objs:=[]) rfl (by simp) rfl (by trivial) ⟨rfl,trivial,rfl,trivial,trivial⟩) ?_
      exact hk25 ((x_.fdiv (2 ^ min (32:Int).toNat (IntKind.bits .u64))),(32:Int)) h
    · have h:=if_f h hc26
      refine qap ?_
      refine qa7 (qa2 [] (l:=[(0,.d (.int .u64 x_)),(2,.d (.int .i64 (0:Int)))]) (objs:=[]) rfl (by simp) rfl (by trivial) ⟨rfl,trivial,rfl,trivial,trivial⟩) ?_
      exact hk25 (x_,(0:Int)) h
theorem bits_Len64_ok (n:Nat) (x_:Int) {r:Int} (h:qla n x_ = some r):qb9 prog false 150 [.d (.int .u64 x_)] [] (fun v o new=>v = .d (.int .i64 r)∧o = []∧new = []):=bits_Len64_ok_fr0 false n x_ h
def qku (n:Nat) (x_:Int):Option Int :=
  (qla n x_).bind fun x2 =>
  some x2
theorem bits_Len_ok_fr0 (fr:Bool) (n:Nat) (x_:Int) {r:Int} (h:qku n x_ = some r):qb9 prog fr 108 [.d (.int .u64 x_)] [] (fun v o new=>v = .d (.int .i64 r)∧o = []∧new = []):=by
  refine qak hτ func108 rfl (by simp) (by simp) ?_
  unfold qku at h
  refine qa5 ?_
  refine qa1 ?_
  refine qa0 hτ rfl rfl rfl ?_
  refine qa3 ?_
  refine qa5 ?_
  refine qao (b:=false) rfl (fun hd=>nomatch hd) (fun _=>?_)
  refine qap ?_
  refine qa5 ?_
  refine qa1 ?_
  refine qa0 hτ rfl rfl rfl ?_
  refine qaa h fun x2 hx2 h=>?_
  refine qag hτ false [] rfl rfl rfl (qaj func150 rfl rfl) rfl rfl (by simp) ⟨trivial,trivial⟩ (by trivial) (bits_Len64_ok n x_ hx2) ?_
  rintro r0 o0 n0 ⟨rfl,rfl,rfl⟩ -
  refine qa0 hτ rfl rfl rfl ?_
  refine qa3 ?_
  refine qa7 (qa2 [] (l:=[(2,.d (.int .i64 x2))]) (objs:=[]) rfl (by simp) rfl (by trivial) ⟨rfl,trivial,trivial⟩) ?_
  refine qar ?_
  have hr:=Option.some.inj h
  subst hr
  exact qah (.inr rfl) [] (objs':=[]) (new:=[]) rfl (by simp) (by simp) rfl (by trivial) rfl rfl (by trivial) (fun _=>⟨by simp [V.flat,V.qbk,V.qbf,D.flat],qal⟩) ⟨rfl,rfl,rfl⟩
theorem bits_Len_ok (n:Nat) (x_:Int) {r:Int} (h:qku n x_ = some r):qb9 prog false 108 [.d (.int .u64 x_)] [] (fun v o new=>v = .d (.int .i64 r)∧o = []∧new = []):=bits_Len_ok_fr0 false n x_ h
def qk6 (n:Nat) (x_:Nat):Option Bool :=
  some (fcmp .neq .f32 x_ x_)
theorem cmp_isNaN_ok_fr0 (fr:Bool) (n:Nat) (x_:Nat) {r:Bool} (h:qk6 n x_ = some r):qb9 prog fr 109 [.d (.fl .f32 x_)] [] (fun v o new=>v = .d (.bool r)∧o = []∧new = []):=by
  refine qak hτ func109 rfl (by simp) (by simp) ?_
  unfold qk6 at h
  refine qa5 ?_
  refine qa1 ?_
  refine qa0 hτ rfl rfl rfl ?_
  refine qa3 ?_
  refine qa5 ?_
  refine qa1 ?_
  refine qa0 hτ rfl rfl rfl ?_
  refine qa0 hτ rfl rfl rfl ?_
  refine qa0 hτ rfl rfl rfl ?_
  refine qa0 hτ rfl rfl rfl ?_
  refine qa3 ?_
  refine qa7 (qa2 [] (l:=[(2,.d (.bool (fcmp .neq .f32 x_ x_)))]) (objs:=[]) rfl (by simp) rfl (by trivial) ⟨rfl,trivial,trivial⟩) ?_
  refine qar ?_
  have hr:=Option.some.inj h
  subst hr
  exact qah (.inr rfl) [] (objs':=[]) (new:=[]) rfl (by simp) (by simp) rfl (by trivial) rfl rfl (by trivial) (fun _=>⟨by simp [V.flat,V.qbk,V.qbf,D.flat],qal⟩) ⟨rfl,rfl,rfl⟩
theorem qnt (n:Nat) (x_:Nat) {r:Bool} (h:qk6 n x_ = some r):qb9 prog false 109 [.d (.fl .f32 x_)] [] (fun v o new=>v = .d (.bool r)∧o = []∧new = []):=cmp_isNaN_ok_fr0 false n x_ h
def qiy (n:Nat) (x_:Nat) (y_:Nat):Option Int :=
  (qk6 n x_).bind fun x3 =>
  (qk6 n y_).bind fun x4 =>
  if x3 = true then
    if x4 = true then
      some (0:Int)
    else
      some (-1:Int)
  else
    if x4 = true then
      some (1:Int)
    else
      if (fcmp .lss .f32 x_ y_) = true then
        some (-1:Int)
      else
        if (fcmp .gtr .f32 x_ y_) = true then
          some (1:Int)
        else
          some (0:Int)
theorem cmp_Compare_ok_fr0 (fr:Bool) (n:Nat) (x_:Nat) (y_:Nat) {r:Int} (h:qiy n x_ y_ = some r):qb9 prog fr 67 [.d (.fl .f32 x_),.d (.fl .f32 y_)] [] (fun v o new=>v = .d (.int .i64 r)∧o = []∧new = []):=by
  refine qak hτ func67 rfl (by simp) (by simp) ?_
  unfold qiy at h
  refine qa5 ?_
  refine qa1 ?_
  refine qa0 hτ rfl rfl rfl ?_
  refine qa3 ?_
  refine qa5 ?_
  refine qa1 ?_
  refine qa0 hτ rfl rfl rfl ?_
  refine qaa h fun x3 hx3 h=>?_
  refine qag hτ false [] rfl rfl rfl (qaj func109 rfl rfl) rfl rfl (by simp) ⟨trivial,trivial⟩ (by trivial) (qnt n x_ hx3) ?_
  rintro r0 o0 n0 ⟨rfl,rfl,rfl⟩ -
  refine qa0 hτ rfl rfl rfl ?_
  refine qa3 ?_
  refine qa5 ?_
  refine qa1 ?_
  refine qa0 hτ rfl rfl rfl ?_
  refine qaa h fun x4 hx4 h=>?_
  refine qag hτ false [] rfl rfl rfl (qaj func109 rfl rfl) rfl rfl (by simp) ⟨trivial,trivial⟩ (by trivial) (qnt n y_ hx4) ?_
  rintro r0 o0 n0 ⟨rfl,rfl,rfl⟩ -
  refine qa0 hτ rfl rfl rfl ?_
  refine qa3 ?_
  refine qa5 ?_
  refine qa5 ?_
  refine qa7 (qa2 [] (l:=[(0,.d (.fl .f32 x_)),(1,.d (.fl .f32 y_)),(5,.d (.bool x3)),(6,.d (.bool x4))]) (objs:=[]) rfl (by simp) rfl (by trivial) ⟨rfl,trivial,rfl,trivial,rfl,trivial,rfl,trivial,trivial⟩) ?_
  refine qa1 ?_
  refine qa0 hτ rfl rfl rfl ?_
  refine qa3 ?_
  refine qao rfl (fun hc5=>?_) (fun hc5=>?_)
  · have h:=qbn h hc5
    refine qa5 ?_
    refine qa5 ?_
    refine qa1 ?_
    refine qa0 hτ rfl rfl rfl ?_
    refine qa3 ?_
    refine qao rfl (fun hc6=>?_) (fun hc6=>?_)
    · have h:=qbn h hc6
      refine qa5 ?_
      refine qa1 ?_
      refine qa0 hτ rfl rfl rfl ?_
      refine qa3 ?_
      refine qa7 (qa2 [] (l:=[(4,.d (.int .i64 (0:Int)))]) (objs:=[]) rfl (by simp) rfl (by trivial) ⟨rfl,trivial,trivial⟩) ?_
      refine qar ?_
      have hr:=Option.some.inj h
      subst hr
      exact qah (.inr rfl) [] (objs':=[]) (new:=[]) rfl (by simp) (by simp) rfl (by trivial) rfl rfl (by trivial) (fun _=>⟨by simp [V.flat,V.qbk,V.qbf,D.flat],qal⟩) ⟨rfl,rfl,rfl⟩
    · have h:=qbm h hc6
      refine qap ?_
      refine qa5 ?_
      refine qa1 ?_
      refine qa0 hτ rfl rfl rfl ?_
      refine qa3 ?_
      refine qa7 (qa2 [] (l:=[(4,.d (.int .i64 (-1:Int)))]) (objs:=[]) rfl (by simp) rfl (by trivial) ⟨rfl,trivial,trivial⟩) ?_
      refine qar ?_
      have hr:=Option.some.inj h
      subst hr
      exact qah (.inr rfl) [] (objs':=[]) (new:=[]) rfl (by simp) (by simp) rfl (by trivial) rfl rfl (by trivial) (fun _=>⟨by simp [V.flat,V.qbk,V.qbf,D.flat],qal⟩) ⟨rfl,rfl,rfl⟩
  · have h:=qbm h hc5
    refine qap ?_
    refine qa5 ?_
    refine qa5 ?_
    refine qa1 ?_
    refine qa0 hτ rfl rfl rfl ?_
    refine qa3 ?_
    refine qao rfl (fun hc7=>?_) (fun hc7=>?_)
    · have h:=qbn h hc7
      refine qa5 ?_
      refine qa1 ?_
      refine qa0 hτ rfl rfl rfl ?_
      refine qa3 ?_
      refine qa7 (qa2 [] (l:=[(4,.d (.int .i64 (1:Int)))]) (objs:=[]) rfl (by simp) rfl (by trivial) ⟨rfl,trivial,trivial⟩) ?_
      refine qar ?_
      have hr:=Option.some.inj h
      subst hr
      exact qah (.inr rfl) [] (objs':=[]) (new:=[]) rfl (by simp) (by simp) rfl (by trivial) rfl rfl (by trivial) (fun _=>⟨by simp [V.flat,V.qbk,V.qbf,D.flat],qal⟩) ⟨rfl,rfl,rfl⟩
    · have h:=qbm h hc7
      refine qap ?_
      refine qa5 ?_
      refine qa5 ?_
      refine qa1 ?_
      refine qa0 hτ rfl rfl rfl ?_
      refine qa0 hτ rfl rfl rfl ?_
      refine qa0 hτ rfl rfl rfl ?_
      refine qa3 ?_
      refine qao rfl (fun hc8=>?_) (fun hc8=>?_)
      · have h:=qbn h hc8
        refine qa5 ?_
        refine qa1 ?_
        refine qa0 hτ rfl rfl rfl ?_
        refine qa3 ?_
        refine qa7 (qa2 [] (l:=[(4,.d (.int .i64 (-1:Int)))]) (objs:=[]) rfl (by simp) rfl (by trivial) ⟨rfl,trivial,trivial⟩) ?_
        refine qar ?_
        have hr:=Option.some.inj h
        subst hr
        exact qah (.inr rfl) [] (objs':=[]) (new:=[]) rfl (by simp) (by simp) rfl (by trivial) rfl rfl (by trivial) (fun _=>⟨by simp [V.flat,V.qbk,V.qbf,D.flat],qal⟩) ⟨rfl,rfl,rfl⟩
      · have h:=qbm h hc8
        refine qap ?_
        refine qa5 ?_
        refine qa5 ?_
        refine qa1 ?_
        refine qa0 hτ rfl rfl rfl ?_
        refine qa0 hτ rfl rfl rfl ?_
        refine qa0 hτ rfl rfl rfl ?_
        refine qa3 ?_
        refine qa7 (qa2 [] (l:=[(19,.d (.bool (fcmp .gtr .f32 x_ y_)))]) (objs:=[]) rfl (by simp) rfl (by trivial) ⟨rfl,trivial,trivial⟩) ?_
        refine qao rfl (fun hc9=>?_) (fun hc9=>?_)
        · have h:=qbn h hc9
          refine qa5 ?_
          refine qa1 ?_
          refine qa0 hτ rfl rfl rfl ?_
          refine qa3 ?_
          refine qa7 (qa2 [] (l:=[(4,.d (.int .i64 (1:Int)))]) (objs:=[]) rfl (by simp) rfl (by trivial) ⟨rfl,trivial,trivial⟩) ?_
          refine qar ?_
          have hr:=Option.some.inj h
          subst hr
          exact qah (.inr rfl) [] (objs':=[]) (new:=[]) rfl (by simp) (by simp) rfl (by trivial) rfl rfl (by trivial) (fun _=>⟨by simp [V.flat,V.qbk,V.qbf,D.flat],qal⟩) ⟨rfl,rfl,rfl⟩
        · have h:=qbm h hc9
          refine qap ?_
          refine qa5 ?_
          refine qa1 ?_
          refine qa0 hτ rfl rfl rfl ?_
          refine qa3 ?_
          refine qa7 (qa2 [] (l:=[(4,.d (.int .i64 (0:Int)))]) (objs:=[]) rfl (by simp) rfl (by trivial) ⟨rfl,trivial,trivial⟩) ?_
          refine qar ?_
          have hr:=Option.some.inj h
          subst hr
          exact qah (.inr rfl) [] (objs':=[]) (new:=[]) rfl (by simp) (by simp) rfl (by trivial) rfl rfl (by trivial) (fun _=>⟨by simp [V.flat,V.qbk,V.qbf,D.flat],qal⟩) ⟨rfl,rfl,rfl⟩
theorem cmp_Compare_ok (n:Nat) (x_:Nat) (y_:Nat) {r:Int} (h:qiy n x_ y_ = some r):qb9 prog false 67 [.d (.fl .f32 x_),.d (.fl .f32 y_)] [] (fun v o new=>v = .d (.int .i64 r)∧o = []∧new = []):=cmp_Compare_ok_fr0 false n x_ y_ h
def qiz (n:Nat) (x_:Int):Option Bool :=
  some (!(decide (x_ = x_)))
theorem cmp_isNaN_2_ok_fr0 (fr:Bool) (n:Nat) (x_:Int) {r:Bool} (h:qiz n x_ = some r):qb9 prog fr 110 [.d (.int .i64 x_)] [] (fun v o new=>v = .d (.bool r)∧o = []∧new = []):=by
  refine qak hτ func110 rfl (by simp) (by simp) ?_
  unfold qiz at h
  refine qa5 ?_
  refine qa1 ?_
  refine qa0 hτ rfl rfl rfl ?_
  refine qa3 ?_
  refine qa5 ?_
  refine qa1 ?_
  refine qa0 hτ rfl rfl rfl ?_
  refine qa0 hτ rfl rfl rfl ?_
  refine qa0 hτ (v:=.d (.bool (!(decide (x_ = x_))))) rfl rfl (qon _ _) ?_
  refine qa0 hτ rfl rfl rfl ?_
  refine qa3 ?_
  refine qa7 (qa2 [] (l:=[(2,.d (.bool (!(decide (x_ = x_)))))]) (objs:=[]) rfl (by simp) rfl (by trivial) ⟨rfl,trivial,trivial⟩) ?_
  refine qar ?_
  have hr:=Option.some.inj h
  subst hr
  exact qah (.inr rfl) [] (objs':=[]) (new:=[]) rfl (by simp) (by simp) rfl (by trivial) rfl rfl (by trivial) (fun _=>⟨by simp [V.flat,V.qbk,V.qbf,D.flat],qal⟩) ⟨rfl,rfl,rfl⟩
theorem qmb (n:Nat) (x_:Int) {r:Bool} (h:qiz n x_ = some r):qb9 prog false 110 [.d (.int .i64 x_)] [] (fun v o new=>v = .d (.bool r)∧o = []∧new = []):=cmp_isNaN_2_ok_fr0 false n x_ h
def qh7 (n:Nat) (x_:Int) (y_:Int):Option Int :=
  (qiz n x_).bind fun x3 =>
  (qiz n y_).bind fun x4 =>
  if x3 = true then
    if x4 = true then
      some (0:Int)
    else
      some (-1:Int)
  else
    if x4 = true then
      some (1:Int)
    else
      if x_ < y_ then
        some (-1:Int)
      else
        if x_ > y_ then
          some (1:Int)
        else
          some (0:Int)
theorem cmp_Compare_2_ok_fr0 (fr:Bool) (n:Nat) (x_:Int) (y_:Int) {r:Int} (h:qh7 n x_ y_ = some r):qb9 prog fr 68 [.d (.int .i64 x_),.d (.int .i64 y_)] [] (fun v o new=>v = .d (.int .i64 r)∧o = []∧new = []):=by
  refine qak hτ func68 rfl (by simp) (by simp) ?_
  unfold qh7 at h
  refine qa5 ?_
  refine qa1 ?_
  refine qa0 hτ rfl rfl rfl ?_
  refine qa3 ?_
  refine qa5 ?_
  refine qa1 ?_
  refine qa0 hτ rfl rfl rfl ?_
  refine qaa h fun x3 hx3 h=>?_
  refine qag hτ false [] rfl rfl rfl (qaj func110 rfl rfl) rfl rfl (by simp) ⟨trivial,trivial⟩ (by trivial) (qmb n x_ hx3) ?_
  rintro r0 o0 n0 ⟨rfl,rfl,rfl⟩ -
  refine qa0 hτ rfl rfl rfl ?_
  refine qa3 ?_
  refine qa5 ?_
  refine qa1 ?_
  refine qa0 hτ rfl rfl rfl ?_
  refine qaa h fun x4 hx4 h=>?_
  refine qag hτ false [] rfl rfl rfl (qaj func110 rfl rfl) rfl rfl (by simp) ⟨trivial,trivial⟩ (by trivial) (qmb n y_ hx4) ?_
  rintro r0 o0 n0 ⟨rfl,rfl,rfl⟩ -
  refine qa0 hτ rfl rfl rfl ?_
  refine qa3 ?_
  refine qa5 ?_
  refine qa5 ?_
  refine qa7 (qa2 [] (l:=[(0,.d (.int .i64 x_)),(1,.d (.int .i64 y_)),(5,.d (.bool x3)),(6,.d (.bool x4))]) (objs:=[]) rfl (by simp) rfl (by trivial) ⟨rfl,trivial,rfl,trivial,rfl,trivial,rfl,trivial,trivial⟩) ?_
  refine qa1 ?_
  refine qa0 hτ rfl rfl rfl ?_
  refine qa3 ?_
  refine qao rfl (fun hc5=>?_) (fun hc5=>?_)
  · have h:=qbn h hc5
    refine qa5 ?_
    refine qa5 ?_
    refine qa1 ?_
    refine qa0 hτ rfl rfl rfl ?_
    refine qa3 ?_
    refine qao rfl (fun hc6=>?_) (fun hc6=>?_)
    · have h:=qbn h hc6
      refine qa5 ?_
      refine qa1 ?_
      refine qa0 hτ rfl rfl rfl ?_
      refine qa3 ?_
      refine qa7 (qa2 [] (l:=[(4,.d (.int .i64 (0:Int)))]) (objs:=[]) rfl (by simp) rfl (by trivial) ⟨rfl,trivial,trivial⟩) ?_
      refine qar ?_
      have hr:=Option.some.inj h
      subst hr
      exact qah (.inr rfl) [] (objs':=[]) (new:=[]) rfl (by simp) (by simp) rfl (by trivial) rfl rfl (by trivial) (fun _=>⟨by simp [V.flat,V.qbk,V.qbf,D.flat],qal⟩) ⟨rfl,rfl,rfl⟩
    · have h:=qbm h hc6
      refine qap ?_
      refine qa5 ?_
      refine qa1 ?_
      refine qa0 hτ rfl rfl rfl ?_
      refine qa3 ?_
      refine qa7 (qa2 [] (l:=[(4,.d (.int .i64 (-1:Int)))]) (objs:=[]) rfl (by simp) rfl (by trivial) ⟨rfl,trivial,trivial⟩) ?_
      refine qar ?_
      have hr:=Option.some.inj h
      subst hr
      exact qah (.inr rfl) [] (objs':=[]) (new:=[]) rfl (by simp) (by simp) rfl (by trivial) rfl rfl (by trivial) (fun _=>⟨by simp [V.flat,V.qbk,V.qbf,D.flat],qal⟩) ⟨rfl,rfl,rfl⟩
  · have h:=qbm h hc5
    refine qap ?_
    refine qa5 ?_
    refine qa5 ?_
    refine qa1 ?_
    refine qa0 hτ rfl rfl rfl ?_
    refine qa3 ?_
    refine qao rfl (fun hc7=>?_) (fun hc7=>?_)
    · have h:=qbn h hc7
      refine qa5 ?_
      refine qa1 ?_
      refine qa0 hτ rfl rfl rfl ?_
      refine qa3 ?_
      refine qa7 (qa2 [] (l:=[(4,.d (.int .i64 (1:Int)))]) (objs:=[]) rfl (by simp) rfl (by trivial) ⟨rfl,trivial,trivial⟩) ?_
      refine qar ?_
      have hr:=Option.some.inj h
      subst hr
      exact qah (.inr rfl) [] (objs':=[]) (new:=[]) rfl (by simp) (by simp) rfl (by trivial) rfl rfl (by trivial) (fun _=>⟨by simp [V.flat,V.qbk,V.qbf,D.flat],qal⟩) ⟨rfl,rfl,rfl⟩
    · have h:=qbm h hc7
      refine qap ?_
      refine qa5 ?_
      refine qa5 ?_
      refine qa1 ?_
      refine qa0 hτ rfl rfl rfl ?_
      refine qa0 hτ rfl rfl rfl ?_
      refine qa0 hτ rfl rfl rfl ?_
      refine qa3 ?_
      refine qao rfl (fun hc8=>?_) (fun hc8=>?_)
      · have h:=if_t h hc8
        refine qa5 ?_
        refine qa1 ?_
        refine qa0 hτ rfl rfl rfl ?_
        refine qa3 ?_
        refine qa7 (qa2 [] (l:=[(4,.d (.int .i64 (-1:Int)))]) (objs:=[]) rfl (by simp) rfl (by trivial) ⟨rfl,trivial,trivial⟩) ?_
        refine qar ?_
        have hr:=Option.some.inj h
        subst hr
        exact qah (.inr rfl) [] (objs':=[]) (new:=[]) rfl (by simp) (by simp) rfl (by trivial) rfl rfl (by trivial) (fun _=>⟨by simp [V.flat,V.qbk,V.qbf,D.flat],qal⟩) ⟨rfl,rfl,rfl⟩
      · have h:=if_f h hc8
        refine qap ?_
        refine qa5 ?_
        refine qa5 ?_
        refine qa1 ?_
        refine qa0 hτ rfl rfl rfl ?_
        refine qa0 hτ rfl rfl rfl ?_
        refine qa0 hτ rfl rfl rfl ?_
        refine qa3 ?_
        refine qa7 (qa2 [] (l:=[(19,.d (.bool (decide (x_ > y_))))]) (objs:=[]) rfl (by simp) rfl (by trivial) ⟨rfl,trivial,trivial⟩) ?_
        refine qao rfl (fun hc9=>?_) (fun hc9=>?_)
        · have h:=if_t h hc9
          refine qa5 ?_
          refine qa1 ?_
          refine qa0 hτ rfl rfl rfl ?_
          refine qa3 ?_
          refine qa7 (qa2 [] (l:=[(4,.d (.int .i64 (1:Int)))]) (objs:=[]) rfl (by simp) rfl (by trivial) ⟨rfl,trivial,trivial⟩) ?_
          refine qar ?_
          have hr:=Option.some.inj h
          subst hr
          exact qah (.inr rfl) [] (objs':=[]) (new:=[]) rfl (by simp) (by simp) rfl (by trivial) rfl rfl (by trivial) (fun _=>⟨by simp [V.flat,V.qbk,V.qbf,D.flat],qal⟩) ⟨rfl,rfl,rfl⟩
        · have h:=if_f h hc9
          refine qap ?_
          refine qa5 ?_
          refine qa1 ?_
          refine qa0 hτ rfl rfl rfl ?_
          refine qa3 ?_
          refine qa7 (qa2 [] (l:=[(4,.d (.int .i64 (0:Int)))]) (objs:=[]) rfl (by simp) rfl (by trivial) ⟨rfl,trivial,trivial⟩) ?_
          refine qar ?_
          have hr:=Option.some.inj h
          subst hr
          exact qah (.inr rfl) [] (objs':=[]) (new:=[]) rfl (by simp) (by simp) rfl (by trivial) rfl rfl (by trivial) (fun _=>⟨by simp [V.flat,V.qbk,V.qbf,D.flat],qal⟩) ⟨rfl,rfl,rfl⟩
theorem cmp_Compare_2_ok (n:Nat) (x_:Int) (y_:Int) {r:Int} (h:qh7 n x_ y_ = some r):qb9 prog false 68 [.d (.int .i64 x_),.d (.int .i64 y_)] [] (fun v o new=>v = .d (.int .i64 r)∧o = []∧new = []):=cmp_Compare_2_ok_fr0 false n x_ y_ h
def qhp (n:Nat) (vals_:List Int):Nat→Int→Option Int
  | 0,_=>none
  | m9 + 1,v6 =>
    if v6 < (vals_.length:Int) then
      (getI vals_ v6).bind fun x13 =>
      if x13 = (0:Int) then
        (qhp n vals_ m9) (w64 (v6 + (1:Int)))
      else
        some x13
    else
      some (0:Int)
def qm7 (n:Nat) (vals_:List Int):Option Int :=
  qhp n vals_ n (0:Int)
theorem cmp_Or_ok_fr0 (fr:Bool) (n:Nat) (vals_:List Int) {r:Int} (h:qm7 n vals_ = some r):qb9 prog fr 66 [.d (.sl false (vals_.map qac))] [] (fun v o new=>v = .d (.int .i64 r)∧o = []∧new = []):=by
  refine qak hτ func66 rfl (by simp) (by simp) ?_
  unfold qm7 at h
  refine qa5 ?_
  refine qa1 ?_
  refine qa0 hτ rfl rfl rfl ?_
  refine qa3 ?_
  refine qa5 ?_
  refine qa1 ?_
  refine qa0 hτ rfl rfl rfl ?_
  refine qa3 ?_
  refine qa5 ?_
  refine qa5 ?_
  refine qa1 ?_
  refine qa0 hτ rfl rfl rfl ?_
  refine qa0 hτ (v:=.d (.int .i64 (vals_.length:Int))) rfl rfl (Eq.trans rfl (qdb (f:=qac) vals_)) ?_
  refine qa0 hτ rfl rfl rfl ?_
  refine qa3 ?_
  refine qaz ?_
  refine qcs (ι:=Nat × Int) (fun (m9,v6)=>St.of [(3,.d (.int .i64 (0:Int))),(6,.d (.sl false (vals_.map qac))),(7,.d (.int .i64 (vals_.length:Int))),(8,.d (.int .i64 v6))] [] f66.ntmps 0) (fun (m9,v6)=>qhp n vals_ m9 v6 = some r) (fun x=>x.1) (n,(0:Int)) h (qa2 [] (l:=[(3,.d (.int .i64 (0:Int))),(6,.d (.sl false (vals_.map qac))),(7,.d (.int .i64 (vals_.length:Int))),(8,.d (.int .i64 (0:Int)))]) (objs:=[]) rfl (by simp) rfl (by trivial) ⟨rfl,trivial,rfl,trivial,rfl,trivial,rfl,trivial,trivial⟩) ?_
  rintro ⟨m9,v6⟩ h
  replace h:qhp n vals_ m9 v6 = some r:=h
  rcases m9 with _ | m9
  · rw [qhp] at h;cases h
  rw [qhp] at h
  refine qa5 ?_
  refine qa1 ?_
  refine qa0 hτ rfl rfl rfl ?_
  refine qa3 ?_
  refine qa5 ?_
  refine qao rfl (fun hc11=>?_) (fun hc11=>?_)
  · have h:=if_t h hc11
    refine qap ?_
    refine qa5 ?_
    refine qaz ?_
    refine qa5 ?_
    refine qa1 ?_
    refine qaa h fun x13 hx13 h=>?_
    refine qbe hτ rfl rfl rfl (qaw hx13).1 (qb5 hx13) rfl ?_
    refine qa0 hτ rfl rfl rfl ?_
    refine qa0 hτ rfl rfl rfl ?_
    refine qa3 ?_
    refine qa5 ?_
    refine qa1 ?_
    refine qa0 hτ rfl rfl rfl ?_
    refine qa0 hτ rfl rfl rfl ?_
    refine qa0 hτ (v:=.d (.bool (!(decide (x13 = (0:Int)))))) rfl rfl (qon _ _) ?_
    refine qa3 ?_
    refine qa7 (qa2 [] (l:=[(3,.d (.int .i64 (0:Int))),(5,.d (.int .i64 x13)),(6,.d (.sl false (vals_.map qac))),(7,.d (.int .i64 (vals_.length:Int))),(8,.d (.int .i64 v6)),(14,.d (.bool (!(decide (x13 = (0:Int))))))]) (objs:=[]) rfl (by simp) rfl (by trivial) ⟨rfl,trivial,rfl,trivial,rfl,trivial,rfl,trivial,rfl,trivial,rfl,trivial,trivial⟩) ?_
    refine qao rfl (fun hc14=>?_) (fun hc14=>?_)
    · have hc14:=qgh hc14
      have h:=if_f h hc14
      refine qa5 ?_
      refine qa1 ?_
      refine qa0 hτ rfl rfl rfl ?_
      refine qa0 hτ rfl rfl rfl ?_
      refine qa3 ?_
      refine qa7 (qa2 [] (l:=[(2,.d (.int .i64 x13))]) (objs:=[]) rfl (by simp) rfl (by trivial) ⟨rfl,trivial,trivial⟩) ?_
      refine qar ?_
      have hr:=Option.some.inj h
      subst hr
      exact qah (.inr rfl) [] (objs':=[]) (new:=[]) rfl (by simp) (by simp) rfl (by trivial) rfl rfl (by trivial) (fun _=>⟨by simp [V.flat,V.qbk,V.qbf,D.flat],qal⟩) ⟨rfl,rfl,rfl⟩
    · have hc14:=qgg hc14
      have h:=if_t h hc14
      refine qap ?_
      refine qa1 ?_
      refine qa0 hτ rfl rfl rfl ?_
      refine qa0 hτ rfl rfl rfl ?_
      refine qa3 ?_
      exact ⟨(m9,(w64 (v6 + (1:Int)))),h,Nat.lt_succ_self m9,(qa2 [] (l:=[(3,.d (.int .i64 (0:Int))),(6,.d (.sl false (vals_.map qac))),(7,.d (.int .i64 (vals_.length:Int))),(8,.d (.int .i64 (w64 (v6 + (1:Int)))))]) (objs:=[]) rfl (by simp) rfl (by trivial) ⟨rfl,trivial,rfl,trivial,rfl,trivial,rfl,trivial,trivial⟩)⟩
  · have h:=if_f h hc11
    refine qcr ?_
    refine qa5 ?_
    refine qa1 ?_
    refine qa0 hτ rfl rfl rfl ?_
    refine qa0 hτ rfl rfl rfl ?_
    refine qa3 ?_
    refine qa7 (qa2 [] (l:=[(2,.d (.int .i64 (0:Int)))]) (objs:=[]) rfl (by simp) rfl (by trivial) ⟨rfl,trivial,trivial⟩) ?_
    refine qar ?_
    have hr:=Option.some.inj h
    subst hr
    exact qah (.inr rfl) [] (objs':=[]) (new:=[]) rfl (by simp) (by simp) rfl (by trivial) rfl rfl (by trivial) (fun _=>⟨by simp [V.flat,V.qbk,V.qbf,D.flat],qal⟩) ⟨rfl,rfl,rfl⟩
theorem cmp_Or_ok_fr (n:Nat) (vals_:List Int) {r:Int} (h:qm7 n vals_ = some r):qb9 prog true 66 [.d (.sl false (vals_.map qac))] [] (fun v o new=>v = .d (.int .i64 r)∧o = []∧new = []):=cmp_Or_ok_fr0 true n vals_ h
def qe8 (n:Nat) (a_:Int) (b_:Int) (a2_:List (Int × Nat)):Option Int :=
  (qiy n ((mget a2_ a_).getD (0:Nat)) ((mget a2_ b_).getD (0:Nat))).bind fun x4 =>
  (qh7 n b_ a_).bind fun x5 =>
  (qm7 n [x4,x5]).bind fun x6 =>
  some x6
theorem impl_TripOrder_1_ok_fr0 (fr:Bool) (n:Nat) (a_:Int) (b_:Int) (a2_:List (Int × Nat)) {r:Int} (h:qe8 n a_ b_ a2_ = some r):qb9 prog fr 65 [.d (.int .i64 a_),.d (.int .i64 b_),.ptr 0 0] [.box [.mref 1],.map .i64 (mapE qbi a2_)] (fun v o new=>v = .d (.int .i64 r)∧o = [.box [.mref 1],.map .i64 (mapE qbi a2_)]∧new = []):=by
  refine qak hτ func65 rfl (by simp) (by simp) ?_
  unfold qe8 at h
  refine qa5 ?_
  refine qa1 ?_
  refine qa0 hτ rfl rfl rfl ?_
  refine qa3 ?_
  refine qa5 ?_
  refine qa1 ?_
  refine qa0 hτ rfl rfl rfl ?_
  refine qa0 hτ rfl rfl rfl ?_
  refine qa0 hτ rfl rfl (quc (f:=qbi) (z:=(0:Nat)) a2_ (by exact rfl) (by exact rfl) (by exact rfl) (by exact rfl) (by exact rfl)) ?_
  refine qa0 hτ rfl rfl rfl ?_
  refine qa0 hτ rfl rfl rfl ?_
  refine qa0 hτ rfl rfl (quc (f:=qbi) (z:=(0:Nat)) a2_ (by exact rfl) (by exact rfl) (by exact rfl) (by exact rfl) (by exact rfl)) ?_
  refine qaa h fun x4 hx4 h=>?_
  refine qag hτ false [] rfl rfl rfl (qaj func67 rfl rfl) rfl rfl (by simp) ⟨trivial,trivial,trivial⟩ (by trivial) (cmp_Compare_ok n ((mget a2_ a_).getD (0:Nat)) ((mget a2_ b_).getD (0:Nat)) hx4) ?_
  rintro r0 o0 n0 ⟨rfl,rfl,rfl⟩ -
  refine qa0 hτ rfl rfl rfl ?_
  refine qa0 hτ rfl rfl rfl ?_
  refine qaa h fun x5 hx5 h=>?_
  refine qag hτ false [] rfl rfl rfl (qaj func68 rfl rfl) rfl rfl (by simp) ⟨trivial,trivial,trivial⟩ (by trivial) (cmp_Compare_2_ok n b_ a_ hx5) ?_
  rintro r0 o0 n0 ⟨rfl,rfl,rfl⟩ -
  refine qav hτ rfl rfl rfl ?_
  refine qat (qa2 [0,1,2] (l:=[(16,.row 2 ([x4,x5].length) 0 ([x4,x5].length))]) (objs:=[.box [.mref 1],.map .i64 (mapE qbi a2_),.row 1 ([x4,x5].map qac)]) rfl (by simp) rfl (by trivial) ⟨rfl,trivial,trivial⟩) ?_
  refine qaa h fun x6 hx6 h=>?_
  refine qag hτ true [] rfl rfl rfl (qaj func66 rfl rfl) (qbd (qf0 (f:=qac) [x4,x5] rfl rfl rfl) qfs) rfl (by simp) ⟨(qdo (f:=qac) [x4,x5] rfl rfl rfl),trivial⟩ (by trivial) (cmp_Or_ok_fr n [x4,x5] hx6) ?_
  rintro r0 o0 n0 ⟨rfl,rfl,rfl⟩ -
  refine qa0 hτ rfl rfl rfl ?_
  refine qa3 ?_
  refine qa7 (qa2 [0,1] (l:=[(5,.d (.int .i64 x6))]) (objs:=[.box [.mref 1],.map .i64 (mapE qbi a2_)]) rfl (by simp) rfl (by trivial) ⟨rfl,trivial,trivial⟩) ?_
  refine qar ?_
  have hr:=Option.some.inj h
  subst hr
  exact qah (.inr rfl) [] (objs':=[.box [.mref 1],.map .i64 (mapE qbi a2_)]) (new:=[]) rfl (by simp) (by simp) rfl (by trivial) rfl rfl (by trivial) (fun _=>⟨by simp [V.flat,V.qbk,V.qbf,D.flat],(qe6 (by simp [AObj.flat,V.qbf,D.flat]) (qe6 (qo3 qkq _) qal))⟩) ⟨rfl,rfl,rfl⟩
theorem impl_TripOrder_1_ok (n:Nat) (a_:Int) (b_:Int) (a2_:List (Int × Nat)) {r:Int} (h:qe8 n a_ b_ a2_ = some r):qb9 prog false 65 [.d (.int .i64 a_),.d (.int .i64 b_),.ptr 0 0] [.box [.mref 1],.map .i64 (mapE qbi a2_)] (fun v o new=>v = .d (.int .i64 r)∧o = [.box [.mref 1],.map .i64 (mapE qbi a2_)]∧new = []):=impl_TripOrder_1_ok_fr0 false n a_ b_ a2_ h
def qc7 (n:Nat) (k90:List Int→Int→Option (List Int)) (v66:Int) (v112:List Int):Option (List Int) :=
  k90 v112 (w64 (v66 + (1:Int)))
def qcm (n:Nat) (k135:List Int→Int→Option (List Int)) (v122:List Int) (v123:Int):Option (List Int) :=
  (getI v122 (w64 (v123 - (1:Int)))).bind fun x141 =>
  (getI v122 v123).bind fun x142 =>
  (getI (v122.set v123.toNat x141) (w64 (v123 - (1:Int)))).bind fun x143 =>
  k135 ((v122.set v123.toNat x141).set (w64 (v123 - (1:Int))).toNat x142) (w64 (v123 - (1:Int)))
def qbr (n:Nat) (k90:List Int→Int→Option (List Int)) (v66:Int) (k135:List Int→Int→Option (List Int)) (v122:List Int) (v123:Int) (v150:Bool):Option (List Int) :=
  if v150 = true then
    qcm n k135 v122 v123
  else
    qc7 n k90 v66 v122
def qb0 (n:Nat) (a_:Int) (c_:List (Int × Nat)) (k90:List Int→Int→Option (List Int)) (v66:Int):Nat→List Int→Int→Option (List Int)
  | 0,_,_=>none
  | m134 + 1,v122,v123 =>
    if v123 > a_ then
      (getI v122 v123).bind fun x154 =>
      (getI v122 (w64 (v123 - (1:Int)))).bind fun x155 =>
      (qe8 n x154 x155 c_).bind fun x156 =>
      qbr n k90 v66 (qb0 n a_ c_ k90 v66 m134) v122 v123 (decide (x156 < (0:Int)))
    else
      qbr n k90 v66 (qb0 n a_ c_ k90 v66 m134) v122 v123 false
def qam (n:Nat) (a_:Int) (b_:Int) (c_:List (Int × Nat)):Nat→List Int→Int→Option (List Int)
  | 0,_,_=>none
  | m89 + 1,v65,v66 =>
    if v66 < b_ then
      qb0 n a_ c_ (qam n a_ b_ c_ m89) v66 n v65 v66
    else
      some v65
def qcd (n:Nat) (data_:List Int) (a_:Int) (b_:Int) (c_:List (Int × Nat)):Option (List Int) :=
  qam n a_ b_ c_ n data_ (w64 (a_ + (1:Int)))
theorem slices_insertionSortCmpFunc_ok_fr0 (fr:Bool) (n:Nat) (data_:List Int) (a_:Int) (b_:Int) (c_:List (Int × Nat)) {r:List Int} (h:qcd n data_ a_ b_ c_ = some r):qb9 prog fr 141 [.row 0 data_.length 0 data_.length,.d (.int .i64 a_),.d (.int .i64 b_),.func 65 [] [.ptr 1 0]] [.row 1 (data_.map qac),.box [.mref 2],.map .i64 (mapE qbi c_)] (fun v o new=>v = .tup []∧o = [.row 1 (r.map qac),.box [.mref 2],.map .i64 (mapE qbi c_)]∧new = []):=by
  refine qak hτ func141 rfl (by simp) (by simp) ?_
  unfold qcd at h
  refine qa5 ?_
  refine qa1 ?_
  refine qa0 hτ rfl rfl rfl ?_
  refine qa0 hτ rfl rfl rfl ?_
  refine qa0 hτ rfl rfl rfl ?_
  refine qa3 ?_
  refine qaz ?_
  refine qcs (ι:=Nat × List Int × Int) (fun (m89,v65,v66)=>St.of [(0,.row 0 v65.length 0 v65.length),(1,.d (.int .i64 a_)),(2,.d (.int .i64 b_)),(3,.func 65 [] [.ptr 1 0]),(8,.d (.int .i64 v66))] [.row 1 (v65.map qac),.box [.mref 2],.map .i64 (mapE qbi c_)] f141.ntmps 3) (fun (m89,v65,v66)=>qam n a_ b_ c_ m89 v65 v66 = some r) (fun x=>x.1) (n,data_,(w64 (a_ + (1:Int)))) h (qa2 [0,1,2] (l:=[(0,.row 0 data_.length 0 data_.length),(1,.d (.int .i64 a_)),(2,.d (.int .i64 b_)),(3,.func 65 [] [.ptr 1 0]),(8,.d (.int .i64 (w64 (a_ + (1:Int)))))]) (objs:=[.row 1 (data_.map qac),.box [.mref 2],.map .i64 (mapE qbi c_)]) rfl (by simp) rfl (by trivial) ⟨rfl,trivial,rfl,trivial,rfl,trivial,rfl,(by trivial),rfl,trivial,trivial⟩) ?_
  rintro ⟨m89,v65,v66⟩ h
  replace h:qam n a_ b_ c_ m89 v65 v66 = some r:=h
  rcases m89 with _ | m89
  · rw [qam] at h;cases h
  rw [qam] at h
  refine qa5 ?_
  refine qa5 ?_
  refine qa1 ?_
  refine qa0 hτ rfl rfl rfl ?_
  refine qa0 hτ rfl rfl rfl ?_
  refine qa0 hτ rfl rfl rfl ?_
  refine qa3 ?_
  refine qao rfl (fun hc91=>?_) (fun hc91=>?_)
  · have h:=if_t h hc91
    refine qap ?_
    refine qb8 (ι:=List Int) (fun v112=>St.of [(0,.row 0 v112.length 0 v112.length),(1,.d (.int .i64 a_)),(2,.d (.int .i64 b_)),(3,.func 65 [] [.ptr 1 0]),(8,.d (.int .i64 v66))] [.row 1 (v112.map qac),.box [.mref 2],.map .i64 (mapE qbi c_)] f141.ntmps 3) (fun v112=>qc7 n (qam n a_ b_ c_ m89) v66 v112 = some r) ?_ (fun hk113=>?_)
    · rintro v112 h
      replace h:qc7 n (qam n a_ b_ c_ m89) v66 v112 = some r:=h
      unfold qc7 at h
      refine qa1 ?_
      refine qa0 hτ rfl rfl rfl ?_
      refine qa0 hτ rfl rfl rfl ?_
      refine qa0 hτ rfl rfl rfl ?_
      refine qa3 ?_
      exact ⟨(m89,v112,(w64 (v66 + (1:Int)))),h,Nat.lt_succ_self m89,(qa2 [0,1,2] (l:=[(0,.row 0 v112.length 0 v112.length),(1,.d (.int .i64 a_)),(2,.d (.int .i64 b_)),(3,.func 65 [] [.ptr 1 0]),(8,.d (.int .i64 (w64 (v66 + (1:Int)))))]) (objs:=[.row 1 (v112.map qac),.box [.mref 2],.map .i64 (mapE qbi c_)]) rfl (by simp) rfl (by trivial) ⟨rfl,trivial,rfl,trivial,rfl,trivial,rfl,(by trivial),rfl,trivial,trivial⟩)⟩
    · refine qa5 ?_
      refine qaz ?_
      refine qa5 ?_
      refine qa1 ?_
      refine qa0 hτ rfl rfl rfl ?_
      refine qa0 hτ rfl rfl rfl ?_
      refine qa3 ?_
      refine qaz ?_
      refine qcs (ι:=Nat × List Int × Int) (fun (m134,v122,v123)=>St.of [(0,.row 0 v122.length 0 v122.length),(1,.d (.int .i64 a_)),(2,.d (.int .i64 b_)),(3,.func 65 [] [.ptr 1 0]),(8,.d (.int .i64 v66)),(9,.d (.int .i64 v123))] [.row 1 (v122.map qac),.box [.mref 2],.map .i64 (mapE qbi c_)] f141.ntmps 3) (fun (m134,v122,v123)=>qb0 n a_ c_ (qam n a_ b_ c_ m89) v66 m134 v122 v123 = some r) (fun x=>x.1) (n,v65,v66) h (qa2 [0,1,2] (l:=[(0,.row 0 v65.length 0 v65.length),(1,.d (.int .i64 a_)),(2,.d (.int .i64 b_)),(3,.func 65 [] [.ptr 1 0]),(8,.d (.int .i64 v66)),(9,.d (.int .i64 v66))]) (objs:=[.row 1 (v65.map qac),.box [.mref 2],.map .i64 (mapE qbi c_)]) rfl (by simp) rfl (by trivial) ⟨rfl,trivial,rfl,trivial,rfl,trivial,rfl,(by trivial),rfl,trivial,rfl,trivial,trivial⟩) ?_
      rintro ⟨m134,v122,v123⟩ h
      replace h:qb0 n a_ c_ (qam n a_ b_ c_ m89) v66 m134 v122 v123 = some r:=h
      rcases m134 with _ | m134
      · rw [qb0] at h;cases h
      rw [qb0] at h
      refine qb8 (ι:=Unit) (fun _=>St.of [(0,.row 0 v122.length 0 v122.length),(1,.d (.int .i64 a_)),(2,.d (.int .i64 b_)),(3,.func 65 [] [.ptr 1 0]),(8,.d (.int .i64 v66)),(9,.d (.int .i64 v123))] [.row 1 (v122.map qac),.box [.mref 2],.map .i64 (mapE qbi c_)] f141.ntmps 3) (fun _=>qcm n (qb0 n a_ c_ (qam n a_ b_ c_ m89) v66 m134) v122 v123 = some r) ?_ (fun hk144=>?_)
      · rintro ⟨⟩ h
        replace h:qcm n (qb0 n a_ c_ (qam n a_ b_ c_ m89) v66 m134) v122 v123 = some r:=h
        unfold qcm at h
        refine qa5 ?_
        refine qaz ?_
        refine qel ?_
        refine qab hτ [] 0 rfl rfl rfl rfl rfl ?_
        refine qab hτ [] 1 rfl rfl rfl rfl rfl ?_
        refine qab hτ [] 2 rfl rfl rfl rfl rfl ?_
        refine qab hτ [] 3 rfl rfl rfl rfl rfl ?_
        refine qab hτ [] 4 rfl rfl rfl rfl rfl ?_
        refine qab hτ [] 5 rfl rfl rfl rfl rfl ?_
        refine qab hτ [] 6 rfl rfl rfl rfl rfl ?_
        refine qab hτ [] 7 rfl rfl rfl rfl rfl ?_
        refine qaa h fun x141 hx141 h=>?_
        refine qiw hτ [0] 8 rfl rfl rfl rfl rfl (qd0 hx141) ?_
        refine qc8 hτ [0] 9 rfl rfl rfl rfl rfl (qbx _) (qek hx141) rfl ?_
        refine qab hτ [] 10 rfl rfl rfl rfl rfl ?_
        refine qab hτ [] 11 rfl rfl rfl rfl rfl ?_
        refine qaa h fun x142 hx142 h=>?_
        refine qiw hτ [0] 12 rfl rfl rfl rfl rfl (qd0 hx142) ?_
        refine qc8 hτ [0] 13 rfl rfl rfl rfl rfl (qbx _) (qek hx142) rfl ?_
        refine qiw hτ [0] 14 rfl rfl rfl rfl rfl (qd0 hx142) ?_
        refine qm5 hτ [1,2] 15 rfl rfl rfl rfl (qbx _) (qek hx142) (qqm (f:=qac) (l:=v122) (i:=v123) (y:=x141) rfl) ⟨rfl,rfl,trivial⟩ ?_
        refine qaa h fun x143 hx143 h=>?_
        refine qiw hτ [0] 16 rfl rfl rfl rfl rfl (qro hx143 (by simp)) ?_
        refine qm5 hτ [1,2] 17 rfl rfl rfl rfl (by simp) (qek hx143) (qqm (f:=qac) (l:=(v122.set v123.toNat x141)) (i:=(w64 (v123 - (1:Int)))) (y:=x142) rfl) ⟨rfl,rfl,trivial⟩ ?_
        refine qcy mixed (by kernel_rfl) ?_
        refine qa7 (qa2 [0,1,2] (l:=[(0,.row 0 (((v122.set v123.toNat x141).set (w64 (v123 - (1:Int))).toNat x142).length) 0 (((v122.set v123.toNat x141).set (w64 (v123 - (1:Int))).toNat x142).length)),(1,.d (.int .i64 a_)),(2,.d (.int .i64 b_)),(3,.func 65 [] [.ptr 1 0]),(8,.d (.int .i64 v66)),(9,.d (.int .i64 v123))]) (objs:=[.row 1 (((v122.set v123.toNat x141).set (w64 (v123 - (1:Int))).toNat x142).map qac),.box [.mref 2],.map .i64 (mapE qbi c_)]) rfl (by simp) rfl (by trivial) ⟨(qo2 rfl (by simp)),trivial,rfl,trivial,rfl,trivial,rfl,(by trivial),rfl,trivial,rfl,trivial,trivial⟩) ?_
        refine qa1 ?_
        refine qa0 hτ rfl rfl rfl ?_
        refine qa0 hτ rfl rfl rfl ?_
        refine qa0 hτ rfl rfl rfl ?_
        refine qa3 ?_
        exact ⟨(m134,((v122.set v123.toNat x141).set (w64 (v123 - (1:Int))).toNat x142),(w64 (v123 - (1:Int)))),h,Nat.lt_succ_self m134,(qa2 [0,1,2] (l:=[(0,.row 0 (((v122.set v123.toNat x141).set (w64 (v123 - (1:Int))).toNat x142).length) 0 (((v122.set v123.toNat x141).set (w64 (v123 - (1:Int))).toNat x142).length)),(1,.d (.int .i64 a_)),(2,.d (.int .i64 b_)),(3,.func 65 [] [.ptr 1 0]),(8,.d (.int .i64 v66)),(9,.d (.int .i64 (w64 (v123 - (1:Int)))))]) (objs:=[.row 1 (((v122.set v123.toNat x141).set (w64 (v123 - (1:Int))).toNat x142).map qac),.box [.mref 2],.map .i64 (mapE qbi c_)]) rfl (by simp) rfl (by trivial) ⟨rfl,trivial,rfl,trivial,rfl,trivial,rfl,(by trivial),rfl,trivial,rfl,trivial,trivial⟩)⟩
      · refine qa5 ?_
        refine qb8 (ι:=Bool) (fun v150=>St.of [(0,.row 0 v122.length 0 v122.length),(1,.d (.int .i64 a_)),(2,.d (.int .i64 b_)),(3,.func 65 [] [.ptr 1 0]),(8,.d (.int .i64 v66)),(9,.d (.int .i64 v123)),(34,.d (.bool v150))] [.row 1 (v122.map qac),.box [.mref 2],.map .i64 (mapE qbi c_)] f141.ntmps 3) (fun v150=>qbr n (qam n a_ b_ c_ m89) v66 (qb0 n a_ c_ (qam n a_ b_ c_ m89) v66 m134) v122 v123 v150 = some r) ?_ (fun hk152=>?_)
        · rintro v150 h
          replace h:qbr n (qam n a_ b_ c_ m89) v66 (qb0 n a_ c_ (qam n a_ b_ c_ m89) v66 m134) v122 v123 v150 = some r:=h
          unfold qbr at h
          refine qao rfl (fun hc151=>?_) (fun hc151=>?_)
          · have h:=qbn h hc151
            refine qap ?_
            refine qa7 (qa2 [0,1,2] (l:=[(0,.row 0 v122.length 0 v122.length),(1,.d (.int .i64 a_)),(2,.d (.int .i64 b_)),(3,.func 65 [] [.ptr 1 0]),(8,.d (.int .i64 v66)),(9,.d (.int .i64 v123))]) (objs:=[.row 1 (v122.map qac),.box [.mref 2],.map .i64 (mapE qbi c_)]) rfl (by simp) rfl (by trivial) ⟨rfl,trivial,rfl,trivial,rfl,trivial,rfl,(by trivial),rfl,trivial,rfl,trivial,trivial⟩) ?_
            exact hk144 () h
          · have h:=qbm h hc151
            refine qcr ?_
            refine qa7 (qa2 [0,1,2] (l:=[(0,.row 0 v122.length 0 v122.length),(1,.d (.int .i64 a_)),(2,.d (.int .i64 b_)),(3,.func 65 [] [.ptr 1 0]),(8,.d (.int .i64 v66))]) (objs:=[.row 1 (v122.map qac),.box [.mref 2],.map .i64 (mapE qbi c_)]) rfl (by simp) rfl (by trivial) ⟨rfl,trivial,rfl,trivial,rfl,trivial,rfl,(by trivial),rfl,trivial,trivial⟩) ?_
            exact hk113 v122 h
        · refine qa5 ?_
          refine qel ?_
          refine qab hτ [] 0 rfl rfl rfl rfl rfl ?_
          refine qab hτ [] 1 rfl rfl rfl rfl rfl ?_
          refine qab hτ [] 2 rfl rfl rfl rfl rfl ?_
          refine qab hτ [] 3 rfl rfl rfl rfl rfl ?_
          refine qig 21 rfl (fun hb153=>?_) (fun hb153=>?_)
          · have h:=if_t h hb153
            refine qab hτ [] 4 rfl rfl rfl rfl rfl ?_
            refine qab hτ [] 5 rfl rfl rfl rfl rfl ?_
            refine qab hτ [] 6 rfl rfl rfl rfl rfl ?_
            refine qaa h fun x154 hx154 h=>?_
            refine qiw hτ [0] 7 rfl rfl rfl rfl rfl (qd0 hx154) ?_
            refine qc8 hτ [0] 8 rfl rfl rfl rfl rfl (qbx _) (qek hx154) rfl ?_
            refine qab hτ [] 9 rfl rfl rfl rfl rfl ?_
            refine qab hτ [] 10 rfl rfl rfl rfl rfl ?_
            refine qab hτ [] 11 rfl rfl rfl rfl rfl ?_
            refine qaa h fun x155 hx155 h=>?_
            refine qiw hτ [0] 12 rfl rfl rfl rfl rfl (qd0 hx155) ?_
            refine qc8 hτ [0] 13 rfl rfl rfl rfl rfl (qbx _) (qek hx155) rfl ?_
            refine qaa h fun x156 hx156 h=>?_
            refine qhw hτ false [1,2] [0,1,2] 14 rfl rfl rfl rfl (qaj func65 rfl rfl) rfl rfl (by simp) ⟨trivial,trivial,trivial,trivial⟩ (by trivial) (impl_TripOrder_1_ok n x154 x155 c_ hx156) ⟨rfl,rfl,rfl,trivial⟩ ?_
            refine qab hτ [] 15 rfl rfl rfl rfl rfl ?_
            refine qab hτ [] 16 rfl rfl rfl rfl rfl ?_
            refine qcy mixed (by kernel_rfl) ?_
            refine qa7 (qa2 [0,1,2] (l:=[(0,.row 0 v122.length 0 v122.length),(1,.d (.int .i64 a_)),(2,.d (.int .i64 b_)),(3,.func 65 [] [.ptr 1 0]),(8,.d (.int .i64 v66)),(9,.d (.int .i64 v123)),(34,.d (.bool (decide (x156 < (0:Int)))))]) (objs:=[.row 1 (v122.map qac),.box [.mref 2],.map .i64 (mapE qbi c_)]) rfl (by simp) rfl (by trivial) ⟨rfl,trivial,rfl,trivial,rfl,trivial,rfl,(by trivial),rfl,trivial,rfl,trivial,rfl,trivial,trivial⟩) ?_
            exact hk152 (decide (x156 < (0:Int))) h
          · have h:=if_f h hb153
            refine qae 4 rfl rfl rfl ?_
            refine qae 5 rfl rfl rfl ?_
            refine qae 6 rfl rfl rfl ?_
            refine qae 7 rfl rfl rfl ?_
            refine qae 8 rfl rfl rfl ?_
            refine qae 9 rfl rfl rfl ?_
            refine qae 10 rfl rfl rfl ?_
            refine qae 11 rfl rfl rfl ?_
            refine qae 12 rfl rfl rfl ?_
            refine qae 13 rfl rfl rfl ?_
            refine qae 14 rfl rfl rfl ?_
            refine qae 15 rfl rfl rfl ?_
            refine qab hτ [] 16 rfl rfl rfl rfl rfl ?_
            refine qcy mixed (by kernel_rfl) ?_
            refine qa7 (qa2 [0,1,2] (l:=[(0,.row 0 v122.length 0 v122.length),(1,.d (.int .i64 a_)),(2,.d (.int .i64 b_)),(3,.func 65 [] [.ptr 1 0]),(8,.d (.int .i64 v66)),(9,.d (.int .i64 v123)),(34,.d (.bool false))]) (objs:=[.row 1 (v122.map qac),.box [.mref 2],.map .i64 (mapE qbi c_)]) rfl (by simp) rfl (by trivial) ⟨rfl,trivial,rfl,trivial,rfl,trivial,rfl,(by trivial),rfl,trivial,rfl,trivial,rfl,trivial,trivial⟩) ?_
            exact hk152 false h
  · have h:=if_f h hc91
    refine qcr ?_
    have hr:=Option.some.inj h
    subst hr
    exact qah (.inl rfl) [] (objs':=[.row 1 (v65.map qac),.box [.mref 2],.map .i64 (mapE qbi c_)]) (new:=[]) rfl (by simp) (by simp) rfl (by trivial) rfl rfl (by trivial) (fun _=>⟨by simp [V.flat,V.qbk,V.qbf,D.flat],(qe6 (qjs qft _) (qe6 (by simp [AObj.flat,V.qbf,D.flat]) (qe6 (qo3 qkq _) qal)))⟩) ⟨rfl,rfl,rfl⟩
theorem slices_insertionSortCmpFunc_ok (n:Nat) (data_:List Int) (a_:Int) (b_:Int) (c_:List (Int × Nat)) {r:List Int} (h:qcd n data_ a_ b_ c_ = some r):qb9 prog false 141 [.row 0 data_.length 0 data_.length,.d (.int .i64 a_),.d (.int .i64 b_),.func 65 [] [.ptr 1 0]] [.row 1 (data_.map qac),.box [.mref 2],.map .i64 (mapE qbi c_)] (fun v o new=>v = .tup []∧o = [.row 1 (r.map qac),.box [.mref 2],.map .i64 (mapE qbi c_)]∧new = []):=slices_insertionSortCmpFunc_ok_fr0 false n data_ a_ b_ c_ h
def qcq (n:Nat) (data_:List Int) (a_:Int) (b_:Int) (limit_:Int) (c_:List (Int × Nat)):Nat→Option (List Int)
  | 0=>none
  | m5 + 1 =>
    if (w64 (b_ - a_)) ≤ (12:Int) then
      (qcd n data_ a_ b_ c_).bind fun x10 =>
      grd (x10.length = data_.length) <|
      some x10
    else
      if limit_ = (0:Int) then
        none
      else
        none
def qea (n:Nat) (data_:List Int) (a_:Int) (b_:Int) (limit_:Int) (c_:List (Int × Nat)):Option (List Int) :=
  qcq n data_ a_ b_ limit_ c_ n
theorem slices_pdqsortCmpFunc_ok_fr0 (fr:Bool) (n:Nat) (data_:List Int) (a_:Int) (b_:Int) (limit_:Int) (c_:List (Int × Nat)) {r:List Int} (h:qea n data_ a_ b_ limit_ c_ = some r):qb9 prog fr 107 [.row 0 data_.length 0 data_.length,.d (.int .i64 a_),.d (.int .i64 b_),.d (.int .i64 limit_),.func 65 [] [.ptr 1 0]] [.row 1 (data_.map qac),.box [.mref 2],.map .i64 (mapE qbi c_)] (fun v o new=>v = .tup []∧o = [.row 1 (r.map qac),.box [.mref 2],.map .i64 (mapE qbi c_)]∧new = []):=by
  refine qak hτ func107 rfl (by simp) (by simp) ?_
  unfold qea at h
  refine qa5 ?_
  refine qa1 ?_
  refine qa0 hτ rfl rfl rfl ?_
  refine qa3 ?_
  refine qa5 ?_
  refine qa1 ?_
  refine qa0 hτ rfl rfl rfl ?_
  refine qa3 ?_
  refine qaz ?_
  refine qcs (ι:=Nat) (fun m5=>St.of [(0,.row 0 data_.length 0 data_.length),(1,.d (.int .i64 a_)),(2,.d (.int .i64 b_)),(3,.d (.int .i64 limit_)),(4,.func 65 [] [.ptr 1 0]),(10,.d (.bool true)),(11,.d (.bool true))] [.row 1 (data_.map qac),.box [.mref 2],.map .i64 (mapE qbi c_)] f107.ntmps 3) (fun m5=>qcq n data_ a_ b_ limit_ c_ m5 = some r) (fun x=>x) n h (qa2 [0,1,2] (l:=[(0,.row 0 data_.length 0 data_.length),(1,.d (.int .i64 a_)),(2,.d (.int .i64 b_)),(3,.d (.int .i64 limit_)),(4,.func 65 [] [.ptr 1 0]),(10,.d (.bool true)),(11,.d (.bool true))]) (objs:=[.row 1 (data_.map qac),.box [.mref 2],.map .i64 (mapE qbi c_)]) rfl (by simp) rfl (by trivial) ⟨rfl,trivial,rfl,trivial,rfl,trivial,rfl,trivial,rfl,(by trivial),rfl,trivial,rfl,trivial,trivial⟩) ?_
  rintro m5 h
  replace h:qcq n data_ a_ b_ limit_ c_ m5 = some r:=h
  rcases m5 with _ | m5
  · rw [qcq] at h;cases h
  rw [qcq] at h
  refine qaz ?_
  refine qa5 ?_
  refine qa1 ?_
  refine qa0 hτ rfl rfl rfl ?_
  refine qa0 hτ rfl rfl rfl ?_
  refine qa0 hτ rfl rfl rfl ?_
  refine qa0 hτ rfl rfl rfl ?_
  refine qa3 ?_
  refine qa5 ?_
  refine qa5 ?_
  refine qa1 ?_
  refine qa0 hτ rfl rfl rfl ?_
  refine qa0 hτ rfl rfl rfl ?_
  refine qa3 ?_
  refine qa7 (qa2 [0,1,2] (l:=[(0,.row 0 data_.length 0 data_.length),(1,.d (.int .i64 a_)),(2,.d (.int .i64 b_)),(3,.d (.int .i64 limit_)),(4,.func 65 [] [.ptr 1 0]),(10,.d (.bool true)),(11,.d (.bool true)),(12,.d (.int .i64 (w64 (b_ - a_)))),(25,.d (.bool (decide ((w64 (b_ - a_)) ≤ (12:Int)))))]) (objs:=[.row 1 (data_.map qac),.box [.mref 2],.map .i64 (mapE qbi c_)]) rfl (by simp) rfl (by trivial) ⟨rfl,trivial,rfl,trivial,rfl,trivial,rfl,trivial,rfl,(by trivial),rfl,trivial,rfl,trivial,rfl,trivial,rfl,trivial,trivial⟩) ?_
  refine qao rfl (fun hc9=>?_) (fun hc9=>?_)
  · have h:=if_t h hc9
    refine qa5 ?_
    refine qa1 ?_
    refine qa0 hτ rfl rfl rfl ?_
    refine qa0 hτ rfl rfl rfl ?_
    refine qa0 hτ rfl rfl rfl ?_
    refine qa0 hτ rfl rfl rfl ?_
    refine qaa h fun x10 hx10 h=>?_
    refine qag hτ false [0,1,2] rfl rfl rfl (qaj func141 rfl rfl) rfl rfl (by simp) ⟨trivial,trivial,trivial,(by trivial),trivial⟩ (by trivial) (slices_insertionSortCmpFunc_ok n data_ a_ b_ c_ hx10) ?_
    rintro r0 o0 n0 ⟨rfl,rfl,rfl⟩ -
    refine qf2 h fun hg11 h=>?_
    refine qa3 ?_
    refine qa7 (qa2 [0,1,2] (l:=[]) (objs:=[.row 1 (x10.map qac),.box [.mref 2],.map .i64 (mapE qbi c_)]) rfl (by simp) rfl (by trivial) trivial) ?_
    refine qar ?_
    have hr:=Option.some.inj h
    subst hr
    exact qah (.inr rfl) [] (objs':=[.row 1 (x10.map qac),.box [.mref 2],.map .i64 (mapE qbi c_)]) (new:=[]) rfl (by simp) (by simp) rfl (by trivial) rfl rfl (by trivial) (fun _=>⟨by simp [V.flat,V.qbk,V.qbf,D.flat],(qe6 (qjs qft _) (qe6 (by simp [AObj.flat,V.qbf,D.flat]) (qe6 (qo3 qkq _) qal)))⟩) ⟨rfl,rfl,rfl⟩
  · have h:=if_f h hc9
    refine qap ?_
    refine qa5 ?_
    refine qa5 ?_
    refine qa1 ?_
    refine qa0 hτ rfl rfl rfl ?_
    refine qa0 hτ (v:=.d (.bool (decide (limit_ = (0:Int))))) rfl rfl (ql2 _ _) ?_
    refine qa3 ?_
    refine qao rfl (fun hc12=>?_) (fun hc12=>?_)
    · have h:=if_t h hc12
      refine qa5 ?_
      refine qa1 ?_
      refine qa0 hτ rfl rfl rfl ?_
      refine qa0 hτ rfl rfl rfl ?_
      refine qa0 hτ rfl rfl rfl ?_
      refine qa0 hτ rfl rfl rfl ?_
      exact nomatch h
    · have h:=if_f h hc12
      refine qap ?_
      refine qa5 ?_
      refine qa5 ?_
      refine qa1 ?_
      refine qa0 hτ rfl rfl rfl ?_
      refine qa0 hτ rfl rfl rfl ?_
      refine qa3 ?_
      refine qao (b:=false) rfl (fun hd=>nomatch hd) (fun _=>?_)
      refine qap ?_
      refine qa5 ?_
      refine qa1 ?_
      refine qa0 hτ rfl rfl rfl ?_
      refine qa0 hτ rfl rfl rfl ?_
      refine qa0 hτ rfl rfl rfl ?_
      refine qa0 hτ rfl rfl rfl ?_
      exact nomatch h
theorem slices_pdqsortCmpFunc_ok (n:Nat) (data_:List Int) (a_:Int) (b_:Int) (limit_:Int) (c_:List (Int × Nat)) {r:List Int} (h:qea n data_ a_ b_ limit_ c_ = some r):qb9 prog false 107 [.row 0 data_.length 0 data_.length,.d (.int .i64 a_),.d (.int .i64 b_),.d (.int .i64 limit_),.func 65 [] [.ptr 1 0]] [.row 1 (data_.map qac),.box [.mref 2],.map .i64 (mapE qbi c_)] (fun v o new=>v = .tup []∧o = [.row 1 (r.map qac),.box [.mref 2],.map .i64 (mapE qbi c_)]∧new = []):=slices_pdqsortCmpFunc_ok_fr0 false n data_ a_ b_ limit_ c_ h
def qg0 (n:Nat) (x_:List Int) (c_:List (Int × Nat)):Option (List Int) :=
  (qku n (IntKind.wrap .u64 ((x_.length:Int)))).bind fun x4 =>
  (qea n x_ (0:Int) (x_.length:Int) x4 c_).bind fun x5 =>
  grd (x5.length = x_.length) <|
  some x5
theorem slices_SortFunc_ok_fr0 (fr:Bool) (n:Nat) (x_:List Int) (c_:List (Int × Nat)) {r:List Int} (h:qg0 n x_ c_ = some r):qb9 prog fr 64 [.row 0 x_.length 0 x_.length,.func 65 [] [.ptr 1 0]] [.row 1 (x_.map qac),.box [.mref 2],.map .i64 (mapE qbi c_)] (fun v o new=>v = .tup []∧o = [.row 1 (r.map qac),.box [.mref 2],.map .i64 (mapE qbi c_)]∧new = []):=by
  refine qak hτ func64 rfl (by simp) (by simp) ?_
  unfold qg0 at h
  refine qa5 ?_
  refine qa1 ?_
  refine qa0 hτ rfl rfl rfl ?_
  refine qcl hτ rfl rfl rfl (qbx _) ?_
  refine qa0 hτ rfl rfl rfl ?_
  refine qa3 ?_
  refine qa1 ?_
  refine qa0 hτ rfl rfl rfl ?_
  refine qa0 hτ rfl rfl rfl ?_
  refine qa0 hτ rfl rfl rfl ?_
  refine qa0 hτ rfl rfl rfl ?_
  refine qaa h fun x4 hx4 h=>?_
  refine qag hτ false [] rfl rfl rfl (qaj func108 rfl rfl) rfl rfl (by simp) ⟨trivial,trivial⟩ (by trivial) (bits_Len_ok n (IntKind.wrap .u64 ((x_.length:Int))) hx4) ?_
  rintro r0 o0 n0 ⟨rfl,rfl,rfl⟩ -
  refine qa0 hτ rfl rfl rfl ?_
  refine qaa h fun x5 hx5 h=>?_
  refine qag hτ false [0,1,2] rfl rfl rfl (qaj func107 rfl rfl) rfl rfl (by simp) ⟨trivial,trivial,trivial,trivial,(by trivial),trivial⟩ (by trivial) (slices_pdqsortCmpFunc_ok n x_ (0:Int) (x_.length:Int) x4 c_ hx5) ?_
  rintro r0 o0 n0 ⟨rfl,rfl,rfl⟩ -
  refine qf2 h fun hg6 h=>?_
  refine qa3 ?_
  have hr:=Option.some.inj h
  subst hr
  exact qah (.inl rfl) [] (objs':=[.row 1 (x5.map qac),.box [.mref 2],.map .i64 (mapE qbi c_)]) (new:=[]) rfl (by simp) (by simp) rfl (by trivial) rfl rfl (by trivial) (fun _=>⟨by simp [V.flat,V.qbk,V.qbf,D.flat],(qe6 (qjs qft _) (qe6 (by simp [AObj.flat,V.qbf,D.flat]) (qe6 (qo3 qkq _) qal)))⟩) ⟨rfl,rfl,rfl⟩
theorem slices_SortFunc_ok (n:Nat) (x_:List Int) (c_:List (Int × Nat)) {r:List Int} (h:qg0 n x_ c_ = some r):qb9 prog false 64 [.row 0 x_.length 0 x_.length,.func 65 [] [.ptr 1 0]] [.row 1 (x_.map qac),.box [.mref 2],.map .i64 (mapE qbi c_)] (fun v o new=>v = .tup []∧o = [.row 1 (r.map qac),.box [.mref 2],.map .i64 (mapE qbi c_)]∧new = []):=slices_SortFunc_ok_fr0 false n x_ c_ h
def qep (n:Nat) (v45:List Int) (v46:List (Int × Nat)):Option (List Int × Bool) :=
  (qg0 n v45 v46).bind fun x47 =>
  grd (x47.length = v45.length) <|
  some (x47,true)
def qeq (n:Nat) (k69:List Int→List (Int × Nat)→Int→Option (List Int × Bool)) (v58:Int) (v77:List Int) (v78:List (Int × Nat)):Option (List Int × Bool) :=
  k69 v77 v78 (w64 (v58 + (1:Int)))
def qby (n:Nat) (devices_:List qas) (currents_:List Nat):Nat→List Int→List (Int × Nat)→Int→Option (List Int × Bool)
  | 0,_,_,_=>none
  | m68 + 1,v56,v57,v58 =>
    if v58 < (devices_.length:Int) then
      (getI devices_ v58).bind fun x80 =>
      (getI currents_ x80.Bus).bind fun x81 =>
      (qc9 n x80.qcp x81).bind fun x82 =>
      if x82.2 = true then
        grd (room (v56.length + 1) 8) <|
        qeq n (qby n devices_ currents_ m68) v58 (v56 ++ [v58]) (mput v57 v58 x82.1)
      else
        qeq n (qby n devices_ currents_ m68) v58 v56 v57
    else
      qep n v56 v57
def qg4 (n:Nat) (devices_:List qas) (currents_:List Nat):Option (List Int × Bool) :=
  qby n devices_ currents_ n ([]:List Int) ([]:List (Int × Nat)) (0:Int)
def qer (n:Nat) (devices_:List qas) (currents_:List Nat) (v89:Bool):Option (List Int × Bool) :=
  if v89 = true then
    some (([]:List Int),false)
  else
    qg4 n devices_ currents_
def qgj (n:Nat) (f_:qax) (devices_:List qas) (currents_:List Nat):Option (List Int × Bool) :=
  (qdc n f_ devices_).bind fun x92 =>
  if x92 = true then
    qer n devices_ currents_ (!(decide ((currents_.length:Int) = (f_.qaf.length:Int))))
  else
    qer n devices_ currents_ true
theorem impl_TripOrder_ok_fr0 (fr:Bool) (n:Nat) (f_:qax) (devices_:List qas) (currents_:List Nat) {r:List Int × Bool} (h:qgj n f_ devices_ currents_ = some r):qb9 prog fr 30 [.agg [.d (.cx .f32 f_.Source.A.re f_.Source.A.im),.d (.cx .f32 f_.Source.B.re f_.Source.B.im),.d (.cx .f32 f_.Source.C.re f_.Source.C.im),.d (.sl false (f_.qaf.map qai))],.d (.sl false (devices_.map qa9)),.d (.sl false (currents_.map qa4))] [] (fun v o new=>v = .tup [.row 0 r.1.length 0 r.1.length,.d (.bool r.2)]∧o = []∧new = [.row 1 (r.1.map qac)]):=by
  refine qak hτ func30 rfl (by simp) (by simp) ?_
  unfold qgj at h
  refine qa5 ?_
  refine qa1 ?_
  refine qav hτ rfl rfl rfl ?_
  refine qa0 hτ rfl rfl rfl ?_
  refine qa0 hτ rfl rfl rfl ?_
  refine qa3 ?_
  refine qb8 (ι:=Unit) (fun _=>St.of [(1,.d (.sl false (devices_.map qa9))),(2,.d (.sl false (currents_.map qa4)))] [] f30.ntmps 0) (fun _=>qg4 n devices_ currents_ = some r) ?_ (fun hk85=>?_)
  · rintro ⟨⟩ h
    replace h:qg4 n devices_ currents_ = some r:=h
    unfold qg4 at h
    refine qa5 ?_
    refine qa1 ?_
    refine qav hτ rfl rfl rfl ?_
    refine qav hτ rfl rfl rfl ?_
    refine qav hτ rfl rfl rfl ?_
    refine qa0 hτ rfl rfl rfl ?_
    refine qav hτ rfl rfl rfl ?_
    refine qa3 ?_
    refine qb8 (ι:=List Int × (List (Int × Nat))) (fun (v45,v46)=>St.of [(8,.row 0 v45.length 0 v45.length),(9,.ptr 1 0)] [.row 1 (v45.map qac),.box [.mref 2],.map .i64 (mapE qbi v46)] f30.ntmps 0) (fun (v45,v46)=>qep n v45 v46 = some r) ?_ (fun hk49=>?_)
    · rintro ⟨v45,v46⟩ h
      replace h:qep n v45 v46 = some r:=h
      unfold qep at h
      refine qa5 ?_
      refine qa1 ?_
      refine qa0 hτ rfl rfl rfl ?_
      refine qa0 hτ rfl rfl rfl ?_
      refine qaa h fun x47 hx47 h=>?_
      refine qag hτ false [0,1,2] rfl rfl rfl (qaj func64 rfl rfl) rfl rfl (by simp) ⟨trivial,(by trivial),trivial⟩ (by trivial) (slices_SortFunc_ok n v45 v46 hx47) ?_
      rintro r0 o0 n0 ⟨rfl,rfl,rfl⟩ -
      refine qf2 h fun hg48 h=>?_
      refine qa3 ?_
      refine qa5 ?_
      refine qa1 ?_
      refine qa0 hτ rfl rfl rfl ?_
      refine qa0 hτ rfl rfl rfl ?_
      refine qa0 hτ rfl rfl rfl ?_
      refine qa3 ?_
      refine qa7 (qa2 [0] (l:=[(6,.row 0 x47.length 0 x47.length),(7,.d (.bool true))]) (objs:=[.row 1 (x47.map qac)]) rfl (by simp) rfl (by trivial) ⟨(qo2 rfl (by simp [hg48])),trivial,rfl,trivial,trivial⟩) ?_
      refine qar ?_
      have hr:=Option.some.inj h
      subst hr
      exact qah (.inr rfl) [0] (objs':=[]) (new:=[.row 1 (x47.map qac)]) rfl (by simp) (by simp) rfl (by trivial) rfl rfl (by trivial) (fun _=>⟨by simp [V.flat,V.qbk,V.qbf,D.flat],(qe6 (qjs qft _) qal)⟩) ⟨rfl,rfl,rfl⟩
    · refine qa5 ?_
      refine qa5 ?_
      refine qa1 ?_
      refine qa0 hτ rfl rfl rfl ?_
      refine qa0 hτ (v:=.d (.int .i64 (devices_.length:Int))) rfl rfl (Eq.trans rfl (qdb (f:=qa9) devices_)) ?_
      refine qa0 hτ rfl rfl rfl ?_
      refine qa3 ?_
      refine qaz ?_
      refine qcs (ι:=Nat × List Int × (List (Int × Nat)) × Int) (fun (m68,v56,v57,v58)=>St.of [(1,.d (.sl false (devices_.map qa9))),(2,.d (.sl false (currents_.map qa4))),(8,.row 0 v56.length 0 v56.length),(9,.ptr 1 0),(28,.d (.int .i64 (devices_.length:Int))),(29,.d (.int .i64 v58))] [.row 1 (v56.map qac),.box [.mref 2],.map .i64 (mapE qbi v57)] f30.ntmps 0) (fun (m68,v56,v57,v58)=>qby n devices_ currents_ m68 v56 v57 v58 = some r) (fun x=>x.1) (n,([]:List Int),([]:List (Int × Nat)),(0:Int)) h (qa2 [0,2,1] (l:=[(1,.d (.sl false (devices_.map qa9))),(2,.d (.sl false (currents_.map qa4))),(8,.row 0 (([]:List Int).length) 0 (([]:List Int).length)),(9,.ptr 1 0),(28,.d (.int .i64 (devices_.length:Int))),(29,.d (.int .i64 (0:Int)))]) (objs:=[.row 1 (([]:List Int).map qac),.box [.mref 2],.map .i64 (mapE qbi ([]:List (Int × Nat)))]) rfl (by simp) rfl (by trivial) ⟨rfl,trivial,rfl,trivial,rfl,trivial,rfl,trivial,rfl,trivial,rfl,trivial,trivial⟩) ?_
      rintro ⟨m68,v56,v57,v58⟩ h
      replace h:qby n devices_ currents_ m68 v56 v57 v58 = some r:=h
      rcases m68 with _ | m68
      · rw [qby] at h;cases h
      rw [qby] at h
      refine qa5 ?_
      refine qa1 ?_
      refine qa0 hτ rfl rfl rfl ?_
      refine qa3 ?_
      refine qa5 ?_
      refine qao rfl (fun hc70=>?_) (fun hc70=>?_)
      · have h:=if_t h hc70
        refine qap ?_
        refine qb8 (ι:=List Int × (List (Int × Nat))) (fun (v77,v78)=>St.of [(1,.d (.sl false (devices_.map qa9))),(2,.d (.sl false (currents_.map qa4))),(8,.row 0 v77.length 0 v77.length),(9,.ptr 1 0),(28,.d (.int .i64 (devices_.length:Int))),(29,.d (.int .i64 v58))] [.row 1 (v77.map qac),.box [.mref 2],.map .i64 (mapE qbi v78)] f30.ntmps 0) (fun (v77,v78)=>qeq n (qby n devices_ currents_ m68) v58 v77 v78 = some r) ?_ (fun hk79=>?_)
        · rintro ⟨v77,v78⟩ h
          replace h:qeq n (qby n devices_ currents_ m68) v58 v77 v78 = some r:=h
          unfold qeq at h
          refine qa1 ?_
          refine qa0 hτ rfl rfl rfl ?_
          refine qa0 hτ rfl rfl rfl ?_
          refine qa3 ?_
          exact ⟨(m68,v77,v78,(w64 (v58 + (1:Int)))),h,Nat.lt_succ_self m68,(qa2 [0,1,2] (l:=[(1,.d (.sl false (devices_.map qa9))),(2,.d (.sl false (currents_.map qa4))),(8,.row 0 v77.length 0 v77.length),(9,.ptr 1 0),(28,.d (.int .i64 (devices_.length:Int))),(29,.d (.int .i64 (w64 (v58 + (1:Int)))))]) (objs:=[.row 1 (v77.map qac),.box [.mref 2],.map .i64 (mapE qbi v78)]) rfl (by simp) rfl (by trivial) ⟨rfl,trivial,rfl,trivial,rfl,trivial,rfl,trivial,rfl,trivial,rfl,trivial,trivial⟩)⟩
        · refine qa5 ?_
          refine qaz ?_
          refine qa5 ?_
          refine qa1 ?_
          refine qa0 hτ rfl rfl rfl ?_
          refine qa0 hτ rfl rfl rfl ?_
          refine qa3 ?_
          refine qa5 ?_
          refine qel ?_
          refine qab hτ [] 0 rfl rfl rfl rfl rfl ?_
          refine qab hτ [] 1 rfl rfl rfl rfl rfl ?_
          refine qaa h fun x80 hx80 h=>?_
          refine qc8 hτ [] 2 rfl rfl rfl rfl rfl (qaw hx80).1 (qb5 hx80) rfl ?_
          refine qab hτ [] 3 rfl rfl rfl rfl rfl ?_
          refine qab hτ [] 4 rfl rfl rfl rfl rfl ?_
          refine qab hτ [] 5 rfl rfl rfl rfl rfl ?_
          refine qab hτ [] 6 rfl rfl rfl rfl rfl ?_
          refine qc8 hτ [] 7 rfl rfl rfl rfl rfl (qaw hx80).1 (qb5 hx80) rfl ?_
          refine qab hτ [] 8 rfl rfl rfl rfl rfl ?_
          refine qab hτ [] 9 rfl rfl rfl rfl rfl ?_
          refine qaa h fun x81 hx81 h=>?_
          refine qc8 hτ [] 10 rfl rfl rfl rfl rfl (qaw hx81).1 (qb5 hx81) rfl ?_
          refine qab hτ [] 11 rfl rfl rfl rfl rfl ?_
          refine qaa h fun x82 hx82 h=>?_
          refine qhw hτ false [] [0,1,2] 12 rfl rfl rfl rfl (qaj func54 rfl rfl) rfl rfl (by simp) ⟨trivial,trivial,trivial⟩ (by trivial) (qia n (.int .i64 x80.Bus) x80.qcp x81 hx82) ⟨rfl,rfl,rfl,trivial⟩ ?_
          refine qab hτ [] 13 rfl rfl rfl rfl rfl ?_
          refine qab hτ [] 14 rfl rfl rfl rfl rfl ?_
          refine qab hτ [] 15 rfl rfl rfl rfl rfl ?_
          refine qab hτ [] 16 rfl rfl rfl rfl rfl ?_
          refine qab hτ [] 17 rfl rfl rfl rfl rfl ?_
          refine qcy mixed (by kernel_rfl) ?_
          refine qa5 ?_
          refine qa7 (qa2 [0,1,2] (l:=[(1,.d (.sl false (devices_.map qa9))),(2,.d (.sl false (currents_.map qa4))),(8,.row 0 v56.length 0 v56.length),(9,.ptr 1 0),(10,.d (.int .i64 v58)),(11,.d (.fl .f32 x82.1)),(12,.d (.bool x82.2)),(28,.d (.int .i64 (devices_.length:Int))),(29,.d (.int .i64 v58))]) (objs:=[.row 1 (v56.map qac),.box [.mref 2],.map .i64 (mapE qbi v57)]) rfl (by simp) rfl (by trivial) ⟨rfl,trivial,rfl,trivial,rfl,trivial,rfl,trivial,rfl,trivial,rfl,trivial,rfl,trivial,rfl,trivial,rfl,trivial,trivial⟩) ?_
          refine qa1 ?_
          refine qa0 hτ rfl rfl rfl ?_
          refine qa3 ?_
          refine qao rfl (fun hc83=>?_) (fun hc83=>?_)
          · have h:=qbn h hc83
            refine qel ?_
            refine qab hτ [1] 0 rfl rfl rfl rfl rfl ?_
            refine qab hτ [] 1 rfl rfl rfl rfl rfl ?_
            refine qab hτ [] 2 rfl rfl rfl rfl rfl ?_
            refine qab hτ [] 3 rfl rfl rfl rfl rfl ?_
            refine qab hτ [] 6 rfl rfl rfl rfl rfl ?_
            refine qqt hτ [0,1,2] 4 rfl rfl rfl rfl ⟨rfl,rfl,rfl,trivial⟩ ?_
            refine qf2 h fun hg84 h=>?_
            refine any_needHP hτ [1,2,3] 5 rfl rfl rfl (Eq.trans rfl (or_append (f:=qac) v56 [v58] rfl)) ⟨⟨rfl,Nat.le_of_ble_eq_true rfl⟩,qbx _,rfl,rfl,hg84,by decide,(all1 rfl)⟩ ⟨rfl,rfl,rfl,trivial⟩ ?_
            refine qab hτ [] 7 rfl rfl rfl rfl rfl ?_
            refine qqt hτ [0,1,3] 8 rfl rfl rfl (st_mput (f:=qbi) (y:=x82.1) v57 (by exact rfl) (by exact rfl) (by exact rfl) (by exact rfl) (by exact rfl)) ⟨rfl,rfl,rfl,trivial⟩ ?_
            refine qcy mixed (by kernel_rfl) ?_
            refine qa7 (qa2 [0,1,2] (l:=[(1,.d (.sl false (devices_.map qa9))),(2,.d (.sl false (currents_.map qa4))),(8,.row 0 ((v56 ++ [v58]).length) 0 ((v56 ++ [v58]).length)),(9,.ptr 1 0),(28,.d (.int .i64 (devices_.length:Int))),(29,.d (.int .i64 v58))]) (objs:=[.row 1 ((v56 ++ [v58]).map qac),.box [.mref 2],.map .i64 (mapE qbi (mput v57 v58 x82.1))]) rfl (by simp) rfl (by trivial) ⟨rfl,trivial,rfl,trivial,rfl,trivial,rfl,trivial,rfl,trivial,rfl,trivial,trivial⟩) ?_
            exact hk79 ((v56 ++ [v58]),(mput v57 v58 x82.1)) h
          · have h:=qbm h hc83
            refine qap ?_
            refine qa7 (qa2 [0,1,2] (l:=[(1,.d (.sl false (devices_.map qa9))),(2,.d (.sl false (currents_.map qa4))),(8,.row 0 v56.length 0 v56.length),(9,.ptr 1 0),(28,.d (.int .i64 (devices_.length:Int))),(29,.d (.int .i64 v58))]) (objs:=[.row 1 (v56.map qac),.box [.mref 2],.map .i64 (mapE qbi v57)]) rfl (by simp) rfl (by trivial) ⟨rfl,trivial,rfl,trivial,rfl,trivial,rfl,trivial,rfl,trivial,rfl,trivial,trivial⟩) ?_
            exact hk79 (v56,v57) h
      · have h:=if_f h hc70
        refine qcr ?_
        refine qa7 (qa2 [0,1,2] (l:=[(8,.row 0 v56.length 0 v56.length),(9,.ptr 1 0)]) (objs:=[.row 1 (v56.map qac),.box [.mref 2],.map .i64 (mapE qbi v57)]) rfl (by simp) rfl (by trivial) ⟨rfl,trivial,rfl,trivial,trivial⟩) ?_
        exact hk49 (v56,v57) h
  · refine qa5 ?_
    refine qb8 (ι:=Bool) (fun v89=>St.of [(1,.d (.sl false (devices_.map qa9))),(2,.d (.sl false (currents_.map qa4))),(24,.d (.bool v89))] [] f30.ntmps 0) (fun v89=>qer n devices_ currents_ v89 = some r) ?_ (fun hk91=>?_)
    · rintro v89 h
      replace h:qer n devices_ currents_ v89 = some r:=h
      unfold qer at h
      refine qao rfl (fun hc90=>?_) (fun hc90=>?_)
      · have h:=qbn h hc90
        refine qa5 ?_
        refine qa1 ?_
        refine qa0 hτ rfl rfl rfl ?_
        refine qa0 hτ rfl rfl rfl ?_
        refine qa3 ?_
        refine qa7 (qa2 [] (l:=[(6,.d (.nils)),(7,.d (.bool false))]) (objs:=[]) rfl (by simp) rfl (by trivial) ⟨rfl,trivial,rfl,trivial,trivial⟩) ?_
        refine qa7 (qlo [1] (l':=[(6,.row 0 (([]:List Int).length) 0 (([]:List Int).length)),(7,.d (.bool false))]) (objs':=[]) (.cons (.c (.ghost ⟨Nat.le_of_ble_eq_true rfl,Nat.le_of_ble_eq_true rfl⟩)) (.cons (.c (.refl _)) .nil)) .nil) ?_
        refine qar ?_
        have hr:=Option.some.inj h
        subst hr
        exact qah (.inr rfl) [0] (objs':=[]) (new:=[.row 1 (([]:List Int).map qac)]) rfl (by simp) (by simp) rfl (by trivial) rfl rfl (by trivial) (fun _=>⟨by simp [V.flat,V.qbk,V.qbf,D.flat],(qe6 (qjs qft _) qal)⟩) ⟨rfl,rfl,rfl⟩
      · have h:=qbm h hc90
        refine qap ?_
        refine qa7 (qa2 [] (l:=[(1,.d (.sl false (devices_.map qa9))),(2,.d (.sl false (currents_.map qa4)))]) (objs:=[]) rfl (by simp) rfl (by trivial) ⟨rfl,trivial,rfl,trivial,trivial⟩) ?_
        exact hk85 () h
    · refine qa5 ?_
      refine qa1 ?_
      refine qa0 hτ rfl rfl rfl ?_
      refine qa0 hτ rfl rfl rfl ?_
      refine qaa h fun x92 hx92 h=>?_
      refine qag hτ false [] rfl rfl rfl (qaj func27 rfl rfl) rfl rfl (by simp) ⟨(by trivial),trivial,trivial⟩ (by trivial) (qjt n f_ devices_ hx92) ?_
      rintro r0 o0 n0 ⟨rfl,rfl,rfl⟩ -
      refine qa0 hτ rfl rfl rfl ?_
      refine qa0 hτ rfl rfl rfl ?_
      refine qb4 17 rfl (fun hb93=>?_) (fun hb93=>?_)
      · have hb93:=qgh hb93
        have h:=qbm h hb93
        refine qa6 rfl rfl ?_
        refine qa6 rfl rfl ?_
        refine qa6 rfl rfl ?_
        refine qa6 rfl rfl ?_
        refine qat (qa2 [] (l:=[(1,.d (.sl false (devices_.map qa9))),(2,.d (.sl false (currents_.map qa4))),(17,.d (.bool true)),(19,.und),(21,.und)]) (objs:=[]) rfl (by simp) rfl (by trivial) ⟨rfl,trivial,rfl,trivial,rfl,trivial,rfl,trivial,rfl,trivial,trivial⟩) ?_
        refine qa6 rfl rfl ?_
        refine qa6 rfl rfl ?_
        refine qa0 hτ rfl rfl rfl ?_
        refine qa3 ?_
        refine qa7 (qa2 [] (l:=[(1,.d (.sl false (devices_.map qa9))),(2,.d (.sl false (currents_.map qa4))),(24,.d (.bool true))]) (objs:=[]) rfl (by simp) rfl (by trivial) ⟨rfl,trivial,rfl,trivial,rfl,trivial,trivial⟩) ?_
        exact hk91 true h
      · have hb93:=qgg hb93
        have h:=qbn h hb93
        refine qa0 hτ rfl rfl rfl ?_
        refine qa0 hτ (v:=.d (.int .i64 (currents_.length:Int))) rfl rfl (Eq.trans rfl (qdb (f:=qa4) currents_)) ?_
        refine qa0 hτ rfl rfl rfl ?_
        refine qa0 hτ rfl rfl rfl ?_
        refine qat (qa2 [] (l:=[(1,.d (.sl false (devices_.map qa9))),(2,.d (.sl false (currents_.map qa4))),(17,.d (.bool false)),(19,.d (.int .i64 (currents_.length:Int))),(21,.d (.sl false (f_.qaf.map qai)))]) (objs:=[]) rfl (by simp) rfl (by trivial) ⟨rfl,trivial,rfl,trivial,rfl,trivial,rfl,trivial,rfl,trivial,trivial⟩) ?_
        refine qa0 hτ (v:=.d (.int .i64 (f_.qaf.length:Int))) rfl rfl (Eq.trans rfl (qdb (f:=qai) f_.qaf)) ?_
        refine qa0 hτ (v:=.d (.bool (!(decide ((currents_.length:Int) = (f_.qaf.length:Int)))))) rfl rfl (qon _ _) ?_
        refine qa0 hτ rfl rfl rfl ?_
        refine qa3 ?_
        refine qa7 (qa2 [] (l:=[(1,.d (.sl false (devices_.map qa9))),(2,.d (.sl false (currents_.map qa4))),(24,.d (.bool (!(decide ((currents_.length:Int) = (f_.qaf.length:Int))))))]) (objs:=[]) rfl (by simp) rfl (by trivial) ⟨rfl,trivial,rfl,trivial,rfl,trivial,trivial⟩) ?_
        exact hk91 (!(decide ((currents_.length:Int) = (f_.qaf.length:Int)))) h
theorem impl_TripOrder_ok_fr (n:Nat) (f_:qax) (devices_:List qas) (currents_:List Nat) {r:List Int × Bool} (h:qgj n f_ devices_ currents_ = some r):qb9 prog true 30 [.agg [.d (.cx .f32 f_.Source.A.re f_.Source.A.im),.d (.cx .f32 f_.Source.B.re f_.Source.B.im),.d (.cx .f32 f_.Source.C.re f_.Source.C.im),.d (.sl false (f_.qaf.map qai))],.d (.sl false (devices_.map qa9)),.d (.sl false (currents_.map qa4))] [] (fun v o new=>v = .tup [.row 0 r.1.length 0 r.1.length,.d (.bool r.2)]∧o = []∧new = [.row 1 (r.1.map qac)]):=impl_TripOrder_ok_fr0 true n f_ devices_ currents_ h
def qjv (n:Nat) (x_:Nat):Option Bool :=
  (qh9 n x_).bind fun x2 =>
  some (!x2)
theorem impl_finite_1_ok_fr0 (fr:Bool) (n:Nat) (x_:Nat) {r:Bool} (h:qjv n x_ = some r):qb9 prog fr 112 [.d (.fl .f32 x_)] [] (fun v o new=>v = .d (.bool r)∧o = []∧new = []):=by
  refine qak hτ func112 rfl (by simp) (by simp) ?_
  unfold qjv at h
  refine qa5 ?_
  refine qa1 ?_
  refine qa0 hτ rfl rfl rfl ?_
  refine qa3 ?_
  refine qa5 ?_
  refine qa1 ?_
  refine qa0 hτ rfl rfl rfl ?_
  refine qaa h fun x2 hx2 h=>?_
  refine qag hτ false [] rfl rfl rfl (qaj func113 rfl rfl) rfl rfl (by simp) ⟨trivial,trivial⟩ (by trivial) (qlt n x_ hx2) ?_
  rintro r0 o0 n0 ⟨rfl,rfl,rfl⟩ -
  refine qa0 hτ rfl rfl rfl ?_
  refine qa0 hτ rfl rfl rfl ?_
  refine qa3 ?_
  refine qa7 (qa2 [] (l:=[(2,.d (.bool (!x2)))]) (objs:=[]) rfl (by simp) rfl (by trivial) ⟨rfl,trivial,trivial⟩) ?_
  refine qar ?_
  have hr:=Option.some.inj h
  subst hr
  exact qah (.inr rfl) [] (objs':=[]) (new:=[]) rfl (by simp) (by simp) rfl (by trivial) rfl rfl (by trivial) (fun _=>⟨by simp [V.flat,V.qbk,V.qbf,D.flat],qal⟩) ⟨rfl,rfl,rfl⟩
theorem impl_finite_1_ok (n:Nat) (x_:Nat) {r:Bool} (h:qjv n x_ = some r):qb9 prog false 112 [.d (.fl .f32 x_)] [] (fun v o new=>v = .d (.bool r)∧o = []∧new = []):=impl_finite_1_ok_fr0 false n x_ h
def qe2 (n:Nat) (s_:List Nat):Nat→Int→Option Int
  | 0,_=>none
  | m13 + 1,v9 =>
    if v9 < (s_.length:Int) then
      (getI s_ v9).bind fun x18 =>
      (qjv n x18).bind fun x19 =>
      if x19 = true then
        some v9
      else
        (qe2 n s_ m13) (w64 (v9 + (1:Int)))
    else
      some (-1:Int)
def qid (n:Nat) (s_:List Nat):Option Int :=
  qe2 n s_ n (0:Int)
theorem slices_IndexFunc_ok_fr0 (fr:Bool) (n:Nat) (s_:List Nat) {r:Int} (h:qid n s_ = some r):qb9 prog fr 151 [.d (.sl false (s_.map qa4)),.func 112 [] []] [] (fun v o new=>v = .d (.int .i64 r)∧o = []∧new = []):=by
  refine qak hτ func151 rfl (by simp) (by simp) ?_
  unfold qid at h
  refine qa5 ?_
  refine qa1 ?_
  refine qa0 hτ rfl rfl rfl ?_
  refine qa3 ?_
  refine qa5 ?_
  refine qa5 ?_
  refine qa1 ?_
  refine qa0 hτ rfl rfl rfl ?_
  refine qa0 hτ (v:=.d (.int .i64 (s_.length:Int))) rfl rfl (Eq.trans rfl (qdb (f:=qa4) s_)) ?_
  refine qa0 hτ rfl rfl rfl ?_
  refine qa3 ?_
  refine qaz ?_
  refine qcs (ι:=Nat × Int) (fun (m13,v9)=>St.of [(0,.d (.sl false (s_.map qa4))),(1,.func 112 [] []),(7,.d (.int .i64 (s_.length:Int))),(8,.d (.int .i64 v9))] [] f151.ntmps 0) (fun (m13,v9)=>qe2 n s_ m13 v9 = some r) (fun x=>x.1) (n,(0:Int)) h (qa2 [] (l:=[(0,.d (.sl false (s_.map qa4))),(1,.func 112 [] []),(7,.d (.int .i64 (s_.length:Int))),(8,.d (.int .i64 (0:Int)))]) (objs:=[]) rfl (by simp) rfl (by trivial) ⟨rfl,trivial,rfl,(by trivial),rfl,trivial,rfl,trivial,trivial⟩) ?_
  rintro ⟨m13,v9⟩ h
  replace h:qe2 n s_ m13 v9 = some r:=h
  rcases m13 with _ | m13
  · rw [qe2] at h;cases h
  rw [qe2] at h
  refine qa5 ?_
  refine qa1 ?_
  refine qa0 hτ rfl rfl rfl ?_
  refine qa3 ?_
  refine qa5 ?_
  refine qao rfl (fun hc15=>?_) (fun hc15=>?_)
  · have h:=if_t h hc15
    refine qap ?_
    refine qa5 ?_
    refine qaz ?_
    refine qa5 ?_
    refine qa1 ?_
    refine qa0 hτ rfl rfl rfl ?_
    refine qa0 hτ rfl rfl rfl ?_
    refine qa3 ?_
    refine qa5 ?_
    refine qa1 ?_
    refine qa0 hτ rfl rfl rfl ?_
    refine qa0 hτ rfl rfl rfl ?_
    refine qa0 hτ rfl rfl rfl ?_
    refine qaa h fun x18 hx18 h=>?_
    refine qbe hτ rfl rfl rfl (qaw hx18).1 (qb5 hx18) rfl ?_
    refine qa0 hτ rfl rfl rfl ?_
    refine qaa h fun x19 hx19 h=>?_
    refine qag hτ false [] rfl rfl rfl (qaj func112 rfl rfl) rfl rfl (by simp) ⟨trivial,trivial⟩ (by trivial) (impl_finite_1_ok n x18 hx19) ?_
    rintro r0 o0 n0 ⟨rfl,rfl,rfl⟩ -
    refine qa3 ?_
    refine qa7 (qa2 [] (l:=[(0,.d (.sl false (s_.map qa4))),(1,.func 112 [] []),(5,.d (.int .i64 v9)),(7,.d (.int .i64 (s_.length:Int))),(8,.d (.int .i64 v9)),(16,.d (.bool x19))]) (objs:=[]) rfl (by simp) rfl (by trivial) ⟨rfl,trivial,rfl,(by trivial),rfl,trivial,rfl,trivial,rfl,trivial,rfl,trivial,trivial⟩) ?_
    refine qao rfl (fun hc20=>?_) (fun hc20=>?_)
    · have h:=qbn h hc20
      refine qa5 ?_
      refine qa1 ?_
      refine qa0 hτ rfl rfl rfl ?_
      refine qa0 hτ rfl rfl rfl ?_
      refine qa3 ?_
      refine qa7 (qa2 [] (l:=[(4,.d (.int .i64 v9))]) (objs:=[]) rfl (by simp) rfl (by trivial) ⟨rfl,trivial,trivial⟩) ?_
      refine qar ?_
      have hr:=Option.some.inj h
      subst hr
      exact qah (.inr rfl) [] (objs':=[]) (new:=[]) rfl (by simp) (by simp) rfl (by trivial) rfl rfl (by trivial) (fun _=>⟨by simp [V.flat,V.qbk,V.qbf,D.flat],qal⟩) ⟨rfl,rfl,rfl⟩
    · have h:=qbm h hc20
      refine qap ?_
      refine qa1 ?_
      refine qa0 hτ rfl rfl rfl ?_
      refine qa0 hτ rfl rfl rfl ?_
      refine qa3 ?_
      exact ⟨(m13,(w64 (v9 + (1:Int)))),h,Nat.lt_succ_self m13,(qa2 [] (l:=[(0,.d (.sl false (s_.map qa4))),(1,.func 112 [] []),(7,.d (.int .i64 (s_.length:Int))),(8,.d (.int .i64 (w64 (v9 + (1:Int)))))]) (objs:=[]) rfl (by simp) rfl (by trivial) ⟨rfl,trivial,rfl,(by trivial),rfl,trivial,rfl,trivial,trivial⟩)⟩
  · have h:=if_f h hc15
    refine qcr ?_
    refine qa5 ?_
    refine qa1 ?_
    refine qa0 hτ rfl rfl rfl ?_
    refine qa3 ?_
    refine qa7 (qa2 [] (l:=[(4,.d (.int .i64 (-1:Int)))]) (objs:=[]) rfl (by simp) rfl (by trivial) ⟨rfl,trivial,trivial⟩) ?_
    refine qar ?_
    have hr:=Option.some.inj h
    subst hr
    exact qah (.inr rfl) [] (objs':=[]) (new:=[]) rfl (by simp) (by simp) rfl (by trivial) rfl rfl (by trivial) (fun _=>⟨by simp [V.flat,V.qbk,V.qbf,D.flat],qal⟩) ⟨rfl,rfl,rfl⟩
theorem slices_IndexFunc_ok (n:Nat) (s_:List Nat) {r:Int} (h:qid n s_ = some r):qb9 prog false 151 [.d (.sl false (s_.map qa4)),.func 112 [] []] [] (fun v o new=>v = .d (.int .i64 r)∧o = []∧new = []):=slices_IndexFunc_ok_fr0 false n s_ h
def qgx (n:Nat) (s_:List Nat):Option Bool :=
  (qid n s_).bind fun x2 =>
  some (decide (x2 ≥ (0:Int)))
theorem slices_ContainsFunc_ok_fr0 (fr:Bool) (n:Nat) (s_:List Nat) {r:Bool} (h:qgx n s_ = some r):qb9 prog fr 111 [.d (.sl false (s_.map qa4)),.func 112 [] []] [] (fun v o new=>v = .d (.bool r)∧o = []∧new = []):=by
  refine qak hτ func111 rfl (by simp) (by simp) ?_
  unfold qgx at h
  refine qa5 ?_
  refine qa1 ?_
  refine qa0 hτ rfl rfl rfl ?_
  refine qa3 ?_
  refine qa5 ?_
  refine qa1 ?_
  refine qa0 hτ rfl rfl rfl ?_
  refine qa0 hτ rfl rfl rfl ?_
  refine qaa h fun x2 hx2 h=>?_
  refine qag hτ false [] rfl rfl rfl (qaj func151 rfl rfl) rfl rfl (by simp) ⟨trivial,(by trivial),trivial⟩ (by trivial) (slices_IndexFunc_ok n s_ hx2) ?_
  rintro r0 o0 n0 ⟨rfl,rfl,rfl⟩ -
  refine qa0 hτ rfl rfl rfl ?_
  refine qa0 hτ rfl rfl rfl ?_
  refine qa3 ?_
  refine qa7 (qa2 [] (l:=[(4,.d (.bool (decide (x2 ≥ (0:Int)))))]) (objs:=[]) rfl (by simp) rfl (by trivial) ⟨rfl,trivial,trivial⟩) ?_
  refine qar ?_
  have hr:=Option.some.inj h
  subst hr
  exact qah (.inr rfl) [] (objs':=[]) (new:=[]) rfl (by simp) (by simp) rfl (by trivial) rfl rfl (by trivial) (fun _=>⟨by simp [V.flat,V.qbk,V.qbf,D.flat],qal⟩) ⟨rfl,rfl,rfl⟩
theorem slices_ContainsFunc_ok (n:Nat) (s_:List Nat) {r:Bool} (h:qgx n s_ = some r):qb9 prog false 111 [.d (.sl false (s_.map qa4)),.func 112 [] []] [] (fun v o new=>v = .d (.bool r)∧o = []∧new = []):=slices_ContainsFunc_ok_fr0 false n s_ h
def qju (n:Nat) (list_:List Nat):Option Bool :=
  (qgx n list_).bind fun x2 =>
  some (!x2)
theorem impl_finite_ok_fr0 (fr:Bool) (n:Nat) (list_:List Nat) {r:Bool} (h:qju n list_ = some r):qb9 prog fr 69 [.d (.sl false (list_.map qa4))] [] (fun v o new=>v = .d (.bool r)∧o = []∧new = []):=by
  refine qak hτ func69 rfl (by simp) (by simp) ?_
  unfold qju at h
  refine qa5 ?_
  refine qa1 ?_
  refine qa0 hτ rfl rfl rfl ?_
  refine qa3 ?_
  refine qa5 ?_
  refine qa1 ?_
  refine qa0 hτ rfl rfl rfl ?_
  refine qaa h fun x2 hx2 h=>?_
  refine qag hτ false [] rfl rfl rfl (qaj func111 rfl rfl) rfl rfl (by simp) ⟨trivial,(by trivial),trivial⟩ (by trivial) (slices_ContainsFunc_ok n list_ hx2) ?_
  rintro r0 o0 n0 ⟨rfl,rfl,rfl⟩ -
  refine qa0 hτ rfl rfl rfl ?_
  refine qa0 hτ rfl rfl rfl ?_
  refine qa3 ?_
  refine qa7 (qa2 [] (l:=[(2,.d (.bool (!x2)))]) (objs:=[]) rfl (by simp) rfl (by trivial) ⟨rfl,trivial,trivial⟩) ?_
  refine qar ?_
  have hr:=Option.some.inj h
  subst hr
  exact qah (.inr rfl) [] (objs':=[]) (new:=[]) rfl (by simp) (by simp) rfl (by trivial) rfl rfl (by trivial) (fun _=>⟨by simp [V.flat,V.qbk,V.qbf,D.flat],qal⟩) ⟨rfl,rfl,rfl⟩
theorem impl_finite_ok_fr (n:Nat) (list_:List Nat) {r:Bool} (h:qju n list_ = some r):qb9 prog true 69 [.d (.sl false (list_.map qa4))] [] (fun v o new=>v = .d (.bool r)∧o = []∧new = []):=impl_finite_ok_fr0 true n list_ h
def qhx (n:Nat) (x5:Nat × Bool) (x6:Nat × Bool):Option (Nat × Bool) :=
  some ((qad .sub .f32 x6.1 x5.1),true)
def qgk (n:Nat) (x5:Nat × Bool) (x6:Nat × Bool) (v12:Bool):Option (Nat × Bool) :=
  if v12 = true then
    some ((0:Nat),false)
  else
    qhx n x5 x6
def qgs (n:Nat) (a_:qbq) (b_:qbq) (current_:Nat):Option (Nat × Bool) :=
  (qc9 n a_ current_).bind fun x5 =>
  (qc9 n b_ current_).bind fun x6 =>
  if x5.2 = true then
    qgk n x5 x6 (!x6.2)
  else
    qgk n x5 x6 true
theorem impl_margin_ok_fr0 (fr:Bool) (n:Nat) (d0_0:D) (d1_0:D) (a_:qbq) (b_:qbq) (current_:Nat) {r:Nat × Bool} (h:qgs n a_ b_ current_ = some r):qb9 prog fr 115 [.rop [d0_0,.sl false (a_.qa8.map qa4),.sl false (a_.Times.map qa4)] 1,.rop [d1_0,.sl false (b_.qa8.map qa4),.sl false (b_.Times.map qa4)] 1,.d (.fl .f32 current_)] [] (fun v o new=>v = .tup [.d (.fl .f32 r.1),.d (.bool r.2)]∧o = []∧new = []):=by
  refine qak hτ func115 rfl (by simp) (by simp) ?_
  unfold qgs at h
  refine qa5 ?_
  refine qa1 ?_
  refine qa0 hτ rfl rfl rfl ?_
  refine qa0 hτ rfl rfl rfl ?_
  refine qa3 ?_
  refine qa5 ?_
  refine qa1 ?_
  refine qa0 hτ rfl rfl rfl ?_
  refine qa0 hτ rfl rfl rfl ?_
  refine qaa h fun x5 hx5 h=>?_
  refine qag hτ false [] rfl rfl rfl (qaj func54 rfl rfl) rfl rfl (by simp) ⟨trivial,trivial,trivial⟩ (by trivial) (qia n d0_0 a_ current_ hx5) ?_
  rintro r0 o0 n0 ⟨rfl,rfl,rfl⟩ -
  refine qa0 hτ rfl rfl rfl ?_
  refine qa0 hτ rfl rfl rfl ?_
  refine qa0 hτ rfl rfl rfl ?_
  refine qa0 hτ rfl rfl rfl ?_
  refine qa0 hτ rfl rfl rfl ?_
  refine qa3 ?_
  refine qa5 ?_
  refine qa7 (qa2 [] (l:=[(1,.rop [d1_0,.sl false (b_.qa8.map qa4),.sl false (b_.Times.map qa4)] 1),(2,.d (.fl .f32 current_)),(8,.d (.fl .f32 x5.1)),(9,.d (.bool x5.2))]) (objs:=[]) rfl (by simp) rfl (by trivial) ⟨rfl,trivial,rfl,trivial,rfl,trivial,rfl,trivial,trivial⟩) ?_
  refine qa1 ?_
  refine qa0 hτ rfl rfl rfl ?_
  refine qa0 hτ rfl rfl rfl ?_
  refine qaa h fun x6 hx6 h=>?_
  refine qag hτ false [] rfl rfl rfl (qaj func54 rfl rfl) rfl rfl (by simp) ⟨trivial,trivial,trivial⟩ (by trivial) (qia n d1_0 b_ current_ hx6) ?_
  rintro r0 o0 n0 ⟨rfl,rfl,rfl⟩ -
  refine qa0 hτ rfl rfl rfl ?_
  refine qa0 hτ rfl rfl rfl ?_
  refine qa0 hτ rfl rfl rfl ?_
  refine qa0 hτ rfl rfl rfl ?_
  refine qa0 hτ rfl rfl rfl ?_
  refine qa3 ?_
  refine qb8 (ι:=Unit) (fun _=>St.of [(8,.d (.fl .f32 x5.1)),(10,.d (.fl .f32 x6.1))] [] f115.ntmps 0) (fun _=>qhx n x5 x6 = some r) ?_ (fun hk9=>?_)
  · rintro ⟨⟩ h
    replace h:qhx n x5 x6 = some r:=h
    unfold qhx at h
    refine qa5 ?_
    refine qa1 ?_
    refine qa0 hτ rfl rfl rfl ?_
    refine qa0 hτ rfl rfl rfl ?_
    refine qa0 hτ rfl rfl rfl ?_
    refine qa0 hτ rfl rfl rfl ?_
    refine qa0 hτ rfl rfl rfl ?_
    refine qa3 ?_
    refine qa7 (qa2 [] (l:=[(6,.d (.fl .f32 (qad .sub .f32 x6.1 x5.1))),(7,.d (.bool true))]) (objs:=[]) rfl (by simp) rfl (by trivial) ⟨rfl,trivial,rfl,trivial,trivial⟩) ?_
    refine qar ?_
    have hr:=Option.some.inj h
    subst hr
    exact qah (.inr rfl) [] (objs':=[]) (new:=[]) rfl (by simp) (by simp) rfl (by trivial) rfl rfl (by trivial) (fun _=>⟨by simp [V.flat,V.qbk,V.qbf,D.flat],qal⟩) ⟨rfl,rfl,rfl⟩
  · refine qa5 ?_
    refine qb8 (ι:=Bool) (fun v12=>St.of [(8,.d (.fl .f32 x5.1)),(10,.d (.fl .f32 x6.1)),(29,.d (.bool v12))] [] f115.ntmps 0) (fun v12=>qgk n x5 x6 v12 = some r) ?_ (fun hk14=>?_)
    · rintro v12 h
      replace h:qgk n x5 x6 v12 = some r:=h
      unfold qgk at h
      refine qao rfl (fun hc13=>?_) (fun hc13=>?_)
      · have h:=qbn h hc13
        refine qa5 ?_
        refine qa1 ?_
        refine qa0 hτ rfl rfl rfl ?_
        refine qa0 hτ rfl rfl rfl ?_
        refine qa3 ?_
        refine qa7 (qa2 [] (l:=[(6,.d (.fl .f32 (0:Nat))),(7,.d (.bool false))]) (objs:=[]) rfl (by simp) rfl (by trivial) ⟨rfl,trivial,rfl,trivial,trivial⟩) ?_
        refine qar ?_
        have hr:=Option.some.inj h
        subst hr
        exact qah (.inr rfl) [] (objs':=[]) (new:=[]) rfl (by simp) (by simp) rfl (by trivial) rfl rfl (by trivial) (fun _=>⟨by simp [V.flat,V.qbk,V.qbf,D.flat],qal⟩) ⟨rfl,rfl,rfl⟩
      · have h:=qbm h hc13
        refine qap ?_
        refine qa7 (qa2 [] (l:=[(8,.d (.fl .f32 x5.1)),(10,.d (.fl .f32 x6.1))]) (objs:=[]) rfl (by simp) rfl (by trivial) ⟨rfl,trivial,rfl,trivial,trivial⟩) ?_
        exact hk9 () h
    · refine qa5 ?_
      refine qa7 (qa2 [] (l:=[(8,.d (.fl .f32 x5.1)),(9,.d (.bool x5.2)),(10,.d (.fl .f32 x6.1)),(11,.d (.bool x6.2))]) (objs:=[]) rfl (by simp) rfl (by trivial) ⟨rfl,trivial,rfl,trivial,rfl,trivial,rfl,trivial,trivial⟩) ?_
      refine qa1 ?_
      refine qa0 hτ rfl rfl rfl ?_
      refine qa0 hτ rfl rfl rfl ?_
      refine qa0 hτ rfl rfl rfl ?_
      refine qb4 26 rfl (fun hb15=>?_) (fun hb15=>?_)
      · have hb15:=qgh hb15
        have h:=qbm h hb15
        refine qa6 rfl rfl ?_
        refine qa6 rfl rfl ?_
        refine qa0 hτ rfl rfl rfl ?_
        refine qa3 ?_
        refine qa7 (qa2 [] (l:=[(8,.d (.fl .f32 x5.1)),(10,.d (.fl .f32 x6.1)),(29,.d (.bool true))]) (objs:=[]) rfl (by simp) rfl (by trivial) ⟨rfl,trivial,rfl,trivial,rfl,trivial,trivial⟩) ?_
        exact hk14 true h
      · have hb15:=qgg hb15
        have h:=qbn h hb15
        refine qa0 hτ rfl rfl rfl ?_
        refine qa0 hτ rfl rfl rfl ?_
        refine qa0 hτ rfl rfl rfl ?_
        refine qa3 ?_
        refine qa7 (qa2 [] (l:=[(8,.d (.fl .f32 x5.1)),(10,.d (.fl .f32 x6.1)),(29,.d (.bool (!x6.2)))]) (objs:=[]) rfl (by simp) rfl (by trivial) ⟨rfl,trivial,rfl,trivial,rfl,trivial,trivial⟩) ?_
        exact hk14 (!x6.2) h
theorem impl_margin_ok (n:Nat) (d0_0:D) (d1_0:D) (a_:qbq) (b_:qbq) (current_:Nat) {r:Nat × Bool} (h:qgs n a_ b_ current_ = some r):qb9 prog false 115 [.rop [d0_0,.sl false (a_.qa8.map qa4),.sl false (a_.Times.map qa4)] 1,.rop [d1_0,.sl false (b_.qa8.map qa4),.sl false (b_.Times.map qa4)] 1,.d (.fl .f32 current_)] [] (fun v o new=>v = .tup [.d (.fl .f32 r.1),.d (.bool r.2)]∧o = []∧new = []):=impl_margin_ok_fr0 false n d0_0 d1_0 a_ b_ current_ h
def qhc (n:Nat) (k38:Nat→Bool→Int→Option (Nat × Bool)) (v26:Int) (v47:Nat) (v48:Bool):Option (Nat × Bool) :=
  k38 v47 v48 (w64 (v26 + (1:Int)))
def qg5 (n:Nat) (k38:Nat→Bool→Int→Option (Nat × Bool)) (v24:Nat) (v25:Bool) (v26:Int) (x50:Nat × Bool) (v55:Bool):Option (Nat × Bool) :=
  if v55 = true then
    qhc n k38 v26 x50.1 true
  else
    qhc n k38 v26 v24 v25
def qbu (n:Nat) (a_:qbq) (b_:qbq) (low_:Nat) (high_:Nat) (count_:Int):Nat→Nat→Bool→Int→Option (Nat × Bool)
  | 0,_,_,_=>none
  | m37 + 1,v24,v25,v26 =>
    if v26 < (w64 (count_ + (1:Int))) then
      (qgs n a_ b_ (qad .add .f32 low_ (qad .mul .f32 (qad .sub .f32 high_ low_) (qad .quo .f32 (FloatKind.nearest .f32 v26) (FloatKind.nearest .f32 count_))))).bind fun x50 =>
      if x50.2 = true then
        if v25 = true then
          qg5 n (qbu n a_ b_ low_ high_ count_ m37) v24 v25 v26 x50 (fcmp .lss .f32 x50.1 v24)
        else
          qg5 n (qbu n a_ b_ low_ high_ count_ m37) v24 v25 v26 x50 true
      else
        qg5 n (qbu n a_ b_ low_ high_ count_ m37) v24 v25 v26 x50 false
    else
      some (v24,v25)
def qgr (n:Nat) (a_:qbq) (b_:qbq) (low_:Nat) (high_:Nat) (count_:Int):Option (Nat × Bool) :=
  qbu n a_ b_ low_ high_ count_ n (0:Nat) false (0:Int)
theorem impl_grade_ok_fr0 (fr:Bool) (n:Nat) (d0_0:D) (d1_0:D) (a_:qbq) (b_:qbq) (low_:Nat) (high_:Nat) (count_:Int) {r:Nat × Bool} (h:qgr n a_ b_ low_ high_ count_ = some r):qb9 prog fr 71 [.rop [d0_0,.sl false (a_.qa8.map qa4),.sl false (a_.Times.map qa4)] 1,.rop [d1_0,.sl false (b_.qa8.map qa4),.sl false (b_.Times.map qa4)] 1,.d (.fl .f32 low_),.d (.fl .f32 high_),.d (.int .i64 count_)] [] (fun v o new=>v = .tup [.d (.fl .f32 r.1),.d (.bool r.2)]∧o = []∧new = []):=by
  refine qak hτ func71 rfl (by simp) (by simp) ?_
  unfold qgr at h
  refine qa5 ?_
  refine qa1 ?_
  refine qa0 hτ rfl rfl rfl ?_
  refine qa0 hτ rfl rfl rfl ?_
  refine qa3 ?_
  refine qa5 ?_
  refine qa1 ?_
  refine qa0 hτ rfl rfl rfl ?_
  refine qa0 hτ rfl rfl rfl ?_
  refine qa3 ?_
  refine qa5 ?_
  refine qa5 ?_
  refine qa1 ?_
  refine qa0 hτ rfl rfl rfl ?_
  refine qa0 hτ rfl rfl rfl ?_
  refine qa0 hτ rfl rfl rfl ?_
  refine qa3 ?_
  refine qaz ?_
  refine qcs (ι:=Nat × Nat × Bool × Int) (fun (m37,v24,v25,v26)=>St.of [(0,.rop [d0_0,.sl false (a_.qa8.map qa4),.sl false (a_.Times.map qa4)] 1),(1,.rop [d1_0,.sl false (b_.qa8.map qa4),.sl false (b_.Times.map qa4)] 1),(2,.d (.fl .f32 low_)),(3,.d (.fl .f32 high_)),(4,.d (.int .i64 count_)),(12,.d (.fl .f32 v24)),(13,.d (.bool v25)),(19,.d (.int .i64 (w64 (count_ + (1:Int))))),(20,.d (.int .i64 v26))] [] f71.ntmps 0) (fun (m37,v24,v25,v26)=>qbu n a_ b_ low_ high_ count_ m37 v24 v25 v26 = some r) (fun x=>x.1) (n,(0:Nat),false,(0:Int)) h (qa2 [] (l:=[(0,.rop [d0_0,.sl false (a_.qa8.map qa4),.sl false (a_.Times.map qa4)] 1),(1,.rop [d1_0,.sl false (b_.qa8.map qa4),.sl false (b_.Times.map qa4)] 1),(2,.d (.fl .f32 low_)),(3,.d (.fl .f32 high_)),(4,.d (.int .i64 count_)),(12,.d (.fl .f32 (0:Nat))),(13,.d (.bool false)),(19,.d (.int .i64 (w64 (count_ + (1:Int))))),(20,.d (.int .i64 (0:Int)))]) (objs:=[]) rfl (by simp) rfl (by trivial) ⟨rfl,trivial,rfl,trivial,rfl,trivial,rfl,trivial,rfl,trivial,rfl,trivial,rfl,trivial,rfl,trivial,rfl,trivial,trivial⟩) ?_
  rintro ⟨m37,v24,v25,v26⟩ h
  replace h:qbu n a_ b_ low_ high_ count_ m37 v24 v25 v26 = some r:=h
  rcases m37 with _ | m37
  · rw [qbu] at h;cases h
  rw [qbu] at h
  refine qa5 ?_
  refine qa1 ?_
  refine qa0 hτ rfl rfl rfl ?_
  refine qa3 ?_
  refine qa5 ?_
  refine qao rfl (fun hc39=>?_) (fun hc39=>?_)
  · have h:=if_t h hc39
    refine qap ?_
    refine qb8 (ι:=Nat × Bool) (fun (v47,v48)=>St.of [(0,.rop [d0_0,.sl false (a_.qa8.map qa4),.sl false (a_.Times.map qa4)] 1),(1,.rop [d1_0,.sl false (b_.qa8.map qa4),.sl false (b_.Times.map qa4)] 1),(2,.d (.fl .f32 low_)),(3,.d (.fl .f32 high_)),(4,.d (.int .i64 count_)),(12,.d (.fl .f32 v47)),(13,.d (.bool v48)),(19,.d (.int .i64 (w64 (count_ + (1:Int))))),(20,.d (.int .i64 v26))] [] f71.ntmps 0) (fun (v47,v48)=>qhc n (qbu n a_ b_ low_ high_ count_ m37) v26 v47 v48 = some r) ?_ (fun hk49=>?_)
    · rintro ⟨v47,v48⟩ h
      replace h:qhc n (qbu n a_ b_ low_ high_ count_ m37) v26 v47 v48 = some r:=h
      unfold qhc at h
      refine qa1 ?_
      refine qa0 hτ rfl rfl rfl ?_
      refine qa0 hτ rfl rfl rfl ?_
      refine qa3 ?_
      exact ⟨(m37,v47,v48,(w64 (v26 + (1:Int)))),h,Nat.lt_succ_self m37,(qa2 [] (l:=[(0,.rop [d0_0,.sl false (a_.qa8.map qa4),.sl false (a_.Times.map qa4)] 1),(1,.rop [d1_0,.sl false (b_.qa8.map qa4),.sl false (b_.Times.map qa4)] 1),(2,.d (.fl .f32 low_)),(3,.d (.fl .f32 high_)),(4,.d (.int .i64 count_)),(12,.d (.fl .f32 v47)),(13,.d (.bool v48)),(19,.d (.int .i64 (w64 (count_ + (1:Int))))),(20,.d (.int .i64 (w64 (v26 + (1:Int)))))]) (objs:=[]) rfl (by simp) rfl (by trivial) ⟨rfl,trivial,rfl,trivial,rfl,trivial,rfl,trivial,rfl,trivial,rfl,trivial,rfl,trivial,rfl,trivial,rfl,trivial,trivial⟩)⟩
    · refine qa5 ?_
      refine qaz ?_
      refine qa5 ?_
      refine qa1 ?_
      refine qa0 hτ rfl rfl rfl ?_
      refine qa0 hτ rfl rfl rfl ?_
      refine qa3 ?_
      refine qa5 ?_
      refine qa1 ?_
      refine qa0 hτ rfl rfl rfl ?_
      refine qa0 hτ rfl rfl rfl ?_
      refine qa0 hτ rfl rfl rfl ?_
      refine qa0 hτ rfl rfl rfl ?_
      refine qa0 hτ rfl rfl rfl ?_
      refine qa0 hτ rfl rfl rfl ?_
      refine qa0 hτ rfl rfl rfl ?_
      refine qa0 hτ rfl rfl rfl ?_
      refine qa0 hτ rfl rfl rfl ?_
      refine qat (qa2 [] (l:=[(0,.rop [d0_0,.sl false (a_.qa8.map qa4),.sl false (a_.Times.map qa4)] 1),(1,.rop [d1_0,.sl false (b_.qa8.map qa4),.sl false (b_.Times.map qa4)] 1),(2,.d (.fl .f32 low_)),(3,.d (.fl .f32 high_)),(4,.d (.int .i64 count_)),(12,.d (.fl .f32 v24)),(13,.d (.bool v25)),(19,.d (.int .i64 (w64 (count_ + (1:Int))))),(20,.d (.int .i64 v26)),(23,.d (.fl .f32 low_)),(26,.d (.fl .f32 (qad .sub .f32 high_ low_))),(31,.d (.fl .f32 (qad .quo .f32 (FloatKind.nearest .f32 v26) (FloatKind.nearest .f32 count_))))]) (objs:=[]) rfl (by simp) rfl (by trivial) ⟨rfl,trivial,rfl,trivial,rfl,trivial,rfl,trivial,rfl,trivial,rfl,trivial,rfl,trivial,rfl,trivial,rfl,trivial,rfl,trivial,rfl,trivial,rfl,trivial,trivial⟩) ?_
      refine qa0 hτ rfl rfl rfl ?_
      refine qa0 hτ rfl rfl rfl ?_
      refine qa0 hτ rfl rfl rfl ?_
      refine qa3 ?_
      refine qa5 ?_
      refine qa1 ?_
      refine qa0 hτ rfl rfl rfl ?_
      refine qa0 hτ rfl rfl rfl ?_
      refine qa0 hτ rfl rfl rfl ?_
      refine qaa h fun x50 hx50 h=>?_
      refine qag hτ false [] rfl rfl rfl (qaj func115 rfl rfl) rfl rfl (by simp) ⟨trivial,trivial,trivial,trivial⟩ (by trivial) (impl_margin_ok n d0_0 d1_0 a_ b_ (qad .add .f32 low_ (qad .mul .f32 (qad .sub .f32 high_ low_) (qad .quo .f32 (FloatKind.nearest .f32 v26) (FloatKind.nearest .f32 count_)))) hx50) ?_
      rintro r0 o0 n0 ⟨rfl,rfl,rfl⟩ -
      refine qa0 hτ rfl rfl rfl ?_
      refine qa0 hτ rfl rfl rfl ?_
      refine qa0 hτ rfl rfl rfl ?_
      refine qa0 hτ rfl rfl rfl ?_
      refine qa0 hτ rfl rfl rfl ?_
      refine qa3 ?_
      refine qb8 (ι:=Bool) (fun v55=>St.of [(0,.rop [d0_0,.sl false (a_.qa8.map qa4),.sl false (a_.Times.map qa4)] 1),(1,.rop [d1_0,.sl false (b_.qa8.map qa4),.sl false (b_.Times.map qa4)] 1),(2,.d (.fl .f32 low_)),(3,.d (.fl .f32 high_)),(4,.d (.int .i64 count_)),(12,.d (.fl .f32 v24)),(13,.d (.bool v25)),(16,.d (.fl .f32 x50.1)),(19,.d (.int .i64 (w64 (count_ + (1:Int))))),(20,.d (.int .i64 v26)),(50,.d (.bool v55))] [] f71.ntmps 0) (fun v55=>qg5 n (qbu n a_ b_ low_ high_ count_ m37) v24 v25 v26 x50 v55 = some r) ?_ (fun hk57=>?_)
      · rintro v55 h
        replace h:qg5 n (qbu n a_ b_ low_ high_ count_ m37) v24 v25 v26 x50 v55 = some r:=h
        unfold qg5 at h
        refine qao rfl (fun hc56=>?_) (fun hc56=>?_)
        · have h:=qbn h hc56
          refine qa1 ?_
          refine qa0 hτ rfl rfl rfl ?_
          refine qa0 hτ rfl rfl rfl ?_
          refine qa0 hτ rfl rfl rfl ?_
          refine qa3 ?_
          refine qa7 (qa2 [] (l:=[(0,.rop [d0_0,.sl false (a_.qa8.map qa4),.sl false (a_.Times.map qa4)] 1),(1,.rop [d1_0,.sl false (b_.qa8.map qa4),.sl false (b_.Times.map qa4)] 1),(2,.d (.fl .f32 low_)),(3,.d (.fl .f32 high_)),(4,.d (.int .i64 count_)),(12,.d (.fl .f32 x50.1)),(13,.d (.bool true)),(19,.d (.int .i64 (w64 (count_ + (1:Int))))),(20,.d (.int .i64 v26))]) (objs:=[]) rfl (by simp) rfl (by trivial) ⟨rfl,trivial,rfl,trivial,rfl,trivial,rfl,trivial,rfl,trivial,rfl,trivial,rfl,trivial,rfl,trivial,rfl,trivial,trivial⟩) ?_
          exact hk49 (x50.1,true) h
        · have h:=qbm h hc56
          refine qap ?_
          refine qa7 (qa2 [] (l:=[(0,.rop [d0_0,.sl false (a_.qa8.map qa4),.sl false (a_.Times.map qa4)] 1),(1,.rop [d1_0,.sl false (b_.qa8.map qa4),.sl false (b_.Times.map qa4)] 1),(2,.d (.fl .f32 low_)),(3,.d (.fl .f32 high_)),(4,.d (.int .i64 count_)),(12,.d (.fl .f32 v24)),(13,.d (.bool v25)),(19,.d (.int .i64 (w64 (count_ + (1:Int))))),(20,.d (.int .i64 v26))]) (objs:=[]) rfl (by simp) rfl (by trivial) ⟨rfl,trivial,rfl,trivial,rfl,trivial,rfl,trivial,rfl,trivial,rfl,trivial,rfl,trivial,rfl,trivial,rfl,trivial,trivial⟩) ?_
          exact hk49 (v24,v25) h
      · refine qa5 ?_
        refine qa7 (qa2 [] (l:=[(0,.rop [d0_0,.sl false (a_.qa8.map qa4),.sl false (a_.Times.map qa4)] 1),(1,.rop [d1_0,.sl false (b_.qa8.map qa4),.sl false (b_.Times.map qa4)] 1),(2,.d (.fl .f32 low_)),(3,.d (.fl .f32 high_)),(4,.d (.int .i64 count_)),(12,.d (.fl .f32 v24)),(13,.d (.bool v25)),(16,.d (.fl .f32 x50.1)),(17,.d (.bool x50.2)),(19,.d (.int .i64 (w64 (count_ + (1:Int))))),(20,.d (.int .i64 v26))]) (objs:=[]) rfl (by simp) rfl (by trivial) ⟨rfl,trivial,rfl,trivial,rfl,trivial,rfl,trivial,rfl,trivial,rfl,trivial,rfl,trivial,rfl,trivial,rfl,trivial,rfl,trivial,rfl,trivial,trivial⟩) ?_
        refine qa1 ?_
        refine qa0 hτ rfl rfl rfl ?_
        refine qa0 hτ rfl rfl rfl ?_
        refine qb4 42 rfl (fun hb58=>?_) (fun hb58=>?_)
        · have h:=qbn h hb58
          refine qa0 hτ rfl rfl rfl ?_
          refine qa0 hτ rfl rfl rfl ?_
          refine qa0 hτ rfl rfl rfl ?_
          refine qb4 45 rfl (fun hb59=>?_) (fun hb59=>?_)
          · have hb59:=qgh hb59
            have h:=qbm h hb59
            refine qa6 rfl rfl ?_
            refine qa6 rfl rfl ?_
            refine qa6 rfl rfl ?_
            refine qa0 hτ rfl rfl rfl ?_
            refine qa0 hτ rfl rfl rfl ?_
            refine qa3 ?_
            refine qa7 (qa2 [] (l:=[(0,.rop [d0_0,.sl false (a_.qa8.map qa4),.sl false (a_.Times.map qa4)] 1),(1,.rop [d1_0,.sl false (b_.qa8.map qa4),.sl false (b_.Times.map qa4)] 1),(2,.d (.fl .f32 low_)),(3,.d (.fl .f32 high_)),(4,.d (.int .i64 count_)),(12,.d (.fl .f32 v24)),(13,.d (.bool v25)),(16,.d (.fl .f32 x50.1)),(19,.d (.int .i64 (w64 (count_ + (1:Int))))),(20,.d (.int .i64 v26)),(50,.d (.bool true))]) (objs:=[]) rfl (by simp) rfl (by trivial) ⟨rfl,trivial,rfl,trivial,rfl,trivial,rfl,trivial,rfl,trivial,rfl,trivial,rfl,trivial,rfl,trivial,rfl,trivial,rfl,trivial,rfl,trivial,trivial⟩) ?_
            exact hk57 true h
          · have hb59:=qgg hb59
            have h:=qbn h hb59
            refine qa0 hτ rfl rfl rfl ?_
            refine qa0 hτ rfl rfl rfl ?_
            refine qa0 hτ rfl rfl rfl ?_
            refine qa0 hτ rfl rfl rfl ?_
            refine qa0 hτ rfl rfl rfl ?_
            refine qa3 ?_
            refine qa7 (qa2 [] (l:=[(0,.rop [d0_0,.sl false (a_.qa8.map qa4),.sl false (a_.Times.map qa4)] 1),(1,.rop [d1_0,.sl false (b_.qa8.map qa4),.sl false (b_.Times.map qa4)] 1),(2,.d (.fl .f32 low_)),(3,.d (.fl .f32 high_)),(4,.d (.int .i64 count_)),(12,.d (.fl .f32 v24)),(13,.d (.bool v25)),(16,.d (.fl .f32 x50.1)),(19,.d (.int .i64 (w64 (count_ + (1:Int))))),(20,.d (.int .i64 v26)),(50,.d (.bool (fcmp .lss .f32 x50.1 v24)))]) (objs:=[]) rfl (by simp) rfl (by trivial) ⟨rfl,trivial,rfl,trivial,rfl,trivial,rfl,trivial,rfl,trivial,rfl,trivial,rfl,trivial,rfl,trivial,rfl,trivial,rfl,trivial,rfl,trivial,trivial⟩) ?_
            exact hk57 (fcmp .lss .f32 x50.1 v24) h
        · have h:=qbm h hb58
          refine qa6 rfl rfl ?_
          refine qa6 rfl rfl ?_
          refine qa6 rfl rfl ?_
          refine qa6 rfl rfl ?_
          refine qa6 rfl rfl ?_
          refine qa6 rfl rfl ?_
          refine qa6 rfl rfl ?_
          refine qa0 hτ rfl rfl rfl ?_
          refine qa3 ?_
          refine qa7 (qa2 [] (l:=[(0,.rop [d0_0,.sl false (a_.qa8.map qa4),.sl false (a_.Times.map qa4)] 1),(1,.rop [d1_0,.sl false (b_.qa8.map qa4),.sl false (b_.Times.map qa4)] 1),(2,.d (.fl .f32 low_)),(3,.d (.fl .f32 high_)),(4,.d (.int .i64 count_)),(12,.d (.fl .f32 v24)),(13,.d (.bool v25)),(16,.d (.fl .f32 x50.1)),(19,.d (.int .i64 (w64 (count_ + (1:Int))))),(20,.d (.int .i64 v26)),(50,.d (.bool false))]) (objs:=[]) rfl (by simp) rfl (by trivial) ⟨rfl,trivial,rfl,trivial,rfl,trivial,rfl,trivial,rfl,trivial,rfl,trivial,rfl,trivial,rfl,trivial,rfl,trivial,rfl,trivial,rfl,trivial,trivial⟩) ?_
          exact hk57 false h
  · have h:=if_f h hc39
    refine qcr ?_
    refine qa5 ?_
    refine qa1 ?_
    refine qa0 hτ rfl rfl rfl ?_
    refine qa0 hτ rfl rfl rfl ?_
    refine qa0 hτ rfl rfl rfl ?_
    refine qa0 hτ rfl rfl rfl ?_
    refine qa3 ?_
    refine qa7 (qa2 [] (l:=[(10,.d (.fl .f32 v24)),(11,.d (.bool v25))]) (objs:=[]) rfl (by simp) rfl (by trivial) ⟨rfl,trivial,rfl,trivial,trivial⟩) ?_
    refine qar ?_
    have hr:=Option.some.inj h
    subst hr
    exact qah (.inr rfl) [] (objs':=[]) (new:=[]) rfl (by simp) (by simp) rfl (by trivial) rfl rfl (by trivial) (fun _=>⟨by simp [V.flat,V.qbk,V.qbf,D.flat],qal⟩) ⟨rfl,rfl,rfl⟩
theorem impl_grade_ok (n:Nat) (d0_0:D) (d1_0:D) (a_:qbq) (b_:qbq) (low_:Nat) (high_:Nat) (count_:Int) {r:Nat × Bool} (h:qgr n a_ b_ low_ high_ count_ = some r):qb9 prog false 71 [.rop [d0_0,.sl false (a_.qa8.map qa4),.sl false (a_.Times.map qa4)] 1,.rop [d1_0,.sl false (b_.qa8.map qa4),.sl false (b_.Times.map qa4)] 1,.d (.fl .f32 low_),.d (.fl .f32 high_),.d (.int .i64 count_)] [] (fun v o new=>v = .tup [.d (.fl .f32 r.1),.d (.bool r.2)]∧o = []∧new = []):=impl_grade_ok_fr0 false n d0_0 d1_0 a_ b_ low_ high_ count_ h
end Go.Proofs.Ytmllgpkgjniomaa.AWN

set_option maxHeartbeats 2000000
namespace Go.Proofs.Ytmllgpkgjniomaa.AWN
open Go Go.Proofs.Try
def qf6 (n:Nat) (k146:List (List Int)→Int→Option (List (List Int) × Bool)) (v110:Int) (v180:List (List Int)):Option (List (List Int) × Bool) :=
  k146 v180 (w64 (v110 + (1:Int)))
def qch (n:Nat) (k215:List (List Int)→Int→Option (List (List Int) × Bool)) (v197:Int) (v231:List (List Int)):Option (List (List Int) × Bool) :=
  k215 v231 (w64 (v197 + (1:Int)))
def qdy (n:Nat) (v110:Int) (k215:List (List Int)→Int→Option (List (List Int) × Bool)) (v196:List (List Int)) (v197:Int) (v244:Bool):Option (List (List Int) × Bool) :=
  if v244 = true then
    grd (room (v196.length + 1) 24) <|
    qch n k215 v197 (v196 ++ [[v110,v197]])
  else
    qch n k215 v197 v196
def qf7 (n:Nat) (devices_:List qas) (low_:Nat) (high_:Nat) (margin_:Nat) (count_:Int) (v110:Int) (k215:List (List Int)→Int→Option (List (List Int) × Bool)) (v196:List (List Int)) (v197:Int):Option (List (List Int) × Bool) :=
  (getI devices_ v197).bind fun x239 =>
  (getI devices_ v110).bind fun x240 =>
  (qgr n x239.qcp x240.qcp low_ high_ count_).bind fun x241 =>
  if x241.2 = true then
    qdy n v110 k215 v196 v197 (fcmp .lss .f32 x241.1 margin_)
  else
    qdy n v110 k215 v196 v197 false
def qd4 (n:Nat) (devices_:List qas) (low_:Nat) (high_:Nat) (margin_:Nat) (count_:Int) (v110:Int) (k215:List (List Int)→Int→Option (List (List Int) × Bool)) (v196:List (List Int)) (v197:Int) (v256:Bool):Option (List (List Int) × Bool) :=
  if v256 = true then
    qch n k215 v197 v196
  else
    qf7 n devices_ low_ high_ margin_ count_ v110 k215 v196 v197
def qb6 (n:Nat) (f_:qax) (devices_:List qas) (low_:Nat) (high_:Nat) (margin_:Nat) (count_:Int) (k146:List (List Int)→Int→Option (List (List Int) × Bool)) (v110:Int):Nat→List (List Int)→Int→Option (List (List Int) × Bool)
  | 0,_,_=>none
  | m214 + 1,v196,v197 =>
    if v197 < (devices_.length:Int) then
      if v110 = v197 then
        qd4 n devices_ low_ high_ margin_ count_ v110 (qb6 n f_ devices_ low_ high_ margin_ count_ k146 v110 m214) v196 v197 true
      else
        (getI devices_ v197).bind fun x260 =>
        (getI devices_ v110).bind fun x261 =>
        (qe7 n f_ x260.Bus).bind fun x262 =>
        (qet n x262 x261.Bus).bind fun x263 =>
        qd4 n devices_ low_ high_ margin_ count_ v110 (qb6 n f_ devices_ low_ high_ margin_ count_ k146 v110 m214) v196 v197 (!x263)
    else
      qf6 n k146 v110 v196
def qay (n:Nat) (f_:qax) (devices_:List qas) (low_:Nat) (high_:Nat) (margin_:Nat) (count_:Int):Nat→List (List Int)→Int→Option (List (List Int) × Bool)
  | 0,_,_=>none
  | m145 + 1,v109,v110 =>
    if v110 < (devices_.length:Int) then
      qb6 n f_ devices_ low_ high_ margin_ count_ (qay n f_ devices_ low_ high_ margin_ count_ m145) v110 n v109 (0:Int)
    else
      some (v109,true)
def qf5 (n:Nat) (f_:qax) (devices_:List qas) (low_:Nat) (high_:Nat) (margin_:Nat) (count_:Int):Option (List (List Int) × Bool) :=
  qay n f_ devices_ low_ high_ margin_ count_ n ([]:List (List Int)) (0:Int)
def qd5 (n:Nat) (f_:qax) (devices_:List qas) (low_:Nat) (high_:Nat) (margin_:Nat) (count_:Int) (v271:Bool):Option (List (List Int) × Bool) :=
  if v271 = true then
    some (([]:List (List Int)),false)
  else
    qf5 n f_ devices_ low_ high_ margin_ count_
def qgq (n:Nat) (f_:qax) (devices_:List qas) (low_:Nat) (high_:Nat) (margin_:Nat) (count_:Int):Option (List (List Int) × Bool) :=
  (qdc n f_ devices_).bind fun x274 =>
  if x274 = true then
    (qju n [low_,high_,margin_]).bind fun x276 =>
    if x276 = true then
      (qg6 n count_ (1:Int) (100:Int)).bind fun x278 =>
      qd5 n f_ devices_ low_ high_ margin_ count_ (!x278)
    else
      qd5 n f_ devices_ low_ high_ margin_ count_ true
  else
    qd5 n f_ devices_ low_ high_ margin_ count_ true
theorem impl_UnsafePairs_ok (n:Nat) (f_:qax) (devices_:List qas) (low_:Nat) (high_:Nat) (margin_:Nat) (count_:Int) {r:List (List Int) × Bool} (h:qgq n f_ devices_ low_ high_ margin_ count_ = some r):qb9 prog false 31 [.agg [.d (.cx .f32 f_.Source.A.re f_.Source.A.im),.d (.cx .f32 f_.Source.B.re f_.Source.B.im),.d (.cx .f32 f_.Source.C.re f_.Source.C.im),.d (.sl false (f_.qaf.map qai))],.d (.sl false (devices_.map qa9)),.d (.fl .f32 low_),.d (.fl .f32 high_),.d (.fl .f32 margin_),.d (.int .i64 count_)] [] (fun v o new=>v = .tup [.row 0 r.1.length 0 r.1.length,.d (.bool r.2)]∧o = []∧new = [.row 1 (r.1.map qdg)]):=by
  refine qak hτ func31 rfl (by simp) (by simp) ?_
  unfold qgq at h
  refine qa5 ?_
  refine qa1 ?_
  refine qav hτ rfl rfl rfl ?_
  refine qa0 hτ rfl rfl rfl ?_
  refine qa0 hτ rfl rfl rfl ?_
  refine qa3 ?_
  refine qb8 (ι:=Unit) (fun _=>St.of [(1,.d (.sl false (devices_.map qa9))),(2,.d (.fl .f32 low_)),(3,.d (.fl .f32 high_)),(4,.d (.fl .f32 margin_)),(5,.d (.int .i64 count_)),(6,.ptr 0 0)] [.box [.d (.cx .f32 f_.Source.A.re f_.Source.A.im),.d (.cx .f32 f_.Source.B.re f_.Source.B.im),.d (.cx .f32 f_.Source.C.re f_.Source.C.im),.d (.sl false (f_.qaf.map qai))]] f31.ntmps 0) (fun _=>qf5 n f_ devices_ low_ high_ margin_ count_ = some r) ?_ (fun hk264=>?_)
  · rintro ⟨⟩ h
    replace h:qf5 n f_ devices_ low_ high_ margin_ count_ = some r:=h
    unfold qf5 at h
    refine qa5 ?_
    refine qa1 ?_
    refine qav hτ rfl rfl rfl ?_
    refine qa0 hτ rfl rfl rfl ?_
    refine qa3 ?_
    refine qa5 ?_
    refine qa5 ?_
    refine qa1 ?_
    refine qa0 hτ rfl rfl rfl ?_
    refine qa0 hτ (v:=.d (.int .i64 (devices_.length:Int))) rfl rfl (Eq.trans rfl (qdb (f:=qa9) devices_)) ?_
    refine qa0 hτ rfl rfl rfl ?_
    refine qa3 ?_
    refine qaz ?_
    refine qcs (ι:=Nat × List (List Int) × Int) (fun (m145,v109,v110)=>St.of [(1,.d (.sl false (devices_.map qa9))),(2,.d (.fl .f32 low_)),(3,.d (.fl .f32 high_)),(4,.d (.fl .f32 margin_)),(5,.d (.int .i64 count_)),(6,.ptr 0 0),(14,.row 1 v109.length 0 v109.length),(38,.d (.int .i64 (devices_.length:Int))),(39,.d (.int .i64 v110))] [.box [.d (.cx .f32 f_.Source.A.re f_.Source.A.im),.d (.cx .f32 f_.Source.B.re f_.Source.B.im),.d (.cx .f32 f_.Source.C.re f_.Source.C.im),.d (.sl false (f_.qaf.map qai))],.row 1 (v109.map qdg)] f31.ntmps 0) (fun (m145,v109,v110)=>qay n f_ devices_ low_ high_ margin_ count_ m145 v109 v110 = some r) (fun x=>x.1) (n,([]:List (List Int)),(0:Int)) h (qa2 [0,1] (l:=[(1,.d (.sl false (devices_.map qa9))),(2,.d (.fl .f32 low_)),(3,.d (.fl .f32 high_)),(4,.d (.fl .f32 margin_)),(5,.d (.int .i64 count_)),(6,.ptr 0 0),(14,.row 1 (([]:List (List Int)).length) 0 (([]:List (List Int)).length)),(38,.d (.int .i64 (devices_.length:Int))),(39,.d (.int .i64 (0:Int)))]) (objs:=[.box [.d (.cx .f32 f_.Source.A.re f_.Source.A.im),.d (.cx .f32 f_.Source.B.re f_.Source.B.im),.d (.cx .f32 f_.Source.C.re f_.Source.C.im),.d (.sl false (f_.qaf.map qai))],.row 1 (([]:List (List Int)).map qdg)]) rfl (by simp) rfl (by trivial) ⟨rfl,trivial,rfl,trivial,rfl,trivial,rfl,trivial,rfl,trivial,rfl,trivial,rfl,trivial,rfl,trivial,rfl,trivial,trivial⟩) ?_
    rintro ⟨m145,v109,v110⟩ h
    replace h:qay n f_ devices_ low_ high_ margin_ count_ m145 v109 v110 = some r:=h
    rcases m145 with _ | m145
    · rw [qay] at h;cases h
    rw [qay] at h
    refine qa5 ?_
    refine qa1 ?_
    refine qa0 hτ rfl rfl rfl ?_
    refine qa3 ?_
    refine qa5 ?_
    refine qao rfl (fun hc147=>?_) (fun hc147=>?_)
    · have h:=if_t h hc147
      refine qap ?_
      refine qb8 (ι:=List (List Int)) (fun v180=>St.of [(1,.d (.sl false (devices_.map qa9))),(2,.d (.fl .f32 low_)),(3,.d (.fl .f32 high_)),(4,.d (.fl .f32 margin_)),(5,.d (.int .i64 count_)),(6,.ptr 0 0),(14,.row 1 v180.length 0 v180.length),(38,.d (.int .i64 (devices_.length:Int))),(39,.d (.int .i64 v110))] [.box [.d (.cx .f32 f_.Source.A.re f_.Source.A.im),.d (.cx .f32 f_.Source.B.re f_.Source.B.im),.d (.cx .f32 f_.Source.C.re f_.Source.C.im),.d (.sl false (f_.qaf.map qai))],.row 1 (v180.map qdg)] f31.ntmps 0) (fun v180=>qf6 n (qay n f_ devices_ low_ high_ margin_ count_ m145) v110 v180 = some r) ?_ (fun hk181=>?_)
      · rintro v180 h
        replace h:qf6 n (qay n f_ devices_ low_ high_ margin_ count_ m145) v110 v180 = some r:=h
        unfold qf6 at h
        refine qa1 ?_
        refine qa0 hτ rfl rfl rfl ?_
        refine qa0 hτ rfl rfl rfl ?_
        refine qa3 ?_
        exact ⟨(m145,v180,(w64 (v110 + (1:Int)))),h,Nat.lt_succ_self m145,(qa2 [0,1] (l:=[(1,.d (.sl false (devices_.map qa9))),(2,.d (.fl .f32 low_)),(3,.d (.fl .f32 high_)),(4,.d (.fl .f32 margin_)),(5,.d (.int .i64 count_)),(6,.ptr 0 0),(14,.row 1 v180.length 0 v180.length),(38,.d (.int .i64 (devices_.length:Int))),(39,.d (.int .i64 (w64 (v110 + (1:Int)))))]) (objs:=[.box [.d (.cx .f32 f_.Source.A.re f_.Source.A.im),.d (.cx .f32 f_.Source.B.re f_.Source.B.im),.d (.cx .f32 f_.Source.C.re f_.Source.C.im),.d (.sl false (f_.qaf.map qai))],.row 1 (v180.map qdg)]) rfl (by simp) rfl (by trivial) ⟨rfl,trivial,rfl,trivial,rfl,trivial,rfl,trivial,rfl,trivial,rfl,trivial,rfl,trivial,rfl,trivial,rfl,trivial,trivial⟩)⟩
      · refine qa5 ?_
        refine qaz ?_
        refine qa5 ?_
        refine qa1 ?_
        refine qa0 hτ rfl rfl rfl ?_
        refine qa0 hτ rfl rfl rfl ?_
        refine qa3 ?_
        refine qa5 ?_
        refine qa1 ?_
        refine qa0 hτ rfl rfl rfl ?_
        refine qa0 hτ (v:=.d (.int .i64 (devices_.length:Int))) rfl rfl (Eq.trans rfl (qdb (f:=qa9) devices_)) ?_
        refine qa0 hτ rfl rfl rfl ?_
        refine qa3 ?_
        refine qaz ?_
        refine qcs (ι:=Nat × List (List Int) × Int) (fun (m214,v196,v197)=>St.of [(1,.d (.sl false (devices_.map qa9))),(2,.d (.fl .f32 low_)),(3,.d (.fl .f32 high_)),(4,.d (.fl .f32 margin_)),(5,.d (.int .i64 count_)),(6,.ptr 0 0),(14,.row 1 v196.length 0 v196.length),(15,.d (.int .i64 v110)),(38,.d (.int .i64 (devices_.length:Int))),(39,.d (.int .i64 v110)),(43,.d (.int .i64 (devices_.length:Int))),(44,.d (.int .i64 v197))] [.box [.d (.cx .f32 f_.Source.A.re f_.Source.A.im),.d (.cx .f32 f_.Source.B.re f_.Source.B.im),.d (.cx .f32 f_.Source.C.re f_.Source.C.im),.d (.sl false (f_.qaf.map qai))],.row 1 (v196.map qdg)] f31.ntmps 0) (fun (m214,v196,v197)=>qb6 n f_ devices_ low_ high_ margin_ count_ (qay n f_ devices_ low_ high_ margin_ count_ m145) v110 m214 v196 v197 = some r) (fun x=>x.1) (n,v109,(0:Int)) h (qa2 [0,1] (l:=[(1,.d (.sl false (devices_.map qa9))),(2,.d (.fl .f32 low_)),(3,.d (.fl .f32 high_)),(4,.d (.fl .f32 margin_)),(5,.d (.int .i64 count_)),(6,.ptr 0 0),(14,.row 1 v109.length 0 v109.length),(15,.d (.int .i64 v110)),(38,.d (.int .i64 (devices_.length:Int))),(39,.d (.int .i64 v110)),(43,.d (.int .i64 (devices_.length:Int))),(44,.d (.int .i64 (0:Int)))]) (objs:=[.box [.d (.cx .f32 f_.Source.A.re f_.Source.A.im),.d (.cx .f32 f_.Source.B.re f_.Source.B.im),.d (.cx .f32 f_.Source.C.re f_.Source.C.im),.d (.sl false (f_.qaf.map qai))],.row 1 (v109.map qdg)]) rfl (by simp) rfl (by trivial) ⟨rfl,trivial,rfl,trivial,rfl,trivial,rfl,trivial,rfl,trivial,rfl,trivial,rfl,trivial,rfl,trivial,rfl,trivial,rfl,trivial,rfl,trivial,rfl,trivial,trivial⟩) ?_
        rintro ⟨m214,v196,v197⟩ h
        replace h:qb6 n f_ devices_ low_ high_ margin_ count_ (qay n f_ devices_ low_ high_ margin_ count_ m145) v110 m214 v196 v197 = some r:=h
        rcases m214 with _ | m214
        · rw [qb6] at h;cases h
        rw [qb6] at h
        refine qa5 ?_
        refine qa1 ?_
        refine qa0 hτ rfl rfl rfl ?_
        refine qa3 ?_
        refine qa5 ?_
        refine qao rfl (fun hc216=>?_) (fun hc216=>?_)
        · have h:=if_t h hc216
          refine qap ?_
          refine qb8 (ι:=List (List Int)) (fun v231=>St.of [(1,.d (.sl false (devices_.map qa9))),(2,.d (.fl .f32 low_)),(3,.d (.fl .f32 high_)),(4,.d (.fl .f32 margin_)),(5,.d (.int .i64 count_)),(6,.ptr 0 0),(14,.row 1 v231.length 0 v231.length),(15,.d (.int .i64 v110)),(38,.d (.int .i64 (devices_.length:Int))),(39,.d (.int .i64 v110)),(43,.d (.int .i64 (devices_.length:Int))),(44,.d (.int .i64 v197))] [.box [.d (.cx .f32 f_.Source.A.re f_.Source.A.im),.d (.cx .f32 f_.Source.B.re f_.Source.B.im),.d (.cx .f32 f_.Source.C.re f_.Source.C.im),.d (.sl false (f_.qaf.map qai))],.row 1 (v231.map qdg)] f31.ntmps 0) (fun v231=>qch n (qb6 n f_ devices_ low_ high_ margin_ count_ (qay n f_ devices_ low_ high_ margin_ count_ m145) v110 m214) v197 v231 = some r) ?_ (fun hk232=>?_)
          · rintro v231 h
            replace h:qch n (qb6 n f_ devices_ low_ high_ margin_ count_ (qay n f_ devices_ low_ high_ margin_ count_ m145) v110 m214) v197 v231 = some r:=h
            unfold qch at h
            refine qa1 ?_
            refine qa0 hτ rfl rfl rfl ?_
            refine qa0 hτ rfl rfl rfl ?_
            refine qa3 ?_
            exact ⟨(m214,v231,(w64 (v197 + (1:Int)))),h,Nat.lt_succ_self m214,(qa2 [0,1] (l:=[(1,.d (.sl false (devices_.map qa9))),(2,.d (.fl .f32 low_)),(3,.d (.fl .f32 high_)),(4,.d (.fl .f32 margin_)),(5,.d (.int .i64 count_)),(6,.ptr 0 0),(14,.row 1 v231.length 0 v231.length),(15,.d (.int .i64 v110)),(38,.d (.int .i64 (devices_.length:Int))),(39,.d (.int .i64 v110)),(43,.d (.int .i64 (devices_.length:Int))),(44,.d (.int .i64 (w64 (v197 + (1:Int)))))]) (objs:=[.box [.d (.cx .f32 f_.Source.A.re f_.Source.A.im),.d (.cx .f32 f_.Source.B.re f_.Source.B.im),.d (.cx .f32 f_.Source.C.re f_.Source.C.im),.d (.sl false (f_.qaf.map qai))],.row 1 (v231.map qdg)]) rfl (by simp) rfl (by trivial) ⟨rfl,trivial,rfl,trivial,rfl,trivial,rfl,trivial,rfl,trivial,rfl,trivial,rfl,trivial,rfl,trivial,rfl,trivial,rfl,trivial,rfl,trivial,rfl,trivial,trivial⟩)⟩
          · refine qa5 ?_
            refine qaz ?_
            refine qa5 ?_
            refine qa1 ?_
            refine qa0 hτ rfl rfl rfl ?_
            refine qa0 hτ rfl rfl rfl ?_
            refine qa3 ?_
            refine qb8 (ι:=Unit) (fun _=>St.of [(1,.d (.sl false (devices_.map qa9))),(2,.d (.fl .f32 low_)),(3,.d (.fl .f32 high_)),(4,.d (.fl .f32 margin_)),(5,.d (.int .i64 count_)),(6,.ptr 0 0),(14,.row 1 v196.length 0 v196.length),(15,.d (.int .i64 v110)),(16,.d (.int .i64 v197)),(38,.d (.int .i64 (devices_.length:Int))),(39,.d (.int .i64 v110)),(43,.d (.int .i64 (devices_.length:Int))),(44,.d (.int .i64 v197))] [.box [.d (.cx .f32 f_.Source.A.re f_.Source.A.im),.d (.cx .f32 f_.Source.B.re f_.Source.B.im),.d (.cx .f32 f_.Source.C.re f_.Source.C.im),.d (.sl false (f_.qaf.map qai))],.row 1 (v196.map qdg)] f31.ntmps 0) (fun _=>qf7 n devices_ low_ high_ margin_ count_ v110 (qb6 n f_ devices_ low_ high_ margin_ count_ (qay n f_ devices_ low_ high_ margin_ count_ m145) v110 m214) v196 v197 = some r) ?_ (fun hk249=>?_)
            · rintro ⟨⟩ h
              replace h:qf7 n devices_ low_ high_ margin_ count_ v110 (qb6 n f_ devices_ low_ high_ margin_ count_ (qay n f_ devices_ low_ high_ margin_ count_ m145) v110 m214) v196 v197 = some r:=h
              unfold qf7 at h
              refine qa5 ?_
              refine qel ?_
              refine qab hτ [] 0 rfl rfl rfl rfl rfl ?_
              refine qab hτ [] 1 rfl rfl rfl rfl rfl ?_
              refine qaa h fun x239 hx239 h=>?_
              refine qc8 hτ [] 2 rfl rfl rfl rfl rfl (qaw hx239).1 (qb5 hx239) rfl ?_
              refine qab hτ [] 3 rfl rfl rfl rfl rfl ?_
              refine qab hτ [] 4 rfl rfl rfl rfl rfl ?_
              refine qab hτ [] 5 rfl rfl rfl rfl rfl ?_
              refine qaa h fun x240 hx240 h=>?_
              refine qc8 hτ [] 6 rfl rfl rfl rfl rfl (qaw hx240).1 (qb5 hx240) rfl ?_
              refine qab hτ [] 7 rfl rfl rfl rfl rfl ?_
              refine qab hτ [] 8 rfl rfl rfl rfl rfl ?_
              refine qab hτ [] 9 rfl rfl rfl rfl rfl ?_
              refine qab hτ [] 10 rfl rfl rfl rfl rfl ?_
              refine qaa h fun x241 hx241 h=>?_
              refine qhw hτ false [] [0,1] 11 rfl rfl rfl rfl (qaj func71 rfl rfl) rfl rfl (by simp) ⟨trivial,trivial,trivial,trivial,trivial,trivial⟩ (by trivial) (impl_grade_ok n (.int .i64 x239.Bus) (.int .i64 x240.Bus) x239.qcp x240.qcp low_ high_ count_ hx241) ⟨rfl,rfl,trivial⟩ ?_
              refine qab hτ [] 12 rfl rfl rfl rfl rfl ?_
              refine qab hτ [] 13 rfl rfl rfl rfl rfl ?_
              refine qab hτ [] 14 rfl rfl rfl rfl rfl ?_
              refine qab hτ [] 15 rfl rfl rfl rfl rfl ?_
              refine qab hτ [] 16 rfl rfl rfl rfl rfl ?_
              refine qcy mixed (by kernel_rfl) ?_
              refine qb8 (ι:=Bool) (fun v244=>St.of [(1,.d (.sl false (devices_.map qa9))),(2,.d (.fl .f32 low_)),(3,.d (.fl .f32 high_)),(4,.d (.fl .f32 margin_)),(5,.d (.int .i64 count_)),(6,.ptr 0 0),(14,.row 1 v196.length 0 v196.length),(15,.d (.int .i64 v110)),(16,.d (.int .i64 v197)),(38,.d (.int .i64 (devices_.length:Int))),(39,.d (.int .i64 v110)),(43,.d (.int .i64 (devices_.length:Int))),(44,.d (.int .i64 v197)),(85,.d (.bool v244))] [.box [.d (.cx .f32 f_.Source.A.re f_.Source.A.im),.d (.cx .f32 f_.Source.B.re f_.Source.B.im),.d (.cx .f32 f_.Source.C.re f_.Source.C.im),.d (.sl false (f_.qaf.map qai))],.row 1 (v196.map qdg)] f31.ntmps 0) (fun v244=>qdy n v110 (qb6 n f_ devices_ low_ high_ margin_ count_ (qay n f_ devices_ low_ high_ margin_ count_ m145) v110 m214) v196 v197 v244 = some r) ?_ (fun hk247=>?_)
              · rintro v244 h
                replace h:qdy n v110 (qb6 n f_ devices_ low_ high_ margin_ count_ (qay n f_ devices_ low_ high_ margin_ count_ m145) v110 m214) v196 v197 v244 = some r:=h
                unfold qdy at h
                refine qao rfl (fun hc245=>?_) (fun hc245=>?_)
                · have h:=qbn h hc245
                  refine qa1 ?_
                  refine qa0 hτ rfl rfl rfl ?_
                  refine qa0 hτ rfl rfl rfl ?_
                  refine qa0 hτ rfl rfl rfl ?_
                  refine qav hτ rfl rfl rfl ?_
                  refine qat (qa2 [0,1] (l:=[(1,.d (.sl false (devices_.map qa9))),(2,.d (.fl .f32 low_)),(3,.d (.fl .f32 high_)),(4,.d (.fl .f32 margin_)),(5,.d (.int .i64 count_)),(6,.ptr 0 0),(15,.d (.int .i64 v110)),(38,.d (.int .i64 (devices_.length:Int))),(39,.d (.int .i64 v110)),(43,.d (.int .i64 (devices_.length:Int))),(44,.d (.int .i64 v197)),(86,.row 1 v196.length 0 v196.length),(89,.d (.sl false ([v110,v197].map qac)))]) (objs:=[.box [.d (.cx .f32 f_.Source.A.re f_.Source.A.im),.d (.cx .f32 f_.Source.B.re f_.Source.B.im),.d (.cx .f32 f_.Source.C.re f_.Source.C.im),.d (.sl false (f_.qaf.map qai))],.row 1 (v196.map qdg)]) rfl (by simp) rfl (by trivial) ⟨rfl,trivial,rfl,trivial,rfl,trivial,rfl,trivial,rfl,trivial,rfl,trivial,rfl,trivial,rfl,trivial,rfl,trivial,rfl,trivial,rfl,trivial,rfl,trivial,(qf0 (f:=qac) [v110,v197] rfl rfl rfl),(qdo (f:=qac) [v110,v197] rfl rfl rfl),trivial⟩) ?_
                  refine qav hτ rfl rfl rfl ?_
                  refine qf2 h fun hg246 h=>?_
                  refine qih hτ rfl rfl (Eq.trans rfl (or_append (f:=qdg) v196 [[v110,v197]] rfl)) ⟨⟨rfl,Nat.le_of_ble_eq_true rfl⟩,qbx _,rfl,rfl,hg246,by decide,(all1 rfl)⟩ ?_
                  refine qa0 hτ rfl rfl rfl ?_
                  refine qa3 ?_
                  refine qa7 (qa2 [0,1] (l:=[(1,.d (.sl false (devices_.map qa9))),(2,.d (.fl .f32 low_)),(3,.d (.fl .f32 high_)),(4,.d (.fl .f32 margin_)),(5,.d (.int .i64 count_)),(6,.ptr 0 0),(14,.row 1 ((v196 ++ [[v110,v197]]).length) 0 ((v196 ++ [[v110,v197]]).length)),(15,.d (.int .i64 v110)),(38,.d (.int .i64 (devices_.length:Int))),(39,.d (.int .i64 v110)),(43,.d (.int .i64 (devices_.length:Int))),(44,.d (.int .i64 v197))]) (objs:=[.box [.d (.cx .f32 f_.Source.A.re f_.Source.A.im),.d (.cx .f32 f_.Source.B.re f_.Source.B.im),.d (.cx .f32 f_.Source.C.re f_.Source.C.im),.d (.sl false (f_.qaf.map qai))],.row 1 ((v196 ++ [[v110,v197]]).map qdg)]) rfl (by simp) rfl (by trivial) ⟨rfl,trivial,rfl,trivial,rfl,trivial,rfl,trivial,rfl,trivial,rfl,trivial,rfl,trivial,rfl,trivial,rfl,trivial,rfl,trivial,rfl,trivial,rfl,trivial,trivial⟩) ?_
                  exact hk232 (v196 ++ [[v110,v197]]) h
                · have h:=qbm h hc245
                  refine qap ?_
                  refine qa7 (qa2 [0,1] (l:=[(1,.d (.sl false (devices_.map qa9))),(2,.d (.fl .f32 low_)),(3,.d (.fl .f32 high_)),(4,.d (.fl .f32 margin_)),(5,.d (.int .i64 count_)),(6,.ptr 0 0),(14,.row 1 v196.length 0 v196.length),(15,.d (.int .i64 v110)),(38,.d (.int .i64 (devices_.length:Int))),(39,.d (.int .i64 v110)),(43,.d (.int .i64 (devices_.length:Int))),(44,.d (.int .i64 v197))]) (objs:=[.box [.d (.cx .f32 f_.Source.A.re f_.Source.A.im),.d (.cx .f32 f_.Source.B.re f_.Source.B.im),.d (.cx .f32 f_.Source.C.re f_.Source.C.im),.d (.sl false (f_.qaf.map qai))],.row 1 (v196.map qdg)]) rfl (by simp) rfl (by trivial) ⟨rfl,trivial,rfl,trivial,rfl,trivial,rfl,trivial,rfl,trivial,rfl,trivial,rfl,trivial,rfl,trivial,rfl,trivial,rfl,trivial,rfl,trivial,rfl,trivial,trivial⟩) ?_
                  exact hk232 v196 h
              · refine qa5 ?_
                refine qa7 (qa2 [0,1] (l:=[(1,.d (.sl false (devices_.map qa9))),(2,.d (.fl .f32 low_)),(3,.d (.fl .f32 high_)),(4,.d (.fl .f32 margin_)),(5,.d (.int .i64 count_)),(6,.ptr 0 0),(14,.row 1 v196.length 0 v196.length),(15,.d (.int .i64 v110)),(16,.d (.int .i64 v197)),(17,.d (.fl .f32 x241.1)),(18,.d (.bool x241.2)),(38,.d (.int .i64 (devices_.length:Int))),(39,.d (.int .i64 v110)),(43,.d (.int .i64 (devices_.length:Int))),(44,.d (.int .i64 v197))]) (objs:=[.box [.d (.cx .f32 f_.Source.A.re f_.Source.A.im),.d (.cx .f32 f_.Source.B.re f_.Source.B.im),.d (.cx .f32 f_.Source.C.re f_.Source.C.im),.d (.sl false (f_.qaf.map qai))],.row 1 (v196.map qdg)]) rfl (by simp) rfl (by trivial) ⟨rfl,trivial,rfl,trivial,rfl,trivial,rfl,trivial,rfl,trivial,rfl,trivial,rfl,trivial,rfl,trivial,rfl,trivial,rfl,trivial,rfl,trivial,rfl,trivial,rfl,trivial,rfl,trivial,rfl,trivial,trivial⟩) ?_
                refine qa1 ?_
                refine qa0 hτ rfl rfl rfl ?_
                refine qa0 hτ rfl rfl rfl ?_
                refine qb4 81 rfl (fun hb248=>?_) (fun hb248=>?_)
                · have h:=qbn h hb248
                  refine qa0 hτ rfl rfl rfl ?_
                  refine qa0 hτ rfl rfl rfl ?_
                  refine qa0 hτ rfl rfl rfl ?_
                  refine qa0 hτ rfl rfl rfl ?_
                  refine qa3 ?_
                  refine qa7 (qa2 [0,1] (l:=[(1,.d (.sl false (devices_.map qa9))),(2,.d (.fl .f32 low_)),(3,.d (.fl .f32 high_)),(4,.d (.fl .f32 margin_)),(5,.d (.int .i64 count_)),(6,.ptr 0 0),(14,.row 1 v196.length 0 v196.length),(15,.d (.int .i64 v110)),(16,.d (.int .i64 v197)),(38,.d (.int .i64 (devices_.length:Int))),(39,.d (.int .i64 v110)),(43,.d (.int .i64 (devices_.length:Int))),(44,.d (.int .i64 v197)),(85,.d (.bool (fcmp .lss .f32 x241.1 margin_)))]) (objs:=[.box [.d (.cx .f32 f_.Source.A.re f_.Source.A.im),.d (.cx .f32 f_.Source.B.re f_.Source.B.im),.d (.cx .f32 f_.Source.C.re f_.Source.C.im),.d (.sl false (f_.qaf.map qai))],.row 1 (v196.map qdg)]) rfl (by simp) rfl (by trivial) ⟨rfl,trivial,rfl,trivial,rfl,trivial,rfl,trivial,rfl,trivial,rfl,trivial,rfl,trivial,rfl,trivial,rfl,trivial,rfl,trivial,rfl,trivial,rfl,trivial,rfl,trivial,rfl,trivial,trivial⟩) ?_
                  exact hk247 (fcmp .lss .f32 x241.1 margin_) h
                · have h:=qbm h hb248
                  refine qa6 rfl rfl ?_
                  refine qa6 rfl rfl ?_
                  refine qa6 rfl rfl ?_
                  refine qa0 hτ rfl rfl rfl ?_
                  refine qa3 ?_
                  refine qa7 (qa2 [0,1] (l:=[(1,.d (.sl false (devices_.map qa9))),(2,.d (.fl .f32 low_)),(3,.d (.fl .f32 high_)),(4,.d (.fl .f32 margin_)),(5,.d (.int .i64 count_)),(6,.ptr 0 0),(14,.row 1 v196.length 0 v196.length),(15,.d (.int .i64 v110)),(16,.d (.int .i64 v197)),(38,.d (.int .i64 (devices_.length:Int))),(39,.d (.int .i64 v110)),(43,.d (.int .i64 (devices_.length:Int))),(44,.d (.int .i64 v197)),(85,.d (.bool false))]) (objs:=[.box [.d (.cx .f32 f_.Source.A.re f_.Source.A.im),.d (.cx .f32 f_.Source.B.re f_.Source.B.im),.d (.cx .f32 f_.Source.C.re f_.Source.C.im),.d (.sl false (f_.qaf.map qai))],.row 1 (v196.map qdg)]) rfl (by simp) rfl (by trivial) ⟨rfl,trivial,rfl,trivial,rfl,trivial,rfl,trivial,rfl,trivial,rfl,trivial,rfl,trivial,rfl,trivial,rfl,trivial,rfl,trivial,rfl,trivial,rfl,trivial,rfl,trivial,rfl,trivial,trivial⟩) ?_
                  exact hk247 false h
            · refine qa5 ?_
              refine qb8 (ι:=Bool) (fun v256=>St.of [(1,.d (.sl false (devices_.map qa9))),(2,.d (.fl .f32 low_)),(3,.d (.fl .f32 high_)),(4,.d (.fl .f32 margin_)),(5,.d (.int .i64 count_)),(6,.ptr 0 0),(14,.row 1 v196.length 0 v196.length),(15,.d (.int .i64 v110)),(16,.d (.int .i64 v197)),(38,.d (.int .i64 (devices_.length:Int))),(39,.d (.int .i64 v110)),(43,.d (.int .i64 (devices_.length:Int))),(44,.d (.int .i64 v197)),(64,.d (.bool v256))] [.box [.d (.cx .f32 f_.Source.A.re f_.Source.A.im),.d (.cx .f32 f_.Source.B.re f_.Source.B.im),.d (.cx .f32 f_.Source.C.re f_.Source.C.im),.d (.sl false (f_.qaf.map qai))],.row 1 (v196.map qdg)] f31.ntmps 0) (fun v256=>qd4 n devices_ low_ high_ margin_ count_ v110 (qb6 n f_ devices_ low_ high_ margin_ count_ (qay n f_ devices_ low_ high_ margin_ count_ m145) v110 m214) v196 v197 v256 = some r) ?_ (fun hk258=>?_)
              · rintro v256 h
                replace h:qd4 n devices_ low_ high_ margin_ count_ v110 (qb6 n f_ devices_ low_ high_ margin_ count_ (qay n f_ devices_ low_ high_ margin_ count_ m145) v110 m214) v196 v197 v256 = some r:=h
                unfold qd4 at h
                refine qao rfl (fun hc257=>?_) (fun hc257=>?_)
                · have h:=qbn h hc257
                  refine qcr ?_
                  refine qa7 (qa2 [0,1] (l:=[(1,.d (.sl false (devices_.map qa9))),(2,.d (.fl .f32 low_)),(3,.d (.fl .f32 high_)),(4,.d (.fl .f32 margin_)),(5,.d (.int .i64 count_)),(6,.ptr 0 0),(14,.row 1 v196.length 0 v196.length),(15,.d (.int .i64 v110)),(38,.d (.int .i64 (devices_.length:Int))),(39,.d (.int .i64 v110)),(43,.d (.int .i64 (devices_.length:Int))),(44,.d (.int .i64 v197))]) (objs:=[.box [.d (.cx .f32 f_.Source.A.re f_.Source.A.im),.d (.cx .f32 f_.Source.B.re f_.Source.B.im),.d (.cx .f32 f_.Source.C.re f_.Source.C.im),.d (.sl false (f_.qaf.map qai))],.row 1 (v196.map qdg)]) rfl (by simp) rfl (by trivial) ⟨rfl,trivial,rfl,trivial,rfl,trivial,rfl,trivial,rfl,trivial,rfl,trivial,rfl,trivial,rfl,trivial,rfl,trivial,rfl,trivial,rfl,trivial,rfl,trivial,trivial⟩) ?_
                  exact hk232 v196 h
                · have h:=qbm h hc257
                  refine qap ?_
                  refine qa7 (qa2 [0,1] (l:=[(1,.d (.sl false (devices_.map qa9))),(2,.d (.fl .f32 low_)),(3,.d (.fl .f32 high_)),(4,.d (.fl .f32 margin_)),(5,.d (.int .i64 count_)),(6,.ptr 0 0),(14,.row 1 v196.length 0 v196.length),(15,.d (.int .i64 v110)),(16,.d (.int .i64 v197)),(38,.d (.int .i64 (devices_.length:Int))),(39,.d (.int .i64 v110)),(43,.d (.int .i64 (devices_.length:Int))),(44,.d (.int .i64 v197))]) (objs:=[.box [.d (.cx .f32 f_.Source.A.re f_.Source.A.im),.d (.cx .f32 f_.Source.B.re f_.Source.B.im),.d (.cx .f32 f_.Source.C.re f_.Source.C.im),.d (.sl false (f_.qaf.map qai))],.row 1 (v196.map qdg)]) rfl (by simp) rfl (by trivial) ⟨rfl,trivial,rfl,trivial,rfl,trivial,rfl,trivial,rfl,trivial,rfl,trivial,rfl,trivial,rfl,trivial,rfl,trivial,rfl,trivial,rfl,trivial,rfl,trivial,rfl,trivial,trivial⟩) ?_
                  exact hk249 () h
              · refine qa5 ?_
                refine qel ?_
                refine qab hτ [] 0 rfl rfl rfl rfl rfl ?_
                refine qab hτ [] 1 rfl rfl rfl rfl rfl ?_
                refine qab hτ (v:=.d (.bool (decide (v110 = v197)))) [] 2 rfl rfl rfl rfl (ql2 _ _) ?_
                refine qab hτ [] 3 rfl rfl rfl rfl rfl ?_
                refine qig 50 rfl (fun hb259=>?_) (fun hb259=>?_)
                · have h:=if_t h hb259
                  refine qae 4 rfl rfl rfl ?_
                  refine qae 5 rfl rfl rfl ?_
                  refine qae 6 rfl rfl rfl ?_
                  refine qae 7 rfl rfl rfl ?_
                  refine qae 8 rfl rfl rfl ?_
                  refine qae 10 rfl rfl rfl ?_
                  refine qae 11 rfl rfl rfl ?_
                  refine qae 12 rfl rfl rfl ?_
                  refine qae 13 rfl rfl rfl ?_
                  refine qae 14 rfl rfl rfl ?_
                  refine qae 9 rfl rfl rfl ?_
                  refine qae 15 rfl rfl rfl ?_
                  refine qae 16 rfl rfl rfl ?_
                  refine qab hτ [] 17 rfl rfl rfl rfl rfl ?_
                  refine qcy mixed (by kernel_rfl) ?_
                  refine qa7 (qa2 [0,1] (l:=[(1,.d (.sl false (devices_.map qa9))),(2,.d (.fl .f32 low_)),(3,.d (.fl .f32 high_)),(4,.d (.fl .f32 margin_)),(5,.d (.int .i64 count_)),(6,.ptr 0 0),(14,.row 1 v196.length 0 v196.length),(15,.d (.int .i64 v110)),(16,.d (.int .i64 v197)),(38,.d (.int .i64 (devices_.length:Int))),(39,.d (.int .i64 v110)),(43,.d (.int .i64 (devices_.length:Int))),(44,.d (.int .i64 v197)),(64,.d (.bool true))]) (objs:=[.box [.d (.cx .f32 f_.Source.A.re f_.Source.A.im),.d (.cx .f32 f_.Source.B.re f_.Source.B.im),.d (.cx .f32 f_.Source.C.re f_.Source.C.im),.d (.sl false (f_.qaf.map qai))],.row 1 (v196.map qdg)]) rfl (by simp) rfl (by trivial) ⟨rfl,trivial,rfl,trivial,rfl,trivial,rfl,trivial,rfl,trivial,rfl,trivial,rfl,trivial,rfl,trivial,rfl,trivial,rfl,trivial,rfl,trivial,rfl,trivial,rfl,trivial,rfl,trivial,trivial⟩) ?_
                  exact hk258 true h
                · have h:=if_f h hb259
                  refine qab hτ [] 4 rfl rfl rfl rfl rfl ?_
                  refine qab hτ [] 5 rfl rfl rfl rfl rfl ?_
                  refine qaa h fun x260 hx260 h=>?_
                  refine qc8 hτ [] 6 rfl rfl rfl rfl rfl (qaw hx260).1 (qb5 hx260) rfl ?_
                  refine qab hτ [] 7 rfl rfl rfl rfl rfl ?_
                  refine qab hτ [] 8 rfl rfl rfl rfl rfl ?_
                  refine qab hτ [] 10 rfl rfl rfl rfl rfl ?_
                  refine qab hτ [] 11 rfl rfl rfl rfl rfl ?_
                  refine qaa h fun x261 hx261 h=>?_
                  refine qc8 hτ [] 12 rfl rfl rfl rfl rfl (qaw hx261).1 (qb5 hx261) rfl ?_
                  refine qab hτ [] 13 rfl rfl rfl rfl rfl ?_
                  refine qab hτ [] 14 rfl rfl rfl rfl rfl ?_
                  refine qaa h fun x262 hx262 h=>?_
                  refine qhw hτ false [0] [0,1] 9 rfl rfl rfl rfl (qaj func60 rfl rfl) rfl rfl (by simp) ⟨trivial,trivial,trivial⟩ (by trivial) (qjj n f_ x260.Bus hx262) ⟨rfl,rfl,trivial⟩ ?_
                  refine qaa h fun x263 hx263 h=>?_
                  refine qhw hτ true [] [0,1,2] 15 rfl rfl rfl rfl (qaj func70 rfl rfl) (qbd (qf0 (f:=qac) x262 rfl rfl rfl) (qbd rfl qfs)) rfl (by simp) ⟨(qdo (f:=qac) x262 rfl rfl rfl),trivial,trivial⟩ (by trivial) (qki n x262 x261.Bus hx263) ⟨rfl,rfl,rfl,trivial⟩ ?_
                  refine qab hτ [] 16 rfl rfl rfl rfl rfl ?_
                  refine qab hτ [] 17 rfl rfl rfl rfl rfl ?_
                  refine qcy mixed (by kernel_rfl) ?_
                  refine qa7 (qa2 [0,1] (l:=[(1,.d (.sl false (devices_.map qa9))),(2,.d (.fl .f32 low_)),(3,.d (.fl .f32 high_)),(4,.d (.fl .f32 margin_)),(5,.d (.int .i64 count_)),(6,.ptr 0 0),(14,.row 1 v196.length 0 v196.length),(15,.d (.int .i64 v110)),(16,.d (.int .i64 v197)),(38,.d (.int .i64 (devices_.length:Int))),(39,.d (.int .i64 v110)),(43,.d (.int .i64 (devices_.length:Int))),(44,.d (.int .i64 v197)),(64,.d (.bool (!x263)))]) (objs:=[.box [.d (.cx .f32 f_.Source.A.re f_.Source.A.im),.d (.cx .f32 f_.Source.B.re f_.Source.B.im),.d (.cx .f32 f_.Source.C.re f_.Source.C.im),.d (.sl false (f_.qaf.map qai))],.row 1 (v196.map qdg)]) rfl (by simp) rfl (by trivial) ⟨rfl,trivial,rfl,trivial,rfl,trivial,rfl,trivial,rfl,trivial,rfl,trivial,rfl,trivial,rfl,trivial,rfl,trivial,rfl,trivial,rfl,trivial,rfl,trivial,rfl,trivial,rfl,trivial,trivial⟩) ?_
                  exact hk258 (!x263) h
        · have h:=if_f h hc216
          refine qcr ?_
          refine qa7 (qa2 [0,1] (l:=[(1,.d (.sl false (devices_.map qa9))),(2,.d (.fl .f32 low_)),(3,.d (.fl .f32 high_)),(4,.d (.fl .f32 margin_)),(5,.d (.int .i64 count_)),(6,.ptr 0 0),(14,.row 1 v196.length 0 v196.length),(38,.d (.int .i64 (devices_.length:Int))),(39,.d (.int .i64 v110))]) (objs:=[.box [.d (.cx .f32 f_.Source.A.re f_.Source.A.im),.d (.cx .f32 f_.Source.B.re f_.Source.B.im),.d (.cx .f32 f_.Source.C.re f_.Source.C.im),.d (.sl false (f_.qaf.map qai))],.row 1 (v196.map qdg)]) rfl (by simp) rfl (by trivial) ⟨rfl,trivial,rfl,trivial,rfl,trivial,rfl,trivial,rfl,trivial,rfl,trivial,rfl,trivial,rfl,trivial,rfl,trivial,trivial⟩) ?_
          exact hk181 v196 h
    · have h:=if_f h hc147
      refine qcr ?_
      refine qa5 ?_
      refine qa1 ?_
      refine qa0 hτ rfl rfl rfl ?_
      refine qa0 hτ rfl rfl rfl ?_
      refine qa0 hτ rfl rfl rfl ?_
      refine qa3 ?_
      refine qa7 (qa2 [1] (l:=[(12,.row 0 v109.length 0 v109.length),(13,.d (.bool true))]) (objs:=[.row 1 (v109.map qdg)]) rfl (by simp) rfl (by trivial) ⟨rfl,trivial,rfl,trivial,trivial⟩) ?_
      refine qar ?_
      have hr:=Option.some.inj h
      subst hr
      exact qah (.inr rfl) [0] (objs':=[]) (new:=[.row 1 (v109.map qdg)]) rfl (by simp) (by simp) rfl (by trivial) rfl rfl (by trivial) (fun h=>nomatch h) ⟨rfl,rfl,rfl⟩
  · refine qa5 ?_
    refine qb8 (ι:=Bool) (fun v271=>St.of [(1,.d (.sl false (devices_.map qa9))),(2,.d (.fl .f32 low_)),(3,.d (.fl .f32 high_)),(4,.d (.fl .f32 margin_)),(5,.d (.int .i64 count_)),(6,.ptr 0 0),(35,.d (.bool v271))] [.box [.d (.cx .f32 f_.Source.A.re f_.Source.A.im),.d (.cx .f32 f_.Source.B.re f_.Source.B.im),.d (.cx .f32 f_.Source.C.re f_.Source.C.im),.d (.sl false (f_.qaf.map qai))]] f31.ntmps 0) (fun v271=>qd5 n f_ devices_ low_ high_ margin_ count_ v271 = some r) ?_ (fun hk273=>?_)
    · rintro v271 h
      replace h:qd5 n f_ devices_ low_ high_ margin_ count_ v271 = some r:=h
      unfold qd5 at h
      refine qao rfl (fun hc272=>?_) (fun hc272=>?_)
      · have h:=qbn h hc272
        refine qa5 ?_
        refine qa1 ?_
        refine qa0 hτ rfl rfl rfl ?_
        refine qa0 hτ rfl rfl rfl ?_
        refine qa3 ?_
        refine qa7 (qa2 [] (l:=[(12,.d (.nils)),(13,.d (.bool false))]) (objs:=[]) rfl (by simp) rfl (by trivial) ⟨rfl,trivial,rfl,trivial,trivial⟩) ?_
        refine qa7 (qlo [1] (l':=[(12,.row 0 (([]:List (List Int)).length) 0 (([]:List (List Int)).length)),(13,.d (.bool false))]) (objs':=[]) (.cons (.c (.ghost ⟨Nat.le_of_ble_eq_true rfl,Nat.le_of_ble_eq_true rfl⟩)) (.cons (.c (.refl _)) .nil)) .nil) ?_
        refine qar ?_
        have hr:=Option.some.inj h
        subst hr
        exact qah (.inr rfl) [0] (objs':=[]) (new:=[.row 1 (([]:List (List Int)).map qdg)]) rfl (by simp) (by simp) rfl (by trivial) rfl rfl (by trivial) (fun h=>nomatch h) ⟨rfl,rfl,rfl⟩
      · have h:=qbm h hc272
        refine qap ?_
        refine qa7 (qa2 [0] (l:=[(1,.d (.sl false (devices_.map qa9))),(2,.d (.fl .f32 low_)),(3,.d (.fl .f32 high_)),(4,.d (.fl .f32 margin_)),(5,.d (.int .i64 count_)),(6,.ptr 0 0)]) (objs:=[.box [.d (.cx .f32 f_.Source.A.re f_.Source.A.im),.d (.cx .f32 f_.Source.B.re f_.Source.B.im),.d (.cx .f32 f_.Source.C.re f_.Source.C.im),.d (.sl false (f_.qaf.map qai))]]) rfl (by simp) rfl (by trivial) ⟨rfl,trivial,rfl,trivial,rfl,trivial,rfl,trivial,rfl,trivial,rfl,trivial,trivial⟩) ?_
        exact hk264 () h
    · refine qa5 ?_
      refine qa1 ?_
      refine qa0 hτ rfl rfl rfl ?_
      refine qa0 hτ rfl rfl rfl ?_
      refine qaa h fun x274 hx274 h=>?_
      refine qag hτ false [] rfl rfl rfl (qaj func27 rfl rfl) rfl rfl (by simp) ⟨(by trivial),trivial,trivial⟩ (by trivial) (qjt n f_ devices_ hx274) ?_
      rintro r0 o0 n0 ⟨rfl,rfl,rfl⟩ -
      refine qa0 hτ rfl rfl rfl ?_
      refine qa0 hτ rfl rfl rfl ?_
      refine qb4 23 rfl (fun hb275=>?_) (fun hb275=>?_)
      · have hb275:=qgh hb275
        have h:=qbm h hb275
        refine qa6 rfl rfl ?_
        refine qa6 rfl rfl ?_
        refine qa6 rfl rfl ?_
        refine qa6 rfl rfl ?_
        refine qat (qa2 [0] (l:=[(1,.d (.sl false (devices_.map qa9))),(2,.d (.fl .f32 low_)),(3,.d (.fl .f32 high_)),(4,.d (.fl .f32 margin_)),(5,.d (.int .i64 count_)),(6,.ptr 0 0),(23,.d (.bool true)),(27,.und)]) (objs:=[.box [.d (.cx .f32 f_.Source.A.re f_.Source.A.im),.d (.cx .f32 f_.Source.B.re f_.Source.B.im),.d (.cx .f32 f_.Source.C.re f_.Source.C.im),.d (.sl false (f_.qaf.map qai))]]) rfl (by simp) rfl (by trivial) ⟨rfl,trivial,rfl,trivial,rfl,trivial,rfl,trivial,rfl,trivial,rfl,trivial,rfl,trivial,rfl,trivial,trivial⟩) ?_
        refine qa6 rfl rfl ?_
        refine qa6 rfl rfl ?_
        refine qa0 hτ rfl rfl rfl ?_
        refine qa0 hτ rfl rfl rfl ?_
        refine qa6 rfl rfl ?_
        refine qa6 rfl rfl ?_
        refine qa6 rfl rfl ?_
        refine qa0 hτ rfl rfl rfl ?_
        refine qa3 ?_
        refine qa7 (qa2 [0] (l:=[(1,.d (.sl false (devices_.map qa9))),(2,.d (.fl .f32 low_)),(3,.d (.fl .f32 high_)),(4,.d (.fl .f32 margin_)),(5,.d (.int .i64 count_)),(6,.ptr 0 0),(35,.d (.bool true))]) (objs:=[.box [.d (.cx .f32 f_.Source.A.re f_.Source.A.im),.d (.cx .f32 f_.Source.B.re f_.Source.B.im),.d (.cx .f32 f_.Source.C.re f_.Source.C.im),.d (.sl false (f_.qaf.map qai))]]) rfl (by simp) rfl (by trivial) ⟨rfl,trivial,rfl,trivial,rfl,trivial,rfl,trivial,rfl,trivial,rfl,trivial,rfl,trivial,trivial⟩) ?_
        exact hk273 true h
      · have hb275:=qgg hb275
        have h:=qbn h hb275
        refine qa0 hτ rfl rfl rfl ?_
        refine qa0 hτ rfl rfl rfl ?_
        refine qa0 hτ rfl rfl rfl ?_
        refine qav hτ rfl rfl rfl ?_
        refine qat (qa2 [0,1] (l:=[(1,.d (.sl false (devices_.map qa9))),(2,.d (.fl .f32 low_)),(3,.d (.fl .f32 high_)),(4,.d (.fl .f32 margin_)),(5,.d (.int .i64 count_)),(6,.ptr 0 0),(23,.d (.bool false)),(27,.row 1 ([low_,high_,margin_].length) 0 ([low_,high_,margin_].length))]) (objs:=[.box [.d (.cx .f32 f_.Source.A.re f_.Source.A.im),.d (.cx .f32 f_.Source.B.re f_.Source.B.im),.d (.cx .f32 f_.Source.C.re f_.Source.C.im),.d (.sl false (f_.qaf.map qai))],.row 1 ([low_,high_,margin_].map qa4)]) rfl (by simp) rfl (by trivial) ⟨rfl,trivial,rfl,trivial,rfl,trivial,rfl,trivial,rfl,trivial,rfl,trivial,rfl,trivial,rfl,trivial,trivial⟩) ?_
        refine qaa h fun x276 hx276 h=>?_
        refine qag hτ true [] rfl rfl rfl (qaj func69 rfl rfl) (qbd (qf0 (f:=qa4) [low_,high_,margin_] rfl rfl rfl) qfs) rfl (by simp) ⟨(qdo (f:=qa4) [low_,high_,margin_] rfl rfl rfl),trivial⟩ (by trivial) (impl_finite_ok_fr n [low_,high_,margin_] hx276) ?_
        rintro r0 o0 n0 ⟨rfl,rfl,rfl⟩ -
        refine qa0 hτ rfl rfl rfl ?_
        refine qa0 hτ rfl rfl rfl ?_
        refine qa0 hτ rfl rfl rfl ?_
        refine qb4 31 rfl (fun hb277=>?_) (fun hb277=>?_)
        · have hb277:=qgh hb277
          have h:=qbm h hb277
          refine qa6 rfl rfl ?_
          refine qa6 rfl rfl ?_
          refine qa6 rfl rfl ?_
          refine qa0 hτ rfl rfl rfl ?_
          refine qa3 ?_
          refine qa7 (qa2 [0] (l:=[(1,.d (.sl false (devices_.map qa9))),(2,.d (.fl .f32 low_)),(3,.d (.fl .f32 high_)),(4,.d (.fl .f32 margin_)),(5,.d (.int .i64 count_)),(6,.ptr 0 0),(35,.d (.bool true))]) (objs:=[.box [.d (.cx .f32 f_.Source.A.re f_.Source.A.im),.d (.cx .f32 f_.Source.B.re f_.Source.B.im),.d (.cx .f32 f_.Source.C.re f_.Source.C.im),.d (.sl false (f_.qaf.map qai))]]) rfl (by simp) rfl (by trivial) ⟨rfl,trivial,rfl,trivial,rfl,trivial,rfl,trivial,rfl,trivial,rfl,trivial,rfl,trivial,trivial⟩) ?_
          exact hk273 true h
        · have hb277:=qgg hb277
          have h:=qbn h hb277
          refine qa0 hτ rfl rfl rfl ?_
          refine qaa h fun x278 hx278 h=>?_
          refine qag hτ false [] rfl rfl rfl (qaj func62 rfl rfl) rfl rfl (by simp) ⟨trivial,trivial,trivial,trivial⟩ (by trivial) (qix n count_ (1:Int) (100:Int) hx278) ?_
          rintro r0 o0 n0 ⟨rfl,rfl,rfl⟩ -
          refine qa0 hτ rfl rfl rfl ?_
          refine qa0 hτ rfl rfl rfl ?_
          refine qa3 ?_
          refine qa7 (qa2 [0] (l:=[(1,.d (.sl false (devices_.map qa9))),(2,.d (.fl .f32 low_)),(3,.d (.fl .f32 high_)),(4,.d (.fl .f32 margin_)),(5,.d (.int .i64 count_)),(6,.ptr 0 0),(35,.d (.bool (!x278)))]) (objs:=[.box [.d (.cx .f32 f_.Source.A.re f_.Source.A.im),.d (.cx .f32 f_.Source.B.re f_.Source.B.im),.d (.cx .f32 f_.Source.C.re f_.Source.C.im),.d (.sl false (f_.qaf.map qai))]]) rfl (by simp) rfl (by trivial) ⟨rfl,trivial,rfl,trivial,rfl,trivial,rfl,trivial,rfl,trivial,rfl,trivial,rfl,trivial,trivial⟩) ?_
          exact hk273 (!x278) h
def qic (n:Nat) (x5:Nat × Bool) (x6:Nat × Bool):Option (Nat × Bool) :=
  some ((qad .sub .f32 x6.1 x5.1),true)
def qgt (n:Nat) (x5:Nat × Bool) (x6:Nat × Bool) (v12:Bool):Option (Nat × Bool) :=
  if v12 = true then
    some ((0:Nat),false)
  else
    qic n x5 x6
def qil (n:Nat) (a_:qbq) (b_:qbq) (current_:Nat):Option (Nat × Bool) :=
  (qd1 n a_ current_).bind fun x5 =>
  (qd1 n b_ current_).bind fun x6 =>
  if x5.2 = true then
    qgt n x5 x6 (!x6.2)
  else
    qgt n x5 x6 true
theorem impl_margin_2_ok (n:Nat) (a_:qbq) (b_:qbq) (current_:Nat) {r:Nat × Bool} (h:qil n a_ b_ current_ = some r):qb9 prog false 115 [.ptr 0 0,.ptr 1 0,.d (.fl .f32 current_)] [.box [.d (.sl false (a_.qa8.map qa4)),.d (.sl false (a_.Times.map qa4))],.box [.d (.sl false (b_.qa8.map qa4)),.d (.sl false (b_.Times.map qa4))]] (fun v o new=>v = .tup [.d (.fl .f32 r.1),.d (.bool r.2)]∧o = [.box [.d (.sl false (a_.qa8.map qa4)),.d (.sl false (a_.Times.map qa4))],.box [.d (.sl false (b_.qa8.map qa4)),.d (.sl false (b_.Times.map qa4))]]∧new = []):=by
  refine qak hτ func115 rfl (by simp) (by simp) ?_
  unfold qil at h
  refine qa5 ?_
  refine qa1 ?_
  refine qa0 hτ rfl rfl rfl ?_
  refine qa0 hτ rfl rfl rfl ?_
  refine qa3 ?_
  refine qa5 ?_
  refine qa1 ?_
  refine qa0 hτ rfl rfl rfl ?_
  refine qa0 hτ rfl rfl rfl ?_
  refine qaa h fun x5 hx5 h=>?_
  refine qag hτ false [0] rfl rfl rfl (qaj func54 rfl rfl) rfl rfl (by simp) ⟨trivial,trivial,trivial⟩ (by trivial) (qj8 n a_ current_ hx5) ?_
  rintro r0 o0 n0 ⟨rfl,rfl,rfl⟩ -
  refine qa0 hτ rfl rfl rfl ?_
  refine qa0 hτ rfl rfl rfl ?_
  refine qa0 hτ rfl rfl rfl ?_
  refine qa0 hτ rfl rfl rfl ?_
  refine qa0 hτ rfl rfl rfl ?_
  refine qa3 ?_
  refine qa5 ?_
  refine qa7 (qa2 [0,1] (l:=[(1,.ptr 1 0),(2,.d (.fl .f32 current_)),(8,.d (.fl .f32 x5.1)),(9,.d (.bool x5.2))]) (objs:=[.box [.d (.sl false (a_.qa8.map qa4)),.d (.sl false (a_.Times.map qa4))],.box [.d (.sl false (b_.qa8.map qa4)),.d (.sl false (b_.Times.map qa4))]]) rfl (by simp) rfl (by trivial) ⟨rfl,trivial,rfl,trivial,rfl,trivial,rfl,trivial,trivial⟩) ?_
  refine qa1 ?_
  refine qa0 hτ rfl rfl rfl ?_
  refine qa0 hτ rfl rfl rfl ?_
  refine qaa h fun x6 hx6 h=>?_
  refine qag hτ false [1] rfl rfl rfl (qaj func54 rfl rfl) rfl rfl (by simp) ⟨trivial,trivial,trivial⟩ (by trivial) (qj8 n b_ current_ hx6) ?_
  rintro r0 o0 n0 ⟨rfl,rfl,rfl⟩ -
  refine qa0 hτ rfl rfl rfl ?_
  refine qa0 hτ rfl rfl rfl ?_
  refine qa0 hτ rfl rfl rfl ?_
  refine qa0 hτ rfl rfl rfl ?_
  refine qa0 hτ rfl rfl rfl ?_
  refine qa3 ?_
  refine qb8 (ι:=Unit) (fun _=>St.of [(8,.d (.fl .f32 x5.1)),(10,.d (.fl .f32 x6.1))] [.box [.d (.sl false (a_.qa8.map qa4)),.d (.sl false (a_.Times.map qa4))],.box [.d (.sl false (b_.qa8.map qa4)),.d (.sl false (b_.Times.map qa4))]] f115.ntmps 2) (fun _=>qic n x5 x6 = some r) ?_ (fun hk9=>?_)
  · rintro ⟨⟩ h
    replace h:qic n x5 x6 = some r:=h
    unfold qic at h
    refine qa5 ?_
    refine qa1 ?_
    refine qa0 hτ rfl rfl rfl ?_
    refine qa0 hτ rfl rfl rfl ?_
    refine qa0 hτ rfl rfl rfl ?_
    refine qa0 hτ rfl rfl rfl ?_
    refine qa0 hτ rfl rfl rfl ?_
    refine qa3 ?_
    refine qa7 (qa2 [0,1] (l:=[(6,.d (.fl .f32 (qad .sub .f32 x6.1 x5.1))),(7,.d (.bool true))]) (objs:=[.box [.d (.sl false (a_.qa8.map qa4)),.d (.sl false (a_.Times.map qa4))],.box [.d (.sl false (b_.qa8.map qa4)),.d (.sl false (b_.Times.map qa4))]]) rfl (by simp) rfl (by trivial) ⟨rfl,trivial,rfl,trivial,trivial⟩) ?_
    refine qar ?_
    have hr:=Option.some.inj h
    subst hr
    exact qah (.inr rfl) [] (objs':=[.box [.d (.sl false (a_.qa8.map qa4)),.d (.sl false (a_.Times.map qa4))],.box [.d (.sl false (b_.qa8.map qa4)),.d (.sl false (b_.Times.map qa4))]]) (new:=[]) rfl (by simp) (by simp) rfl (by trivial) rfl rfl (by trivial) (fun h=>nomatch h) ⟨rfl,rfl,rfl⟩
  · refine qa5 ?_
    refine qb8 (ι:=Bool) (fun v12=>St.of [(8,.d (.fl .f32 x5.1)),(10,.d (.fl .f32 x6.1)),(29,.d (.bool v12))] [.box [.d (.sl false (a_.qa8.map qa4)),.d (.sl false (a_.Times.map qa4))],.box [.d (.sl false (b_.qa8.map qa4)),.d (.sl false (b_.Times.map qa4))]] f115.ntmps 2) (fun v12=>qgt n x5 x6 v12 = some r) ?_ (fun hk14=>?_)
    · rintro v12 h
      replace h:qgt n x5 x6 v12 = some r:=h
      unfold qgt at h
      refine qao rfl (fun hc13=>?_) (fun hc13=>?_)
      · have h:=qbn h hc13
        refine qa5 ?_
        refine qa1 ?_
        refine qa0 hτ rfl rfl rfl ?_
        refine qa0 hτ rfl rfl rfl ?_
        refine qa3 ?_
        refine qa7 (qa2 [0,1] (l:=[(6,.d (.fl .f32 (0:Nat))),(7,.d (.bool false))]) (objs:=[.box [.d (.sl false (a_.qa8.map qa4)),.d (.sl false (a_.Times.map qa4))],.box [.d (.sl false (b_.qa8.map qa4)),.d (.sl false (b_.Times.map qa4))]]) rfl (by simp) rfl (by trivial) ⟨rfl,trivial,rfl,trivial,trivial⟩) ?_
        refine qar ?_
        have hr:=Option.some.inj h
        subst hr
        exact qah (.inr rfl) [] (objs':=[.box [.d (.sl false (a_.qa8.map qa4)),.d (.sl false (a_.Times.map qa4))],.box [.d (.sl false (b_.qa8.map qa4)),.d (.sl false (b_.Times.map qa4))]]) (new:=[]) rfl (by simp) (by simp) rfl (by trivial) rfl rfl (by trivial) (fun h=>nomatch h) ⟨rfl,rfl,rfl⟩
      · have h:=qbm h hc13
        refine qap ?_
        refine qa7 (qa2 [0,1] (l:=[(8,.d (.fl .f32 x5.1)),(10,.d (.fl .f32 x6.1))]) (objs:=[.box [.d (.sl false (a_.qa8.map qa4)),.d (.sl false (a_.Times.map qa4))],.box [.d (.sl false (b_.qa8.map qa4)),.d (.sl false (b_.Times.map qa4))]]) rfl (by simp) rfl (by trivial) ⟨rfl,trivial,rfl,trivial,trivial⟩) ?_
        exact hk9 () h
    · refine qa5 ?_
      refine qa7 (qa2 [0,1] (l:=[(8,.d (.fl .f32 x5.1)),(9,.d (.bool x5.2)),(10,.d (.fl .f32 x6.1)),(11,.d (.bool x6.2))]) (objs:=[.box [.d (.sl false (a_.qa8.map qa4)),.d (.sl false (a_.Times.map qa4))],.box [.d (.sl false (b_.qa8.map qa4)),.d (.sl false (b_.Times.map qa4))]]) rfl (by simp) rfl (by trivial) ⟨rfl,trivial,rfl,trivial,rfl,trivial,rfl,trivial,trivial⟩) ?_
      refine qa1 ?_
      refine qa0 hτ rfl rfl rfl ?_
      refine qa0 hτ rfl rfl rfl ?_
      refine qa0 hτ rfl rfl rfl ?_
      refine qb4 26 rfl (fun hb15=>?_) (fun hb15=>?_)
      · have hb15:=qgh hb15
        have h:=qbm h hb15
        refine qa6 rfl rfl ?_
        refine qa6 rfl rfl ?_
        refine qa0 hτ rfl rfl rfl ?_
        refine qa3 ?_
        refine qa7 (qa2 [0,1] (l:=[(8,.d (.fl .f32 x5.1)),(10,.d (.fl .f32 x6.1)),(29,.d (.bool true))]) (objs:=[.box [.d (.sl false (a_.qa8.map qa4)),.d (.sl false (a_.Times.map qa4))],.box [.d (.sl false (b_.qa8.map qa4)),.d (.sl false (b_.Times.map qa4))]]) rfl (by simp) rfl (by trivial) ⟨rfl,trivial,rfl,trivial,rfl,trivial,trivial⟩) ?_
        exact hk14 true h
      · have hb15:=qgg hb15
        have h:=qbn h hb15
        refine qa0 hτ rfl rfl rfl ?_
        refine qa0 hτ rfl rfl rfl ?_
        refine qa0 hτ rfl rfl rfl ?_
        refine qa3 ?_
        refine qa7 (qa2 [0,1] (l:=[(8,.d (.fl .f32 x5.1)),(10,.d (.fl .f32 x6.1)),(29,.d (.bool (!x6.2)))]) (objs:=[.box [.d (.sl false (a_.qa8.map qa4)),.d (.sl false (a_.Times.map qa4))],.box [.d (.sl false (b_.qa8.map qa4)),.d (.sl false (b_.Times.map qa4))]]) rfl (by simp) rfl (by trivial) ⟨rfl,trivial,rfl,trivial,rfl,trivial,trivial⟩) ?_
        exact hk14 (!x6.2) h
def qhb (n:Nat) (k38:Nat→Bool→Int→Option (Nat × Bool)) (v26:Int) (v47:Nat) (v48:Bool):Option (Nat × Bool) :=
  k38 v47 v48 (w64 (v26 + (1:Int)))
def qfw (n:Nat) (k38:Nat→Bool→Int→Option (Nat × Bool)) (v24:Nat) (v25:Bool) (v26:Int) (x50:Nat × Bool) (v55:Bool):Option (Nat × Bool) :=
  if v55 = true then
    qhb n k38 v26 x50.1 true
  else
    qhb n k38 v26 v24 v25
def qbt (n:Nat) (a_:qbq) (b_:qbq) (low_:Nat) (high_:Nat) (count_:Int):Nat→Nat→Bool→Int→Option (Nat × Bool)
  | 0,_,_,_=>none
  | m37 + 1,v24,v25,v26 =>
    if v26 < (w64 (count_ + (1:Int))) then
      (qil n a_ b_ (qad .add .f32 low_ (qad .mul .f32 (qad .sub .f32 high_ low_) (qad .quo .f32 (FloatKind.nearest .f32 v26) (FloatKind.nearest .f32 count_))))).bind fun x50 =>
      if x50.2 = true then
        if v25 = true then
          qfw n (qbt n a_ b_ low_ high_ count_ m37) v24 v25 v26 x50 (fcmp .lss .f32 x50.1 v24)
        else
          qfw n (qbt n a_ b_ low_ high_ count_ m37) v24 v25 v26 x50 true
      else
        qfw n (qbt n a_ b_ low_ high_ count_ m37) v24 v25 v26 x50 false
    else
      some (v24,v25)
def qjb (n:Nat) (a_:qbq) (b_:qbq) (low_:Nat) (high_:Nat) (count_:Int):Option (Nat × Bool) :=
  qbt n a_ b_ low_ high_ count_ n (0:Nat) false (0:Int)
theorem impl_grade_2_ok (n:Nat) (a_:qbq) (b_:qbq) (low_:Nat) (high_:Nat) (count_:Int) {r:Nat × Bool} (h:qjb n a_ b_ low_ high_ count_ = some r):qb9 prog false 71 [.ptr 0 0,.ptr 1 0,.d (.fl .f32 low_),.d (.fl .f32 high_),.d (.int .i64 count_)] [.box [.d (.sl false (a_.qa8.map qa4)),.d (.sl false (a_.Times.map qa4))],.box [.d (.sl false (b_.qa8.map qa4)),.d (.sl false (b_.Times.map qa4))]] (fun v o new=>v = .tup [.d (.fl .f32 r.1),.d (.bool r.2)]∧o = [.box [.d (.sl false (a_.qa8.map qa4)),.d (.sl false (a_.Times.map qa4))],.box [.d (.sl false (b_.qa8.map qa4)),.d (.sl false (b_.Times.map qa4))]]∧new = []):=by
  refine qak hτ func71 rfl (by simp) (by simp) ?_
  unfold qjb at h
  refine qa5 ?_
  refine qa1 ?_
  refine qa0 hτ rfl rfl rfl ?_
  refine qa0 hτ rfl rfl rfl ?_
  refine qa3 ?_
  refine qa5 ?_
  refine qa1 ?_
  refine qa0 hτ rfl rfl rfl ?_
  refine qa0 hτ rfl rfl rfl ?_
  refine qa3 ?_
  refine qa5 ?_
  refine qa5 ?_
  refine qa1 ?_
  refine qa0 hτ rfl rfl rfl ?_
  refine qa0 hτ rfl rfl rfl ?_
  refine qa0 hτ rfl rfl rfl ?_
  refine qa3 ?_
  refine qaz ?_
  refine qcs (ι:=Nat × Nat × Bool × Int) (fun (m37,v24,v25,v26)=>St.of [(0,.ptr 0 0),(1,.ptr 1 0),(2,.d (.fl .f32 low_)),(3,.d (.fl .f32 high_)),(4,.d (.int .i64 count_)),(12,.d (.fl .f32 v24)),(13,.d (.bool v25)),(19,.d (.int .i64 (w64 (count_ + (1:Int))))),(20,.d (.int .i64 v26))] [.box [.d (.sl false (a_.qa8.map qa4)),.d (.sl false (a_.Times.map qa4))],.box [.d (.sl false (b_.qa8.map qa4)),.d (.sl false (b_.Times.map qa4))]] f71.ntmps 2) (fun (m37,v24,v25,v26)=>qbt n a_ b_ low_ high_ count_ m37 v24 v25 v26 = some r) (fun x=>x.1) (n,(0:Nat),false,(0:Int)) h (qa2 [0,1] (l:=[(0,.ptr 0 0),(1,.ptr 1 0),(2,.d (.fl .f32 low_)),(3,.d (.fl .f32 high_)),(4,.d (.int .i64 count_)),(12,.d (.fl .f32 (0:Nat))),(13,.d (.bool false)),(19,.d (.int .i64 (w64 (count_ + (1:Int))))),(20,.d (.int .i64 (0:Int)))]) (objs:=[.box [.d (.sl false (a_.qa8.map qa4)),.d (.sl false (a_.Times.map qa4))],.box [.d (.sl false (b_.qa8.map qa4)),.d (.sl false (b_.Times.map qa4))]]) rfl (by simp) rfl (by trivial) ⟨rfl,trivial,rfl,trivial,rfl,trivial,rfl,trivial,rfl,trivial,rfl,trivial,rfl,trivial,rfl,trivial,rfl,trivial,trivial⟩) ?_
  rintro ⟨m37,v24,v25,v26⟩ h
  replace h:qbt n a_ b_ low_ high_ count_ m37 v24 v25 v26 = some r:=h
  rcases m37 with _ | m37
  · rw [qbt] at h;cases h
  rw [qbt] at h
  refine qa5 ?_
  refine qa1 ?_
  refine qa0 hτ rfl rfl rfl ?_
  refine qa3 ?_
  refine qa5 ?_
  refine qao rfl (fun hc39=>?_) (fun hc39=>?_)
  · have h:=if_t h hc39
    refine qap ?_
    refine qb8 (ι:=Nat × Bool) (fun (v47,v48)=>St.of [(0,.ptr 0 0),(1,.ptr 1 0),(2,.d (.fl .f32 low_)),(3,.d (.fl .f32 high_)),(4,.d (.int .i64 count_)),(12,.d (.fl .f32 v47)),(13,.d (.bool v48)),(19,.d (.int .i64 (w64 (count_ + (1:Int))))),(20,.d (.int .i64 v26))] [.box [.d (.sl false (a_.qa8.map qa4)),.d (.sl false (a_.Times.map qa4))],.box [.d (.sl false (b_.qa8.map qa4)),.d (.sl false (b_.Times.map qa4))]] f71.ntmps 2) (fun (v47,v48)=>qhb n (qbt n a_ b_ low_ high_ count_ m37) v26 v47 v48 = some r) ?_ (fun hk49=>?_)
    · rintro ⟨v47,v48⟩ h
      replace h:qhb n (qbt n a_ b_ low_ high_ count_ m37) v26 v47 v48 = some r:=h
      unfold qhb at h
      refine qa1 ?_
      refine qa0 hτ rfl rfl rfl ?_
      refine qa0 hτ rfl rfl rfl ?_
      refine qa3 ?_
      exact ⟨(m37,v47,v48,(w64 (v26 + (1:Int)))),h,Nat.lt_succ_self m37,(qa2 [0,1] (l:=[(0,.ptr 0 0),(1,.ptr 1 0),(2,.d (.fl .f32 low_)),(3,.d (.fl .f32 high_)),(4,.d (.int .i64 count_)),(12,.d (.fl .f32 v47)),(13,.d (.bool v48)),(19,.d (.int .i64 (w64 (count_ + (1:Int))))),(20,.d (.int .i64 (w64 (v26 + (1:Int)))))]) (objs:=[.box [.d (.sl false (a_.qa8.map qa4)),.d (.sl false (a_.Times.map qa4))],.box [.d (.sl false (b_.qa8.map qa4)),.d (.sl false (b_.Times.map qa4))]]) rfl (by simp) rfl (by trivial) ⟨rfl,trivial,rfl,trivial,rfl,trivial,rfl,trivial,rfl,trivial,rfl,trivial,rfl,trivial,rfl,trivial,rfl,trivial,trivial⟩)⟩
    · refine qa5 ?_
      refine qaz ?_
      refine qa5 ?_
      refine qa1 ?_
      refine qa0 hτ rfl rfl rfl ?_
      refine qa0 hτ rfl rfl rfl ?_
      refine qa3 ?_
      refine qa5 ?_
      refine qa1 ?_
      refine qa0 hτ rfl rfl rfl ?_
      refine qa0 hτ rfl rfl rfl ?_
      refine qa0 hτ rfl rfl rfl ?_
      refine qa0 hτ rfl rfl rfl ?_
      refine qa0 hτ rfl rfl rfl ?_
      refine qa0 hτ rfl rfl rfl ?_
      refine qa0 hτ rfl rfl rfl ?_
      refine qa0 hτ rfl rfl rfl ?_
      refine qa0 hτ rfl rfl rfl ?_
      refine qat (qa2 [0,1] (l:=[(0,.ptr 0 0),(1,.ptr 1 0),(2,.d (.fl .f32 low_)),(3,.d (.fl .f32 high_)),(4,.d (.int .i64 count_)),(12,.d (.fl .f32 v24)),(13,.d (.bool v25)),(19,.d (.int .i64 (w64 (count_ + (1:Int))))),(20,.d (.int .i64 v26)),(23,.d (.fl .f32 low_)),(26,.d (.fl .f32 (qad .sub .f32 high_ low_))),(31,.d (.fl .f32 (qad .quo .f32 (FloatKind.nearest .f32 v26) (FloatKind.nearest .f32 count_))))]) (objs:=[.box [.d (.sl false (a_.qa8.map qa4)),.d (.sl false (a_.Times.map qa4))],.box [.d (.sl false (b_.qa8.map qa4)),.d (.sl false (b_.Times.map qa4))]]) rfl (by simp) rfl (by trivial) ⟨rfl,trivial,rfl,trivial,rfl,trivial,rfl,trivial,rfl,trivial,rfl,trivial,rfl,trivial,rfl,trivial,rfl,trivial,rfl,trivial,rfl,trivial,rfl,trivial,trivial⟩) ?_
      refine qa0 hτ rfl rfl rfl ?_
      refine qa0 hτ rfl rfl rfl ?_
      refine qa0 hτ rfl rfl rfl ?_
      refine qa3 ?_
      refine qa5 ?_
      refine qa1 ?_
      refine qa0 hτ rfl rfl rfl ?_
      refine qa0 hτ rfl rfl rfl ?_
      refine qa0 hτ rfl rfl rfl ?_
      refine qaa h fun x50 hx50 h=>?_
      refine qag hτ false [0,1] rfl rfl rfl (qaj func115 rfl rfl) rfl rfl (by simp) ⟨trivial,trivial,trivial,trivial⟩ (by trivial) (impl_margin_2_ok n a_ b_ (qad .add .f32 low_ (qad .mul .f32 (qad .sub .f32 high_ low_) (qad .quo .f32 (FloatKind.nearest .f32 v26) (FloatKind.nearest .f32 count_)))) hx50) ?_
      rintro r0 o0 n0 ⟨rfl,rfl,rfl⟩ -
      refine qa0 hτ rfl rfl rfl ?_
      refine qa0 hτ rfl rfl rfl ?_
      refine qa0 hτ rfl rfl rfl ?_
      refine qa0 hτ rfl rfl rfl ?_
      refine qa0 hτ rfl rfl rfl ?_
      refine qa3 ?_
      refine qb8 (ι:=Bool) (fun v55=>St.of [(0,.ptr 0 0),(1,.ptr 1 0),(2,.d (.fl .f32 low_)),(3,.d (.fl .f32 high_)),(4,.d (.int .i64 count_)),(12,.d (.fl .f32 v24)),(13,.d (.bool v25)),(16,.d (.fl .f32 x50.1)),(19,.d (.int .i64 (w64 (count_ + (1:Int))))),(20,.d (.int .i64 v26)),(50,.d (.bool v55))] [.box [.d (.sl false (a_.qa8.map qa4)),.d (.sl false (a_.Times.map qa4))],.box [.d (.sl false (b_.qa8.map qa4)),.d (.sl false (b_.Times.map qa4))]] f71.ntmps 2) (fun v55=>qfw n (qbt n a_ b_ low_ high_ count_ m37) v24 v25 v26 x50 v55 = some r) ?_ (fun hk57=>?_)
      · rintro v55 h
        replace h:qfw n (qbt n a_ b_ low_ high_ count_ m37) v24 v25 v26 x50 v55 = some r:=h
        unfold qfw at h
        refine qao rfl (fun hc56=>?_) (fun hc56=>?_)
        · have h:=qbn h hc56
          refine qa1 ?_
          refine qa0 hτ rfl rfl rfl ?_
          refine qa0 hτ rfl rfl rfl ?_
          refine qa0 hτ rfl rfl rfl ?_
          refine qa3 ?_
          refine qa7 (qa2 [0,1] (l:=[(0,.ptr 0 0),(1,.ptr 1 0),(2,.d (.fl .f32 low_)),(3,.d (.fl .f32 high_)),(4,.d (.int .i64 count_)),(12,.d (.fl .f32 x50.1)),(13,.d (.bool true)),(19,.d (.int .i64 (w64 (count_ + (1:Int))))),(20,.d (.int .i64 v26))]) (objs:=[.box [.d (.sl false (a_.qa8.map qa4)),.d (.sl false (a_.Times.map qa4))],.box [.d (.sl false (b_.qa8.map qa4)),.d (.sl false (b_.Times.map qa4))]]) rfl (by simp) rfl (by trivial) ⟨rfl,trivial,rfl,trivial,rfl,trivial,rfl,trivial,rfl,trivial,rfl,trivial,rfl,trivial,rfl,trivial,rfl,trivial,trivial⟩) ?_
          exact hk49 (x50.1,true) h
        · have h:=qbm h hc56
          refine qap ?_
          refine qa7 (qa2 [0,1] (l:=[(0,.ptr 0 0),(1,.ptr 1 0),(2,.d (.fl .f32 low_)),(3,.d (.fl .f32 high_)),(4,.d (.int .i64 count_)),(12,.d (.fl .f32 v24)),(13,.d (.bool v25)),(19,.d (.int .i64 (w64 (count_ + (1:Int))))),(20,.d (.int .i64 v26))]) (objs:=[.box [.d (.sl false (a_.qa8.map qa4)),.d (.sl false (a_.Times.map qa4))],.box [.d (.sl false (b_.qa8.map qa4)),.d (.sl false (b_.Times.map qa4))]]) rfl (by simp) rfl (by trivial) ⟨rfl,trivial,rfl,trivial,rfl,trivial,rfl,trivial,rfl,trivial,rfl,trivial,rfl,trivial,rfl,trivial,rfl,trivial,trivial⟩) ?_
          exact hk49 (v24,v25) h
      · refine qa5 ?_
        refine qa7 (qa2 [0,1] (l:=[(0,.ptr 0 0),(1,.ptr 1 0),(2,.d (.fl .f32 low_)),(3,.d (.fl .f32 high_)),(4,.d (.int .i64 count_)),(12,.d (.fl .f32 v24)),(13,.d (.bool v25)),(16,.d (.fl .f32 x50.1)),(17,.d (.bool x50.2)),(19,.d (.int .i64 (w64 (count_ + (1:Int))))),(20,.d (.int .i64 v26))]) (objs:=[.box [.d (.sl false (a_.qa8.map qa4)),.d (.sl false (a_.Times.map qa4))],.box [.d (.sl false (b_.qa8.map qa4)),.d (.sl false (b_.Times.map qa4))]]) rfl (by simp) rfl (by trivial) ⟨rfl,trivial,rfl,trivial,rfl,trivial,rfl,trivial,rfl,trivial,rfl,trivial,rfl,trivial,rfl,trivial,rfl,trivial,rfl,trivial,rfl,trivial,trivial⟩) ?_
        refine qa1 ?_
        refine qa0 hτ rfl rfl rfl ?_
        refine qa0 hτ rfl rfl rfl ?_
        refine qb4 42 rfl (fun hb58=>?_) (fun hb58=>?_)
        · have h:=qbn h hb58
          refine qa0 hτ rfl rfl rfl ?_
          refine qa0 hτ rfl rfl rfl ?_
          refine qa0 hτ rfl rfl rfl ?_
          refine qb4 45 rfl (fun hb59=>?_) (fun hb59=>?_)
          · have hb59:=qgh hb59
            have h:=qbm h hb59
            refine qa6 rfl rfl ?_
            refine qa6 rfl rfl ?_
            refine qa6 rfl rfl ?_
            refine qa0 hτ rfl rfl rfl ?_
            refine qa0 hτ rfl rfl rfl ?_
            refine qa3 ?_
            refine qa7 (qa2 [0,1] (l:=[(0,.ptr 0 0),(1,.ptr 1 0),(2,.d (.fl .f32 low_)),(3,.d (.fl .f32 high_)),(4,.d (.int .i64 count_)),(12,.d (.fl .f32 v24)),(13,.d (.bool v25)),(16,.d (.fl .f32 x50.1)),(19,.d (.int .i64 (w64 (count_ + (1:Int))))),(20,.d (.int .i64 v26)),(50,.d (.bool true))]) (objs:=[.box [.d (.sl false (a_.qa8.map qa4)),.d (.sl false (a_.Times.map qa4))],.box [.d (.sl false (b_.qa8.map qa4)),.d (.sl false (b_.Times.map qa4))]]) rfl (by simp) rfl (by trivial) ⟨rfl,trivial,rfl,trivial,rfl,trivial,rfl,trivial,rfl,trivial,rfl,trivial,rfl,trivial,rfl,trivial,rfl,trivial,rfl,trivial,rfl,trivial,trivial⟩) ?_
            exact hk57 true h
          · have hb59:=qgg hb59
            have h:=qbn h hb59
            refine qa0 hτ rfl rfl rfl ?_
            refine qa0 hτ rfl rfl rfl ?_
            refine qa0 hτ rfl rfl rfl ?_
            refine qa0 hτ rfl rfl rfl ?_
            refine qa0 hτ rfl rfl rfl ?_
            refine qa3 ?_
            refine qa7 (qa2 [0,1] (l:=[(0,.ptr 0 0),(1,.ptr 1 0),(2,.d (.fl .f32 low_)),(3,.d (.fl .f32 high_)),(4,.d (.int .i64 count_)),(12,.d (.fl .f32 v24)),(13,.d (.bool v25)),(16,.d (.fl .f32 x50.1)),(19,.d (.int .i64 (w64 (count_ + (1:Int))))),(20,.d (.int .i64 v26)),(50,.d (.bool (fcmp .lss .f32 x50.1 v24)))]) (objs:=[.box [.d (.sl false (a_.qa8.map qa4)),.d (.sl false (a_.Times.map qa4))],.box [.d (.sl false (b_.qa8.map qa4)),.d (.sl false (b_.Times.map qa4))]]) rfl (by simp) rfl (by trivial) ⟨rfl,trivial,rfl,trivial,rfl,trivial,rfl,trivial,rfl,trivial,rfl,trivial,rfl,trivial,rfl,trivial,rfl,trivial,rfl,trivial,rfl,trivial,trivial⟩) ?_
            exact hk57 (fcmp .lss .f32 x50.1 v24) h
        · have h:=qbm h hb58
          refine qa6 rfl rfl ?_
          refine qa6 rfl rfl ?_
          refine qa6 rfl rfl ?_
          refine qa6 rfl rfl ?_
          refine qa6 rfl rfl ?_
          refine qa6 rfl rfl ?_
          refine qa6 rfl rfl ?_
          refine qa0 hτ rfl rfl rfl ?_
          refine qa3 ?_
          refine qa7 (qa2 [0,1] (l:=[(0,.ptr 0 0),(1,.ptr 1 0),(2,.d (.fl .f32 low_)),(3,.d (.fl .f32 high_)),(4,.d (.int .i64 count_)),(12,.d (.fl .f32 v24)),(13,.d (.bool v25)),(16,.d (.fl .f32 x50.1)),(19,.d (.int .i64 (w64 (count_ + (1:Int))))),(20,.d (.int .i64 v26)),(50,.d (.bool false))]) (objs:=[.box [.d (.sl false (a_.qa8.map qa4)),.d (.sl false (a_.Times.map qa4))],.box [.d (.sl false (b_.qa8.map qa4)),.d (.sl false (b_.Times.map qa4))]]) rfl (by simp) rfl (by trivial) ⟨rfl,trivial,rfl,trivial,rfl,trivial,rfl,trivial,rfl,trivial,rfl,trivial,rfl,trivial,rfl,trivial,rfl,trivial,rfl,trivial,rfl,trivial,trivial⟩) ?_
          exact hk57 false h
  · have h:=if_f h hc39
    refine qcr ?_
    refine qa5 ?_
    refine qa1 ?_
    refine qa0 hτ rfl rfl rfl ?_
    refine qa0 hτ rfl rfl rfl ?_
    refine qa0 hτ rfl rfl rfl ?_
    refine qa0 hτ rfl rfl rfl ?_
    refine qa3 ?_
    refine qa7 (qa2 [0,1] (l:=[(10,.d (.fl .f32 v24)),(11,.d (.bool v25))]) (objs:=[.box [.d (.sl false (a_.qa8.map qa4)),.d (.sl false (a_.Times.map qa4))],.box [.d (.sl false (b_.qa8.map qa4)),.d (.sl false (b_.Times.map qa4))]]) rfl (by simp) rfl (by trivial) ⟨rfl,trivial,rfl,trivial,trivial⟩) ?_
    refine qar ?_
    have hr:=Option.some.inj h
    subst hr
    exact qah (.inr rfl) [] (objs':=[.box [.d (.sl false (a_.qa8.map qa4)),.d (.sl false (a_.Times.map qa4))],.box [.d (.sl false (b_.qa8.map qa4)),.d (.sl false (b_.Times.map qa4))]]) (new:=[]) rfl (by simp) (by simp) rfl (by trivial) rfl rfl (by trivial) (fun h=>nomatch h) ⟨rfl,rfl,rfl⟩
def qh8 (n:Nat) (a_:qbq) (b_:qbq) (low_:Nat) (high_:Nat) (count_:Int):Option (Nat × Bool) :=
  (qjb n a_ b_ low_ high_ count_).bind fun x14 =>
  some (x14.1,x14.2)
def qeo (n:Nat) (a_:qbq) (b_:qbq) (low_:Nat) (high_:Nat) (count_:Int) (v22:Bool):Option (Nat × Bool) :=
  if v22 = true then
    some ((0:Nat),false)
  else
    qh8 n a_ b_ low_ high_ count_
def qi5 (n:Nat) (a_:qbq) (b_:qbq) (low_:Nat) (high_:Nat) (count_:Int):Option (Nat × Bool) :=
  (qdd n a_).bind fun x25 =>
  if x25 = true then
    (qdd n b_).bind fun x27 =>
    if x27 = true then
      (qg6 n count_ (1:Int) (100:Int)).bind fun x29 =>
      qeo n a_ b_ low_ high_ count_ (!x29)
    else
      qeo n a_ b_ low_ high_ count_ true
  else
    qeo n a_ b_ low_ high_ count_ true
theorem impl_GradeOf_ok_fr0 (fr:Bool) (n:Nat) (a_:qbq) (b_:qbq) (low_:Nat) (high_:Nat) (count_:Int) {r:Nat × Bool} (h:qi5 n a_ b_ low_ high_ count_ = some r):qb9 prog fr 32 [.agg [.d (.sl false (a_.qa8.map qa4)),.d (.sl false (a_.Times.map qa4))],.agg [.d (.sl false (b_.qa8.map qa4)),.d (.sl false (b_.Times.map qa4))],.d (.fl .f32 low_),.d (.fl .f32 high_),.d (.int .i64 count_)] [] (fun v o new=>v = .tup [.d (.fl .f32 r.1),.d (.bool r.2)]∧o = []∧new = []):=by
  refine qak hτ func32 rfl (by simp) (by simp) ?_
  unfold qi5 at h
  refine qa5 ?_
  refine qa1 ?_
  refine qav hτ rfl rfl rfl ?_
  refine qav hτ rfl rfl rfl ?_
  refine qa0 hτ rfl rfl rfl ?_
  refine qa0 hτ rfl rfl rfl ?_
  refine qa3 ?_
  refine qb8 (ι:=Unit) (fun _=>St.of [(2,.d (.fl .f32 low_)),(3,.d (.fl .f32 high_)),(4,.d (.int .i64 count_)),(5,.ptr 0 0),(6,.ptr 1 0)] [.box [.d (.sl false (a_.qa8.map qa4)),.d (.sl false (a_.Times.map qa4))],.box [.d (.sl false (b_.qa8.map qa4)),.d (.sl false (b_.Times.map qa4))]] f32.ntmps 0) (fun _=>qh8 n a_ b_ low_ high_ count_ = some r) ?_ (fun hk15=>?_)
  · rintro ⟨⟩ h
    replace h:qh8 n a_ b_ low_ high_ count_ = some r:=h
    unfold qh8 at h
    refine qa5 ?_
    refine qa1 ?_
    refine qa0 hτ rfl rfl rfl ?_
    refine qa0 hτ rfl rfl rfl ?_
    refine qa0 hτ rfl rfl rfl ?_
    refine qaa h fun x14 hx14 h=>?_
    refine qag hτ false [0,1] rfl rfl rfl (qaj func71 rfl rfl) rfl rfl (by simp) ⟨trivial,trivial,trivial,trivial,trivial,trivial⟩ (by trivial) (impl_grade_2_ok n a_ b_ low_ high_ count_ hx14) ?_
    rintro r0 o0 n0 ⟨rfl,rfl,rfl⟩ -
    refine qa0 hτ rfl rfl rfl ?_
    refine qa0 hτ rfl rfl rfl ?_
    refine qa0 hτ rfl rfl rfl ?_
    refine qa0 hτ rfl rfl rfl ?_
    refine qa3 ?_
    refine qa7 (qa2 [] (l:=[(10,.d (.fl .f32 x14.1)),(11,.d (.bool x14.2))]) (objs:=[]) rfl (by simp) rfl (by trivial) ⟨rfl,trivial,rfl,trivial,trivial⟩) ?_
    refine qar ?_
    have hr:=Option.some.inj h
    subst hr
    exact qah (.inr rfl) [] (objs':=[]) (new:=[]) rfl (by simp) (by simp) rfl (by trivial) rfl rfl (by trivial) (fun _=>⟨by simp [V.flat,V.qbk,V.qbf,D.flat],qal⟩) ⟨rfl,rfl,rfl⟩
  · refine qa5 ?_
    refine qb8 (ι:=Bool) (fun v22=>St.of [(2,.d (.fl .f32 low_)),(3,.d (.fl .f32 high_)),(4,.d (.int .i64 count_)),(5,.ptr 0 0),(6,.ptr 1 0),(24,.d (.bool v22))] [.box [.d (.sl false (a_.qa8.map qa4)),.d (.sl false (a_.Times.map qa4))],.box [.d (.sl false (b_.qa8.map qa4)),.d (.sl false (b_.Times.map qa4))]] f32.ntmps 0) (fun v22=>qeo n a_ b_ low_ high_ count_ v22 = some r) ?_ (fun hk24=>?_)
    · rintro v22 h
      replace h:qeo n a_ b_ low_ high_ count_ v22 = some r:=h
      unfold qeo at h
      refine qao rfl (fun hc23=>?_) (fun hc23=>?_)
      · have h:=qbn h hc23
        refine qa5 ?_
        refine qa1 ?_
        refine qa0 hτ rfl rfl rfl ?_
        refine qa0 hτ rfl rfl rfl ?_
        refine qa3 ?_
        refine qa7 (qa2 [] (l:=[(10,.d (.fl .f32 (0:Nat))),(11,.d (.bool false))]) (objs:=[]) rfl (by simp) rfl (by trivial) ⟨rfl,trivial,rfl,trivial,trivial⟩) ?_
        refine qar ?_
        have hr:=Option.some.inj h
        subst hr
        exact qah (.inr rfl) [] (objs':=[]) (new:=[]) rfl (by simp) (by simp) rfl (by trivial) rfl rfl (by trivial) (fun _=>⟨by simp [V.flat,V.qbk,V.qbf,D.flat],qal⟩) ⟨rfl,rfl,rfl⟩
      · have h:=qbm h hc23
        refine qap ?_
        refine qa7 (qa2 [0,1] (l:=[(2,.d (.fl .f32 low_)),(3,.d (.fl .f32 high_)),(4,.d (.int .i64 count_)),(5,.ptr 0 0),(6,.ptr 1 0)]) (objs:=[.box [.d (.sl false (a_.qa8.map qa4)),.d (.sl false (a_.Times.map qa4))],.box [.d (.sl false (b_.qa8.map qa4)),.d (.sl false (b_.Times.map qa4))]]) rfl (by simp) rfl (by trivial) ⟨rfl,trivial,rfl,trivial,rfl,trivial,rfl,trivial,rfl,trivial,trivial⟩) ?_
        exact hk15 () h
    · refine qa5 ?_
      refine qa1 ?_
      refine qa0 hτ rfl rfl rfl ?_
      refine qaa h fun x25 hx25 h=>?_
      refine qag hτ false [] rfl rfl rfl (qaj func61 rfl rfl) rfl rfl (by simp) ⟨(by trivial),trivial⟩ (by trivial) (qib n a_ hx25) ?_
      rintro r0 o0 n0 ⟨rfl,rfl,rfl⟩ -
      refine qa0 hτ rfl rfl rfl ?_
      refine qa0 hτ rfl rfl rfl ?_
      refine qb4 15 rfl (fun hb26=>?_) (fun hb26=>?_)
      · have hb26:=qgh hb26
        have h:=qbm h hb26
        refine qa6 rfl rfl ?_
        refine qa6 rfl rfl ?_
        refine qa6 rfl rfl ?_
        refine qa0 hτ rfl rfl rfl ?_
        refine qat (qa2 [0,1] (l:=[(2,.d (.fl .f32 low_)),(3,.d (.fl .f32 high_)),(4,.d (.int .i64 count_)),(5,.ptr 0 0),(6,.ptr 1 0),(19,.d (.bool true))]) (objs:=[.box [.d (.sl false (a_.qa8.map qa4)),.d (.sl false (a_.Times.map qa4))],.box [.d (.sl false (b_.qa8.map qa4)),.d (.sl false (b_.Times.map qa4))]]) rfl (by simp) rfl (by trivial) ⟨rfl,trivial,rfl,trivial,rfl,trivial,rfl,trivial,rfl,trivial,rfl,trivial,trivial⟩) ?_
        refine qa0 hτ rfl rfl rfl ?_
        refine qa6 rfl rfl ?_
        refine qa6 rfl rfl ?_
        refine qa6 rfl rfl ?_
        refine qa0 hτ rfl rfl rfl ?_
        refine qa3 ?_
        refine qa7 (qa2 [0,1] (l:=[(2,.d (.fl .f32 low_)),(3,.d (.fl .f32 high_)),(4,.d (.int .i64 count_)),(5,.ptr 0 0),(6,.ptr 1 0),(24,.d (.bool true))]) (objs:=[.box [.d (.sl false (a_.qa8.map qa4)),.d (.sl false (a_.Times.map qa4))],.box [.d (.sl false (b_.qa8.map qa4)),.d (.sl false (b_.Times.map qa4))]]) rfl (by simp) rfl (by trivial) ⟨rfl,trivial,rfl,trivial,rfl,trivial,rfl,trivial,rfl,trivial,rfl,trivial,trivial⟩) ?_
        exact hk24 true h
      · have hb26:=qgg hb26
        have h:=qbn h hb26
        refine qa0 hτ rfl rfl rfl ?_
        refine qaa h fun x27 hx27 h=>?_
        refine qag hτ false [] rfl rfl rfl (qaj func61 rfl rfl) rfl rfl (by simp) ⟨(by trivial),trivial⟩ (by trivial) (qib n b_ hx27) ?_
        rintro r0 o0 n0 ⟨rfl,rfl,rfl⟩ -
        refine qa0 hτ rfl rfl rfl ?_
        refine qa0 hτ rfl rfl rfl ?_
        refine qat (qa2 [0,1] (l:=[(2,.d (.fl .f32 low_)),(3,.d (.fl .f32 high_)),(4,.d (.int .i64 count_)),(5,.ptr 0 0),(6,.ptr 1 0),(19,.d (.bool (!x27)))]) (objs:=[.box [.d (.sl false (a_.qa8.map qa4)),.d (.sl false (a_.Times.map qa4))],.box [.d (.sl false (b_.qa8.map qa4)),.d (.sl false (b_.Times.map qa4))]]) rfl (by simp) rfl (by trivial) ⟨rfl,trivial,rfl,trivial,rfl,trivial,rfl,trivial,rfl,trivial,rfl,trivial,trivial⟩) ?_
        refine qa0 hτ rfl rfl rfl ?_
        refine qb4 20 rfl (fun hb28=>?_) (fun hb28=>?_)
        · have hb28:=qgh hb28
          have h:=qbm h hb28
          refine qa6 rfl rfl ?_
          refine qa6 rfl rfl ?_
          refine qa6 rfl rfl ?_
          refine qa0 hτ rfl rfl rfl ?_
          refine qa3 ?_
          refine qa7 (qa2 [0,1] (l:=[(2,.d (.fl .f32 low_)),(3,.d (.fl .f32 high_)),(4,.d (.int .i64 count_)),(5,.ptr 0 0),(6,.ptr 1 0),(24,.d (.bool true))]) (objs:=[.box [.d (.sl false (a_.qa8.map qa4)),.d (.sl false (a_.Times.map qa4))],.box [.d (.sl false (b_.qa8.map qa4)),.d (.sl false (b_.Times.map qa4))]]) rfl (by simp) rfl (by trivial) ⟨rfl,trivial,rfl,trivial,rfl,trivial,rfl,trivial,rfl,trivial,rfl,trivial,trivial⟩) ?_
          exact hk24 true h
        · have hb28:=qgg hb28
          have h:=qbn h hb28
          refine qa0 hτ rfl rfl rfl ?_
          refine qaa h fun x29 hx29 h=>?_
          refine qag hτ false [] rfl rfl rfl (qaj func62 rfl rfl) rfl rfl (by simp) ⟨trivial,trivial,trivial,trivial⟩ (by trivial) (qix n count_ (1:Int) (100:Int) hx29) ?_
          rintro r0 o0 n0 ⟨rfl,rfl,rfl⟩ -
          refine qa0 hτ rfl rfl rfl ?_
          refine qa0 hτ rfl rfl rfl ?_
          refine qa3 ?_
          refine qa7 (qa2 [0,1] (l:=[(2,.d (.fl .f32 low_)),(3,.d (.fl .f32 high_)),(4,.d (.int .i64 count_)),(5,.ptr 0 0),(6,.ptr 1 0),(24,.d (.bool (!x29)))]) (objs:=[.box [.d (.sl false (a_.qa8.map qa4)),.d (.sl false (a_.Times.map qa4))],.box [.d (.sl false (b_.qa8.map qa4)),.d (.sl false (b_.Times.map qa4))]]) rfl (by simp) rfl (by trivial) ⟨rfl,trivial,rfl,trivial,rfl,trivial,rfl,trivial,rfl,trivial,rfl,trivial,trivial⟩) ?_
          exact hk24 (!x29) h
theorem impl_GradeOf_ok (n:Nat) (a_:qbq) (b_:qbq) (low_:Nat) (high_:Nat) (count_:Int) {r:Nat × Bool} (h:qi5 n a_ b_ low_ high_ count_ = some r):qb9 prog false 32 [.agg [.d (.sl false (a_.qa8.map qa4)),.d (.sl false (a_.Times.map qa4))],.agg [.d (.sl false (b_.qa8.map qa4)),.d (.sl false (b_.Times.map qa4))],.d (.fl .f32 low_),.d (.fl .f32 high_),.d (.int .i64 count_)] [] (fun v o new=>v = .tup [.d (.fl .f32 r.1),.d (.bool r.2)]∧o = []∧new = []):=impl_GradeOf_ok_fr0 false n a_ b_ low_ high_ count_ h
end Go.Proofs.Ytmllgpkgjniomaa.AWN
