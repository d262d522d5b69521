/- Models and contracts, printed by program. -/
import Derived.Test.YtmllgpkgjniomaaRecA
set_option linter.unusedVariables false
set_option linter.unusedSimpArgs false
set_option linter.unusedSectionVars false
set_option maxHeartbeats 2000000
namespace Go.Proofs.Ytmllgpkgjniomaa.AWN
open Go Go.Proofs.Try
def qer (n:Nat) (s_:Str) (x36:Int × qb0) (x37:Int × qb0) (v66:List qaa) (v67:List qaa) (v68:Str) (v69:Int) (v70:Bool) (v71:List qaa) (v72:List qaa):Option (qbb × Bool) :=
  if v70 = true then
    if x36.1 ≤ (50:Int) then
      (qf8 n (qbb.mk v71 v72 x36.1 (decide (x37.1 = (1:Int))))).bind fun x75 =>
      some ((qbb.mk v71 v72 x36.1 (decide (x37.1 = (1:Int)))),(decide (x75 = s_)))
    else
      some ((qbb.mk v71 v72 x36.1 (decide (x37.1 = (1:Int)))),false)
  else
    some ((qbb.mk v71 v72 x36.1 (decide (x37.1 = (1:Int)))),false)
def qff (n:Nat) (k106:List qaa→List qaa→Str→Int→Bool→List qaa→List qaa→Int→Option (qbb × Bool)) (v83:List qaa) (v84:List qaa) (v85:Str) (v86:Int) (v87:Bool) (v88:List qaa) (v89:List qaa) (v90:Int):Option (qbb × Bool) :=
  (qba n (qb0.mk v85 v86 v87)).bind fun x109 =>
  grd (room (v88.length + 1) 24) <|
  (qba n x109.2).bind fun x111 =>
  grd (room (v89.length + 1) 24) <|
  k106 v83 v84 x111.2.text x111.2.at_ x111.2.fine (v88 ++ [x109.1]) (v89 ++ [x111.1]) (w64 (v90 + (1:Int)))
def qdf (n:Nat) (s_:Str) (x36:Int × qb0) (x37:Int × qb0) (k106:List qaa→List qaa→Str→Int→Bool→List qaa→List qaa→Int→Option (qbb × Bool)) (v83:List qaa) (v84:List qaa) (v85:Str) (v86:Int) (v87:Bool) (v88:List qaa) (v89:List qaa) (v90:Int) (v116:Bool):Option (qbb × Bool) :=
  if v116 = true then
    qff n k106 v83 v84 v85 v86 v87 v88 v89 v90
  else
    qer n s_ x36 x37 v83 v84 v85 v86 v87 v88 v89
def qbl (n:Nat) (s_:Str) (buses_:Int) (x36:Int × qb0) (x37:Int × qb0):Nat→List qaa→List qaa→Str→Int→Bool→List qaa→List qaa→Int→Option (qbb × Bool)
  | 0,_,_,_,_,_,_,_,_=>none
  | m105 + 1,v83,v84,v85,v86,v87,v88,v89,v90 =>
    if v90 < buses_ then
      qdf n s_ x36 x37 (qbl n s_ buses_ x36 x37 m105) v83 v84 v85 v86 v87 v88 v89 v90 v87
    else
      qdf n s_ x36 x37 (qbl n s_ buses_ x36 x37 m105) v83 v84 v85 v86 v87 v88 v89 v90 false
def qft (n:Nat) (s_:Str) (buses_:Int):Option (qbb × Bool) :=
  (qaj n (qb0.mk s_ (0:Int) true) (1:Int)).bind fun x36 =>
  (qaj n x36.2 (1:Int)).bind fun x37 =>
  qbl n s_ buses_ x36 x37 n ([]:List qaa) ([]:List qaa) x37.2.text x37.2.at_ x37.2.fine ([]:List qaa) ([]:List qaa) (0:Int)
theorem spec_l10OfBytes_ok_fr0 (fr:Bool) (n:Nat) (s_:Str) (buses_:Int) {r:qbb × Bool} (h:qft n s_ buses_ = some r):qb5 prog fr 90 [.d (.str (bstr s_)),.d (.int .i64 buses_)] [] (fun v o new=>v = .tup [.agg [.row 0 r.1.qad.length 0 r.1.qad.length,.row 1 r.1.qae.length 0 r.1.qae.length,.d (.int .i64 r.1.Rounds),.d (.bool r.1.qcj)],.d (.bool r.2)]∧o = []∧new = [.row 3 (r.1.qad.map qa8),.row 3 (r.1.qae.map qa8)]):=by
  refine qar hτ func90 rfl (by simp) (by simp) ?_
  unfold qft at h
  refine qa5 ?_
  refine qa2 ?_
  refine qaq hτ rfl rfl rfl ?_
  refine qa0 hτ rfl rfl rfl ?_
  refine qa4 ?_
  refine qa5 ?_
  refine qa2 ?_
  refine qa0 hτ rfl rfl rfl ?_
  refine qa0 hτ rfl rfl rfl ?_
  refine qaq hτ rfl rfl rfl ?_
  refine qa0 hτ rfl rfl rfl ?_
  refine qa4 ?_
  refine qa5 ?_
  refine qa9 (qa3 [0,1] (l:=[(0,.d (.str (bstr s_))),(1,.d (.int .i64 buses_)),(4,.ptr 0 0),(6,.ptr 1 0)]) (objs:=[.box [.d (.nils),.d (.nils),.d (.int .i64 (0:Int)),.d (.bool false)],.box [.d (.str (bstr s_)),.d (.int .i64 (0:Int)),.d (.bool true)]]) rfl (by simp) rfl (by trivial) ⟨rfl,trivial,rfl,trivial,rfl,trivial,rfl,trivial,trivial⟩) ?_
  refine qa2 ?_
  refine qa0 hτ rfl rfl rfl ?_
  refine qab h fun x36 hx36 h=>?_
  refine qam hτ false [1] rfl rfl rfl (qap func73 rfl rfl) rfl rfl (by simp) ⟨trivial,trivial,trivial⟩ (by trivial) (qbq n (qb0.mk s_ (0:Int) true) (1:Int) hx36) ?_
  rintro r0 o0 n0 ⟨rfl,rfl,rfl⟩ -
  refine qa0 hτ rfl rfl rfl ?_
  refine qaq hτ rfl rfl rfl ?_
  refine qaq hτ rfl rfl rfl ?_
  refine qa4 ?_
  refine qa5 ?_
  refine qa2 ?_
  refine qa0 hτ rfl rfl rfl ?_
  refine qab h fun x37 hx37 h=>?_
  refine qam hτ false [1] rfl rfl rfl (qap func73 rfl rfl) rfl rfl (by simp) ⟨trivial,trivial,trivial⟩ (by trivial) (qbq n x36.2 (1:Int) hx37) ?_
  rintro r0 o0 n0 ⟨rfl,rfl,rfl⟩ -
  refine qa0 hτ (v:=.d (.bool (decide (x37.1 = (1:Int))))) rfl rfl (qom _ _) ?_
  refine qa0 hτ rfl rfl rfl ?_
  refine qaq hτ rfl rfl rfl ?_
  refine qa4 ?_
  refine qd1 (ι:=List qaa × List qaa × Str × Int × Bool × List qaa × List qaa) (fun (v66,v67,v68,v69,v70,v71,v72)=>St.of [(0,.d (.str (bstr s_))),(4,.ptr 0 0),(6,.ptr 3 0),(7,.ptr 4 0)] [.box [.row 1 v66.length 0 v66.length,.row 2 v67.length 0 v67.length,.d (.int .i64 (0:Int)),.d (.bool false)],.row 3 (v66.map qa8),.row 3 (v67.map qa8),.box [.d (.str (bstr v68)),.d (.int .i64 v69),.d (.bool v70)],.box [.row 5 v71.length 0 v71.length,.row 6 v72.length 0 v72.length,.d (.int .i64 x36.1),.d (.bool (decide (x37.1 = (1:Int))))],.row 3 (v71.map qa8),.row 3 (v72.map qa8)] f90.ntmps 0) (fun (v66,v67,v68,v69,v70,v71,v72)=>qer n s_ x36 x37 v66 v67 v68 v69 v70 v71 v72 = some r) ?_ (fun hk76=>?_)
  · rintro ⟨v66,v67,v68,v69,v70,v71,v72⟩ h
    replace h:qer n s_ x36 x37 v66 v67 v68 v69 v70 v71 v72 = some r:=h
    unfold qer at h
    refine qa5 ?_
    refine qc9 ?_
    refine qa7 hτ [4] 0 rfl rfl rfl rfl rfl ?_
    refine qa7 hτ [] 1 rfl rfl rfl rfl rfl ?_
    refine qa7 hτ [] 2 rfl rfl rfl rfl rfl ?_
    refine qa7 hτ [3] 3 rfl rfl rfl rfl rfl ?_
    refine qa7 hτ [3] 4 rfl rfl rfl rfl rfl ?_
    refine qa7 hτ [] 5 rfl rfl rfl rfl rfl ?_
    refine qga 51 rfl (fun hb73=>?_) (fun hb73=>?_)
    · have h:=qci h hb73
      refine qa7 hτ [4] 6 rfl rfl rfl rfl rfl ?_
      refine qa7 hτ [4] 7 rfl rfl rfl rfl rfl ?_
      refine qa7 hτ [] 8 rfl rfl rfl rfl rfl ?_
      refine qa7 hτ [] 9 rfl rfl rfl rfl rfl ?_
      refine qa7 hτ [] 10 rfl rfl rfl rfl rfl ?_
      refine qga 56 rfl (fun hb74=>?_) (fun hb74=>?_)
      · have h:=if_t h hb74
        refine qa7 hτ [] 12 rfl rfl rfl rfl rfl ?_
        refine qab h fun x75 hx75 h=>?_
        refine qbf hτ false [4,5,6] [0,1,2,3,4,5,6] 11 rfl rfl rfl rfl (qap func133 rfl rfl) rfl rfl (by simp) ⟨trivial,trivial⟩ (by trivial) (qke n (qbb.mk v71 v72 x36.1 (decide (x37.1 = (1:Int)))) hx75) ⟨rfl,rfl,rfl,rfl,rfl,rfl,rfl,trivial⟩ ?_
        refine qa7 hτ (v:=.d (.bool (decide (x75 = s_)))) [] 13 rfl rfl rfl rfl (qsf _ _) ?_
        refine qa7 hτ [] 14 rfl rfl rfl rfl rfl ?_
        refine qd3 hτ [1,2,3,4,5,6] 15 rfl rfl rfl rfl ⟨rfl,rfl,rfl,rfl,rfl,rfl,trivial⟩ ?_
        refine qa7 hτ [] 16 rfl rfl rfl rfl rfl ?_
        refine qbp mixed (by kernel_rfl) ?_
        refine qa9 (qa3 [0,5,6] (l:=[(4,.ptr 0 0),(5,.d (.bool (decide (x75 = s_))))]) (objs:=[.box [.row 1 v71.length 0 v71.length,.row 2 v72.length 0 v72.length,.d (.int .i64 x36.1),.d (.bool (decide (x37.1 = (1:Int))))],.row 3 (v71.map qa8),.row 3 (v72.map qa8)]) rfl (by simp) rfl (by trivial) ⟨rfl,trivial,rfl,trivial,trivial⟩) ?_
        refine qas ?_
        have hr:=Option.some.inj h
        subst hr
        exact qaf (.inr rfl) [1,2] (objs':=[]) (new:=[.row 3 (v71.map qa8),.row 3 (v72.map qa8)]) rfl (by simp) (by simp) rfl (by trivial) rfl rfl (by trivial) (fun _=>⟨by simp [V.flat,V.qb2,V.qay,D.flat],(qb8 (qd2 qca _) (qb8 (qd2 qca _) qai))⟩) ⟨rfl,rfl,rfl⟩
      · have h:=if_f h hb74
        refine qak 12 rfl rfl rfl ?_
        refine qak 11 rfl rfl rfl ?_
        refine qak 13 rfl rfl rfl ?_
        refine qa7 hτ [] 14 rfl rfl rfl rfl rfl ?_
        refine qd3 hτ [1,2,3,4,5,6] 15 rfl rfl rfl rfl ⟨rfl,rfl,rfl,rfl,rfl,rfl,trivial⟩ ?_
        refine qa7 hτ [] 16 rfl rfl rfl rfl rfl ?_
        refine qbp mixed (by kernel_rfl) ?_
        refine qa9 (qa3 [0,5,6] (l:=[(4,.ptr 0 0),(5,.d (.bool false))]) (objs:=[.box [.row 1 v71.length 0 v71.length,.row 2 v72.length 0 v72.length,.d (.int .i64 x36.1),.d (.bool (decide (x37.1 = (1:Int))))],.row 3 (v71.map qa8),.row 3 (v72.map qa8)]) rfl (by simp) rfl (by trivial) ⟨rfl,trivial,rfl,trivial,trivial⟩) ?_
        refine qas ?_
        have hr:=Option.some.inj h
        subst hr
        exact qaf (.inr rfl) [1,2] (objs':=[]) (new:=[.row 3 (v71.map qa8),.row 3 (v72.map qa8)]) rfl (by simp) (by simp) rfl (by trivial) rfl rfl (by trivial) (fun _=>⟨by simp [V.flat,V.qb2,V.qay,D.flat],(qb8 (qd2 qca _) (qb8 (qd2 qca _) qai))⟩) ⟨rfl,rfl,rfl⟩
    · have h:=qch h hb73
      refine qak 6 rfl rfl rfl ?_
      refine qak 7 rfl rfl rfl ?_
      refine qak 8 rfl rfl rfl ?_
      refine qa7 hτ [] 9 rfl rfl rfl rfl rfl ?_
      refine qa7 hτ [] 10 rfl rfl rfl rfl rfl ?_
      refine qak 12 rfl rfl rfl ?_
      refine qak 11 rfl rfl rfl ?_
      refine qak 13 rfl rfl rfl ?_
      refine qa7 hτ [] 14 rfl rfl rfl rfl rfl ?_
      refine qd3 hτ [1,2,3,4,5,6] 15 rfl rfl rfl rfl ⟨rfl,rfl,rfl,rfl,rfl,rfl,trivial⟩ ?_
      refine qa7 hτ [] 16 rfl rfl rfl rfl rfl ?_
      refine qbp mixed (by kernel_rfl) ?_
      refine qa9 (qa3 [0,5,6] (l:=[(4,.ptr 0 0),(5,.d (.bool false))]) (objs:=[.box [.row 1 v71.length 0 v71.length,.row 2 v72.length 0 v72.length,.d (.int .i64 x36.1),.d (.bool (decide (x37.1 = (1:Int))))],.row 3 (v71.map qa8),.row 3 (v72.map qa8)]) rfl (by simp) rfl (by trivial) ⟨rfl,trivial,rfl,trivial,trivial⟩) ?_
      refine qas ?_
      have hr:=Option.some.inj h
      subst hr
      exact qaf (.inr rfl) [1,2] (objs':=[]) (new:=[.row 3 (v71.map qa8),.row 3 (v72.map qa8)]) rfl (by simp) (by simp) rfl (by trivial) rfl rfl (by trivial) (fun _=>⟨by simp [V.flat,V.qb2,V.qay,D.flat],(qb8 (qd2 qca _) (qb8 (qd2 qca _) qai))⟩) ⟨rfl,rfl,rfl⟩
  · refine qa5 ?_
    refine qa5 ?_
    refine qa9 (qa3 [0,1,2] (l:=[(0,.d (.str (bstr s_))),(1,.d (.int .i64 buses_)),(4,.ptr 0 0),(6,.ptr 1 0),(7,.ptr 2 0)]) (objs:=[.box [.d (.nils),.d (.nils),.d (.int .i64 (0:Int)),.d (.bool false)],.box [.d (.str (bstr x37.2.text)),.d (.int .i64 x37.2.at_),.d (.bool x37.2.fine)],.box [.d (.nils),.d (.nils),.d (.int .i64 x36.1),.d (.bool (decide (x37.1 = (1:Int))))]]) rfl (by simp) rfl (by trivial) ⟨rfl,trivial,rfl,trivial,rfl,trivial,rfl,trivial,rfl,trivial,trivial⟩) ?_
    refine qa2 ?_
    refine qa0 hτ rfl rfl rfl ?_
    refine qa4 ?_
    refine qb6 ?_
    refine qe1 (ι:=Nat × List qaa × List qaa × Str × Int × Bool × List qaa × List qaa × Int) (fun (m105,v83,v84,v85,v86,v87,v88,v89,v90)=>St.of [(0,.d (.str (bstr s_))),(1,.d (.int .i64 buses_)),(4,.ptr 0 0),(6,.ptr 3 0),(7,.ptr 4 0),(8,.d (.int .i64 v90))] [.box [.row 1 v83.length 0 v83.length,.row 2 v84.length 0 v84.length,.d (.int .i64 (0:Int)),.d (.bool false)],.row 3 (v83.map qa8),.row 3 (v84.map qa8),.box [.d (.str (bstr v85)),.d (.int .i64 v86),.d (.bool v87)],.box [.row 5 v88.length 0 v88.length,.row 6 v89.length 0 v89.length,.d (.int .i64 x36.1),.d (.bool (decide (x37.1 = (1:Int))))],.row 3 (v88.map qa8),.row 3 (v89.map qa8)] f90.ntmps 0) (fun (m105,v83,v84,v85,v86,v87,v88,v89,v90)=>qbl n s_ buses_ x36 x37 m105 v83 v84 v85 v86 v87 v88 v89 v90 = some r) (fun x=>x.1) (n,([]:List qaa),([]:List qaa),x37.2.text,x37.2.at_,x37.2.fine,([]:List qaa),([]:List qaa),(0:Int)) h (Weak.trans (Weak.trans (qa3 [0,1,2] (l:=[(0,.d (.str (bstr s_))),(1,.d (.int .i64 buses_)),(4,.ptr 0 0),(6,.ptr 1 0),(7,.ptr 2 0),(8,.d (.int .i64 (0:Int)))]) (objs:=[.box [.d (.nils),.d (.nils),.d (.int .i64 (0:Int)),.d (.bool false)],.box [.d (.str (bstr x37.2.text)),.d (.int .i64 x37.2.at_),.d (.bool x37.2.fine)],.box [.d (.nils),.d (.nils),.d (.int .i64 x36.1),.d (.bool (decide (x37.1 = (1:Int))))]]) rfl (by simp) rfl (by trivial) ⟨rfl,trivial,rfl,trivial,rfl,trivial,rfl,trivial,rfl,trivial,rfl,trivial,trivial⟩) (qh4 [3,3,3,3] (l':=[(0,.d (.str (bstr s_))),(1,.d (.int .i64 buses_)),(4,.ptr 0 0),(6,.ptr 1 0),(7,.ptr 2 0),(8,.d (.int .i64 (0:Int)))]) (objs':=[.box [.row 3 (([]:List qaa).length) 0 (([]:List qaa).length),.row 4 (([]:List qaa).length) 0 (([]:List qaa).length),.d (.int .i64 (0:Int)),.d (.bool false)],.box [.d (.str (bstr x37.2.text)),.d (.int .i64 x37.2.at_),.d (.bool x37.2.fine)],.box [.row 5 (([]:List qaa).length) 0 (([]:List qaa).length),.row 6 (([]:List qaa).length) 0 (([]:List qaa).length),.d (.int .i64 x36.1),.d (.bool (decide (x37.1 = (1:Int))))]]) (.cons (.c (.refl _)) (.cons (.c (.refl _)) (.cons (.c (.refl _)) (.cons (.c (.refl _)) (.cons (.c (.refl _)) (.cons (.c (.refl _)) .nil)))))) (.cons (.box (.cons (.ghost ⟨Nat.le_of_ble_eq_true rfl,Nat.le_of_ble_eq_true rfl⟩) (.cons (.ghost ⟨Nat.le_of_ble_eq_true rfl,Nat.le_of_ble_eq_true rfl⟩) (.cons (.refl _) (.cons (.refl _) .nil))))) (.cons (.refl _) (.cons (.box (.cons (.ghost ⟨Nat.le_of_ble_eq_true rfl,Nat.le_of_ble_eq_true rfl⟩) (.cons (.ghost ⟨Nat.le_of_ble_eq_true rfl,Nat.le_of_ble_eq_true rfl⟩) (.cons (.refl _) (.cons (.refl _) .nil))))) .nil))))) (qa3 [0,3,4,1,2,5,6] (l:=[(0,.d (.str (bstr s_))),(1,.d (.int .i64 buses_)),(4,.ptr 0 0),(6,.ptr 3 0),(7,.ptr 4 0),(8,.d (.int .i64 (0:Int)))]) (objs:=[.box [.row 1 (([]:List qaa).length) 0 (([]:List qaa).length),.row 2 (([]:List qaa).length) 0 (([]:List qaa).length),.d (.int .i64 (0:Int)),.d (.bool false)],.row 3 (([]:List qaa).map qa8),.row 3 (([]:List qaa).map qa8),.box [.d (.str (bstr x37.2.text)),.d (.int .i64 x37.2.at_),.d (.bool x37.2.fine)],.box [.row 5 (([]:List qaa).length) 0 (([]:List qaa).length),.row 6 (([]:List qaa).length) 0 (([]:List qaa).length),.d (.int .i64 x36.1),.d (.bool (decide (x37.1 = (1:Int))))],.row 3 (([]:List qaa).map qa8),.row 3 (([]:List qaa).map qa8)]) rfl (by simp) rfl (by trivial) ⟨rfl,trivial,rfl,trivial,rfl,trivial,rfl,trivial,rfl,trivial,rfl,trivial,trivial⟩)) ?_
    rintro ⟨m105,v83,v84,v85,v86,v87,v88,v89,v90⟩ h
    replace h:qbl n s_ buses_ x36 x37 m105 v83 v84 v85 v86 v87 v88 v89 v90 = some r:=h
    rcases m105 with _ | m105
    · rw [qbl] at h;cases h
    rw [qbl] at h
    refine qd1 (ι:=Unit) (fun _=>St.of [(0,.d (.str (bstr s_))),(1,.d (.int .i64 buses_)),(4,.ptr 0 0),(6,.ptr 3 0),(7,.ptr 4 0),(8,.d (.int .i64 v90))] [.box [.row 1 v83.length 0 v83.length,.row 2 v84.length 0 v84.length,.d (.int .i64 (0:Int)),.d (.bool false)],.row 3 (v83.map qa8),.row 3 (v84.map qa8),.box [.d (.str (bstr v85)),.d (.int .i64 v86),.d (.bool v87)],.box [.row 5 v88.length 0 v88.length,.row 6 v89.length 0 v89.length,.d (.int .i64 x36.1),.d (.bool (decide (x37.1 = (1:Int))))],.row 3 (v88.map qa8),.row 3 (v89.map qa8)] f90.ntmps 0) (fun _=>qff n (qbl n s_ buses_ x36 x37 m105) v83 v84 v85 v86 v87 v88 v89 v90 = some r) ?_ (fun hk113=>?_)
    · rintro ⟨⟩ h
      replace h:qff n (qbl n s_ buses_ x36 x37 m105) v83 v84 v85 v86 v87 v88 v89 v90 = some r:=h
      unfold qff at h
      refine qa5 ?_
      refine qb6 ?_
      refine qa5 ?_
      refine qa2 ?_
      refine qa0 hτ rfl rfl rfl ?_
      refine qab h fun x109 hx109 h=>?_
      refine qam hτ false [3] rfl rfl rfl (qap func72 rfl rfl) rfl rfl (by simp) ⟨trivial,trivial⟩ (by trivial) (qg4 n (qb0.mk v85 v86 v87) hx109) ?_
      rintro r0 o0 n0 ⟨rfl,rfl,rfl⟩ -
      refine qaq hτ rfl rfl rfl ?_
      refine qaq hτ rfl rfl rfl ?_
      refine qa4 ?_
      refine qa5 ?_
      refine qa2 ?_
      refine qa0 hτ rfl rfl rfl ?_
      refine qa0 hτ rfl rfl rfl ?_
      refine qa0 hτ rfl rfl rfl ?_
      refine qaq hτ rfl rfl rfl ?_
      refine qbh h fun hg110 h=>?_
      refine qlf hτ rfl rfl (Eq.trans rfl (or_append (f:=qa8) v88 [x109.1] rfl)) ⟨⟨rfl,Nat.le_of_ble_eq_true rfl⟩,qc8 _,rfl,rfl,hg110,by decide,(all1 rfl)⟩ ?_
      refine qa0 hτ rfl rfl rfl ?_
      refine qaq hτ rfl rfl rfl ?_
      refine qa4 ?_
      refine qa9 (qa3 [0,1,2,3,4,5,6] (l:=[(0,.d (.str (bstr s_))),(1,.d (.int .i64 buses_)),(4,.ptr 0 0),(6,.ptr 3 0),(7,.ptr 4 0),(8,.d (.int .i64 v90))]) (objs:=[.box [.row 1 v83.length 0 v83.length,.row 2 v84.length 0 v84.length,.d (.int .i64 (0:Int)),.d (.bool false)],.row 3 (v83.map qa8),.row 3 (v84.map qa8),.box [.d (.str (bstr x109.2.text)),.d (.int .i64 x109.2.at_),.d (.bool x109.2.fine)],.box [.row 5 ((v88 ++ [x109.1]).length) 0 ((v88 ++ [x109.1]).length),.row 6 v89.length 0 v89.length,.d (.int .i64 x36.1),.d (.bool (decide (x37.1 = (1:Int))))],.row 3 ((v88 ++ [x109.1]).map qa8),.row 3 (v89.map qa8)]) rfl (by simp) rfl (by trivial) ⟨rfl,trivial,rfl,trivial,rfl,trivial,rfl,trivial,rfl,trivial,rfl,trivial,trivial⟩) ?_
      refine qc9 ?_
      refine qa7 hτ [4] 0 rfl rfl rfl rfl rfl ?_
      refine qa7 hτ [4] 1 rfl rfl rfl rfl rfl ?_
      refine qa7 hτ [] 2 rfl rfl rfl rfl rfl ?_
      refine qab h fun x111 hx111 h=>?_
      refine qbf hτ false [3] [0,1,2,4,5,6] 3 rfl rfl rfl rfl (qap func72 rfl rfl) rfl rfl (by simp) ⟨trivial,trivial⟩ (by trivial) (qg4 n x109.2 hx111) ⟨rfl,rfl,rfl,rfl,rfl,rfl,trivial⟩ ?_
      refine qd3 hτ [0,1,2,3,4,5,6] 4 rfl rfl rfl rfl ⟨rfl,rfl,rfl,rfl,rfl,rfl,rfl,trivial⟩ ?_
      refine qbh h fun hg112 h=>?_
      refine qir hτ [0,1,2,3,4,5,7] 5 rfl rfl rfl (Eq.trans rfl (or_append (f:=qa8) v89 [x111.1] rfl)) ⟨⟨rfl,Nat.le_of_ble_eq_true rfl⟩,qc8 _,rfl,rfl,hg112,by decide,(all1 rfl)⟩ ⟨rfl,rfl,rfl,rfl,rfl,rfl,rfl,trivial⟩ ?_
      refine qa7 hτ [4] 6 rfl rfl rfl rfl rfl ?_
      refine qd3 hτ [0,1,2,3,5,6,7] 7 rfl rfl rfl rfl ⟨rfl,rfl,rfl,rfl,rfl,rfl,rfl,trivial⟩ ?_
      refine qbp mixed (by kernel_rfl) ?_
      refine qa9 (qa3 [0,1,2,3,4,5,6] (l:=[(0,.d (.str (bstr s_))),(1,.d (.int .i64 buses_)),(4,.ptr 0 0),(6,.ptr 3 0),(7,.ptr 4 0),(8,.d (.int .i64 v90))]) (objs:=[.box [.row 1 v83.length 0 v83.length,.row 2 v84.length 0 v84.length,.d (.int .i64 (0:Int)),.d (.bool false)],.row 3 (v83.map qa8),.row 3 (v84.map qa8),.box [.d (.str (bstr x111.2.text)),.d (.int .i64 x111.2.at_),.d (.bool x111.2.fine)],.box [.row 5 ((v88 ++ [x109.1]).length) 0 ((v88 ++ [x109.1]).length),.row 6 ((v89 ++ [x111.1]).length) 0 ((v89 ++ [x111.1]).length),.d (.int .i64 x36.1),.d (.bool (decide (x37.1 = (1:Int))))],.row 3 ((v88 ++ [x109.1]).map qa8),.row 3 ((v89 ++ [x111.1]).map qa8)]) rfl (by simp) rfl (by trivial) ⟨rfl,trivial,rfl,trivial,rfl,trivial,rfl,trivial,rfl,trivial,rfl,trivial,trivial⟩) ?_
      refine qa2 ?_
      refine qa0 hτ rfl rfl rfl ?_
      refine qa0 hτ rfl rfl rfl ?_
      refine qa0 hτ rfl rfl rfl ?_
      refine qa4 ?_
      exact ⟨(m105,v83,v84,x111.2.text,x111.2.at_,x111.2.fine,(v88 ++ [x109.1]),(v89 ++ [x111.1]),(w64 (v90 + (1:Int)))),h,Nat.lt_succ_self m105,(qa3 [0,1,2,3,4,5,6] (l:=[(0,.d (.str (bstr s_))),(1,.d (.int .i64 buses_)),(4,.ptr 0 0),(6,.ptr 3 0),(7,.ptr 4 0),(8,.d (.int .i64 (w64 (v90 + (1:Int)))))]) (objs:=[.box [.row 1 v83.length 0 v83.length,.row 2 v84.length 0 v84.length,.d (.int .i64 (0:Int)),.d (.bool false)],.row 3 (v83.map qa8),.row 3 (v84.map qa8),.box [.d (.str (bstr x111.2.text)),.d (.int .i64 x111.2.at_),.d (.bool x111.2.fine)],.box [.row 5 ((v88 ++ [x109.1]).length) 0 ((v88 ++ [x109.1]).length),.row 6 ((v89 ++ [x111.1]).length) 0 ((v89 ++ [x111.1]).length),.d (.int .i64 x36.1),.d (.bool (decide (x37.1 = (1:Int))))],.row 3 ((v88 ++ [x109.1]).map qa8),.row 3 ((v89 ++ [x111.1]).map qa8)]) rfl (by simp) rfl (by trivial) ⟨rfl,trivial,rfl,trivial,rfl,trivial,rfl,trivial,rfl,trivial,rfl,trivial,trivial⟩)⟩
    · refine qa5 ?_
      refine qd1 (ι:=Bool) (fun v116=>St.of [(0,.d (.str (bstr s_))),(1,.d (.int .i64 buses_)),(4,.ptr 0 0),(6,.ptr 3 0),(7,.ptr 4 0),(8,.d (.int .i64 v90)),(28,.d (.bool v116))] [.box [.row 1 v83.length 0 v83.length,.row 2 v84.length 0 v84.length,.d (.int .i64 (0:Int)),.d (.bool false)],.row 3 (v83.map qa8),.row 3 (v84.map qa8),.box [.d (.str (bstr v85)),.d (.int .i64 v86),.d (.bool v87)],.box [.row 5 v88.length 0 v88.length,.row 6 v89.length 0 v89.length,.d (.int .i64 x36.1),.d (.bool (decide (x37.1 = (1:Int))))],.row 3 (v88.map qa8),.row 3 (v89.map qa8)] f90.ntmps 0) (fun v116=>qdf n s_ x36 x37 (qbl n s_ buses_ x36 x37 m105) v83 v84 v85 v86 v87 v88 v89 v90 v116 = some r) ?_ (fun hk118=>?_)
      · rintro v116 h
        replace h:qdf n s_ x36 x37 (qbl n s_ buses_ x36 x37 m105) v83 v84 v85 v86 v87 v88 v89 v90 v116 = some r:=h
        unfold qdf at h
        refine qau rfl (fun hc117=>?_) (fun hc117=>?_)
        · have h:=qci h hc117
          refine qav ?_
          refine qa9 (qa3 [0,1,2,3,4,5,6] (l:=[(0,.d (.str (bstr s_))),(1,.d (.int .i64 buses_)),(4,.ptr 0 0),(6,.ptr 3 0),(7,.ptr 4 0),(8,.d (.int .i64 v90))]) (objs:=[.box [.row 1 v83.length 0 v83.length,.row 2 v84.length 0 v84.length,.d (.int .i64 (0:Int)),.d (.bool false)],.row 3 (v83.map qa8),.row 3 (v84.map qa8),.box [.d (.str (bstr v85)),.d (.int .i64 v86),.d (.bool v87)],.box [.row 5 v88.length 0 v88.length,.row 6 v89.length 0 v89.length,.d (.int .i64 x36.1),.d (.bool (decide (x37.1 = (1:Int))))],.row 3 (v88.map qa8),.row 3 (v89.map qa8)]) rfl (by simp) rfl (by trivial) ⟨rfl,trivial,rfl,trivial,rfl,trivial,rfl,trivial,rfl,trivial,rfl,trivial,trivial⟩) ?_
          exact hk113 () h
        · have h:=qch h hc117
          refine qdv ?_
          refine qa9 (qa3 [0,1,2,3,4,5,6] (l:=[(0,.d (.str (bstr s_))),(4,.ptr 0 0),(6,.ptr 3 0),(7,.ptr 4 0)]) (objs:=[.box [.row 1 v83.length 0 v83.length,.row 2 v84.length 0 v84.length,.d (.int .i64 (0:Int)),.d (.bool false)],.row 3 (v83.map qa8),.row 3 (v84.map qa8),.box [.d (.str (bstr v85)),.d (.int .i64 v86),.d (.bool v87)],.box [.row 5 v88.length 0 v88.length,.row 6 v89.length 0 v89.length,.d (.int .i64 x36.1),.d (.bool (decide (x37.1 = (1:Int))))],.row 3 (v88.map qa8),.row 3 (v89.map qa8)]) rfl (by simp) rfl (by trivial) ⟨rfl,trivial,rfl,trivial,rfl,trivial,rfl,trivial,trivial⟩) ?_
          exact hk76 (v83,v84,v85,v86,v87,v88,v89) h
      · refine qa5 ?_
        refine qa2 ?_
        refine qa0 hτ rfl rfl rfl ?_
        refine qa0 hτ rfl rfl rfl ?_
        refine qa0 hτ rfl rfl rfl ?_
        refine qa0 hτ rfl rfl rfl ?_
        refine qcm 23 rfl (fun hb119=>?_) (fun hb119=>?_)
        · have h:=if_t h hb119
          refine qa0 hτ rfl rfl rfl ?_
          refine qa0 hτ rfl rfl rfl ?_
          refine qa0 hτ rfl rfl rfl ?_
          refine qa0 hτ rfl rfl rfl ?_
          refine qa0 hτ rfl rfl rfl ?_
          refine qa4 ?_
          refine qa9 (qa3 [0,1,2,3,4,5,6] (l:=[(0,.d (.str (bstr s_))),(1,.d (.int .i64 buses_)),(4,.ptr 0 0),(6,.ptr 3 0),(7,.ptr 4 0),(8,.d (.int .i64 v90)),(28,.d (.bool v87))]) (objs:=[.box [.row 1 v83.length 0 v83.length,.row 2 v84.length 0 v84.length,.d (.int .i64 (0:Int)),.d (.bool false)],.row 3 (v83.map qa8),.row 3 (v84.map qa8),.box [.d (.str (bstr v85)),.d (.int .i64 v86),.d (.bool v87)],.box [.row 5 v88.length 0 v88.length,.row 6 v89.length 0 v89.length,.d (.int .i64 x36.1),.d (.bool (decide (x37.1 = (1:Int))))],.row 3 (v88.map qa8),.row 3 (v89.map qa8)]) rfl (by simp) rfl (by trivial) ⟨rfl,trivial,rfl,trivial,rfl,trivial,rfl,trivial,rfl,trivial,rfl,trivial,rfl,trivial,trivial⟩) ?_
          exact hk118 v87 h
        · have h:=if_f h hb119
          refine qao rfl rfl ?_
          refine qao rfl rfl ?_
          refine qao rfl rfl ?_
          refine qao rfl rfl ?_
          refine qa0 hτ rfl rfl rfl ?_
          refine qa4 ?_
          refine qa9 (qa3 [0,1,2,3,4,5,6] (l:=[(0,.d (.str (bstr s_))),(1,.d (.int .i64 buses_)),(4,.ptr 0 0),(6,.ptr 3 0),(7,.ptr 4 0),(8,.d (.int .i64 v90)),(28,.d (.bool false))]) (objs:=[.box [.row 1 v83.length 0 v83.length,.row 2 v84.length 0 v84.length,.d (.int .i64 (0:Int)),.d (.bool false)],.row 3 (v83.map qa8),.row 3 (v84.map qa8),.box [.d (.str (bstr v85)),.d (.int .i64 v86),.d (.bool v87)],.box [.row 5 v88.length 0 v88.length,.row 6 v89.length 0 v89.length,.d (.int .i64 x36.1),.d (.bool (decide (x37.1 = (1:Int))))],.row 3 (v88.map qa8),.row 3 (v89.map qa8)]) rfl (by simp) rfl (by trivial) ⟨rfl,trivial,rfl,trivial,rfl,trivial,rfl,trivial,rfl,trivial,rfl,trivial,rfl,trivial,trivial⟩) ?_
          exact hk118 false h
theorem spec_l10OfBytes_ok (n:Nat) (s_:Str) (buses_:Int) {r:qbb × Bool} (h:qft n s_ buses_ = some r):qb5 prog false 90 [.d (.str (bstr s_)),.d (.int .i64 buses_)] [] (fun v o new=>v = .tup [.agg [.row 0 r.1.qad.length 0 r.1.qad.length,.row 1 r.1.qae.length 0 r.1.qae.length,.d (.int .i64 r.1.Rounds),.d (.bool r.1.qcj)],.d (.bool r.2)]∧o = []∧new = [.row 3 (r.1.qad.map qa8),.row 3 (r.1.qae.map qa8)]):=spec_l10OfBytes_ok_fr0 false n s_ buses_ h
def qdo (n:Nat) (s_:Str):Nat→Int→Int→Option Int
  | 0,_,_=>none
  | m13 + 1,v8,v9 =>
    if v9 < (s_.length:Int) then
      (getI s_ v9).bind fun x16 =>
      (qdo n s_ m13) ((w64 ((w64 ((w64 ((691:Int) * v8)) + (w64 ((x16.toNat:Int))))) + (43:Int))).tmod (65003:Int)) (w64 (v9 + (1:Int)))
    else
      some v8
def qhh (n:Nat) (n_:Int) (s_:Str):Option Int :=
  qdo n s_ n n_ (0:Int)
theorem spec_l01Check_ok_fr0 (fr:Bool) (n:Nat) (n_:Int) (s_:Str) {r:Int} (h:qhh n n_ s_ = some r):qb5 prog fr 134 [.d (.int .i64 n_),.d (.str (bstr s_))] [] (fun v o new=>v = .d (.int .i64 r)∧o = []∧new = []):=by
  refine qar hτ func134 rfl (by simp) (by simp) ?_
  unfold qhh at h
  refine qa5 ?_
  refine qa2 ?_
  refine qa0 hτ rfl rfl rfl ?_
  refine qa4 ?_
  refine qa5 ?_
  refine qa5 ?_
  refine qa2 ?_
  refine qa0 hτ rfl rfl rfl ?_
  refine qa4 ?_
  refine qb6 ?_
  refine qe1 (ι:=Nat × Int × Int) (fun (m13,v8,v9)=>St.of [(0,.d (.int .i64 v8)),(1,.d (.str (bstr s_))),(5,.d (.int .i64 v9))] [] f134.ntmps 0) (fun (m13,v8,v9)=>qdo n s_ m13 v8 v9 = some r) (fun x=>x.1) (n,n_,(0:Int)) h (qa3 [] (l:=[(0,.d (.int .i64 n_)),(1,.d (.str (bstr s_))),(5,.d (.int .i64 (0:Int)))]) (objs:=[]) rfl (by simp) rfl (by trivial) ⟨rfl,trivial,rfl,trivial,rfl,trivial,trivial⟩) ?_
  rintro ⟨m13,v8,v9⟩ h
  replace h:qdo n s_ m13 v8 v9 = some r:=h
  rcases m13 with _ | m13
  · rw [qdo] at h;cases h
  rw [qdo] at h
  refine qa5 ?_
  refine qa5 ?_
  refine qa2 ?_
  refine qa0 hτ rfl rfl rfl ?_
  refine qa0 hτ rfl rfl rfl ?_
  refine qa0 hτ rfl rfl rfl ?_
  refine qa0 hτ rfl rfl rfl ?_
  refine qa4 ?_
  refine qau rfl (fun hc15=>?_) (fun hc15=>?_)
  · have h:=if_t h hc15
    refine qav ?_
    refine qa5 ?_
    refine qb6 ?_
    refine qa2 ?_
    refine qa0 hτ rfl rfl rfl ?_
    refine qa0 hτ rfl rfl rfl ?_
    refine qa0 hτ rfl rfl rfl ?_
    refine qa0 hτ rfl rfl rfl ?_
    refine qab h fun x16 hx16 h=>?_
    refine qbd hτ (v:=.d (.int .u8 (x16.toNat:Int))) rfl rfl (Eq.trans rfl (qpi hx16)) (qls hx16) ?_
    refine qa0 hτ rfl rfl rfl ?_
    refine qa0 hτ rfl rfl rfl ?_
    refine qa0 hτ rfl rfl rfl ?_
    refine qbn (qa3 [] (l:=[(0,.d (.int .i64 v8)),(1,.d (.str (bstr s_))),(5,.d (.int .i64 v9)),(19,.d (.int .i64 (w64 ((w64 ((w64 ((691:Int) * v8)) + (w64 ((x16.toNat:Int))))) + (43:Int)))))]) (objs:=[]) rfl (by simp) rfl (by trivial) ⟨rfl,trivial,rfl,trivial,rfl,trivial,rfl,trivial,trivial⟩) ?_
    refine qbd hτ rfl rfl rfl (by decide) ?_
    refine qa0 hτ rfl rfl rfl ?_
    refine qa4 ?_
    refine qa2 ?_
    refine qa0 hτ rfl rfl rfl ?_
    refine qa0 hτ rfl rfl rfl ?_
    refine qa0 hτ rfl rfl rfl ?_
    refine qa4 ?_
    exact ⟨(m13,((w64 ((w64 ((w64 ((691:Int) * v8)) + (w64 ((x16.toNat:Int))))) + (43:Int))).tmod (65003:Int)),(w64 (v9 + (1:Int)))),h,Nat.lt_succ_self m13,(qa3 [] (l:=[(0,.d (.int .i64 ((w64 ((w64 ((w64 ((691:Int) * v8)) + (w64 ((x16.toNat:Int))))) + (43:Int))).tmod (65003:Int)))),(1,.d (.str (bstr s_))),(5,.d (.int .i64 (w64 (v9 + (1:Int)))))]) (objs:=[]) rfl (by simp) rfl (by trivial) ⟨rfl,trivial,rfl,trivial,rfl,trivial,trivial⟩)⟩
  · have h:=if_f h hc15
    refine qdv ?_
    refine qa5 ?_
    refine qa2 ?_
    refine qa0 hτ rfl rfl rfl ?_
    refine qa0 hτ rfl rfl rfl ?_
    refine qa4 ?_
    refine qa9 (qa3 [] (l:=[(4,.d (.int .i64 v8))]) (objs:=[]) rfl (by simp) rfl (by trivial) ⟨rfl,trivial,trivial⟩) ?_
    refine qas ?_
    have hr:=Option.some.inj h
    subst hr
    exact qaf (.inr rfl) [] (objs':=[]) (new:=[]) rfl (by simp) (by simp) rfl (by trivial) rfl rfl (by trivial) (fun _=>⟨by simp [V.flat,V.qb2,V.qay,D.flat],qai⟩) ⟨rfl,rfl,rfl⟩
theorem spec_l01Check_ok (n:Nat) (n_:Int) (s_:Str) {r:Int} (h:qhh n n_ s_ = some r):qb5 prog false 134 [.d (.int .i64 n_),.d (.str (bstr s_))] [] (fun v o new=>v = .d (.int .i64 r)∧o = []∧new = []):=spec_l01Check_ok_fr0 false n n_ s_ h
def qgs (n:Nat) (before_:Str) (f_:qbb):Option Str :=
  (qf8 n (qbb.mk f_.qad f_.qae f_.Rounds f_.qcj)).bind fun x6 =>
  grd (before_.length + x6.length ≤ 9223372036854775807) <|
  (qhh n (0:Int) (before_ ++ x6)).bind fun x8 =>
  (qbc n x8 (2:Int)).bind fun x9 =>
  grd (x6.length + x9.length ≤ 9223372036854775807) <|
  some (x6 ++ x9)
theorem spec_l10Frame_ok_fr0 (fr:Bool) (n:Nat) (before_:Str) (f_:qbb) {r:Str} (h:qgs n before_ f_ = some r):qb5 prog fr 91 [.d (.str (bstr before_)),.ptr 0 0] [.box [.row 1 f_.qad.length 0 f_.qad.length,.row 2 f_.qae.length 0 f_.qae.length,.d (.int .i64 f_.Rounds),.d (.bool f_.qcj)],.row 3 (f_.qad.map qa8),.row 3 (f_.qae.map qa8)] (fun v o new=>v = .d (.str (bstr r))∧o = [.box [.row 1 f_.qad.length 0 f_.qad.length,.row 2 f_.qae.length 0 f_.qae.length,.d (.int .i64 f_.Rounds),.d (.bool f_.qcj)],.row 3 (f_.qad.map qa8),.row 3 (f_.qae.map qa8)]∧new = []):=by
  refine qar hτ func91 rfl (by simp) (by simp) ?_
  unfold qgs at h
  refine qa5 ?_
  refine qa2 ?_
  refine qa0 hτ rfl rfl rfl ?_
  refine qa4 ?_
  refine qa5 ?_
  refine qa2 ?_
  refine qa0 hτ rfl rfl rfl ?_
  refine qab h fun x6 hx6 h=>?_
  refine qam hτ false [0,1,2] rfl rfl rfl (qap func133 rfl rfl) rfl rfl (by simp) ⟨trivial,trivial⟩ (by trivial) (qke n (qbb.mk f_.qad f_.qae f_.Rounds f_.qcj) hx6) ?_
  rintro r0 o0 n0 ⟨rfl,rfl,rfl⟩ -
  refine qa0 hτ rfl rfl rfl ?_
  refine qa4 ?_
  refine qa5 ?_
  refine qa2 ?_
  refine qa0 hτ rfl rfl rfl ?_
  refine qa0 hτ rfl rfl rfl ?_
  refine qa0 hτ rfl rfl rfl ?_
  refine qbh h fun hg7 h=>?_
  refine qbd hτ (v:=.d (.str (bstr (before_ ++ x6)))) rfl rfl (Eq.trans rfl (qh1 _ _)) hg7 ?_
  refine qab h fun x8 hx8 h=>?_
  refine qam hτ false [] rfl rfl rfl (qap func134 rfl rfl) rfl rfl (by simp) ⟨trivial,trivial,trivial⟩ (by trivial) (spec_l01Check_ok n (0:Int) (before_ ++ x6) hx8) ?_
  rintro r0 o0 n0 ⟨rfl,rfl,rfl⟩ -
  refine qab h fun x9 hx9 h=>?_
  refine qam hτ false [] rfl rfl rfl (qap func119 rfl rfl) rfl rfl (by simp) ⟨trivial,trivial,trivial⟩ (by trivial) (qcl n x8 (2:Int) hx9) ?_
  rintro r0 o0 n0 ⟨rfl,rfl,rfl⟩ -
  refine qbh h fun hg10 h=>?_
  refine qbd hτ (v:=.d (.str (bstr (x6 ++ x9)))) rfl rfl (Eq.trans rfl (qh1 _ _)) hg10 ?_
  refine qa0 hτ rfl rfl rfl ?_
  refine qa4 ?_
  refine qa9 (qa3 [0,1,2] (l:=[(4,.d (.str (bstr (x6 ++ x9))))]) (objs:=[.box [.row 1 f_.qad.length 0 f_.qad.length,.row 2 f_.qae.length 0 f_.qae.length,.d (.int .i64 f_.Rounds),.d (.bool f_.qcj)],.row 3 (f_.qad.map qa8),.row 3 (f_.qae.map qa8)]) rfl (by simp) rfl (by trivial) ⟨rfl,trivial,trivial⟩) ?_
  refine qas ?_
  have hr:=Option.some.inj h
  subst hr
  exact qaf (.inr rfl) [] (objs':=[.box [.row 1 f_.qad.length 0 f_.qad.length,.row 2 f_.qae.length 0 f_.qae.length,.d (.int .i64 f_.Rounds),.d (.bool f_.qcj)],.row 3 (f_.qad.map qa8),.row 3 (f_.qae.map qa8)]) (new:=[]) rfl (by simp) (by simp) rfl (by trivial) rfl rfl (by trivial) (fun _=>⟨by simp [V.flat,V.qb2,V.qay,D.flat],(qb8 (by simp [AObj.flat,V.qay,D.flat]) (qb8 (qd2 qca _) (qb8 (qd2 qca _) qai)))⟩) ⟨rfl,rfl,rfl⟩
theorem spec_l10Frame_ok (n:Nat) (before_:Str) (f_:qbb) {r:Str} (h:qgs n before_ f_ = some r):qb5 prog false 91 [.d (.str (bstr before_)),.ptr 0 0] [.box [.row 1 f_.qad.length 0 f_.qad.length,.row 2 f_.qae.length 0 f_.qae.length,.d (.int .i64 f_.Rounds),.d (.bool f_.qcj)],.row 3 (f_.qad.map qa8),.row 3 (f_.qae.map qa8)] (fun v o new=>v = .d (.str (bstr r))∧o = [.box [.row 1 f_.qad.length 0 f_.qad.length,.row 2 f_.qae.length 0 f_.qae.length,.d (.int .i64 f_.Rounds),.d (.bool f_.qcj)],.row 3 (f_.qad.map qa8),.row 3 (f_.qae.map qa8)]∧new = []):=spec_l10Frame_ok_fr0 false n before_ f_ h
def qfg (n:Nat) (x26:qbi × Int × Bool) (v52:Int) (v53:List qbb):Option (qc7 × Int × Bool) :=
  some ((qc7.mk x26.1 v53),v52,true)
def qfi (n:Nat) (x26:qbi × Int × Bool) (k80:Int→List qbb→Option (qc7 × Int × Bool)) (v65:Int) (v66:List qbb) (x84:qbb × Bool):Option (qc7 × Int × Bool) :=
  grd (room (v66.length + 1) 64) <|
  k80 (w64 (v65 + (w64 ((w64 ((2:Int) + (w64 ((48:Int) * (x26.1.qa1.qac.length:Int))))) + (2:Int))))) (v66 ++ [x84.1])
def qdg (n:Nat) (x26:qbi × Int × Bool) (k80:Int→List qbb→Option (qc7 × Int × Bool)) (v65:Int) (v66:List qbb) (x84:qbb × Bool) (v97:Bool):Option (qc7 × Int × Bool) :=
  if v97 = true then
    qfg n x26 v65 v66
  else
    qfi n x26 k80 v65 v66 x84
def qfh (n:Nat) (s_:Str) (x26:qbi × Int × Bool) (k80:Int→List qbb→Option (qc7 × Int × Bool)) (v65:Int) (v66:List qbb):Option (qc7 × Int × Bool) :=
  grd (0 ≤ v65∧v65 ≤ (w64 (v65 + (w64 ((2:Int) + (w64 ((48:Int) * (x26.1.qa1.qac.length:Int)))))))∧(w64 (v65 + (w64 ((2:Int) + (w64 ((48:Int) * (x26.1.qa1.qac.length:Int))))))) ≤ (s_.length:Int)) <|
  (qft n (sub s_ v65 (w64 (v65 + (w64 ((2:Int) + (w64 ((48:Int) * (x26.1.qa1.qac.length:Int)))))))) (x26.1.qa1.qac.length:Int)).bind fun x84 =>
  if x84.2 = true then
    grd (0 ≤ (0:Int)∧(0:Int) ≤ v65∧v65 ≤ (s_.length:Int)) <|
    grd (0 ≤ v65∧v65 ≤ (w64 ((w64 (v65 + (w64 ((2:Int) + (w64 ((48:Int) * (x26.1.qa1.qac.length:Int))))))) + (2:Int)))∧(w64 ((w64 (v65 + (w64 ((2:Int) + (w64 ((48:Int) * (x26.1.qa1.qac.length:Int))))))) + (2:Int))) ≤ (s_.length:Int)) <|
    (qgs n (sub s_ (0:Int) v65) (qbb.mk x84.1.qad x84.1.qae x84.1.Rounds x84.1.qcj)).bind fun x103 =>
    qdg n x26 k80 v65 v66 x84 (!(decide (x103 = (sub s_ v65 (w64 ((w64 (v65 + (w64 ((2:Int) + (w64 ((48:Int) * (x26.1.qa1.qac.length:Int))))))) + (2:Int)))))))
  else
    qdg n x26 k80 v65 v66 x84 true
def qdh (n:Nat) (s_:Str) (x26:qbi × Int × Bool) (k80:Int→List qbb→Option (qc7 × Int × Bool)) (v65:Int) (v66:List qbb) (v107:Bool):Option (qc7 × Int × Bool) :=
  if v107 = true then
    qfh n s_ x26 k80 v65 v66
  else
    qfg n x26 v65 v66
def qb4 (n:Nat) (s_:Str) (x26:qbi × Int × Bool):Nat→Int→List qbb→Option (qc7 × Int × Bool)
  | 0,_,_=>none
  | m79 + 1,v65,v66 =>
    if (v66.length:Int) < (8:Int) then
      qdh n s_ x26 (qb4 n s_ x26 m79) v65 v66 (decide ((w64 ((w64 (v65 + (w64 ((2:Int) + (w64 ((48:Int) * (x26.1.qa1.qac.length:Int))))))) + (2:Int))) ≤ (s_.length:Int)))
    else
      qdh n s_ x26 (qb4 n s_ x26 m79) v65 v66 false
def qeg (n:Nat) (s_:Str):Option (qc7 × Int × Bool) :=
  (qgr n s_).bind fun x26 =>
  if x26.2.2 = true then
    qb4 n s_ x26 n x26.2.1 ([]:List qbb)
  else
    some ((qc7.mk x26.1 ([]:List qbb)),(0:Int),false)
theorem spec_l10Recover_ok (n:Nat) (s_:Str) {r:qc7 × Int × Bool} (h:qeg n s_ = some r):qb5 prog false 41 [.d (.str (bstr s_))] [] (fun v o new=>v = .tup [.agg [.d (.cx .f32 r.1.Grid.qa1.Source.A.re r.1.Grid.qa1.Source.A.im),.d (.cx .f32 r.1.Grid.qa1.Source.B.re r.1.Grid.qa1.Source.B.im),.d (.cx .f32 r.1.Grid.qa1.Source.C.re r.1.Grid.qa1.Source.C.im),.d (.sl false (r.1.Grid.qa1.qac.map qah)),.d (.sl false (r.1.Grid.Ties.map qan)),.row 0 r.1.qce.length 0 r.1.qce.length],.d (.int .i64 r.2.1),.d (.bool r.2.2)]∧o = []∧new = [.row 4 (r.1.qce.map qbm)]):=by
  refine qar hτ func41 rfl (by simp) (by simp) ?_
  unfold qeg at h
  refine qa5 ?_
  refine qa2 ?_
  refine qaq hτ rfl rfl rfl ?_
  refine qa0 hτ rfl rfl rfl ?_
  refine qa0 hτ rfl rfl rfl ?_
  refine qa4 ?_
  refine qa5 ?_
  refine qa2 ?_
  refine qa0 hτ rfl rfl rfl ?_
  refine qab h fun x26 hx26 h=>?_
  refine qam hτ false [] rfl rfl rfl (qap func33 rfl rfl) rfl rfl (by simp) ⟨trivial,trivial⟩ (by trivial) (spec_l10Begin_ok n s_ hx26) ?_
  rintro r0 o0 n0 ⟨rfl,rfl,rfl⟩ -
  refine qa0 hτ rfl rfl rfl ?_
  refine qa0 hτ rfl rfl rfl ?_
  refine qa0 hτ rfl rfl rfl ?_
  refine qa0 hτ rfl rfl rfl ?_
  refine qaq hτ rfl rfl rfl ?_
  refine qaq hτ rfl rfl rfl ?_
  refine qa0 hτ rfl rfl rfl ?_
  refine qbn (qa3 [0,1] (l:=[(0,.d (.str (bstr s_))),(2,.ptr 0 0),(5,.ptr 1 0),(6,.d (.int .i64 x26.2.1)),(18,.d (.bool x26.2.2))]) (objs:=[.box [.d (.cx .f32 (0:Nat) (0:Nat)),.d (.cx .f32 (0:Nat) (0:Nat)),.d (.cx .f32 (0:Nat) (0:Nat)),.d (.nils),.d (.nils),.d (.nils)],.box [.d (.cx .f32 x26.1.qa1.Source.A.re x26.1.qa1.Source.A.im),.d (.cx .f32 x26.1.qa1.Source.B.re x26.1.qa1.Source.B.im),.d (.cx .f32 x26.1.qa1.Source.C.re x26.1.qa1.Source.C.im),.d (.sl false (x26.1.qa1.qac.map qah)),.d (.sl false (x26.1.Ties.map qan))]]) rfl (by simp) rfl (by trivial) ⟨rfl,trivial,rfl,trivial,rfl,trivial,rfl,trivial,rfl,trivial,trivial⟩) ?_
  refine qa0 hτ rfl rfl rfl ?_
  refine qa4 ?_
  refine qa5 ?_
  refine qa2 ?_
  refine qa0 hτ rfl rfl rfl ?_
  refine qaq hτ rfl rfl rfl ?_
  refine qa0 hτ rfl rfl rfl ?_
  refine qaq hτ rfl rfl rfl ?_
  refine qaq hτ rfl rfl rfl ?_
  refine qa4 ?_
  refine qa5 ?_
  refine qa5 ?_
  refine qa9 (qa3 [0,1,3,2] (l:=[(0,.d (.str (bstr s_))),(2,.ptr 0 0),(5,.ptr 1 0),(6,.d (.int .i64 x26.2.1)),(7,.d (.bool x26.2.2)),(8,.ptr 2 0)]) (objs:=[.box [.d (.cx .f32 (0:Nat) (0:Nat)),.d (.cx .f32 (0:Nat) (0:Nat)),.d (.cx .f32 (0:Nat) (0:Nat)),.d (.nils),.d (.nils),.d (.nils)],.box [.d (.cx .f32 x26.1.qa1.Source.A.re x26.1.qa1.Source.A.im),.d (.cx .f32 x26.1.qa1.Source.B.re x26.1.qa1.Source.B.im),.d (.cx .f32 x26.1.qa1.Source.C.re x26.1.qa1.Source.C.im),.d (.sl false (x26.1.qa1.qac.map qah)),.d (.sl false (x26.1.Ties.map qan))],.box [.d (.cx .f32 x26.1.qa1.Source.A.re x26.1.qa1.Source.A.im),.d (.cx .f32 x26.1.qa1.Source.B.re x26.1.qa1.Source.B.im),.d (.cx .f32 x26.1.qa1.Source.C.re x26.1.qa1.Source.C.im),.d (.sl false (x26.1.qa1.qac.map qah)),.d (.sl false (x26.1.Ties.map qan)),.row 3 (([]:List qbb).length) 0 (([]:List qbb).length)],.row 4 (([]:List qbb).map qbm)]) rfl (by simp) rfl (by trivial) ⟨rfl,trivial,rfl,trivial,rfl,trivial,rfl,trivial,rfl,trivial,rfl,trivial,trivial⟩) ?_
  refine qa2 ?_
  refine qa0 hτ rfl rfl rfl ?_
  refine qa0 hτ rfl rfl rfl ?_
  refine qa4 ?_
  refine qau rfl (fun hc27=>?_) (fun hc27=>?_)
  · have hc27:=qdd hc27
    have h:=qch h hc27
    refine qa5 ?_
    refine qa2 ?_
    refine qa0 hτ rfl rfl rfl ?_
    refine qaq hτ rfl rfl rfl ?_
    refine qa0 hτ rfl rfl rfl ?_
    refine qa0 hτ rfl rfl rfl ?_
    refine qa4 ?_
    refine qa9 (qa3 [0,3] (l:=[(2,.ptr 0 0),(3,.d (.int .i64 (0:Int))),(4,.d (.bool false))]) (objs:=[.box [.d (.cx .f32 x26.1.qa1.Source.A.re x26.1.qa1.Source.A.im),.d (.cx .f32 x26.1.qa1.Source.B.re x26.1.qa1.Source.B.im),.d (.cx .f32 x26.1.qa1.Source.C.re x26.1.qa1.Source.C.im),.d (.sl false (x26.1.qa1.qac.map qah)),.d (.sl false (x26.1.Ties.map qan)),.row 1 (([]:List qbb).length) 0 (([]:List qbb).length)],.row 4 (([]:List qbb).map qbm)]) rfl (by simp) rfl (by trivial) ⟨rfl,trivial,rfl,trivial,rfl,trivial,trivial⟩) ?_
    refine qas ?_
    have hr:=Option.some.inj h
    subst hr
    exact qaf (.inr rfl) [1] (objs':=[]) (new:=[.row 4 (([]:List qbb).map qbm)]) rfl (by simp) (by simp) rfl (by trivial) rfl rfl (by trivial) (fun h=>nomatch h) ⟨rfl,rfl,rfl⟩
  · have hc27:=qdc hc27
    have h:=qci h hc27
    refine qav ?_
    refine qa5 ?_
    refine qa2 ?_
    refine qa0 hτ rfl rfl rfl ?_
    refine qa0 hτ rfl rfl rfl ?_
    refine qa0 hτ rfl rfl rfl ?_
    refine qa0 hτ (v:=.d (.int .i64 (x26.1.qa1.qac.length:Int))) rfl rfl (Eq.trans rfl (qfo (f:=qah) x26.1.qa1.qac)) ?_
    refine qa0 hτ rfl rfl rfl ?_
    refine qa4 ?_
    refine qa5 ?_
    refine qa9 (qa3 [0,2,3] (l:=[(0,.d (.str (bstr s_))),(2,.ptr 0 0),(6,.d (.int .i64 x26.2.1)),(8,.ptr 1 0),(9,.d (.int .i64 (x26.1.qa1.qac.length:Int)))]) (objs:=[.box [.d (.cx .f32 (0:Nat) (0:Nat)),.d (.cx .f32 (0:Nat) (0:Nat)),.d (.cx .f32 (0:Nat) (0:Nat)),.d (.nils),.d (.nils),.d (.nils)],.box [.d (.cx .f32 x26.1.qa1.Source.A.re x26.1.qa1.Source.A.im),.d (.cx .f32 x26.1.qa1.Source.B.re x26.1.qa1.Source.B.im),.d (.cx .f32 x26.1.qa1.Source.C.re x26.1.qa1.Source.C.im),.d (.sl false (x26.1.qa1.qac.map qah)),.d (.sl false (x26.1.Ties.map qan)),.row 2 (([]:List qbb).length) 0 (([]:List qbb).length)],.row 4 (([]:List qbb).map qbm)]) rfl (by simp) rfl (by trivial) ⟨rfl,trivial,rfl,trivial,rfl,trivial,rfl,trivial,rfl,trivial,trivial⟩) ?_
    refine qa2 ?_
    refine qa0 hτ rfl rfl rfl ?_
    refine qa0 hτ rfl rfl rfl ?_
    refine qa0 hτ rfl rfl rfl ?_
    refine qa0 hτ rfl rfl rfl ?_
    refine qa4 ?_
    refine qd1 (ι:=Int × List qbb) (fun (v52,v53)=>St.of [(2,.ptr 0 0),(6,.d (.int .i64 v52)),(8,.ptr 1 0)] [.box [.d (.cx .f32 (0:Nat) (0:Nat)),.d (.cx .f32 (0:Nat) (0:Nat)),.d (.cx .f32 (0:Nat) (0:Nat)),.d (.nils),.d (.nils),.d (.nils)],.box [.d (.cx .f32 x26.1.qa1.Source.A.re x26.1.qa1.Source.A.im),.d (.cx .f32 x26.1.qa1.Source.B.re x26.1.qa1.Source.B.im),.d (.cx .f32 x26.1.qa1.Source.C.re x26.1.qa1.Source.C.im),.d (.sl false (x26.1.qa1.qac.map qah)),.d (.sl false (x26.1.Ties.map qan)),.row 2 v53.length 0 v53.length],.row 4 (v53.map qbm)] f41.ntmps 0) (fun (v52,v53)=>qfg n x26 v52 v53 = some r) ?_ (fun hk54=>?_)
    · rintro ⟨v52,v53⟩ h
      replace h:qfg n x26 v52 v53 = some r:=h
      unfold qfg at h
      refine qa5 ?_
      refine qa2 ?_
      refine qa0 hτ rfl rfl rfl ?_
      refine qa0 hτ rfl rfl rfl ?_
      refine qaq hτ rfl rfl rfl ?_
      refine qa0 hτ rfl rfl rfl ?_
      refine qa0 hτ rfl rfl rfl ?_
      refine qa4 ?_
      refine qa9 (qa3 [0,2] (l:=[(2,.ptr 0 0),(3,.d (.int .i64 v52)),(4,.d (.bool true))]) (objs:=[.box [.d (.cx .f32 x26.1.qa1.Source.A.re x26.1.qa1.Source.A.im),.d (.cx .f32 x26.1.qa1.Source.B.re x26.1.qa1.Source.B.im),.d (.cx .f32 x26.1.qa1.Source.C.re x26.1.qa1.Source.C.im),.d (.sl false (x26.1.qa1.qac.map qah)),.d (.sl false (x26.1.Ties.map qan)),.row 1 v53.length 0 v53.length],.row 4 (v53.map qbm)]) rfl (by simp) rfl (by trivial) ⟨rfl,trivial,rfl,trivial,rfl,trivial,trivial⟩) ?_
      refine qas ?_
      have hr:=Option.some.inj h
      subst hr
      exact qaf (.inr rfl) [1] (objs':=[]) (new:=[.row 4 (v53.map qbm)]) rfl (by simp) (by simp) rfl (by trivial) rfl rfl (by trivial) (fun h=>nomatch h) ⟨rfl,rfl,rfl⟩
    · refine qa5 ?_
      refine qb6 ?_
      refine qe1 (ι:=Nat × Int × List qbb) (fun (m79,v65,v66)=>St.of [(0,.d (.str (bstr s_))),(2,.ptr 0 0),(6,.d (.int .i64 v65)),(8,.ptr 1 0),(9,.d (.int .i64 (x26.1.qa1.qac.length:Int))),(10,.d (.int .i64 (w64 ((2:Int) + (w64 ((48:Int) * (x26.1.qa1.qac.length:Int)))))))] [.box [.d (.cx .f32 (0:Nat) (0:Nat)),.d (.cx .f32 (0:Nat) (0:Nat)),.d (.cx .f32 (0:Nat) (0:Nat)),.d (.nils),.d (.nils),.d (.nils)],.box [.d (.cx .f32 x26.1.qa1.Source.A.re x26.1.qa1.Source.A.im),.d (.cx .f32 x26.1.qa1.Source.B.re x26.1.qa1.Source.B.im),.d (.cx .f32 x26.1.qa1.Source.C.re x26.1.qa1.Source.C.im),.d (.sl false (x26.1.qa1.qac.map qah)),.d (.sl false (x26.1.Ties.map qan)),.row 2 v66.length 0 v66.length],.row 4 (v66.map qbm)] f41.ntmps 0) (fun (m79,v65,v66)=>qb4 n s_ x26 m79 v65 v66 = some r) (fun x=>x.1) (n,x26.2.1,([]:List qbb)) h (qa3 [0,1,2] (l:=[(0,.d (.str (bstr s_))),(2,.ptr 0 0),(6,.d (.int .i64 x26.2.1)),(8,.ptr 1 0),(9,.d (.int .i64 (x26.1.qa1.qac.length:Int))),(10,.d (.int .i64 (w64 ((2:Int) + (w64 ((48:Int) * (x26.1.qa1.qac.length:Int)))))))]) (objs:=[.box [.d (.cx .f32 (0:Nat) (0:Nat)),.d (.cx .f32 (0:Nat) (0:Nat)),.d (.cx .f32 (0:Nat) (0:Nat)),.d (.nils),.d (.nils),.d (.nils)],.box [.d (.cx .f32 x26.1.qa1.Source.A.re x26.1.qa1.Source.A.im),.d (.cx .f32 x26.1.qa1.Source.B.re x26.1.qa1.Source.B.im),.d (.cx .f32 x26.1.qa1.Source.C.re x26.1.qa1.Source.C.im),.d (.sl false (x26.1.qa1.qac.map qah)),.d (.sl false (x26.1.Ties.map qan)),.row 2 (([]:List qbb).length) 0 (([]:List qbb).length)],.row 4 (([]:List qbb).map qbm)]) rfl (by simp) rfl (by trivial) ⟨rfl,trivial,rfl,trivial,rfl,trivial,rfl,trivial,rfl,trivial,rfl,trivial,trivial⟩) ?_
      rintro ⟨m79,v65,v66⟩ h
      replace h:qb4 n s_ x26 m79 v65 v66 = some r:=h
      rcases m79 with _ | m79
      · rw [qb4] at h;cases h
      rw [qb4] at h
      refine qd1 (ι:=Unit) (fun _=>St.of [(0,.d (.str (bstr s_))),(2,.ptr 0 0),(6,.d (.int .i64 v65)),(8,.ptr 1 0),(9,.d (.int .i64 (x26.1.qa1.qac.length:Int))),(10,.d (.int .i64 (w64 ((2:Int) + (w64 ((48:Int) * (x26.1.qa1.qac.length:Int)))))))] [.box [.d (.cx .f32 (0:Nat) (0:Nat)),.d (.cx .f32 (0:Nat) (0:Nat)),.d (.cx .f32 (0:Nat) (0:Nat)),.d (.nils),.d (.nils),.d (.nils)],.box [.d (.cx .f32 x26.1.qa1.Source.A.re x26.1.qa1.Source.A.im),.d (.cx .f32 x26.1.qa1.Source.B.re x26.1.qa1.Source.B.im),.d (.cx .f32 x26.1.qa1.Source.C.re x26.1.qa1.Source.C.im),.d (.sl false (x26.1.qa1.qac.map qah)),.d (.sl false (x26.1.Ties.map qan)),.row 2 v66.length 0 v66.length],.row 4 (v66.map qbm)] f41.ntmps 0) (fun _=>qfh n s_ x26 (qb4 n s_ x26 m79) v65 v66 = some r) ?_ (fun hk104=>?_)
      · rintro ⟨⟩ h
        replace h:qfh n s_ x26 (qb4 n s_ x26 m79) v65 v66 = some r:=h
        unfold qfh at h
        refine qb6 ?_
        refine qa5 ?_
        refine qa2 ?_
        refine qa0 hτ rfl rfl rfl ?_
        refine qa0 hτ rfl rfl rfl ?_
        refine qa0 hτ rfl rfl rfl ?_
        refine qa0 hτ rfl rfl rfl ?_
        refine qa0 hτ rfl rfl rfl ?_
        refine qbh h fun hg83 h=>?_
        refine qbd hτ (v:=.d (.str (bstr (sub s_ v65 (w64 (v65 + (w64 ((2:Int) + (w64 ((48:Int) * (x26.1.qa1.qac.length:Int))))))))))) rfl rfl (Eq.trans rfl (qlc _ _ _)) hg83 ?_
        refine qa0 hτ rfl rfl rfl ?_
        refine qab h fun x84 hx84 h=>?_
        refine qam hτ false [] rfl rfl rfl (qap func90 rfl rfl) rfl rfl (by simp) ⟨trivial,trivial,trivial⟩ (by trivial) (spec_l10OfBytes_ok n (sub s_ v65 (w64 (v65 + (w64 ((2:Int) + (w64 ((48:Int) * (x26.1.qa1.qac.length:Int)))))))) (x26.1.qa1.qac.length:Int) hx84) ?_
        rintro r0 o0 n0 ⟨rfl,rfl,rfl⟩ -
        refine qa0 hτ rfl rfl rfl ?_
        refine qa0 hτ rfl rfl rfl ?_
        refine qa0 hτ rfl rfl rfl ?_
        refine qaq hτ rfl rfl rfl ?_
        refine qbn (qa3 [0,1,2,5,3,4] (l:=[(0,.d (.str (bstr s_))),(2,.ptr 0 0),(6,.d (.int .i64 v65)),(8,.ptr 1 0),(9,.d (.int .i64 (x26.1.qa1.qac.length:Int))),(10,.d (.int .i64 (w64 ((2:Int) + (w64 ((48:Int) * (x26.1.qa1.qac.length:Int))))))),(11,.ptr 3 0),(54,.agg [.row 4 x84.1.qad.length 0 x84.1.qad.length,.row 5 x84.1.qae.length 0 x84.1.qae.length,.d (.int .i64 x84.1.Rounds),.d (.bool x84.1.qcj)]),(55,.d (.bool x84.2))]) (objs:=[.box [.d (.cx .f32 (0:Nat) (0:Nat)),.d (.cx .f32 (0:Nat) (0:Nat)),.d (.cx .f32 (0:Nat) (0:Nat)),.d (.nils),.d (.nils),.d (.nils)],.box [.d (.cx .f32 x26.1.qa1.Source.A.re x26.1.qa1.Source.A.im),.d (.cx .f32 x26.1.qa1.Source.B.re x26.1.qa1.Source.B.im),.d (.cx .f32 x26.1.qa1.Source.C.re x26.1.qa1.Source.C.im),.d (.sl false (x26.1.qa1.qac.map qah)),.d (.sl false (x26.1.Ties.map qan)),.row 2 v66.length 0 v66.length],.row 4 (v66.map qbm),.box [.d (.nils),.d (.nils),.d (.int .i64 (0:Int)),.d (.bool false)],.row 3 (x84.1.qad.map qa8),.row 3 (x84.1.qae.map qa8)]) rfl (by simp) rfl (by trivial) ⟨rfl,trivial,rfl,trivial,rfl,trivial,rfl,trivial,rfl,trivial,rfl,trivial,rfl,trivial,rfl,(by trivial),rfl,trivial,trivial⟩) ?_
        refine qaq hτ rfl rfl rfl ?_
        refine qa0 hτ rfl rfl rfl ?_
        refine qa4 ?_
        refine qd1 (ι:=Unit) (fun _=>St.of [(0,.d (.str (bstr s_))),(2,.ptr 0 0),(6,.d (.int .i64 v65)),(8,.ptr 1 0),(9,.d (.int .i64 (x26.1.qa1.qac.length:Int))),(10,.d (.int .i64 (w64 ((2:Int) + (w64 ((48:Int) * (x26.1.qa1.qac.length:Int))))))),(11,.ptr 3 0)] [.box [.d (.cx .f32 (0:Nat) (0:Nat)),.d (.cx .f32 (0:Nat) (0:Nat)),.d (.cx .f32 (0:Nat) (0:Nat)),.d (.nils),.d (.nils),.d (.nils)],.box [.d (.cx .f32 x26.1.qa1.Source.A.re x26.1.qa1.Source.A.im),.d (.cx .f32 x26.1.qa1.Source.B.re x26.1.qa1.Source.B.im),.d (.cx .f32 x26.1.qa1.Source.C.re x26.1.qa1.Source.C.im),.d (.sl false (x26.1.qa1.qac.map qah)),.d (.sl false (x26.1.Ties.map qan)),.row 2 v66.length 0 v66.length],.row 4 (v66.map qbm),.box [.row 4 x84.1.qad.length 0 x84.1.qad.length,.row 5 x84.1.qae.length 0 x84.1.qae.length,.d (.int .i64 x84.1.Rounds),.d (.bool x84.1.qcj)],.row 3 (x84.1.qad.map qa8),.row 3 (x84.1.qae.map qa8)] f41.ntmps 0) (fun _=>qfi n x26 (qb4 n s_ x26 m79) v65 v66 x84 = some r) ?_ (fun hk91=>?_)
        · rintro ⟨⟩ h
          replace h:qfi n x26 (qb4 n s_ x26 m79) v65 v66 x84 = some r:=h
          unfold qfi at h
          refine qa5 ?_
          refine qa2 ?_
          refine qa0 hτ rfl rfl rfl ?_
          refine qa0 hτ rfl rfl rfl ?_
          refine qa0 hτ rfl rfl rfl ?_
          refine qbn (qa3 [0,1,2] (l:=[(0,.d (.str (bstr s_))),(2,.ptr 0 0),(6,.d (.int .i64 v65)),(8,.ptr 1 0),(9,.d (.int .i64 (x26.1.qa1.qac.length:Int))),(10,.d (.int .i64 (w64 ((2:Int) + (w64 ((48:Int) * (x26.1.qa1.qac.length:Int))))))),(73,.row 2 v66.length 0 v66.length),(74,.agg [.d (.sl false (x84.1.qad.map qa8)),.d (.sl false (x84.1.qae.map qa8)),.d (.int .i64 x84.1.Rounds),.d (.bool x84.1.qcj)])]) (objs:=[.box [.d (.cx .f32 (0:Nat) (0:Nat)),.d (.cx .f32 (0:Nat) (0:Nat)),.d (.cx .f32 (0:Nat) (0:Nat)),.d (.nils),.d (.nils),.d (.nils)],.box [.d (.cx .f32 x26.1.qa1.Source.A.re x26.1.qa1.Source.A.im),.d (.cx .f32 x26.1.qa1.Source.B.re x26.1.qa1.Source.B.im),.d (.cx .f32 x26.1.qa1.Source.C.re x26.1.qa1.Source.C.im),.d (.sl false (x26.1.qa1.qac.map qah)),.d (.sl false (x26.1.Ties.map qan)),.row 2 v66.length 0 v66.length],.row 4 (v66.map qbm)]) rfl (by simp) rfl (by trivial) ⟨rfl,trivial,rfl,trivial,rfl,trivial,rfl,trivial,rfl,trivial,rfl,trivial,rfl,trivial,(qp2 (qbg (qie (f:=qa8) x84.1.qad rfl rfl rfl) (qbg (qie (f:=qa8) x84.1.qae rfl rfl rfl) (qbg rfl (qbg rfl qht))))),⟨(qif (f:=qa8) x84.1.qad rfl rfl rfl),(qif (f:=qa8) x84.1.qae rfl rfl rfl),trivial,trivial⟩,trivial⟩) ?_
          refine qaq hτ rfl rfl rfl ?_
          refine qbh h fun hg90 h=>?_
          refine qlf hτ rfl rfl (Eq.trans rfl (or_append (f:=qbm) v66 [x84.1] rfl)) ⟨⟨rfl,Nat.le_of_ble_eq_true rfl⟩,qc8 _,rfl,rfl,hg90,by decide,(all1 rfl)⟩ ?_
          refine qa0 hτ rfl rfl rfl ?_
          refine qaq hτ rfl rfl rfl ?_
          refine qa4 ?_
          refine qa2 ?_
          refine qa0 hτ rfl rfl rfl ?_
          refine qa0 hτ rfl rfl rfl ?_
          refine qa0 hτ rfl rfl rfl ?_
          refine qa0 hτ rfl rfl rfl ?_
          refine qa0 hτ rfl rfl rfl ?_
          refine qa4 ?_
          exact ⟨(m79,(w64 (v65 + (w64 ((w64 ((2:Int) + (w64 ((48:Int) * (x26.1.qa1.qac.length:Int))))) + (2:Int))))),(v66 ++ [x84.1])),h,Nat.lt_succ_self m79,(qa3 [0,1,2] (l:=[(0,.d (.str (bstr s_))),(2,.ptr 0 0),(6,.d (.int .i64 (w64 (v65 + (w64 ((w64 ((2:Int) + (w64 ((48:Int) * (x26.1.qa1.qac.length:Int))))) + (2:Int))))))),(8,.ptr 1 0),(9,.d (.int .i64 (x26.1.qa1.qac.length:Int))),(10,.d (.int .i64 (w64 ((2:Int) + (w64 ((48:Int) * (x26.1.qa1.qac.length:Int)))))))]) (objs:=[.box [.d (.cx .f32 (0:Nat) (0:Nat)),.d (.cx .f32 (0:Nat) (0:Nat)),.d (.cx .f32 (0:Nat) (0:Nat)),.d (.nils),.d (.nils),.d (.nils)],.box [.d (.cx .f32 x26.1.qa1.Source.A.re x26.1.qa1.Source.A.im),.d (.cx .f32 x26.1.qa1.Source.B.re x26.1.qa1.Source.B.im),.d (.cx .f32 x26.1.qa1.Source.C.re x26.1.qa1.Source.C.im),.d (.sl false (x26.1.qa1.qac.map qah)),.d (.sl false (x26.1.Ties.map qan)),.row 2 ((v66 ++ [x84.1]).length) 0 ((v66 ++ [x84.1]).length)],.row 4 ((v66 ++ [x84.1]).map qbm)]) rfl (by simp) rfl (by trivial) ⟨rfl,trivial,rfl,trivial,rfl,trivial,rfl,trivial,rfl,trivial,rfl,trivial,trivial⟩)⟩
        · refine qa5 ?_
          refine qd1 (ι:=Bool) (fun v97=>St.of [(0,.d (.str (bstr s_))),(2,.ptr 0 0),(6,.d (.int .i64 v65)),(8,.ptr 1 0),(9,.d (.int .i64 (x26.1.qa1.qac.length:Int))),(10,.d (.int .i64 (w64 ((2:Int) + (w64 ((48:Int) * (x26.1.qa1.qac.length:Int))))))),(11,.ptr 3 0),(71,.d (.bool v97))] [.box [.d (.cx .f32 (0:Nat) (0:Nat)),.d (.cx .f32 (0:Nat) (0:Nat)),.d (.cx .f32 (0:Nat) (0:Nat)),.d (.nils),.d (.nils),.d (.nils)],.box [.d (.cx .f32 x26.1.qa1.Source.A.re x26.1.qa1.Source.A.im),.d (.cx .f32 x26.1.qa1.Source.B.re x26.1.qa1.Source.B.im),.d (.cx .f32 x26.1.qa1.Source.C.re x26.1.qa1.Source.C.im),.d (.sl false (x26.1.qa1.qac.map qah)),.d (.sl false (x26.1.Ties.map qan)),.row 2 v66.length 0 v66.length],.row 4 (v66.map qbm),.box [.row 4 x84.1.qad.length 0 x84.1.qad.length,.row 5 x84.1.qae.length 0 x84.1.qae.length,.d (.int .i64 x84.1.Rounds),.d (.bool x84.1.qcj)],.row 3 (x84.1.qad.map qa8),.row 3 (x84.1.qae.map qa8)] f41.ntmps 0) (fun v97=>qdg n x26 (qb4 n s_ x26 m79) v65 v66 x84 v97 = some r) ?_ (fun hk99=>?_)
          · rintro v97 h
            replace h:qdg n x26 (qb4 n s_ x26 m79) v65 v66 x84 v97 = some r:=h
            unfold qdg at h
            refine qau rfl (fun hc98=>?_) (fun hc98=>?_)
            · have h:=qci h hc98
              refine qdv ?_
              refine qa9 (qa3 [0,1,2] (l:=[(2,.ptr 0 0),(6,.d (.int .i64 v65)),(8,.ptr 1 0)]) (objs:=[.box [.d (.cx .f32 (0:Nat) (0:Nat)),.d (.cx .f32 (0:Nat) (0:Nat)),.d (.cx .f32 (0:Nat) (0:Nat)),.d (.nils),.d (.nils),.d (.nils)],.box [.d (.cx .f32 x26.1.qa1.Source.A.re x26.1.qa1.Source.A.im),.d (.cx .f32 x26.1.qa1.Source.B.re x26.1.qa1.Source.B.im),.d (.cx .f32 x26.1.qa1.Source.C.re x26.1.qa1.Source.C.im),.d (.sl false (x26.1.qa1.qac.map qah)),.d (.sl false (x26.1.Ties.map qan)),.row 2 v66.length 0 v66.length],.row 4 (v66.map qbm)]) rfl (by simp) rfl (by trivial) ⟨rfl,trivial,rfl,trivial,rfl,trivial,trivial⟩) ?_
              exact hk54 (v65,v66) h
            · have h:=qch h hc98
              refine qav ?_
              refine qa9 (qa3 [0,1,2,3,4,5] (l:=[(0,.d (.str (bstr s_))),(2,.ptr 0 0),(6,.d (.int .i64 v65)),(8,.ptr 1 0),(9,.d (.int .i64 (x26.1.qa1.qac.length:Int))),(10,.d (.int .i64 (w64 ((2:Int) + (w64 ((48:Int) * (x26.1.qa1.qac.length:Int))))))),(11,.ptr 3 0)]) (objs:=[.box [.d (.cx .f32 (0:Nat) (0:Nat)),.d (.cx .f32 (0:Nat) (0:Nat)),.d (.cx .f32 (0:Nat) (0:Nat)),.d (.nils),.d (.nils),.d (.nils)],.box [.d (.cx .f32 x26.1.qa1.Source.A.re x26.1.qa1.Source.A.im),.d (.cx .f32 x26.1.qa1.Source.B.re x26.1.qa1.Source.B.im),.d (.cx .f32 x26.1.qa1.Source.C.re x26.1.qa1.Source.C.im),.d (.sl false (x26.1.qa1.qac.map qah)),.d (.sl false (x26.1.Ties.map qan)),.row 2 v66.length 0 v66.length],.row 4 (v66.map qbm),.box [.row 4 x84.1.qad.length 0 x84.1.qad.length,.row 5 x84.1.qae.length 0 x84.1.qae.length,.d (.int .i64 x84.1.Rounds),.d (.bool x84.1.qcj)],.row 3 (x84.1.qad.map qa8),.row 3 (x84.1.qae.map qa8)]) rfl (by simp) rfl (by trivial) ⟨rfl,trivial,rfl,trivial,rfl,trivial,rfl,trivial,rfl,trivial,rfl,trivial,rfl,trivial,trivial⟩) ?_
              exact hk91 () h
          · refine qa5 ?_
            refine qc9 ?_
            refine qa7 hτ [] 0 rfl rfl rfl rfl rfl ?_
            refine qa7 hτ [] 1 rfl rfl rfl rfl rfl ?_
            refine qa7 hτ [] 2 rfl rfl rfl rfl rfl ?_
            refine qga 58 rfl (fun hb100=>?_) (fun hb100=>?_)
            · have hb100:=qdd hb100
              have h:=qch h hb100
              refine qak 3 rfl rfl rfl ?_
              refine qak 4 rfl rfl rfl ?_
              refine qak 5 rfl rfl rfl ?_
              refine qak 7 rfl rfl rfl ?_
              refine qak 8 rfl rfl rfl ?_
              refine qak 9 rfl rfl rfl ?_
              refine qak 10 rfl rfl rfl ?_
              refine qak 11 rfl rfl rfl ?_
              refine qak 12 rfl rfl rfl ?_
              refine qak 13 rfl rfl rfl ?_
              refine qak 6 rfl rfl rfl ?_
              refine qak 14 rfl rfl rfl ?_
              refine qa7 hτ [] 15 rfl rfl rfl rfl rfl ?_
              refine qbp mixed (by kernel_rfl) ?_
              refine qa9 (qa3 [0,1,2,3,4,5] (l:=[(0,.d (.str (bstr s_))),(2,.ptr 0 0),(6,.d (.int .i64 v65)),(8,.ptr 1 0),(9,.d (.int .i64 (x26.1.qa1.qac.length:Int))),(10,.d (.int .i64 (w64 ((2:Int) + (w64 ((48:Int) * (x26.1.qa1.qac.length:Int))))))),(11,.ptr 3 0),(71,.d (.bool true))]) (objs:=[.box [.d (.cx .f32 (0:Nat) (0:Nat)),.d (.cx .f32 (0:Nat) (0:Nat)),.d (.cx .f32 (0:Nat) (0:Nat)),.d (.nils),.d (.nils),.d (.nils)],.box [.d (.cx .f32 x26.1.qa1.Source.A.re x26.1.qa1.Source.A.im),.d (.cx .f32 x26.1.qa1.Source.B.re x26.1.qa1.Source.B.im),.d (.cx .f32 x26.1.qa1.Source.C.re x26.1.qa1.Source.C.im),.d (.sl false (x26.1.qa1.qac.map qah)),.d (.sl false (x26.1.Ties.map qan)),.row 2 v66.length 0 v66.length],.row 4 (v66.map qbm),.box [.row 4 x84.1.qad.length 0 x84.1.qad.length,.row 5 x84.1.qae.length 0 x84.1.qae.length,.d (.int .i64 x84.1.Rounds),.d (.bool x84.1.qcj)],.row 3 (x84.1.qad.map qa8),.row 3 (x84.1.qae.map qa8)]) rfl (by simp) rfl (by trivial) ⟨rfl,trivial,rfl,trivial,rfl,trivial,rfl,trivial,rfl,trivial,rfl,trivial,rfl,trivial,rfl,trivial,trivial⟩) ?_
              exact hk99 true h
            · have hb100:=qdc hb100
              have h:=qci h hb100
              refine qa7 hτ [] 3 rfl rfl rfl rfl rfl ?_
              refine qa7 hτ [] 4 rfl rfl rfl rfl rfl ?_
              refine qbh h fun hg101 h=>?_
              refine qcz hτ (v:=.d (.str (bstr (sub s_ (0:Int) v65)))) [] 5 rfl rfl rfl rfl (Eq.trans rfl (qlc _ _ _)) hg101 ?_
              refine qa7 hτ [] 7 rfl rfl rfl rfl rfl ?_
              refine qa7 hτ [] 8 rfl rfl rfl rfl rfl ?_
              refine qa7 hτ [] 9 rfl rfl rfl rfl rfl ?_
              refine qa7 hτ [] 10 rfl rfl rfl rfl rfl ?_
              refine qa7 hτ [] 11 rfl rfl rfl rfl rfl ?_
              refine qa7 hτ [] 12 rfl rfl rfl rfl rfl ?_
              refine qbh h fun hg102 h=>?_
              refine qcz hτ (v:=.d (.str (bstr (sub s_ v65 (w64 ((w64 (v65 + (w64 ((2:Int) + (w64 ((48:Int) * (x26.1.qa1.qac.length:Int))))))) + (2:Int))))))) [] 13 rfl rfl rfl rfl (Eq.trans rfl (qlc _ _ _)) hg102 ?_
              refine qab h fun x103 hx103 h=>?_
              refine qbf hτ false [3,4,5] [0,1,2,3,4,5] 6 rfl rfl rfl rfl (qap func91 rfl rfl) rfl rfl (by simp) ⟨trivial,trivial,trivial⟩ (by trivial) (spec_l10Frame_ok n (sub s_ (0:Int) v65) (qbb.mk x84.1.qad x84.1.qae x84.1.Rounds x84.1.qcj) hx103) ⟨rfl,rfl,rfl,rfl,rfl,rfl,trivial⟩ ?_
              refine qa7 hτ (v:=.d (.bool (!(decide (x103 = (sub s_ v65 (w64 ((w64 (v65 + (w64 ((2:Int) + (w64 ((48:Int) * (x26.1.qa1.qac.length:Int))))))) + (2:Int))))))))) [] 14 rfl rfl rfl rfl (qsg _ _) ?_
              refine qa7 hτ [] 15 rfl rfl rfl rfl rfl ?_
              refine qbp mixed (by kernel_rfl) ?_
              refine qa9 (qa3 [0,1,2,3,4,5] (l:=[(0,.d (.str (bstr s_))),(2,.ptr 0 0),(6,.d (.int .i64 v65)),(8,.ptr 1 0),(9,.d (.int .i64 (x26.1.qa1.qac.length:Int))),(10,.d (.int .i64 (w64 ((2:Int) + (w64 ((48:Int) * (x26.1.qa1.qac.length:Int))))))),(11,.ptr 3 0),(71,.d (.bool (!(decide (x103 = (sub s_ v65 (w64 ((w64 (v65 + (w64 ((2:Int) + (w64 ((48:Int) * (x26.1.qa1.qac.length:Int))))))) + (2:Int)))))))))]) (objs:=[.box [.d (.cx .f32 (0:Nat) (0:Nat)),.d (.cx .f32 (0:Nat) (0:Nat)),.d (.cx .f32 (0:Nat) (0:Nat)),.d (.nils),.d (.nils),.d (.nils)],.box [.d (.cx .f32 x26.1.qa1.Source.A.re x26.1.qa1.Source.A.im),.d (.cx .f32 x26.1.qa1.Source.B.re x26.1.qa1.Source.B.im),.d (.cx .f32 x26.1.qa1.Source.C.re x26.1.qa1.Source.C.im),.d (.sl false (x26.1.qa1.qac.map qah)),.d (.sl false (x26.1.Ties.map qan)),.row 2 v66.length 0 v66.length],.row 4 (v66.map qbm),.box [.row 4 x84.1.qad.length 0 x84.1.qad.length,.row 5 x84.1.qae.length 0 x84.1.qae.length,.d (.int .i64 x84.1.Rounds),.d (.bool x84.1.qcj)],.row 3 (x84.1.qad.map qa8),.row 3 (x84.1.qae.map qa8)]) rfl (by simp) rfl (by trivial) ⟨rfl,trivial,rfl,trivial,rfl,trivial,rfl,trivial,rfl,trivial,rfl,trivial,rfl,trivial,rfl,trivial,trivial⟩) ?_
              exact hk99 (!(decide (x103 = (sub s_ v65 (w64 ((w64 (v65 + (w64 ((2:Int) + (w64 ((48:Int) * (x26.1.qa1.qac.length:Int))))))) + (2:Int))))))) h
      · refine qa5 ?_
        refine qd1 (ι:=Bool) (fun v107=>St.of [(0,.d (.str (bstr s_))),(2,.ptr 0 0),(6,.d (.int .i64 v65)),(8,.ptr 1 0),(9,.d (.int .i64 (x26.1.qa1.qac.length:Int))),(10,.d (.int .i64 (w64 ((2:Int) + (w64 ((48:Int) * (x26.1.qa1.qac.length:Int))))))),(44,.d (.bool v107))] [.box [.d (.cx .f32 (0:Nat) (0:Nat)),.d (.cx .f32 (0:Nat) (0:Nat)),.d (.cx .f32 (0:Nat) (0:Nat)),.d (.nils),.d (.nils),.d (.nils)],.box [.d (.cx .f32 x26.1.qa1.Source.A.re x26.1.qa1.Source.A.im),.d (.cx .f32 x26.1.qa1.Source.B.re x26.1.qa1.Source.B.im),.d (.cx .f32 x26.1.qa1.Source.C.re x26.1.qa1.Source.C.im),.d (.sl false (x26.1.qa1.qac.map qah)),.d (.sl false (x26.1.Ties.map qan)),.row 2 v66.length 0 v66.length],.row 4 (v66.map qbm)] f41.ntmps 0) (fun v107=>qdh n s_ x26 (qb4 n s_ x26 m79) v65 v66 v107 = some r) ?_ (fun hk109=>?_)
        · rintro v107 h
          replace h:qdh n s_ x26 (qb4 n s_ x26 m79) v65 v66 v107 = some r:=h
          unfold qdh at h
          refine qau rfl (fun hc108=>?_) (fun hc108=>?_)
          · have h:=qci h hc108
            refine qav ?_
            refine qa9 (qa3 [0,1,2] (l:=[(0,.d (.str (bstr s_))),(2,.ptr 0 0),(6,.d (.int .i64 v65)),(8,.ptr 1 0),(9,.d (.int .i64 (x26.1.qa1.qac.length:Int))),(10,.d (.int .i64 (w64 ((2:Int) + (w64 ((48:Int) * (x26.1.qa1.qac.length:Int)))))))]) (objs:=[.box [.d (.cx .f32 (0:Nat) (0:Nat)),.d (.cx .f32 (0:Nat) (0:Nat)),.d (.cx .f32 (0:Nat) (0:Nat)),.d (.nils),.d (.nils),.d (.nils)],.box [.d (.cx .f32 x26.1.qa1.Source.A.re x26.1.qa1.Source.A.im),.d (.cx .f32 x26.1.qa1.Source.B.re x26.1.qa1.Source.B.im),.d (.cx .f32 x26.1.qa1.Source.C.re x26.1.qa1.Source.C.im),.d (.sl false (x26.1.qa1.qac.map qah)),.d (.sl false (x26.1.Ties.map qan)),.row 2 v66.length 0 v66.length],.row 4 (v66.map qbm)]) rfl (by simp) rfl (by trivial) ⟨rfl,trivial,rfl,trivial,rfl,trivial,rfl,trivial,rfl,trivial,rfl,trivial,trivial⟩) ?_
            exact hk104 () h
          · have h:=qch h hc108
            refine qdv ?_
            refine qa9 (qa3 [0,1,2] (l:=[(2,.ptr 0 0),(6,.d (.int .i64 v65)),(8,.ptr 1 0)]) (objs:=[.box [.d (.cx .f32 (0:Nat) (0:Nat)),.d (.cx .f32 (0:Nat) (0:Nat)),.d (.cx .f32 (0:Nat) (0:Nat)),.d (.nils),.d (.nils),.d (.nils)],.box [.d (.cx .f32 x26.1.qa1.Source.A.re x26.1.qa1.Source.A.im),.d (.cx .f32 x26.1.qa1.Source.B.re x26.1.qa1.Source.B.im),.d (.cx .f32 x26.1.qa1.Source.C.re x26.1.qa1.Source.C.im),.d (.sl false (x26.1.qa1.qac.map qah)),.d (.sl false (x26.1.Ties.map qan)),.row 2 v66.length 0 v66.length],.row 4 (v66.map qbm)]) rfl (by simp) rfl (by trivial) ⟨rfl,trivial,rfl,trivial,rfl,trivial,trivial⟩) ?_
            exact hk54 (v65,v66) h
        · refine qa5 ?_
          refine qa2 ?_
          refine qa0 hτ rfl rfl rfl ?_
          refine qa0 hτ rfl rfl rfl ?_
          refine qbd hτ rfl rfl rfl (qc8 _) ?_
          refine qa0 hτ rfl rfl rfl ?_
          refine qa0 hτ rfl rfl rfl ?_
          refine qcm 36 rfl (fun hb110=>?_) (fun hb110=>?_)
          · have h:=if_t h hb110
            refine qa0 hτ rfl rfl rfl ?_
            refine qa0 hτ rfl rfl rfl ?_
            refine qa0 hτ rfl rfl rfl ?_
            refine qa0 hτ rfl rfl rfl ?_
            refine qa0 hτ rfl rfl rfl ?_
            refine qa0 hτ rfl rfl rfl ?_
            refine qa0 hτ rfl rfl rfl ?_
            refine qbn (qa3 [0,1,2] (l:=[(0,.d (.str (bstr s_))),(2,.ptr 0 0),(6,.d (.int .i64 v65)),(8,.ptr 1 0),(9,.d (.int .i64 (x26.1.qa1.qac.length:Int))),(10,.d (.int .i64 (w64 ((2:Int) + (w64 ((48:Int) * (x26.1.qa1.qac.length:Int))))))),(36,.d (.bool true)),(43,.d (.bool (decide ((w64 ((w64 (v65 + (w64 ((2:Int) + (w64 ((48:Int) * (x26.1.qa1.qac.length:Int))))))) + (2:Int))) ≤ (s_.length:Int)))))]) (objs:=[.box [.d (.cx .f32 (0:Nat) (0:Nat)),.d (.cx .f32 (0:Nat) (0:Nat)),.d (.cx .f32 (0:Nat) (0:Nat)),.d (.nils),.d (.nils),.d (.nils)],.box [.d (.cx .f32 x26.1.qa1.Source.A.re x26.1.qa1.Source.A.im),.d (.cx .f32 x26.1.qa1.Source.B.re x26.1.qa1.Source.B.im),.d (.cx .f32 x26.1.qa1.Source.C.re x26.1.qa1.Source.C.im),.d (.sl false (x26.1.qa1.qac.map qah)),.d (.sl false (x26.1.Ties.map qan)),.row 2 v66.length 0 v66.length],.row 4 (v66.map qbm)]) rfl (by simp) rfl (by trivial) ⟨rfl,trivial,rfl,trivial,rfl,trivial,rfl,trivial,rfl,trivial,rfl,trivial,rfl,trivial,rfl,trivial,trivial⟩) ?_
            refine qa0 hτ rfl rfl rfl ?_
            refine qa4 ?_
            refine qa9 (qa3 [0,1,2] (l:=[(0,.d (.str (bstr s_))),(2,.ptr 0 0),(6,.d (.int .i64 v65)),(8,.ptr 1 0),(9,.d (.int .i64 (x26.1.qa1.qac.length:Int))),(10,.d (.int .i64 (w64 ((2:Int) + (w64 ((48:Int) * (x26.1.qa1.qac.length:Int))))))),(44,.d (.bool (decide ((w64 ((w64 (v65 + (w64 ((2:Int) + (w64 ((48:Int) * (x26.1.qa1.qac.length:Int))))))) + (2:Int))) ≤ (s_.length:Int)))))]) (objs:=[.box [.d (.cx .f32 (0:Nat) (0:Nat)),.d (.cx .f32 (0:Nat) (0:Nat)),.d (.cx .f32 (0:Nat) (0:Nat)),.d (.nils),.d (.nils),.d (.nils)],.box [.d (.cx .f32 x26.1.qa1.Source.A.re x26.1.qa1.Source.A.im),.d (.cx .f32 x26.1.qa1.Source.B.re x26.1.qa1.Source.B.im),.d (.cx .f32 x26.1.qa1.Source.C.re x26.1.qa1.Source.C.im),.d (.sl false (x26.1.qa1.qac.map qah)),.d (.sl false (x26.1.Ties.map qan)),.row 2 v66.length 0 v66.length],.row 4 (v66.map qbm)]) rfl (by simp) rfl (by trivial) ⟨rfl,trivial,rfl,trivial,rfl,trivial,rfl,trivial,rfl,trivial,rfl,trivial,rfl,trivial,trivial⟩) ?_
            exact hk109 (decide ((w64 ((w64 (v65 + (w64 ((2:Int) + (w64 ((48:Int) * (x26.1.qa1.qac.length:Int))))))) + (2:Int))) ≤ (s_.length:Int))) h
          · have h:=if_f h hb110
            refine qao rfl rfl ?_
            refine qao rfl rfl ?_
            refine qao rfl rfl ?_
            refine qao rfl rfl ?_
            refine qao rfl rfl ?_
            refine qao rfl rfl ?_
            refine qao rfl rfl ?_
            refine qbn (qa3 [0,1,2] (l:=[(0,.d (.str (bstr s_))),(2,.ptr 0 0),(6,.d (.int .i64 v65)),(8,.ptr 1 0),(9,.d (.int .i64 (x26.1.qa1.qac.length:Int))),(10,.d (.int .i64 (w64 ((2:Int) + (w64 ((48:Int) * (x26.1.qa1.qac.length:Int))))))),(36,.d (.bool false)),(43,.und)]) (objs:=[.box [.d (.cx .f32 (0:Nat) (0:Nat)),.d (.cx .f32 (0:Nat) (0:Nat)),.d (.cx .f32 (0:Nat) (0:Nat)),.d (.nils),.d (.nils),.d (.nils)],.box [.d (.cx .f32 x26.1.qa1.Source.A.re x26.1.qa1.Source.A.im),.d (.cx .f32 x26.1.qa1.Source.B.re x26.1.qa1.Source.B.im),.d (.cx .f32 x26.1.qa1.Source.C.re x26.1.qa1.Source.C.im),.d (.sl false (x26.1.qa1.qac.map qah)),.d (.sl false (x26.1.Ties.map qan)),.row 2 v66.length 0 v66.length],.row 4 (v66.map qbm)]) rfl (by simp) rfl (by trivial) ⟨rfl,trivial,rfl,trivial,rfl,trivial,rfl,trivial,rfl,trivial,rfl,trivial,rfl,trivial,rfl,trivial,trivial⟩) ?_
            refine qa0 hτ rfl rfl rfl ?_
            refine qa4 ?_
            refine qa9 (qa3 [0,1,2] (l:=[(0,.d (.str (bstr s_))),(2,.ptr 0 0),(6,.d (.int .i64 v65)),(8,.ptr 1 0),(9,.d (.int .i64 (x26.1.qa1.qac.length:Int))),(10,.d (.int .i64 (w64 ((2:Int) + (w64 ((48:Int) * (x26.1.qa1.qac.length:Int))))))),(44,.d (.bool false))]) (objs:=[.box [.d (.cx .f32 (0:Nat) (0:Nat)),.d (.cx .f32 (0:Nat) (0:Nat)),.d (.cx .f32 (0:Nat) (0:Nat)),.d (.nils),.d (.nils),.d (.nils)],.box [.d (.cx .f32 x26.1.qa1.Source.A.re x26.1.qa1.Source.A.im),.d (.cx .f32 x26.1.qa1.Source.B.re x26.1.qa1.Source.B.im),.d (.cx .f32 x26.1.qa1.Source.C.re x26.1.qa1.Source.C.im),.d (.sl false (x26.1.qa1.qac.map qah)),.d (.sl false (x26.1.Ties.map qan)),.row 2 v66.length 0 v66.length],.row 4 (v66.map qbm)]) rfl (by simp) rfl (by trivial) ⟨rfl,trivial,rfl,trivial,rfl,trivial,rfl,trivial,rfl,trivial,rfl,trivial,rfl,trivial,trivial⟩) ?_
            exact hk109 false h
def qde (n:Nat) (s_:Str):Option (qc7 × Int × Bool) :=
  (qeg n s_).bind fun x2 =>
  if x2.2.2 = true then
    some ((qc7.mk x2.1.Grid x2.1.qce),x2.2.1,true)
  else
    some ((qc7.mk (qbi.mk (qck.mk (qaa.mk (Cx.mk (0:Nat) (0:Nat)) (Cx.mk (0:Nat) (0:Nat)) (Cx.mk (0:Nat) (0:Nat))) ([]:List SBus)) ([]:List STie)) ([]:List qbb)),(0:Int),false)
theorem spec_RecoverRecord_ok (n:Nat) (s_:Str) {r:qc7 × Int × Bool} (h:qde n s_ = some r):qb5 prog false 12 [.d (.str (bstr s_))] [] (fun v o new=>v = .tup [.agg [.d (.cx .f32 r.1.Grid.qa1.Source.A.re r.1.Grid.qa1.Source.A.im),.d (.cx .f32 r.1.Grid.qa1.Source.B.re r.1.Grid.qa1.Source.B.im),.d (.cx .f32 r.1.Grid.qa1.Source.C.re r.1.Grid.qa1.Source.C.im),.d (.sl false (r.1.Grid.qa1.qac.map qah)),.d (.sl false (r.1.Grid.Ties.map qan)),.row 0 r.1.qce.length 0 r.1.qce.length],.d (.int .i64 r.2.1),.d (.bool r.2.2)]∧o = []∧new = [.row 4 (r.1.qce.map qbm)]):=by
  refine qar hτ func12 rfl (by simp) (by simp) ?_
  unfold qde at h
  refine qa5 ?_
  refine qa2 ?_
  refine qaq hτ rfl rfl rfl ?_
  refine qa0 hτ rfl rfl rfl ?_
  refine qa0 hτ rfl rfl rfl ?_
  refine qa4 ?_
  refine qa5 ?_
  refine qa2 ?_
  refine qa0 hτ rfl rfl rfl ?_
  refine qab h fun x2 hx2 h=>?_
  refine qam hτ false [] rfl rfl rfl (qap func41 rfl rfl) rfl rfl (by simp) ⟨trivial,trivial⟩ (by trivial) (spec_l10Recover_ok n s_ hx2) ?_
  rintro r0 o0 n0 ⟨rfl,rfl,rfl⟩ -
  refine qa0 hτ rfl rfl rfl ?_
  refine qa0 hτ rfl rfl rfl ?_
  refine qa0 hτ rfl rfl rfl ?_
  refine qa0 hτ rfl rfl rfl ?_
  refine qaq hτ rfl rfl rfl ?_
  refine qaq hτ rfl rfl rfl ?_
  refine qa0 hτ rfl rfl rfl ?_
  refine qbn (qa3 [0,2,1] (l:=[(2,.ptr 0 0),(5,.ptr 1 0),(6,.d (.int .i64 x2.2.1)),(13,.d (.bool x2.2.2))]) (objs:=[.box [.d (.cx .f32 (0:Nat) (0:Nat)),.d (.cx .f32 (0:Nat) (0:Nat)),.d (.cx .f32 (0:Nat) (0:Nat)),.d (.nils),.d (.nils),.d (.nils)],.box [.d (.cx .f32 x2.1.Grid.qa1.Source.A.re x2.1.Grid.qa1.Source.A.im),.d (.cx .f32 x2.1.Grid.qa1.Source.B.re x2.1.Grid.qa1.Source.B.im),.d (.cx .f32 x2.1.Grid.qa1.Source.C.re x2.1.Grid.qa1.Source.C.im),.d (.sl false (x2.1.Grid.qa1.qac.map qah)),.d (.sl false (x2.1.Grid.Ties.map qan)),.row 2 x2.1.qce.length 0 x2.1.qce.length],.row 4 (x2.1.qce.map qbm)]) rfl (by simp) rfl (by trivial) ⟨rfl,trivial,rfl,trivial,rfl,trivial,rfl,trivial,trivial⟩) ?_
  refine qa0 hτ rfl rfl rfl ?_
  refine qa4 ?_
  refine qa5 ?_
  refine qa5 ?_
  refine qa2 ?_
  refine qa0 hτ rfl rfl rfl ?_
  refine qa0 hτ rfl rfl rfl ?_
  refine qa4 ?_
  refine qau rfl (fun hc3=>?_) (fun hc3=>?_)
  · have hc3:=qdd hc3
    have h:=qch h hc3
    refine qa5 ?_
    refine qa2 ?_
    refine qa0 hτ rfl rfl rfl ?_
    refine qaq hτ rfl rfl rfl ?_
    refine qa0 hτ rfl rfl rfl ?_
    refine qa0 hτ rfl rfl rfl ?_
    refine qa4 ?_
    refine qa9 (qa3 [0] (l:=[(2,.ptr 0 0),(3,.d (.int .i64 (0:Int))),(4,.d (.bool false))]) (objs:=[.box [.d (.cx .f32 (0:Nat) (0:Nat)),.d (.cx .f32 (0:Nat) (0:Nat)),.d (.cx .f32 (0:Nat) (0:Nat)),.d (.nils),.d (.nils),.d (.nils)]]) rfl (by simp) rfl (by trivial) ⟨rfl,trivial,rfl,trivial,rfl,trivial,trivial⟩) ?_
    refine qa9 (qh4 [4] (l':=[(2,.ptr 0 0),(3,.d (.int .i64 (0:Int))),(4,.d (.bool false))]) (objs':=[.box [.d (.cx .f32 (0:Nat) (0:Nat)),.d (.cx .f32 (0:Nat) (0:Nat)),.d (.cx .f32 (0:Nat) (0:Nat)),.d (.sl false (([]:List SBus).map qah)),.d (.sl false (([]:List STie).map qan)),.row 1 (([]:List qbb).length) 0 (([]:List qbb).length)]]) (.cons (.c (.refl _)) (.cons (.c (.refl _)) (.cons (.c (.refl _)) .nil))) (.cons (.box (.cons (.refl _) (.cons (.refl _) (.cons (.refl _) (.cons (.d .nil) (.cons (.d .nil) (.cons (.ghost ⟨Nat.le_of_ble_eq_true rfl,Nat.le_of_ble_eq_true rfl⟩) .nil))))))) .nil)) ?_
    refine qas ?_
    have hr:=Option.some.inj h
    subst hr
    exact qaf (.inr rfl) [1] (objs':=[]) (new:=[.row 4 (([]:List qbb).map qbm)]) rfl (by simp) (by simp) rfl (by trivial) rfl rfl (by trivial) (fun h=>nomatch h) ⟨rfl,rfl,rfl⟩
  · have hc3:=qdc hc3
    have h:=qci h hc3
    refine qav ?_
    refine qa5 ?_
    refine qa2 ?_
    refine qa0 hτ rfl rfl rfl ?_
    refine qa0 hτ rfl rfl rfl ?_
    refine qaq hτ rfl rfl rfl ?_
    refine qa0 hτ rfl rfl rfl ?_
    refine qa0 hτ rfl rfl rfl ?_
    refine qa4 ?_
    refine qa9 (qa3 [0,2] (l:=[(2,.ptr 0 0),(3,.d (.int .i64 x2.2.1)),(4,.d (.bool true))]) (objs:=[.box [.d (.cx .f32 x2.1.Grid.qa1.Source.A.re x2.1.Grid.qa1.Source.A.im),.d (.cx .f32 x2.1.Grid.qa1.Source.B.re x2.1.Grid.qa1.Source.B.im),.d (.cx .f32 x2.1.Grid.qa1.Source.C.re x2.1.Grid.qa1.Source.C.im),.d (.sl false (x2.1.Grid.qa1.qac.map qah)),.d (.sl false (x2.1.Grid.Ties.map qan)),.row 1 x2.1.qce.length 0 x2.1.qce.length],.row 4 (x2.1.qce.map qbm)]) rfl (by simp) rfl (by trivial) ⟨rfl,trivial,rfl,trivial,rfl,trivial,trivial⟩) ?_
    refine qas ?_
    have hr:=Option.some.inj h
    subst hr
    exact qaf (.inr rfl) [1] (objs':=[]) (new:=[.row 4 (x2.1.qce.map qbm)]) rfl (by simp) (by simp) rfl (by trivial) rfl rfl (by trivial) (fun h=>nomatch h) ⟨rfl,rfl,rfl⟩
def m_spec_LoadRecord_j1 (n:Nat) (x4:qc7 × Int × Bool):Option (qc7 × Bool) :=
  some ((qc7.mk x4.1.Grid x4.1.qce),true)
def qhy (n:Nat) (x4:qc7 × Int × Bool) (v10:Bool):Option (qc7 × Bool) :=
  if v10 = true then
    some ((qc7.mk (qbi.mk (qck.mk (qaa.mk (Cx.mk (0:Nat) (0:Nat)) (Cx.mk (0:Nat) (0:Nat)) (Cx.mk (0:Nat) (0:Nat))) ([]:List SBus)) ([]:List STie)) ([]:List qbb)),false)
  else
    m_spec_LoadRecord_j1 n x4
def qhp (n:Nat) (s_:Str):Option (qc7 × Bool) :=
  (qeg n s_).bind fun x4 =>
  if x4.2.2 = true then
    qhy n x4 (!(decide (x4.2.1 = (s_.length:Int))))
  else
    qhy n x4 true
def qep (n:Nat) (s_:Str) (prefix_:Str):Option Bool :=
  if (s_.length:Int) ≥ (prefix_.length:Int) then
    grd (0 ≤ (0:Int)∧(0:Int) ≤ (prefix_.length:Int)∧(prefix_.length:Int) ≤ (s_.length:Int)) <|
    some (decide ((sub s_ (0:Int) (prefix_.length:Int)) = prefix_))
  else
    some false
theorem stringslite_HasPrefix_ok_fr0 (fr:Bool) (n:Nat) (s_:Str) (prefix_:Str) {r:Bool} (h:qep n s_ prefix_ = some r):qb5 prog fr 121 [.d (.str (bstr s_)),.d (.str (bstr prefix_))] [] (fun v o new=>v = .d (.bool r)∧o = []∧new = []):=by
  refine qar hτ func121 rfl (by simp) (by simp) ?_
  unfold qep at h
  refine qa5 ?_
  refine qa2 ?_
  refine qa0 hτ rfl rfl rfl ?_
  refine qa4 ?_
  refine qa5 ?_
  refine qa2 ?_
  refine qa0 hτ rfl rfl rfl ?_
  refine qa0 hτ rfl rfl rfl ?_
  refine qa0 hτ rfl rfl rfl ?_
  refine qa0 hτ rfl rfl rfl ?_
  refine qa0 hτ rfl rfl rfl ?_
  refine qa0 hτ rfl rfl rfl ?_
  refine qcm 10 rfl (fun hb4=>?_) (fun hb4=>?_)
  · have h:=if_t h hb4
    refine qa0 hτ rfl rfl rfl ?_
    refine qa0 hτ rfl rfl rfl ?_
    refine qa0 hτ rfl rfl rfl ?_
    refine qbh h fun hg5 h=>?_
    refine qbd hτ (v:=.d (.str (bstr (sub s_ (0:Int) (prefix_.length:Int))))) rfl rfl (Eq.trans rfl (qlc _ _ _)) hg5 ?_
    refine qa0 hτ rfl rfl rfl ?_
    refine qbn (qa3 [] (l:=[(4,.d (.bool false)),(10,.d (.bool true)),(14,.d (.str (bstr (sub s_ (0:Int) (prefix_.length:Int))))),(15,.d (.str (bstr prefix_)))]) (objs:=[]) rfl (by simp) rfl (by trivial) ⟨rfl,trivial,rfl,trivial,rfl,trivial,rfl,trivial,trivial⟩) ?_
    refine qa0 hτ (v:=.d (.bool (decide ((sub s_ (0:Int) (prefix_.length:Int)) = prefix_)))) rfl rfl (qsf _ _) ?_
    refine qa0 hτ rfl rfl rfl ?_
    refine qa0 hτ rfl rfl rfl ?_
    refine qa4 ?_
    refine qa9 (qa3 [] (l:=[(4,.d (.bool (decide ((sub s_ (0:Int) (prefix_.length:Int)) = prefix_))))]) (objs:=[]) rfl (by simp) rfl (by trivial) ⟨rfl,trivial,trivial⟩) ?_
    refine qas ?_
    have hr:=Option.some.inj h
    subst hr
    exact qaf (.inr rfl) [] (objs':=[]) (new:=[]) rfl (by simp) (by simp) rfl (by trivial) rfl rfl (by trivial) (fun _=>⟨by simp [V.flat,V.qb2,V.qay,D.flat],qai⟩) ⟨rfl,rfl,rfl⟩
  · have h:=if_f h hb4
    refine qao rfl rfl ?_
    refine qao rfl rfl ?_
    refine qao rfl rfl ?_
    refine qao rfl rfl ?_
    refine qao rfl rfl ?_
    refine qbn (qa3 [] (l:=[(4,.d (.bool false)),(10,.d (.bool false)),(14,.und),(15,.und)]) (objs:=[]) rfl (by simp) rfl (by trivial) ⟨rfl,trivial,rfl,trivial,rfl,trivial,rfl,trivial,trivial⟩) ?_
    refine qao rfl rfl ?_
    refine qa0 hτ rfl rfl rfl ?_
    refine qa0 hτ rfl rfl rfl ?_
    refine qa4 ?_
    refine qa9 (qa3 [] (l:=[(4,.d (.bool false))]) (objs:=[]) rfl (by simp) rfl (by trivial) ⟨rfl,trivial,trivial⟩) ?_
    refine qas ?_
    have hr:=Option.some.inj h
    subst hr
    exact qaf (.inr rfl) [] (objs':=[]) (new:=[]) rfl (by simp) (by simp) rfl (by trivial) rfl rfl (by trivial) (fun _=>⟨by simp [V.flat,V.qb2,V.qay,D.flat],qai⟩) ⟨rfl,rfl,rfl⟩
theorem stringslite_HasPrefix_ok (n:Nat) (s_:Str) (prefix_:Str) {r:Bool} (h:qep n s_ prefix_ = some r):qb5 prog false 121 [.d (.str (bstr s_)),.d (.str (bstr prefix_))] [] (fun v o new=>v = .d (.bool r)∧o = []∧new = []):=stringslite_HasPrefix_ok_fr0 false n s_ prefix_ h
def qg1 (n:Nat) (s_:Str) (prefix_:Str):Option Bool :=
  (qep n s_ prefix_).bind fun x2 =>
  some x2
theorem strings_HasPrefix_ok_fr0 (fr:Bool) (n:Nat) (s_:Str) (prefix_:Str) {r:Bool} (h:qg1 n s_ prefix_ = some r):qb5 prog fr 78 [.d (.str (bstr s_)),.d (.str (bstr prefix_))] [] (fun v o new=>v = .d (.bool r)∧o = []∧new = []):=by
  refine qar hτ func78 rfl (by simp) (by simp) ?_
  unfold qg1 at h
  refine qa5 ?_
  refine qa2 ?_
  refine qa0 hτ rfl rfl rfl ?_
  refine qa4 ?_
  refine qa5 ?_
  refine qa2 ?_
  refine qa0 hτ rfl rfl rfl ?_
  refine qa0 hτ rfl rfl rfl ?_
  refine qab h fun x2 hx2 h=>?_
  refine qam hτ false [] rfl rfl rfl (qap func121 rfl rfl) rfl rfl (by simp) ⟨trivial,trivial,trivial⟩ (by trivial) (stringslite_HasPrefix_ok n s_ prefix_ hx2) ?_
  rintro r0 o0 n0 ⟨rfl,rfl,rfl⟩ -
  refine qa0 hτ rfl rfl rfl ?_
  refine qa4 ?_
  refine qa9 (qa3 [] (l:=[(4,.d (.bool x2))]) (objs:=[]) rfl (by simp) rfl (by trivial) ⟨rfl,trivial,trivial⟩) ?_
  refine qas ?_
  have hr:=Option.some.inj h
  subst hr
  exact qaf (.inr rfl) [] (objs':=[]) (new:=[]) rfl (by simp) (by simp) rfl (by trivial) rfl rfl (by trivial) (fun _=>⟨by simp [V.flat,V.qb2,V.qay,D.flat],qai⟩) ⟨rfl,rfl,rfl⟩
theorem strings_HasPrefix_ok (n:Nat) (s_:Str) (prefix_:Str) {r:Bool} (h:qg1 n s_ prefix_ = some r):qb5 prog false 78 [.d (.str (bstr s_)),.d (.str (bstr prefix_))] [] (fun v o new=>v = .d (.bool r)∧o = []∧new = []):=strings_HasPrefix_ok_fr0 false n s_ prefix_ h
def qfk (n:Nat) (r_:qaz) (many_:Int) (v11:Bool) (v18:Int):Option (Int × qaz) :=
  some (v18,(qaz.mk r_.s (w64 (r_.at_ + many_)) v11))
def qcc (n:Nat) (r_:qaz) (many_:Int) (v11:Bool):Nat→Int→Int→Option (Int × qaz)
  | 0,_,_=>none
  | m26 + 1,v21,v22 =>
    if v22 ≥ (0:Int) then
      (getI r_.s (w64 (r_.at_ + v22))).bind fun x29 =>
      (qcc n r_ many_ v11 m26) (w64 ((w64 (v21 * 2 ^ min (8:Int).toNat (IntKind.bits .i64))) + (w64 ((x29.toNat:Int))))) (w64 (v22 - (1:Int)))
    else
      qfk n r_ many_ v11 v21
def qel (n:Nat) (r_:qaz) (many_:Int) (v11:Bool):Option (Int × qaz) :=
  qcc n r_ many_ v11 n (0:Int) (w64 (many_ - (1:Int)))
def qd9 (n:Nat) (r_:qaz) (many_:Int) (v33:Bool):Option (Int × qaz) :=
  if v33 = true then
    some ((0:Int),(qaz.mk r_.s r_.at_ v33))
  else
    qel n r_ many_ v33
def qal (n:Nat) (r_:qaz) (many_:Int):Option (Int × qaz) :=
  if r_.short = true then
    qd9 n r_ many_ true
  else
    qd9 n r_ many_ (decide ((w64 (r_.at_ + many_)) > (r_.s.length:Int)))
theorem impl_reader_number_ok_fr0 (fr:Bool) (n:Nat) (r_:qaz) (many_:Int) {r:Int × qaz} (h:qal n r_ many_ = some r):qb5 prog fr 80 [.ptr 0 0,.d (.int .i64 many_)] [.box [.d (.str (bstr r_.s)),.d (.int .i64 r_.at_),.d (.bool r_.short)]] (fun v o new=>v = .d (.int .i64 r.1)∧o = [.box [.d (.str (bstr r.2.s)),.d (.int .i64 r.2.at_),.d (.bool r.2.short)]]∧new = []):=by
  refine qar hτ func80 rfl (by simp) (by simp) ?_
  unfold qal at h
  refine qa5 ?_
  refine qa2 ?_
  refine qa0 hτ rfl rfl rfl ?_
  refine qa4 ?_
  refine qd1 (ι:=Bool) (fun v11=>St.of [(0,.ptr 0 0),(1,.d (.int .i64 many_))] [.box [.d (.str (bstr r_.s)),.d (.int .i64 r_.at_),.d (.bool v11)]] f80.ntmps 1) (fun v11=>qel n r_ many_ v11 = some r) ?_ (fun hk30=>?_)
  · rintro v11 h
    replace h:qel n r_ many_ v11 = some r:=h
    unfold qel at h
    refine qa5 ?_
    refine qa2 ?_
    refine qa0 hτ rfl rfl rfl ?_
    refine qa4 ?_
    refine qd1 (ι:=Int) (fun v18=>St.of [(0,.ptr 0 0),(1,.d (.int .i64 many_)),(5,.d (.int .i64 v18))] [.box [.d (.str (bstr r_.s)),.d (.int .i64 r_.at_),.d (.bool v11)]] f80.ntmps 1) (fun v18=>qfk n r_ many_ v11 v18 = some r) ?_ (fun hk19=>?_)
    · rintro v18 h
      replace h:qfk n r_ many_ v11 v18 = some r:=h
      unfold qfk at h
      refine qa5 ?_
      refine qa2 ?_
      refine qa0 hτ rfl rfl rfl ?_
      refine qa0 hτ rfl rfl rfl ?_
      refine qa0 hτ rfl rfl rfl ?_
      refine qa0 hτ rfl rfl rfl ?_
      refine qa0 hτ rfl rfl rfl ?_
      refine qa0 hτ rfl rfl rfl ?_
      refine qa0 hτ rfl rfl rfl ?_
      refine qa0 hτ rfl rfl rfl ?_
      refine qaq hτ rfl rfl rfl ?_
      refine qa4 ?_
      refine qa5 ?_
      refine qa9 (qa3 [0] (l:=[(5,.d (.int .i64 v18))]) (objs:=[.box [.d (.str (bstr r_.s)),.d (.int .i64 (w64 (r_.at_ + many_))),.d (.bool v11)]]) rfl (by simp) rfl (by trivial) ⟨rfl,trivial,trivial⟩) ?_
      refine qa2 ?_
      refine qa0 hτ rfl rfl rfl ?_
      refine qa0 hτ rfl rfl rfl ?_
      refine qa4 ?_
      refine qa9 (qa3 [0] (l:=[(4,.d (.int .i64 v18))]) (objs:=[.box [.d (.str (bstr r_.s)),.d (.int .i64 (w64 (r_.at_ + many_))),.d (.bool v11)]]) rfl (by simp) rfl (by trivial) ⟨rfl,trivial,trivial⟩) ?_
      refine qas ?_
      have hr:=Option.some.inj h
      subst hr
      exact qaf (.inr rfl) [] (objs':=[.box [.d (.str (bstr r_.s)),.d (.int .i64 (w64 (r_.at_ + many_))),.d (.bool v11)]]) (new:=[]) rfl (by simp) (by simp) rfl (by trivial) rfl rfl (by trivial) (fun _=>⟨by simp [V.flat,V.qb2,V.qay,D.flat],(qb8 (by simp [AObj.flat,V.qay,D.flat]) qai)⟩) ⟨rfl,rfl,rfl⟩
    · refine qa5 ?_
      refine qa5 ?_
      refine qa2 ?_
      refine qa0 hτ rfl rfl rfl ?_
      refine qa0 hτ rfl rfl rfl ?_
      refine qa0 hτ rfl rfl rfl ?_
      refine qa4 ?_
      refine qb6 ?_
      refine qe1 (ι:=Nat × Int × Int) (fun (m26,v21,v22)=>St.of [(0,.ptr 0 0),(1,.d (.int .i64 many_)),(5,.d (.int .i64 v21)),(6,.d (.int .i64 v22))] [.box [.d (.str (bstr r_.s)),.d (.int .i64 r_.at_),.d (.bool v11)]] f80.ntmps 1) (fun (m26,v21,v22)=>qcc n r_ many_ v11 m26 v21 v22 = some r) (fun x=>x.1) (n,(0:Int),(w64 (many_ - (1:Int)))) h (qa3 [0] (l:=[(0,.ptr 0 0),(1,.d (.int .i64 many_)),(5,.d (.int .i64 (0:Int))),(6,.d (.int .i64 (w64 (many_ - (1:Int)))))]) (objs:=[.box [.d (.str (bstr r_.s)),.d (.int .i64 r_.at_),.d (.bool v11)]]) rfl (by simp) rfl (by trivial) ⟨rfl,trivial,rfl,trivial,rfl,trivial,rfl,trivial,trivial⟩) ?_
      rintro ⟨m26,v21,v22⟩ h
      replace h:qcc n r_ many_ v11 m26 v21 v22 = some r:=h
      rcases m26 with _ | m26
      · rw [qcc] at h;cases h
      rw [qcc] at h
      refine qa5 ?_
      refine qa5 ?_
      refine qa2 ?_
      refine qa0 hτ rfl rfl rfl ?_
      refine qa0 hτ rfl rfl rfl ?_
      refine qa4 ?_
      refine qau rfl (fun hc28=>?_) (fun hc28=>?_)
      · have h:=if_t h hc28
        refine qav ?_
        refine qa5 ?_
        refine qb6 ?_
        refine qc9 ?_
        refine qa7 hτ [] 0 rfl rfl rfl rfl rfl ?_
        refine qcz hτ [] 1 rfl rfl rfl rfl rfl (by decide) ?_
        refine qa7 hτ [] 2 rfl rfl rfl rfl rfl ?_
        refine qa7 hτ [] 3 rfl rfl rfl rfl rfl ?_
        refine qa7 hτ [0] 4 rfl rfl rfl rfl rfl ?_
        refine qa7 hτ [0] 5 rfl rfl rfl rfl rfl ?_
        refine qa7 hτ [] 6 rfl rfl rfl rfl rfl ?_
        refine qa7 hτ [] 7 rfl rfl rfl rfl rfl ?_
        refine qa7 hτ [0] 8 rfl rfl rfl rfl rfl ?_
        refine qa7 hτ [0] 9 rfl rfl rfl rfl rfl ?_
        refine qa7 hτ [] 10 rfl rfl rfl rfl rfl ?_
        refine qa7 hτ [] 11 rfl rfl rfl rfl rfl ?_
        refine qab h fun x29 hx29 h=>?_
        refine qcz hτ (v:=.d (.int .u8 (x29.toNat:Int))) [] 12 rfl rfl rfl rfl (Eq.trans rfl (qpi hx29)) (qls hx29) ?_
        refine qa7 hτ [] 13 rfl rfl rfl rfl rfl ?_
        refine qa7 hτ [] 14 rfl rfl rfl rfl rfl ?_
        refine qa7 hτ [] 15 rfl rfl rfl rfl rfl ?_
        refine qbp mixed (by kernel_rfl) ?_
        refine qa9 (qa3 [0] (l:=[(0,.ptr 0 0),(1,.d (.int .i64 many_)),(5,.d (.int .i64 (w64 ((w64 (v21 * 2 ^ min (8:Int).toNat (IntKind.bits .i64))) + (w64 ((x29.toNat:Int))))))),(6,.d (.int .i64 v22))]) (objs:=[.box [.d (.str (bstr r_.s)),.d (.int .i64 r_.at_),.d (.bool v11)]]) rfl (by simp) rfl (by trivial) ⟨rfl,trivial,rfl,trivial,rfl,trivial,rfl,trivial,trivial⟩) ?_
        refine qa2 ?_
        refine qa0 hτ rfl rfl rfl ?_
        refine qa0 hτ rfl rfl rfl ?_
        refine qa0 hτ rfl rfl rfl ?_
        refine qa4 ?_
        exact ⟨(m26,(w64 ((w64 (v21 * 2 ^ min (8:Int).toNat (IntKind.bits .i64))) + (w64 ((x29.toNat:Int))))),(w64 (v22 - (1:Int)))),h,Nat.lt_succ_self m26,(qa3 [0] (l:=[(0,.ptr 0 0),(1,.d (.int .i64 many_)),(5,.d (.int .i64 (w64 ((w64 (v21 * 2 ^ min (8:Int).toNat (IntKind.bits .i64))) + (w64 ((x29.toNat:Int))))))),(6,.d (.int .i64 (w64 (v22 - (1:Int)))))]) (objs:=[.box [.d (.str (bstr r_.s)),.d (.int .i64 r_.at_),.d (.bool v11)]]) rfl (by simp) rfl (by trivial) ⟨rfl,trivial,rfl,trivial,rfl,trivial,rfl,trivial,trivial⟩)⟩
      · have h:=if_f h hc28
        refine qdv ?_
        refine qa9 (qa3 [0] (l:=[(0,.ptr 0 0),(1,.d (.int .i64 many_)),(5,.d (.int .i64 v21))]) (objs:=[.box [.d (.str (bstr r_.s)),.d (.int .i64 r_.at_),.d (.bool v11)]]) rfl (by simp) rfl (by trivial) ⟨rfl,trivial,rfl,trivial,rfl,trivial,trivial⟩) ?_
        exact hk19 v21 h
  · refine qa5 ?_
    refine qd1 (ι:=Bool) (fun v33=>St.of [(0,.ptr 0 0),(1,.d (.int .i64 many_))] [.box [.d (.str (bstr r_.s)),.d (.int .i64 r_.at_),.d (.bool v33)]] f80.ntmps 1) (fun v33=>qd9 n r_ many_ v33 = some r) ?_ (fun hk35=>?_)
    · rintro v33 h
      replace h:qd9 n r_ many_ v33 = some r:=h
      unfold qd9 at h
      refine qa5 ?_
      refine qa2 ?_
      refine qa0 hτ rfl rfl rfl ?_
      refine qa0 hτ rfl rfl rfl ?_
      refine qa0 hτ rfl rfl rfl ?_
      refine qa0 hτ rfl rfl rfl ?_
      refine qa4 ?_
      refine qau rfl (fun hc34=>?_) (fun hc34=>?_)
      · have h:=qci h hc34
        refine qa5 ?_
        refine qa2 ?_
        refine qa0 hτ rfl rfl rfl ?_
        refine qa4 ?_
        refine qa9 (qa3 [0] (l:=[(4,.d (.int .i64 (0:Int)))]) (objs:=[.box [.d (.str (bstr r_.s)),.d (.int .i64 r_.at_),.d (.bool v33)]]) rfl (by simp) rfl (by trivial) ⟨rfl,trivial,trivial⟩) ?_
        refine qas ?_
        have hr:=Option.some.inj h
        subst hr
        exact qaf (.inr rfl) [] (objs':=[.box [.d (.str (bstr r_.s)),.d (.int .i64 r_.at_),.d (.bool v33)]]) (new:=[]) rfl (by simp) (by simp) rfl (by trivial) rfl rfl (by trivial) (fun _=>⟨by simp [V.flat,V.qb2,V.qay,D.flat],(qb8 (by simp [AObj.flat,V.qay,D.flat]) qai)⟩) ⟨rfl,rfl,rfl⟩
      · have h:=qch h hc34
        refine qav ?_
        refine qa9 (qa3 [0] (l:=[(0,.ptr 0 0),(1,.d (.int .i64 many_))]) (objs:=[.box [.d (.str (bstr r_.s)),.d (.int .i64 r_.at_),.d (.bool v33)]]) rfl (by simp) rfl (by trivial) ⟨rfl,trivial,rfl,trivial,trivial⟩) ?_
        exact hk30 v33 h
    · refine qa5 ?_
      refine qc9 ?_
      refine qa7 hτ [] 0 rfl rfl rfl rfl rfl ?_
      refine qa7 hτ [] 1 rfl rfl rfl rfl rfl ?_
      refine qa7 hτ [] 2 rfl rfl rfl rfl rfl ?_
      refine qa7 hτ [0] 3 rfl rfl rfl rfl rfl ?_
      refine qa7 hτ [0] 4 rfl rfl rfl rfl rfl ?_
      refine qa7 hτ [] 5 rfl rfl rfl rfl rfl ?_
      refine qga 12 rfl (fun hb36=>?_) (fun hb36=>?_)
      · have h:=qci h hb36
        refine qak 6 rfl rfl rfl ?_
        refine qak 7 rfl rfl rfl ?_
        refine qak 8 rfl rfl rfl ?_
        refine qak 9 rfl rfl rfl ?_
        refine qak 10 rfl rfl rfl ?_
        refine qak 11 rfl rfl rfl ?_
        refine qak 12 rfl rfl rfl ?_
        refine qak 13 rfl rfl rfl ?_
        refine qak 14 rfl rfl rfl ?_
        refine qak 15 rfl rfl rfl ?_
        refine qak 16 rfl rfl rfl ?_
        refine qak 17 rfl rfl rfl ?_
        refine qa7 hτ [] 18 rfl rfl rfl rfl rfl ?_
        refine qa7 hτ [] 19 rfl rfl rfl rfl rfl ?_
        refine qa7 hτ [0] 20 rfl rfl rfl rfl rfl ?_
        refine qd3 hτ [] 21 rfl rfl rfl rfl trivial ?_
        refine qbp mixed (by kernel_rfl) ?_
        refine qa9 (qa3 [0] (l:=[(0,.ptr 0 0),(1,.d (.int .i64 many_))]) (objs:=[.box [.d (.str (bstr r_.s)),.d (.int .i64 r_.at_),.d (.bool true)]]) rfl (by simp) rfl (by trivial) ⟨rfl,trivial,rfl,trivial,trivial⟩) ?_
        exact hk35 true h
      · have h:=qch h hb36
        refine qa7 hτ [] 6 rfl rfl rfl rfl rfl ?_
        refine qa7 hτ [] 7 rfl rfl rfl rfl rfl ?_
        refine qa7 hτ [0] 8 rfl rfl rfl rfl rfl ?_
        refine qa7 hτ [0] 9 rfl rfl rfl rfl rfl ?_
        refine qa7 hτ [] 10 rfl rfl rfl rfl rfl ?_
        refine qa7 hτ [] 11 rfl rfl rfl rfl rfl ?_
        refine qa7 hτ [] 12 rfl rfl rfl rfl rfl ?_
        refine qa7 hτ [] 13 rfl rfl rfl rfl rfl ?_
        refine qa7 hτ [0] 14 rfl rfl rfl rfl rfl ?_
        refine qa7 hτ [0] 15 rfl rfl rfl rfl rfl ?_
        refine qa7 hτ [] 16 rfl rfl rfl rfl rfl ?_
        refine qa7 hτ [] 17 rfl rfl rfl rfl rfl ?_
        refine qa7 hτ [] 18 rfl rfl rfl rfl rfl ?_
        refine qa7 hτ [] 19 rfl rfl rfl rfl rfl ?_
        refine qa7 hτ [0] 20 rfl rfl rfl rfl rfl ?_
        refine qd3 hτ [] 21 rfl rfl rfl rfl trivial ?_
        refine qbp mixed (by kernel_rfl) ?_
        refine qa9 (qa3 [0] (l:=[(0,.ptr 0 0),(1,.d (.int .i64 many_))]) (objs:=[.box [.d (.str (bstr r_.s)),.d (.int .i64 r_.at_),.d (.bool (decide ((w64 (r_.at_ + many_)) > (r_.s.length:Int))))]]) rfl (by simp) rfl (by trivial) ⟨rfl,trivial,rfl,trivial,trivial⟩) ?_
        exact hk35 (decide ((w64 (r_.at_ + many_)) > (r_.s.length:Int))) h
theorem qbs (n:Nat) (r_:qaz) (many_:Int) {r:Int × qaz} (h:qal n r_ many_ = some r):qb5 prog false 80 [.ptr 0 0,.d (.int .i64 many_)] [.box [.d (.str (bstr r_.s)),.d (.int .i64 r_.at_),.d (.bool r_.short)]] (fun v o new=>v = .d (.int .i64 r.1)∧o = [.box [.d (.str (bstr r.2.s)),.d (.int .i64 r.2.at_),.d (.bool r.2.short)]]∧new = []):=impl_reader_number_ok_fr0 false n r_ many_ h
def qdb (n:Nat) (n_:Int) (low_:Int) (high_:Int):Option Bool :=
  if n_ ≥ low_ then
    some (decide (n_ ≤ high_))
  else
    some false
theorem impl_in_ok_fr0 (fr:Bool) (n:Nat) (n_:Int) (low_:Int) (high_:Int) {r:Bool} (h:qdb n n_ low_ high_ = some r):qb5 prog fr 62 [.d (.int .i64 n_),.d (.int .i64 low_),.d (.int .i64 high_)] [] (fun v o new=>v = .d (.bool r)∧o = []∧new = []):=by
  refine qar hτ func62 rfl (by simp) (by simp) ?_
  unfold qdb at h
  refine qa5 ?_
  refine qa2 ?_
  refine qa0 hτ rfl rfl rfl ?_
  refine qa4 ?_
  refine qa5 ?_
  refine qa2 ?_
  refine qa0 hτ rfl rfl rfl ?_
  refine qa0 hτ rfl rfl rfl ?_
  refine qa0 hτ rfl rfl rfl ?_
  refine qa0 hτ rfl rfl rfl ?_
  refine qcm 10 rfl (fun hb3=>?_) (fun hb3=>?_)
  · have h:=if_t h hb3
    refine qa0 hτ rfl rfl rfl ?_
    refine qa0 hτ rfl rfl rfl ?_
    refine qa0 hτ rfl rfl rfl ?_
    refine qa0 hτ rfl rfl rfl ?_
    refine qa0 hτ rfl rfl rfl ?_
    refine qa4 ?_
    refine qa9 (qa3 [] (l:=[(6,.d (.bool (decide (n_ ≤ high_))))]) (objs:=[]) rfl (by simp) rfl (by trivial) ⟨rfl,trivial,trivial⟩) ?_
    refine qas ?_
    have hr:=Option.some.inj h
    subst hr
    exact qaf (.inr rfl) [] (objs':=[]) (new:=[]) rfl (by simp) (by simp) rfl (by trivial) rfl rfl (by trivial) (fun _=>⟨by simp [V.flat,V.qb2,V.qay,D.flat],qai⟩) ⟨rfl,rfl,rfl⟩
  · have h:=if_f h hb3
    refine qao rfl rfl ?_
    refine qao rfl rfl ?_
    refine qao rfl rfl ?_
    refine qa0 hτ rfl rfl rfl ?_
    refine qa0 hτ rfl rfl rfl ?_
    refine qa4 ?_
    refine qa9 (qa3 [] (l:=[(6,.d (.bool false))]) (objs:=[]) rfl (by simp) rfl (by trivial) ⟨rfl,trivial,trivial⟩) ?_
    refine qas ?_
    have hr:=Option.some.inj h
    subst hr
    exact qaf (.inr rfl) [] (objs':=[]) (new:=[]) rfl (by simp) (by simp) rfl (by trivial) rfl rfl (by trivial) (fun _=>⟨by simp [V.flat,V.qb2,V.qay,D.flat],qai⟩) ⟨rfl,rfl,rfl⟩
theorem qgp (n:Nat) (n_:Int) (low_:Int) (high_:Int) {r:Bool} (h:qdb n n_ low_ high_ = some r):qb5 prog false 62 [.d (.int .i64 n_),.d (.int .i64 low_),.d (.int .i64 high_)] [] (fun v o new=>v = .d (.bool r)∧o = []∧new = []):=impl_in_ok_fr0 false n n_ low_ high_ h
def qei (n:Nat) (n_:Int):Option (Nat × Bool) :=
  (qdb n n_ (0:Int) (4294967295:Int)).bind fun x4 =>
  if x4 = true then
    grd ((IntKind.wrap .u32 (n_)).toNat < 4294967296) <|
    some ((canon .f32 (IntKind.wrap .u32 (n_)).toNat),true)
  else
    some ((0:Nat),false)
theorem impl_FromBits_ok_fr0 (fr:Bool) (n:Nat) (n_:Int) {r:Nat × Bool} (h:qei n n_ = some r):qb5 prog fr 174 [.d (.int .i64 n_)] [] (fun v o new=>v = .tup [.d (.fl .f32 r.1),.d (.bool r.2)]∧o = []∧new = []):=by
  refine qar hτ func174 rfl (by simp) (by simp) ?_
  unfold qei at h
  refine qa5 ?_
  refine qa2 ?_
  refine qa0 hτ rfl rfl rfl ?_
  refine qa0 hτ rfl rfl rfl ?_
  refine qa4 ?_
  refine qa5 ?_
  refine qa5 ?_
  refine qa2 ?_
  refine qa0 hτ rfl rfl rfl ?_
  refine qab h fun x4 hx4 h=>?_
  refine qam hτ false [] rfl rfl rfl (qap func62 rfl rfl) rfl rfl (by simp) ⟨trivial,trivial,trivial,trivial⟩ (by trivial) (qgp n n_ (0:Int) (4294967295:Int) hx4) ?_
  rintro r0 o0 n0 ⟨rfl,rfl,rfl⟩ -
  refine qa0 hτ rfl rfl rfl ?_
  refine qa4 ?_
  refine qau rfl (fun hc5=>?_) (fun hc5=>?_)
  · have hc5:=qdd hc5
    have h:=qch h hc5
    refine qa5 ?_
    refine qa2 ?_
    refine qa0 hτ rfl rfl rfl ?_
    refine qa0 hτ rfl rfl rfl ?_
    refine qa4 ?_
    refine qa9 (qa3 [] (l:=[(2,.d (.fl .f32 (0:Nat))),(3,.d (.bool false))]) (objs:=[]) rfl (by simp) rfl (by trivial) ⟨rfl,trivial,rfl,trivial,trivial⟩) ?_
    refine qas ?_
    have hr:=Option.some.inj h
    subst hr
    exact qaf (.inr rfl) [] (objs':=[]) (new:=[]) rfl (by simp) (by simp) rfl (by trivial) rfl rfl (by trivial) (fun _=>⟨by simp [V.flat,V.qb2,V.qay,D.flat],qai⟩) ⟨rfl,rfl,rfl⟩
  · have hc5:=qdc hc5
    have h:=qci h hc5
    refine qav ?_
    refine qa5 ?_
    refine qa2 ?_
    refine qa0 hτ rfl rfl rfl ?_
    refine qa0 hτ rfl rfl rfl ?_
    refine qbh h fun hg6 h=>?_
    refine qp1 hτ rfl rfl rfl (qug hg6) ?_
    refine qa0 hτ rfl rfl rfl ?_
    refine qa0 hτ rfl rfl rfl ?_
    refine qa4 ?_
    refine qa9 (qa3 [] (l:=[(2,.d (.fl .f32 (canon .f32 (IntKind.wrap .u32 (n_)).toNat))),(3,.d (.bool true))]) (objs:=[]) rfl (by simp) rfl (by trivial) ⟨rfl,trivial,rfl,trivial,trivial⟩) ?_
    refine qas ?_
    have hr:=Option.some.inj h
    subst hr
    exact qaf (.inr rfl) [] (objs':=[]) (new:=[]) rfl (by simp) (by simp) rfl (by trivial) rfl rfl (by trivial) (fun _=>⟨by simp [V.flat,V.qb2,V.qay,D.flat],qai⟩) ⟨rfl,rfl,rfl⟩
theorem impl_FromBits_ok (n:Nat) (n_:Int) {r:Nat × Bool} (h:qei n n_ = some r):qb5 prog false 174 [.d (.int .i64 n_)] [] (fun v o new=>v = .tup [.d (.fl .f32 r.1),.d (.bool r.2)]∧o = []∧new = []):=impl_FromBits_ok_fr0 false n n_ h
def qcu (n:Nat) (r_:qaz):Option (Nat × qaz) :=
  (qal n r_ (4:Int)).bind fun x3 =>
  (qei n x3.1).bind fun x4 =>
  some (x4.1,x3.2)
theorem impl_reader_float_ok_fr0 (fr:Bool) (n:Nat) (r_:qaz) {r:Nat × qaz} (h:qcu n r_ = some r):qb5 prog fr 155 [.ptr 0 0] [.box [.d (.str (bstr r_.s)),.d (.int .i64 r_.at_),.d (.bool r_.short)]] (fun v o new=>v = .d (.fl .f32 r.1)∧o = [.box [.d (.str (bstr r.2.s)),.d (.int .i64 r.2.at_),.d (.bool r.2.short)]]∧new = []):=by
  refine qar hτ func155 rfl (by simp) (by simp) ?_
  unfold qcu at h
  refine qa5 ?_
  refine qa2 ?_
  refine qa0 hτ rfl rfl rfl ?_
  refine qa4 ?_
  refine qa5 ?_
  refine qa2 ?_
  refine qa0 hτ rfl rfl rfl ?_
  refine qab h fun x3 hx3 h=>?_
  refine qam hτ false [0] rfl rfl rfl (qap func80 rfl rfl) rfl rfl (by simp) ⟨trivial,trivial,trivial⟩ (by trivial) (qbs n r_ (4:Int) hx3) ?_
  rintro r0 o0 n0 ⟨rfl,rfl,rfl⟩ -
  refine qab h fun x4 hx4 h=>?_
  refine qam hτ false [] rfl rfl rfl (qap func174 rfl rfl) rfl rfl (by simp) ⟨trivial,trivial⟩ (by trivial) (impl_FromBits_ok n x3.1 hx4) ?_
  rintro r0 o0 n0 ⟨rfl,rfl,rfl⟩ -
  refine qa0 hτ rfl rfl rfl ?_
  refine qa0 hτ rfl rfl rfl ?_
  refine qa0 hτ rfl rfl rfl ?_
  refine qa0 hτ rfl rfl rfl ?_
  refine qa0 hτ rfl rfl rfl ?_
  refine qa4 ?_
  refine qa5 ?_
  refine qa9 (qa3 [0] (l:=[(3,.d (.fl .f32 x4.1))]) (objs:=[.box [.d (.str (bstr x3.2.s)),.d (.int .i64 x3.2.at_),.d (.bool x3.2.short)]]) rfl (by simp) rfl (by trivial) ⟨rfl,trivial,trivial⟩) ?_
  refine qa2 ?_
  refine qa0 hτ rfl rfl rfl ?_
  refine qa0 hτ rfl rfl rfl ?_
  refine qa4 ?_
  refine qa9 (qa3 [0] (l:=[(2,.d (.fl .f32 x4.1))]) (objs:=[.box [.d (.str (bstr x3.2.s)),.d (.int .i64 x3.2.at_),.d (.bool x3.2.short)]]) rfl (by simp) rfl (by trivial) ⟨rfl,trivial,trivial⟩) ?_
  refine qas ?_
  have hr:=Option.some.inj h
  subst hr
  exact qaf (.inr rfl) [] (objs':=[.box [.d (.str (bstr x3.2.s)),.d (.int .i64 x3.2.at_),.d (.bool x3.2.short)]]) (new:=[]) rfl (by simp) (by simp) rfl (by trivial) rfl rfl (by trivial) (fun _=>⟨by simp [V.flat,V.qb2,V.qay,D.flat],(qb8 (by simp [AObj.flat,V.qay,D.flat]) qai)⟩) ⟨rfl,rfl,rfl⟩
theorem qjb (n:Nat) (r_:qaz) {r:Nat × qaz} (h:qcu n r_ = some r):qb5 prog false 155 [.ptr 0 0] [.box [.d (.str (bstr r_.s)),.d (.int .i64 r_.at_),.d (.bool r_.short)]] (fun v o new=>v = .d (.fl .f32 r.1)∧o = [.box [.d (.str (bstr r.2.s)),.d (.int .i64 r.2.at_),.d (.bool r.2.short)]]∧new = []):=impl_reader_float_ok_fr0 false n r_ h
def qax (n:Nat) (r_:qaz):Option (Cx × qaz) :=
  (qcu n r_).bind fun x3 =>
  (qcu n x3.2).bind fun x4 =>
  some ((Cx.mk x3.1 x4.1),x4.2)
theorem impl_reader_pair_ok_fr0 (fr:Bool) (n:Nat) (r_:qaz) {r:Cx × qaz} (h:qax n r_ = some r):qb5 prog fr 122 [.ptr 0 0] [.box [.d (.str (bstr r_.s)),.d (.int .i64 r_.at_),.d (.bool r_.short)]] (fun v o new=>v = .d (.cx .f32 r.1.re r.1.im)∧o = [.box [.d (.str (bstr r.2.s)),.d (.int .i64 r.2.at_),.d (.bool r.2.short)]]∧new = []):=by
  refine qar hτ func122 rfl (by simp) (by simp) ?_
  unfold qax at h
  refine qa5 ?_
  refine qa2 ?_
  refine qa0 hτ rfl rfl rfl ?_
  refine qa4 ?_
  refine qa5 ?_
  refine qa2 ?_
  refine qa0 hτ rfl rfl rfl ?_
  refine qab h fun x3 hx3 h=>?_
  refine qam hτ false [0] rfl rfl rfl (qap func155 rfl rfl) rfl rfl (by simp) ⟨trivial,trivial⟩ (by trivial) (qjb n r_ hx3) ?_
  rintro r0 o0 n0 ⟨rfl,rfl,rfl⟩ -
  refine qa0 hτ rfl rfl rfl ?_
  refine qa4 ?_
  refine qa5 ?_
  refine qa2 ?_
  refine qa0 hτ rfl rfl rfl ?_
  refine qa0 hτ rfl rfl rfl ?_
  refine qab h fun x4 hx4 h=>?_
  refine qam hτ false [0] rfl rfl rfl (qap func155 rfl rfl) rfl rfl (by simp) ⟨trivial,trivial⟩ (by trivial) (qjb n x3.2 hx4) ?_
  rintro r0 o0 n0 ⟨rfl,rfl,rfl⟩ -
  refine qa0 hτ rfl rfl rfl ?_
  refine qa0 hτ rfl rfl rfl ?_
  refine qa4 ?_
  refine qa9 (qa3 [0] (l:=[(2,.d (.cx .f32 x3.1 x4.1))]) (objs:=[.box [.d (.str (bstr x4.2.s)),.d (.int .i64 x4.2.at_),.d (.bool x4.2.short)]]) rfl (by simp) rfl (by trivial) ⟨rfl,trivial,trivial⟩) ?_
  refine qas ?_
  have hr:=Option.some.inj h
  subst hr
  exact qaf (.inr rfl) [] (objs':=[.box [.d (.str (bstr x4.2.s)),.d (.int .i64 x4.2.at_),.d (.bool x4.2.short)]]) (new:=[]) rfl (by simp) (by simp) rfl (by trivial) rfl rfl (by trivial) (fun _=>⟨by simp [V.flat,V.qb2,V.qay,D.flat],(qb8 (by simp [AObj.flat,V.qay,D.flat]) qai)⟩) ⟨rfl,rfl,rfl⟩
theorem qe2 (n:Nat) (r_:qaz) {r:Cx × qaz} (h:qax n r_ = some r):qb5 prog false 122 [.ptr 0 0] [.box [.d (.str (bstr r_.s)),.d (.int .i64 r_.at_),.d (.bool r_.short)]] (fun v o new=>v = .d (.cx .f32 r.1.re r.1.im)∧o = [.box [.d (.str (bstr r.2.s)),.d (.int .i64 r.2.at_),.d (.bool r.2.short)]]∧new = []):=impl_reader_pair_ok_fr0 false n r_ h
def qb9 (n:Nat) (r_:qaz):Option (qaa × qaz) :=
  (qax n r_).bind fun x4 =>
  (qax n x4.2).bind fun x5 =>
  (qax n x5.2).bind fun x6 =>
  some ((qaa.mk x4.1 x5.1 x6.1),x6.2)
theorem impl_reader_phases_ok_fr0 (fr:Bool) (n:Nat) (r_:qaz) {r:qaa × qaz} (h:qb9 n r_ = some r):qb5 prog fr 79 [.ptr 0 0] [.box [.d (.str (bstr r_.s)),.d (.int .i64 r_.at_),.d (.bool r_.short)]] (fun v o new=>v = .agg [.d (.cx .f32 r.1.A.re r.1.A.im),.d (.cx .f32 r.1.B.re r.1.B.im),.d (.cx .f32 r.1.C.re r.1.C.im)]∧o = [.box [.d (.str (bstr r.2.s)),.d (.int .i64 r.2.at_),.d (.bool r.2.short)]]∧new = []):=by
  refine qar hτ func79 rfl (by simp) (by simp) ?_
  unfold qb9 at h
  refine qa5 ?_
  refine qa2 ?_
  refine qaq hτ rfl rfl rfl ?_
  refine qa4 ?_
  refine qa5 ?_
  refine qa2 ?_
  refine qa0 hτ rfl rfl rfl ?_
  refine qab h fun x4 hx4 h=>?_
  refine qam hτ false [0] rfl rfl rfl (qap func122 rfl rfl) rfl rfl (by simp) ⟨trivial,trivial⟩ (by trivial) (qe2 n r_ hx4) ?_
  rintro r0 o0 n0 ⟨rfl,rfl,rfl⟩ -
  refine qa0 hτ rfl rfl rfl ?_
  refine qa4 ?_
  refine qa5 ?_
  refine qa2 ?_
  refine qa0 hτ rfl rfl rfl ?_
  refine qab h fun x5 hx5 h=>?_
  refine qam hτ false [0] rfl rfl rfl (qap func122 rfl rfl) rfl rfl (by simp) ⟨trivial,trivial⟩ (by trivial) (qe2 n x4.2 hx5) ?_
  rintro r0 o0 n0 ⟨rfl,rfl,rfl⟩ -
  refine qa0 hτ rfl rfl rfl ?_
  refine qa4 ?_
  refine qa5 ?_
  refine qa9 (qa3 [0,1] (l:=[(0,.ptr 0 0),(2,.ptr 1 0),(3,.d (.cx .f32 x4.1.re x4.1.im)),(4,.d (.cx .f32 x5.1.re x5.1.im))]) (objs:=[.box [.d (.str (bstr x5.2.s)),.d (.int .i64 x5.2.at_),.d (.bool x5.2.short)],.box [.d (.cx .f32 (0:Nat) (0:Nat)),.d (.cx .f32 (0:Nat) (0:Nat)),.d (.cx .f32 (0:Nat) (0:Nat))]]) rfl (by simp) rfl (by trivial) ⟨rfl,trivial,rfl,trivial,rfl,trivial,rfl,trivial,trivial⟩) ?_
  refine qa2 ?_
  refine qa0 hτ rfl rfl rfl ?_
  refine qa0 hτ rfl rfl rfl ?_
  refine qa0 hτ rfl rfl rfl ?_
  refine qab h fun x6 hx6 h=>?_
  refine qam hτ false [0] rfl rfl rfl (qap func122 rfl rfl) rfl rfl (by simp) ⟨trivial,trivial⟩ (by trivial) (qe2 n x5.2 hx6) ?_
  rintro r0 o0 n0 ⟨rfl,rfl,rfl⟩ -
  refine qa0 hτ rfl rfl rfl ?_
  refine qaq hτ rfl rfl rfl ?_
  refine qa4 ?_
  refine qa9 (qa3 [0,1] (l:=[(2,.ptr 1 0)]) (objs:=[.box [.d (.str (bstr x6.2.s)),.d (.int .i64 x6.2.at_),.d (.bool x6.2.short)],.box [.d (.cx .f32 x4.1.re x4.1.im),.d (.cx .f32 x5.1.re x5.1.im),.d (.cx .f32 x6.1.re x6.1.im)]]) rfl (by simp) rfl (by trivial) ⟨rfl,trivial,trivial⟩) ?_
  refine qas ?_
  have hr:=Option.some.inj h
  subst hr
  exact qaf (.inr rfl) [] (objs':=[.box [.d (.str (bstr x6.2.s)),.d (.int .i64 x6.2.at_),.d (.bool x6.2.short)]]) (new:=[]) rfl (by simp) (by simp) rfl (by trivial) rfl rfl (by trivial) (fun _=>⟨by simp [V.flat,V.qb2,V.qay,D.flat],(qb8 (by simp [AObj.flat,V.qay,D.flat]) qai)⟩) ⟨rfl,rfl,rfl⟩
theorem qgc (n:Nat) (r_:qaz) {r:qaa × qaz} (h:qb9 n r_ = some r):qb5 prog false 79 [.ptr 0 0] [.box [.d (.str (bstr r_.s)),.d (.int .i64 r_.at_),.d (.bool r_.short)]] (fun v o new=>v = .agg [.d (.cx .f32 r.1.A.re r.1.A.im),.d (.cx .f32 r.1.B.re r.1.B.im),.d (.cx .f32 r.1.C.re r.1.C.im)]∧o = [.box [.d (.str (bstr r.2.s)),.d (.int .i64 r.2.at_),.d (.bool r.2.short)]]∧new = []):=impl_reader_phases_ok_fr0 false n r_ h
def qe9 (n:Nat) (r_:qaz):Option (SBus × qaz) :=
  (qal n r_ (1:Int)).bind fun x7 =>
  (qax n x7.2).bind fun x8 =>
  (qax n x8.2).bind fun x9 =>
  (qal n x9.2 (1:Int)).bind fun x10 =>
  (qb9 n x10.2).bind fun x11 =>
  (qal n x11.2 (4:Int)).bind fun x12 =>
  some ((SBus.mk (w64 (x7.1 - (1:Int))) x8.1 x9.1 x10.1 x11.1 x12.1),x12.2)
theorem impl_reader_bus_ok_fr0 (fr:Bool) (n:Nat) (r_:qaz) {r:SBus × qaz} (h:qe9 n r_ = some r):qb5 prog fr 81 [.ptr 0 0] [.box [.d (.str (bstr r_.s)),.d (.int .i64 r_.at_),.d (.bool r_.short)]] (fun v o new=>v = .agg [.d (.int .i64 r.1.qag),.d (.cx .f32 r.1.Own.re r.1.Own.im),.d (.cx .f32 r.1.Shared.re r.1.Shared.im),.d (.int .i64 r.1.Kind),.d (.cx .f32 r.1.Load.A.re r.1.Load.A.im),.d (.cx .f32 r.1.Load.B.re r.1.Load.B.im),.d (.cx .f32 r.1.Load.C.re r.1.Load.C.im),.d (.int .i64 r.1.qa6)]∧o = [.box [.d (.str (bstr r.2.s)),.d (.int .i64 r.2.at_),.d (.bool r.2.short)]]∧new = []):=by
  refine qar hτ func81 rfl (by simp) (by simp) ?_
  unfold qe9 at h
  refine qa5 ?_
  refine qa2 ?_
  refine qaq hτ rfl rfl rfl ?_
  refine qa4 ?_
  refine qa5 ?_
  refine qa2 ?_
  refine qa0 hτ rfl rfl rfl ?_
  refine qab h fun x7 hx7 h=>?_
  refine qam hτ false [0] rfl rfl rfl (qap func80 rfl rfl) rfl rfl (by simp) ⟨trivial,trivial,trivial⟩ (by trivial) (qbs n r_ (1:Int) hx7) ?_
  rintro r0 o0 n0 ⟨rfl,rfl,rfl⟩ -
  refine qa0 hτ rfl rfl rfl ?_
  refine qa0 hτ rfl rfl rfl ?_
  refine qaq hτ rfl rfl rfl ?_
  refine qaq hτ rfl rfl rfl ?_
  refine qa4 ?_
  refine qa5 ?_
  refine qa9 (qa3 [0,1,2] (l:=[(0,.ptr 0 0),(2,.ptr 1 0),(3,.ptr 2 0)]) (objs:=[.box [.d (.str (bstr x7.2.s)),.d (.int .i64 x7.2.at_),.d (.bool x7.2.short)],.box [.d (.int .i64 (0:Int)),.d (.cx .f32 (0:Nat) (0:Nat)),.d (.cx .f32 (0:Nat) (0:Nat)),.d (.int .i64 (0:Int)),.d (.cx .f32 (0:Nat) (0:Nat)),.d (.cx .f32 (0:Nat) (0:Nat)),.d (.cx .f32 (0:Nat) (0:Nat)),.d (.int .i64 (0:Int))],.box [.d (.int .i64 (w64 (x7.1 - (1:Int)))),.d (.cx .f32 (0:Nat) (0:Nat)),.d (.cx .f32 (0:Nat) (0:Nat)),.d (.int .i64 (0:Int)),.d (.cx .f32 (0:Nat) (0:Nat)),.d (.cx .f32 (0:Nat) (0:Nat)),.d (.cx .f32 (0:Nat) (0:Nat)),.d (.int .i64 (0:Int))]]) rfl (by simp) rfl (by trivial) ⟨rfl,trivial,rfl,trivial,rfl,trivial,trivial⟩) ?_
  refine qa2 ?_
  refine qa0 hτ rfl rfl rfl ?_
  refine qab h fun x8 hx8 h=>?_
  refine qam hτ false [0] rfl rfl rfl (qap func122 rfl rfl) rfl rfl (by simp) ⟨trivial,trivial⟩ (by trivial) (qe2 n x7.2 hx8) ?_
  rintro r0 o0 n0 ⟨rfl,rfl,rfl⟩ -
  refine qa0 hτ rfl rfl rfl ?_
  refine qab h fun x9 hx9 h=>?_
  refine qam hτ false [0] rfl rfl rfl (qap func122 rfl rfl) rfl rfl (by simp) ⟨trivial,trivial⟩ (by trivial) (qe2 n x8.2 hx9) ?_
  rintro r0 o0 n0 ⟨rfl,rfl,rfl⟩ -
  refine qa0 hτ rfl rfl rfl ?_
  refine qaq hτ rfl rfl rfl ?_
  refine qa0 hτ rfl rfl rfl ?_
  refine qaq hτ rfl rfl rfl ?_
  refine qa4 ?_
  refine qa5 ?_
  refine qa9 (qa3 [0,1,2] (l:=[(0,.ptr 0 0),(2,.ptr 1 0),(3,.ptr 2 0)]) (objs:=[.box [.d (.str (bstr x9.2.s)),.d (.int .i64 x9.2.at_),.d (.bool x9.2.short)],.box [.d (.int .i64 (0:Int)),.d (.cx .f32 (0:Nat) (0:Nat)),.d (.cx .f32 (0:Nat) (0:Nat)),.d (.int .i64 (0:Int)),.d (.cx .f32 (0:Nat) (0:Nat)),.d (.cx .f32 (0:Nat) (0:Nat)),.d (.cx .f32 (0:Nat) (0:Nat)),.d (.int .i64 (0:Int))],.box [.d (.int .i64 (w64 (x7.1 - (1:Int)))),.d (.cx .f32 x8.1.re x8.1.im),.d (.cx .f32 x9.1.re x9.1.im),.d (.int .i64 (0:Int)),.d (.cx .f32 (0:Nat) (0:Nat)),.d (.cx .f32 (0:Nat) (0:Nat)),.d (.cx .f32 (0:Nat) (0:Nat)),.d (.int .i64 (0:Int))]]) rfl (by simp) rfl (by trivial) ⟨rfl,trivial,rfl,trivial,rfl,trivial,trivial⟩) ?_
  refine qa2 ?_
  refine qa0 hτ rfl rfl rfl ?_
  refine qab h fun x10 hx10 h=>?_
  refine qam hτ false [0] rfl rfl rfl (qap func80 rfl rfl) rfl rfl (by simp) ⟨trivial,trivial,trivial⟩ (by trivial) (qbs n x9.2 (1:Int) hx10) ?_
  rintro r0 o0 n0 ⟨rfl,rfl,rfl⟩ -
  refine qa0 hτ rfl rfl rfl ?_
  refine qaq hτ rfl rfl rfl ?_
  refine qa4 ?_
  refine qa5 ?_
  refine qa2 ?_
  refine qa0 hτ rfl rfl rfl ?_
  refine qab h fun x11 hx11 h=>?_
  refine qam hτ false [0] rfl rfl rfl (qap func79 rfl rfl) rfl rfl (by simp) ⟨trivial,trivial⟩ (by trivial) (qgc n x10.2 hx11) ?_
  rintro r0 o0 n0 ⟨rfl,rfl,rfl⟩ -
  refine qa0 hτ rfl rfl rfl ?_
  refine qaq hτ rfl rfl rfl ?_
  refine qa4 ?_
  refine qa5 ?_
  refine qa9 (qa3 [0,1,2] (l:=[(0,.ptr 0 0),(2,.ptr 1 0),(3,.ptr 2 0)]) (objs:=[.box [.d (.str (bstr x11.2.s)),.d (.int .i64 x11.2.at_),.d (.bool x11.2.short)],.box [.d (.int .i64 (0:Int)),.d (.cx .f32 (0:Nat) (0:Nat)),.d (.cx .f32 (0:Nat) (0:Nat)),.d (.int .i64 (0:Int)),.d (.cx .f32 (0:Nat) (0:Nat)),.d (.cx .f32 (0:Nat) (0:Nat)),.d (.cx .f32 (0:Nat) (0:Nat)),.d (.int .i64 (0:Int))],.box [.d (.int .i64 (w64 (x7.1 - (1:Int)))),.d (.cx .f32 x8.1.re x8.1.im),.d (.cx .f32 x9.1.re x9.1.im),.d (.int .i64 x10.1),.d (.cx .f32 x11.1.A.re x11.1.A.im),.d (.cx .f32 x11.1.B.re x11.1.B.im),.d (.cx .f32 x11.1.C.re x11.1.C.im),.d (.int .i64 (0:Int))]]) rfl (by simp) rfl (by trivial) ⟨rfl,trivial,rfl,trivial,rfl,trivial,trivial⟩) ?_
  refine qa2 ?_
  refine qa0 hτ rfl rfl rfl ?_
  refine qab h fun x12 hx12 h=>?_
  refine qam hτ false [0] rfl rfl rfl (qap func80 rfl rfl) rfl rfl (by simp) ⟨trivial,trivial,trivial⟩ (by trivial) (qbs n x11.2 (4:Int) hx12) ?_
  rintro r0 o0 n0 ⟨rfl,rfl,rfl⟩ -
  refine qa0 hτ rfl rfl rfl ?_
  refine qaq hτ rfl rfl rfl ?_
  refine qa4 ?_
  refine qa5 ?_
  refine qa2 ?_
  refine qa0 hτ rfl rfl rfl ?_
  refine qaq hτ rfl rfl rfl ?_
  refine qa4 ?_
  refine qa9 (qa3 [0,1] (l:=[(2,.ptr 1 0)]) (objs:=[.box [.d (.str (bstr x12.2.s)),.d (.int .i64 x12.2.at_),.d (.bool x12.2.short)],.box [.d (.int .i64 (w64 (x7.1 - (1:Int)))),.d (.cx .f32 x8.1.re x8.1.im),.d (.cx .f32 x9.1.re x9.1.im),.d (.int .i64 x10.1),.d (.cx .f32 x11.1.A.re x11.1.A.im),.d (.cx .f32 x11.1.B.re x11.1.B.im),.d (.cx .f32 x11.1.C.re x11.1.C.im),.d (.int .i64 x12.1)]]) rfl (by simp) rfl (by trivial) ⟨rfl,trivial,trivial⟩) ?_
  refine qas ?_
  have hr:=Option.some.inj h
  subst hr
  exact qaf (.inr rfl) [] (objs':=[.box [.d (.str (bstr x12.2.s)),.d (.int .i64 x12.2.at_),.d (.bool x12.2.short)]]) (new:=[]) rfl (by simp) (by simp) rfl (by trivial) rfl rfl (by trivial) (fun _=>⟨by simp [V.flat,V.qb2,V.qay,D.flat],(qb8 (by simp [AObj.flat,V.qay,D.flat]) qai)⟩) ⟨rfl,rfl,rfl⟩
theorem impl_reader_bus_ok (n:Nat) (r_:qaz) {r:SBus × qaz} (h:qe9 n r_ = some r):qb5 prog false 81 [.ptr 0 0] [.box [.d (.str (bstr r_.s)),.d (.int .i64 r_.at_),.d (.bool r_.short)]] (fun v o new=>v = .agg [.d (.int .i64 r.1.qag),.d (.cx .f32 r.1.Own.re r.1.Own.im),.d (.cx .f32 r.1.Shared.re r.1.Shared.im),.d (.int .i64 r.1.Kind),.d (.cx .f32 r.1.Load.A.re r.1.Load.A.im),.d (.cx .f32 r.1.Load.B.re r.1.Load.B.im),.d (.cx .f32 r.1.Load.C.re r.1.Load.C.im),.d (.int .i64 r.1.qa6)]∧o = [.box [.d (.str (bstr r.2.s)),.d (.int .i64 r.2.at_),.d (.bool r.2.short)]]∧new = []):=impl_reader_bus_ok_fr0 false n r_ h
def qea (n:Nat) (r_:qaz):Option (STie × qaz) :=
  (qal n r_ (1:Int)).bind fun x6 =>
  (qal n x6.2 (1:Int)).bind fun x7 =>
  (qax n x7.2).bind fun x8 =>
  (qax n x8.2).bind fun x9 =>
  (qal n x9.2 (4:Int)).bind fun x10 =>
  some ((STie.mk x6.1 x7.1 x8.1 x9.1 x10.1),x10.2)
theorem impl_reader_tie_ok_fr0 (fr:Bool) (n:Nat) (r_:qaz) {r:STie × qaz} (h:qea n r_ = some r):qb5 prog fr 82 [.ptr 0 0] [.box [.d (.str (bstr r_.s)),.d (.int .i64 r_.at_),.d (.bool r_.short)]] (fun v o new=>v = .agg [.d (.int .i64 r.1.A),.d (.int .i64 r.1.B),.d (.cx .f32 r.1.Own.re r.1.Own.im),.d (.cx .f32 r.1.Shared.re r.1.Shared.im),.d (.int .i64 r.1.Most)]∧o = [.box [.d (.str (bstr r.2.s)),.d (.int .i64 r.2.at_),.d (.bool r.2.short)]]∧new = []):=by
  refine qar hτ func82 rfl (by simp) (by simp) ?_
  unfold qea at h
  refine qa5 ?_
  refine qa2 ?_
  refine qaq hτ rfl rfl rfl ?_
  refine qa4 ?_
  refine qa5 ?_
  refine qa2 ?_
  refine qa0 hτ rfl rfl rfl ?_
  refine qab h fun x6 hx6 h=>?_
  refine qam hτ false [0] rfl rfl rfl (qap func80 rfl rfl) rfl rfl (by simp) ⟨trivial,trivial,trivial⟩ (by trivial) (qbs n r_ (1:Int) hx6) ?_
  rintro r0 o0 n0 ⟨rfl,rfl,rfl⟩ -
  refine qa0 hτ rfl rfl rfl ?_
  refine qaq hτ rfl rfl rfl ?_
  refine qaq hτ rfl rfl rfl ?_
  refine qa4 ?_
  refine qa5 ?_
  refine qa9 (qa3 [0,1,2] (l:=[(0,.ptr 0 0),(2,.ptr 1 0),(3,.ptr 2 0)]) (objs:=[.box [.d (.str (bstr x6.2.s)),.d (.int .i64 x6.2.at_),.d (.bool x6.2.short)],.box [.d (.int .i64 (0:Int)),.d (.int .i64 (0:Int)),.d (.cx .f32 (0:Nat) (0:Nat)),.d (.cx .f32 (0:Nat) (0:Nat)),.d (.int .i64 (0:Int))],.box [.d (.int .i64 x6.1),.d (.int .i64 (0:Int)),.d (.cx .f32 (0:Nat) (0:Nat)),.d (.cx .f32 (0:Nat) (0:Nat)),.d (.int .i64 (0:Int))]]) rfl (by simp) rfl (by trivial) ⟨rfl,trivial,rfl,trivial,rfl,trivial,trivial⟩) ?_
  refine qa2 ?_
  refine qa0 hτ rfl rfl rfl ?_
  refine qab h fun x7 hx7 h=>?_
  refine qam hτ false [0] rfl rfl rfl (qap func80 rfl rfl) rfl rfl (by simp) ⟨trivial,trivial,trivial⟩ (by trivial) (qbs n x6.2 (1:Int) hx7) ?_
  rintro r0 o0 n0 ⟨rfl,rfl,rfl⟩ -
  refine qa0 hτ rfl rfl rfl ?_
  refine qaq hτ rfl rfl rfl ?_
  refine qa4 ?_
  refine qa5 ?_
  refine qa2 ?_
  refine qa0 hτ rfl rfl rfl ?_
  refine qab h fun x8 hx8 h=>?_
  refine qam hτ false [0] rfl rfl rfl (qap func122 rfl rfl) rfl rfl (by simp) ⟨trivial,trivial⟩ (by trivial) (qe2 n x7.2 hx8) ?_
  rintro r0 o0 n0 ⟨rfl,rfl,rfl⟩ -
  refine qa0 hτ rfl rfl rfl ?_
  refine qab h fun x9 hx9 h=>?_
  refine qam hτ false [0] rfl rfl rfl (qap func122 rfl rfl) rfl rfl (by simp) ⟨trivial,trivial⟩ (by trivial) (qe2 n x8.2 hx9) ?_
  rintro r0 o0 n0 ⟨rfl,rfl,rfl⟩ -
  refine qa0 hτ rfl rfl rfl ?_
  refine qaq hτ rfl rfl rfl ?_
  refine qa0 hτ rfl rfl rfl ?_
  refine qaq hτ rfl rfl rfl ?_
  refine qa4 ?_
  refine qa5 ?_
  refine qa9 (qa3 [0,1,2] (l:=[(0,.ptr 0 0),(2,.ptr 1 0),(3,.ptr 2 0)]) (objs:=[.box [.d (.str (bstr x9.2.s)),.d (.int .i64 x9.2.at_),.d (.bool x9.2.short)],.box [.d (.int .i64 (0:Int)),.d (.int .i64 (0:Int)),.d (.cx .f32 (0:Nat) (0:Nat)),.d (.cx .f32 (0:Nat) (0:Nat)),.d (.int .i64 (0:Int))],.box [.d (.int .i64 x6.1),.d (.int .i64 x7.1),.d (.cx .f32 x8.1.re x8.1.im),.d (.cx .f32 x9.1.re x9.1.im),.d (.int .i64 (0:Int))]]) rfl (by simp) rfl (by trivial) ⟨rfl,trivial,rfl,trivial,rfl,trivial,trivial⟩) ?_
  refine qa2 ?_
  refine qa0 hτ rfl rfl rfl ?_
  refine qab h fun x10 hx10 h=>?_
  refine qam hτ false [0] rfl rfl rfl (qap func80 rfl rfl) rfl rfl (by simp) ⟨trivial,trivial,trivial⟩ (by trivial) (qbs n x9.2 (4:Int) hx10) ?_
  rintro r0 o0 n0 ⟨rfl,rfl,rfl⟩ -
  refine qa0 hτ rfl rfl rfl ?_
  refine qaq hτ rfl rfl rfl ?_
  refine qa4 ?_
  refine qa5 ?_
  refine qa2 ?_
  refine qa0 hτ rfl rfl rfl ?_
  refine qaq hτ rfl rfl rfl ?_
  refine qa4 ?_
  refine qa9 (qa3 [0,1] (l:=[(2,.ptr 1 0)]) (objs:=[.box [.d (.str (bstr x10.2.s)),.d (.int .i64 x10.2.at_),.d (.bool x10.2.short)],.box [.d (.int .i64 x6.1),.d (.int .i64 x7.1),.d (.cx .f32 x8.1.re x8.1.im),.d (.cx .f32 x9.1.re x9.1.im),.d (.int .i64 x10.1)]]) rfl (by simp) rfl (by trivial) ⟨rfl,trivial,trivial⟩) ?_
  refine qas ?_
  have hr:=Option.some.inj h
  subst hr
  exact qaf (.inr rfl) [] (objs':=[.box [.d (.str (bstr x10.2.s)),.d (.int .i64 x10.2.at_),.d (.bool x10.2.short)]]) (new:=[]) rfl (by simp) (by simp) rfl (by trivial) rfl rfl (by trivial) (fun _=>⟨by simp [V.flat,V.qb2,V.qay,D.flat],(qb8 (by simp [AObj.flat,V.qay,D.flat]) qai)⟩) ⟨rfl,rfl,rfl⟩
theorem impl_reader_tie_ok (n:Nat) (r_:qaz) {r:STie × qaz} (h:qea n r_ = some r):qb5 prog false 82 [.ptr 0 0] [.box [.d (.str (bstr r_.s)),.d (.int .i64 r_.at_),.d (.bool r_.short)]] (fun v o new=>v = .agg [.d (.int .i64 r.1.A),.d (.int .i64 r.1.B),.d (.cx .f32 r.1.Own.re r.1.Own.im),.d (.cx .f32 r.1.Shared.re r.1.Shared.im),.d (.int .i64 r.1.Most)]∧o = [.box [.d (.str (bstr r.2.s)),.d (.int .i64 r.2.at_),.d (.bool r.2.short)]]∧new = []):=impl_reader_tie_ok_fr0 false n r_ h
def qhm (n:Nat) (kind_:Int):Option Bool :=
  (qdb n kind_ (0:Int) (2:Int)).bind fun x2 =>
  some x2
theorem impl_kindOk_ok_fr0 (fr:Bool) (n:Nat) (kind_:Int) {r:Bool} (h:qhm n kind_ = some r):qb5 prog fr 106 [.d (.int .i64 kind_)] [] (fun v o new=>v = .d (.bool r)∧o = []∧new = []):=by
  refine qar hτ func106 rfl (by simp) (by simp) ?_
  unfold qhm at h
  refine qa5 ?_
  refine qa2 ?_
  refine qa0 hτ rfl rfl rfl ?_
  refine qa4 ?_
  refine qa5 ?_
  refine qa2 ?_
  refine qa0 hτ rfl rfl rfl ?_
  refine qab h fun x2 hx2 h=>?_
  refine qam hτ false [] rfl rfl rfl (qap func62 rfl rfl) rfl rfl (by simp) ⟨trivial,trivial,trivial,trivial⟩ (by trivial) (qgp n kind_ (0:Int) (2:Int) hx2) ?_
  rintro r0 o0 n0 ⟨rfl,rfl,rfl⟩ -
  refine qa0 hτ rfl rfl rfl ?_
  refine qa4 ?_
  refine qa9 (qa3 [] (l:=[(2,.d (.bool x2))]) (objs:=[]) rfl (by simp) rfl (by trivial) ⟨rfl,trivial,trivial⟩) ?_
  refine qas ?_
  have hr:=Option.some.inj h
  subst hr
  exact qaf (.inr rfl) [] (objs':=[]) (new:=[]) rfl (by simp) (by simp) rfl (by trivial) rfl rfl (by trivial) (fun _=>⟨by simp [V.flat,V.qb2,V.qay,D.flat],qai⟩) ⟨rfl,rfl,rfl⟩
theorem impl_kindOk_ok (n:Nat) (kind_:Int) {r:Bool} (h:qhm n kind_ = some r):qb5 prog false 106 [.d (.int .i64 kind_)] [] (fun v o new=>v = .d (.bool r)∧o = []∧new = []):=impl_kindOk_ok_fr0 false n kind_ h
def qf3 (n:Nat) (f_:qck):Option Bool :=
  (qdb n (f_.qac.length:Int) (1:Int) (16:Int)).bind fun x58 =>
  some x58
def qf4 (n:Nat) (k89:Int→Option Bool) (v73:Int):Option Bool :=
  k89 (w64 (v73 + (1:Int)))
def qd5 (n:Nat) (k89:Int→Option Bool) (v73:Int) (v122:Bool):Option Bool :=
  if v122 = true then
    some false
  else
    qf4 n k89 v73
def qcp (n:Nat) (k89:Int→Option Bool) (v73:Int) (x105:SBus) (v117:Bool):Option Bool :=
  if v117 = true then
    some false
  else
    if v73 > (0:Int) then
      (qdb n x105.qag (0:Int) (w64 (v73 - (1:Int)))).bind fun x126 =>
      qd5 n k89 v73 (!x126)
    else
      qd5 n k89 v73 false
def qco (n:Nat) (k89:Int→Option Bool) (v73:Int) (x105:SBus) (v110:Bool):Option Bool :=
  if v110 = true then
    some false
  else
    if v73 = (0:Int) then
      if x105.qag = (-1:Int) then
        if (fcmp .eql .f32 x105.Own.re (0:Nat) && fcmp .eql .f32 x105.Own.im (0:Nat)) = true then
          qcp n k89 v73 x105 (!(fcmp .eql .f32 x105.Shared.re (0:Nat) && fcmp .eql .f32 x105.Shared.im (0:Nat)))
        else
          qcp n k89 v73 x105 true
      else
        qcp n k89 v73 x105 true
    else
      qcp n k89 v73 x105 false
def qb3 (n:Nat) (f_:qck):Nat→Int→Option Bool
  | 0,_=>none
  | m88 + 1,v73 =>
    if v73 < (f_.qac.length:Int) then
      (getI f_.qac v73).bind fun x105 =>
      (qhm n x105.Kind).bind fun x132 =>
      if x132 = true then
        (qdb n x105.qa6 (0:Int) (1000000:Int)).bind fun x134 =>
        qco n (qb3 n f_ m88) v73 x105 (!x134)
      else
        qco n (qb3 n f_ m88) v73 x105 true
    else
      qf3 n f_
def qgd (n:Nat) (f_:qck):Option Bool :=
  qb3 n f_ n (0:Int)
theorem impl_ValidFeeder_ok_fr0 (fr:Bool) (n:Nat) (f_:qck) {r:Bool} (h:qgd n f_ = some r):qb5 prog fr 63 [.agg [.d (.cx .f32 f_.Source.A.re f_.Source.A.im),.d (.cx .f32 f_.Source.B.re f_.Source.B.im),.d (.cx .f32 f_.Source.C.re f_.Source.C.im),.d (.sl false (f_.qac.map qah))]] [] (fun v o new=>v = .d (.bool r)∧o = []∧new = []):=by
  refine qar hτ func63 rfl (by simp) (by simp) ?_
  unfold qgd at h
  refine qa5 ?_
  refine qa2 ?_
  refine qaq hτ rfl rfl rfl ?_
  refine qa0 hτ rfl rfl rfl ?_
  refine qa4 ?_
  refine qd1 (ι:=Unit) (fun _=>St.of [(1,.ptr 0 0)] [.box [.d (.cx .f32 f_.Source.A.re f_.Source.A.im),.d (.cx .f32 f_.Source.B.re f_.Source.B.im),.d (.cx .f32 f_.Source.C.re f_.Source.C.im),.d (.sl false (f_.qac.map qah))]] f63.ntmps 0) (fun _=>qf3 n f_ = some r) ?_ (fun hk59=>?_)
  · rintro ⟨⟩ h
    replace h:qf3 n f_ = some r:=h
    unfold qf3 at h
    refine qa5 ?_
    refine qa2 ?_
    refine qa0 hτ rfl rfl rfl ?_
    refine qa0 hτ rfl rfl rfl ?_
    refine qa0 hτ (v:=.d (.int .i64 (f_.qac.length:Int))) rfl rfl (Eq.trans rfl (qfo (f:=qah) f_.qac)) ?_
    refine qab h fun x58 hx58 h=>?_
    refine qam hτ false [] rfl rfl rfl (qap func62 rfl rfl) rfl rfl (by simp) ⟨trivial,trivial,trivial,trivial⟩ (by trivial) (qgp n (f_.qac.length:Int) (1:Int) (16:Int) hx58) ?_
    rintro r0 o0 n0 ⟨rfl,rfl,rfl⟩ -
    refine qa0 hτ rfl rfl rfl ?_
    refine qa4 ?_
    refine qa9 (qa3 [] (l:=[(2,.d (.bool x58))]) (objs:=[]) rfl (by simp) rfl (by trivial) ⟨rfl,trivial,trivial⟩) ?_
    refine qas ?_
    have hr:=Option.some.inj h
    subst hr
    exact qaf (.inr rfl) [] (objs':=[]) (new:=[]) rfl (by simp) (by simp) rfl (by trivial) rfl rfl (by trivial) (fun _=>⟨by simp [V.flat,V.qb2,V.qay,D.flat],qai⟩) ⟨rfl,rfl,rfl⟩
  · refine qa5 ?_
    refine qa5 ?_
    refine qa2 ?_
    refine qa0 hτ rfl rfl rfl ?_
    refine qa0 hτ rfl rfl rfl ?_
    refine qa0 hτ (v:=.d (.int .i64 (f_.qac.length:Int))) rfl rfl (Eq.trans rfl (qfo (f:=qah) f_.qac)) ?_
    refine qa0 hτ rfl rfl rfl ?_
    refine qa4 ?_
    refine qb6 ?_
    refine qe1 (ι:=Nat × Int) (fun (m88,v73)=>St.of [(1,.ptr 0 0),(6,.d (.sl false (f_.qac.map qah))),(7,.d (.int .i64 (f_.qac.length:Int))),(8,.d (.int .i64 v73))] [.box [.d (.cx .f32 f_.Source.A.re f_.Source.A.im),.d (.cx .f32 f_.Source.B.re f_.Source.B.im),.d (.cx .f32 f_.Source.C.re f_.Source.C.im),.d (.sl false (f_.qac.map qah))]] f63.ntmps 0) (fun (m88,v73)=>qb3 n f_ m88 v73 = some r) (fun x=>x.1) (n,(0:Int)) h (qa3 [0] (l:=[(1,.ptr 0 0),(6,.d (.sl false (f_.qac.map qah))),(7,.d (.int .i64 (f_.qac.length:Int))),(8,.d (.int .i64 (0:Int)))]) (objs:=[.box [.d (.cx .f32 f_.Source.A.re f_.Source.A.im),.d (.cx .f32 f_.Source.B.re f_.Source.B.im),.d (.cx .f32 f_.Source.C.re f_.Source.C.im),.d (.sl false (f_.qac.map qah))]]) rfl (by simp) rfl (by trivial) ⟨rfl,trivial,rfl,trivial,rfl,trivial,rfl,trivial,trivial⟩) ?_
    rintro ⟨m88,v73⟩ h
    replace h:qb3 n f_ m88 v73 = some r:=h
    rcases m88 with _ | m88
    · rw [qb3] at h;cases h
    rw [qb3] at h
    refine qa5 ?_
    refine qa2 ?_
    refine qa0 hτ rfl rfl rfl ?_
    refine qa4 ?_
    refine qa5 ?_
    refine qau rfl (fun hc90=>?_) (fun hc90=>?_)
    · have h:=if_t h hc90
      refine qav ?_
      refine qd1 (ι:=Unit) (fun _=>St.of [(1,.ptr 0 0),(6,.d (.sl false (f_.qac.map qah))),(7,.d (.int .i64 (f_.qac.length:Int))),(8,.d (.int .i64 v73))] [.box [.d (.cx .f32 f_.Source.A.re f_.Source.A.im),.d (.cx .f32 f_.Source.B.re f_.Source.B.im),.d (.cx .f32 f_.Source.C.re f_.Source.C.im),.d (.sl false (f_.qac.map qah))]] f63.ntmps 0) (fun _=>qf4 n (qb3 n f_ m88) v73 = some r) ?_ (fun hk104=>?_)
      · rintro ⟨⟩ h
        replace h:qf4 n (qb3 n f_ m88) v73 = some r:=h
        unfold qf4 at h
        refine qa2 ?_
        refine qa0 hτ rfl rfl rfl ?_
        refine qa0 hτ rfl rfl rfl ?_
        refine qa4 ?_
        exact ⟨(m88,(w64 (v73 + (1:Int)))),h,Nat.lt_succ_self m88,(qa3 [0] (l:=[(1,.ptr 0 0),(6,.d (.sl false (f_.qac.map qah))),(7,.d (.int .i64 (f_.qac.length:Int))),(8,.d (.int .i64 (w64 (v73 + (1:Int)))))]) (objs:=[.box [.d (.cx .f32 f_.Source.A.re f_.Source.A.im),.d (.cx .f32 f_.Source.B.re f_.Source.B.im),.d (.cx .f32 f_.Source.C.re f_.Source.C.im),.d (.sl false (f_.qac.map qah))]]) rfl (by simp) rfl (by trivial) ⟨rfl,trivial,rfl,trivial,rfl,trivial,rfl,trivial,trivial⟩)⟩
      · refine qa5 ?_
        refine qb6 ?_
        refine qa5 ?_
        refine qa2 ?_
        refine qa0 hτ rfl rfl rfl ?_
        refine qab h fun x105 hx105 h=>?_
        refine qdw hτ rfl rfl rfl (qbo hx105).1 (qcd hx105) rfl ?_
        refine qa0 hτ rfl rfl rfl ?_
        refine qaq hτ rfl rfl rfl ?_
        refine qa0 hτ rfl rfl rfl ?_
        refine qaq hτ rfl rfl rfl ?_
        refine qa4 ?_
        refine qb6 ?_
        refine qd1 (ι:=Bool) (fun v110=>St.of [(1,.ptr 0 0),(3,.d (.int .i64 v73)),(4,.ptr 1 0),(6,.d (.sl false (f_.qac.map qah))),(7,.d (.int .i64 (f_.qac.length:Int))),(8,.d (.int .i64 v73)),(13,.d (.bool v110))] [.box [.d (.cx .f32 f_.Source.A.re f_.Source.A.im),.d (.cx .f32 f_.Source.B.re f_.Source.B.im),.d (.cx .f32 f_.Source.C.re f_.Source.C.im),.d (.sl false (f_.qac.map qah))],.box [.d (.int .i64 x105.qag),.d (.cx .f32 x105.Own.re x105.Own.im),.d (.cx .f32 x105.Shared.re x105.Shared.im),.d (.int .i64 x105.Kind),.d (.cx .f32 x105.Load.A.re x105.Load.A.im),.d (.cx .f32 x105.Load.B.re x105.Load.B.im),.d (.cx .f32 x105.Load.C.re x105.Load.C.im),.d (.int .i64 x105.qa6)]] f63.ntmps 0) (fun v110=>qco n (qb3 n f_ m88) v73 x105 v110 = some r) ?_ (fun hk131=>?_)
        · rintro v110 h
          replace h:qco n (qb3 n f_ m88) v73 x105 v110 = some r:=h
          unfold qco at h
          refine qau rfl (fun hc111=>?_) (fun hc111=>?_)
          · have h:=qci h hc111
            refine qa5 ?_
            refine qa2 ?_
            refine qa0 hτ rfl rfl rfl ?_
            refine qa4 ?_
            refine qa9 (qa3 [] (l:=[(2,.d (.bool false))]) (objs:=[]) rfl (by simp) rfl (by trivial) ⟨rfl,trivial,trivial⟩) ?_
            refine qas ?_
            have hr:=Option.some.inj h
            subst hr
            exact qaf (.inr rfl) [] (objs':=[]) (new:=[]) rfl (by simp) (by simp) rfl (by trivial) rfl rfl (by trivial) (fun _=>⟨by simp [V.flat,V.qb2,V.qay,D.flat],qai⟩) ⟨rfl,rfl,rfl⟩
          · have h:=qch h hc111
            refine qd1 (ι:=Bool) (fun v117=>St.of [(1,.ptr 0 0),(3,.d (.int .i64 v73)),(4,.ptr 1 0),(6,.d (.sl false (f_.qac.map qah))),(7,.d (.int .i64 (f_.qac.length:Int))),(8,.d (.int .i64 v73)),(24,.d (.bool v117))] [.box [.d (.cx .f32 f_.Source.A.re f_.Source.A.im),.d (.cx .f32 f_.Source.B.re f_.Source.B.im),.d (.cx .f32 f_.Source.C.re f_.Source.C.im),.d (.sl false (f_.qac.map qah))],.box [.d (.int .i64 x105.qag),.d (.cx .f32 x105.Own.re x105.Own.im),.d (.cx .f32 x105.Shared.re x105.Shared.im),.d (.int .i64 x105.Kind),.d (.cx .f32 x105.Load.A.re x105.Load.A.im),.d (.cx .f32 x105.Load.B.re x105.Load.B.im),.d (.cx .f32 x105.Load.C.re x105.Load.C.im),.d (.int .i64 x105.qa6)]] f63.ntmps 0) (fun v117=>qcp n (qb3 n f_ m88) v73 x105 v117 = some r) ?_ (fun hk127=>?_)
            · rintro v117 h
              replace h:qcp n (qb3 n f_ m88) v73 x105 v117 = some r:=h
              unfold qcp at h
              refine qau rfl (fun hc118=>?_) (fun hc118=>?_)
              · have h:=qci h hc118
                refine qa5 ?_
                refine qa2 ?_
                refine qa0 hτ rfl rfl rfl ?_
                refine qa4 ?_
                refine qa9 (qa3 [] (l:=[(2,.d (.bool false))]) (objs:=[]) rfl (by simp) rfl (by trivial) ⟨rfl,trivial,trivial⟩) ?_
                refine qas ?_
                have hr:=Option.some.inj h
                subst hr
                exact qaf (.inr rfl) [] (objs':=[]) (new:=[]) rfl (by simp) (by simp) rfl (by trivial) rfl rfl (by trivial) (fun _=>⟨by simp [V.flat,V.qb2,V.qay,D.flat],qai⟩) ⟨rfl,rfl,rfl⟩
              · have h:=qch h hc118
                refine qd1 (ι:=Bool) (fun v122=>St.of [(1,.ptr 0 0),(6,.d (.sl false (f_.qac.map qah))),(7,.d (.int .i64 (f_.qac.length:Int))),(8,.d (.int .i64 v73)),(42,.d (.bool v122))] [.box [.d (.cx .f32 f_.Source.A.re f_.Source.A.im),.d (.cx .f32 f_.Source.B.re f_.Source.B.im),.d (.cx .f32 f_.Source.C.re f_.Source.C.im),.d (.sl false (f_.qac.map qah))]] f63.ntmps 0) (fun v122=>qd5 n (qb3 n f_ m88) v73 v122 = some r) ?_ (fun hk124=>?_)
                · rintro v122 h
                  replace h:qd5 n (qb3 n f_ m88) v73 v122 = some r:=h
                  unfold qd5 at h
                  refine qau rfl (fun hc123=>?_) (fun hc123=>?_)
                  · have h:=qci h hc123
                    refine qa5 ?_
                    refine qa2 ?_
                    refine qa0 hτ rfl rfl rfl ?_
                    refine qa4 ?_
                    refine qa9 (qa3 [] (l:=[(2,.d (.bool false))]) (objs:=[]) rfl (by simp) rfl (by trivial) ⟨rfl,trivial,trivial⟩) ?_
                    refine qas ?_
                    have hr:=Option.some.inj h
                    subst hr
                    exact qaf (.inr rfl) [] (objs':=[]) (new:=[]) rfl (by simp) (by simp) rfl (by trivial) rfl rfl (by trivial) (fun _=>⟨by simp [V.flat,V.qb2,V.qay,D.flat],qai⟩) ⟨rfl,rfl,rfl⟩
                  · have h:=qch h hc123
                    refine qav ?_
                    refine qa9 (qa3 [0] (l:=[(1,.ptr 0 0),(6,.d (.sl false (f_.qac.map qah))),(7,.d (.int .i64 (f_.qac.length:Int))),(8,.d (.int .i64 v73))]) (objs:=[.box [.d (.cx .f32 f_.Source.A.re f_.Source.A.im),.d (.cx .f32 f_.Source.B.re f_.Source.B.im),.d (.cx .f32 f_.Source.C.re f_.Source.C.im),.d (.sl false (f_.qac.map qah))]]) rfl (by simp) rfl (by trivial) ⟨rfl,trivial,rfl,trivial,rfl,trivial,rfl,trivial,trivial⟩) ?_
                    exact hk104 () h
                · refine qa5 ?_
                  refine qa2 ?_
                  refine qa0 hτ rfl rfl rfl ?_
                  refine qa0 hτ rfl rfl rfl ?_
                  refine qa0 hτ rfl rfl rfl ?_
                  refine qcm 45 rfl (fun hb125=>?_) (fun hb125=>?_)
                  · have h:=if_t h hb125
                    refine qa0 hτ rfl rfl rfl ?_
                    refine qa0 hτ rfl rfl rfl ?_
                    refine qa0 hτ rfl rfl rfl ?_
                    refine qa0 hτ rfl rfl rfl ?_
                    refine qab h fun x126 hx126 h=>?_
                    refine qam hτ false [] rfl rfl rfl (qap func62 rfl rfl) rfl rfl (by simp) ⟨trivial,trivial,trivial,trivial⟩ (by trivial) (qgp n x105.qag (0:Int) (w64 (v73 - (1:Int))) hx126) ?_
                    rintro r0 o0 n0 ⟨rfl,rfl,rfl⟩ -
                    refine qa0 hτ rfl rfl rfl ?_
                    refine qa0 hτ rfl rfl rfl ?_
                    refine qa0 hτ rfl rfl rfl ?_
                    refine qa4 ?_
                    refine qa9 (qa3 [0] (l:=[(1,.ptr 0 0),(6,.d (.sl false (f_.qac.map qah))),(7,.d (.int .i64 (f_.qac.length:Int))),(8,.d (.int .i64 v73)),(42,.d (.bool (!x126)))]) (objs:=[.box [.d (.cx .f32 f_.Source.A.re f_.Source.A.im),.d (.cx .f32 f_.Source.B.re f_.Source.B.im),.d (.cx .f32 f_.Source.C.re f_.Source.C.im),.d (.sl false (f_.qac.map qah))]]) rfl (by simp) rfl (by trivial) ⟨rfl,trivial,rfl,trivial,rfl,trivial,rfl,trivial,rfl,trivial,trivial⟩) ?_
                    exact hk124 (!x126) h
                  · have h:=if_f h hb125
                    refine qao rfl rfl ?_
                    refine qao rfl rfl ?_
                    refine qao rfl rfl ?_
                    refine qao rfl rfl ?_
                    refine qao rfl rfl ?_
                    refine qao rfl rfl ?_
                    refine qa0 hτ rfl rfl rfl ?_
                    refine qa0 hτ rfl rfl rfl ?_
                    refine qa4 ?_
                    refine qa9 (qa3 [0] (l:=[(1,.ptr 0 0),(6,.d (.sl false (f_.qac.map qah))),(7,.d (.int .i64 (f_.qac.length:Int))),(8,.d (.int .i64 v73)),(42,.d (.bool false))]) (objs:=[.box [.d (.cx .f32 f_.Source.A.re f_.Source.A.im),.d (.cx .f32 f_.Source.B.re f_.Source.B.im),.d (.cx .f32 f_.Source.C.re f_.Source.C.im),.d (.sl false (f_.qac.map qah))]]) rfl (by simp) rfl (by trivial) ⟨rfl,trivial,rfl,trivial,rfl,trivial,rfl,trivial,rfl,trivial,trivial⟩) ?_
                    exact hk124 false h
            · refine qa5 ?_
              refine qa2 ?_
              refine qa0 hτ rfl rfl rfl ?_
              refine qa0 hτ (v:=.d (.bool (decide (v73 = (0:Int))))) rfl rfl (qom _ _) ?_
              refine qa0 hτ rfl rfl rfl ?_
              refine qcm 27 rfl (fun hb128=>?_) (fun hb128=>?_)
              · have h:=if_t h hb128
                refine qa0 hτ rfl rfl rfl ?_
                refine qa0 hτ rfl rfl rfl ?_
                refine qa0 hτ (v:=.d (.bool (!(decide (x105.qag = (-1:Int)))))) rfl rfl (qhx _ _) ?_
                refine qa0 hτ rfl rfl rfl ?_
                refine qcm 31 rfl (fun hb129=>?_) (fun hb129=>?_)
                · have hb129:=qdd hb129
                  have h:=if_f h hb129
                  refine qao rfl rfl ?_
                  refine qao rfl rfl ?_
                  refine qao rfl rfl ?_
                  refine qa0 hτ rfl rfl rfl ?_
                  refine qa0 hτ rfl rfl rfl ?_
                  refine qbn (qa3 [0,1] (l:=[(1,.ptr 0 0),(3,.d (.int .i64 v73)),(4,.ptr 1 0),(6,.d (.sl false (f_.qac.map qah))),(7,.d (.int .i64 (f_.qac.length:Int))),(8,.d (.int .i64 v73)),(27,.d (.bool true)),(36,.d (.bool true))]) (objs:=[.box [.d (.cx .f32 f_.Source.A.re f_.Source.A.im),.d (.cx .f32 f_.Source.B.re f_.Source.B.im),.d (.cx .f32 f_.Source.C.re f_.Source.C.im),.d (.sl false (f_.qac.map qah))],.box [.d (.int .i64 x105.qag),.d (.cx .f32 x105.Own.re x105.Own.im),.d (.cx .f32 x105.Shared.re x105.Shared.im),.d (.int .i64 x105.Kind),.d (.cx .f32 x105.Load.A.re x105.Load.A.im),.d (.cx .f32 x105.Load.B.re x105.Load.B.im),.d (.cx .f32 x105.Load.C.re x105.Load.C.im),.d (.int .i64 x105.qa6)]]) rfl (by simp) rfl (by trivial) ⟨rfl,trivial,rfl,trivial,rfl,trivial,rfl,trivial,rfl,trivial,rfl,trivial,rfl,trivial,rfl,trivial,trivial⟩) ?_
                  refine qao rfl rfl ?_
                  refine qao rfl rfl ?_
                  refine qao rfl rfl ?_
                  refine qa0 hτ rfl rfl rfl ?_
                  refine qa0 hτ rfl rfl rfl ?_
                  refine qa0 hτ rfl rfl rfl ?_
                  refine qa4 ?_
                  refine qa9 (qa3 [0,1] (l:=[(1,.ptr 0 0),(3,.d (.int .i64 v73)),(4,.ptr 1 0),(6,.d (.sl false (f_.qac.map qah))),(7,.d (.int .i64 (f_.qac.length:Int))),(8,.d (.int .i64 v73)),(24,.d (.bool true))]) (objs:=[.box [.d (.cx .f32 f_.Source.A.re f_.Source.A.im),.d (.cx .f32 f_.Source.B.re f_.Source.B.im),.d (.cx .f32 f_.Source.C.re f_.Source.C.im),.d (.sl false (f_.qac.map qah))],.box [.d (.int .i64 x105.qag),.d (.cx .f32 x105.Own.re x105.Own.im),.d (.cx .f32 x105.Shared.re x105.Shared.im),.d (.int .i64 x105.Kind),.d (.cx .f32 x105.Load.A.re x105.Load.A.im),.d (.cx .f32 x105.Load.B.re x105.Load.B.im),.d (.cx .f32 x105.Load.C.re x105.Load.C.im),.d (.int .i64 x105.qa6)]]) rfl (by simp) rfl (by trivial) ⟨rfl,trivial,rfl,trivial,rfl,trivial,rfl,trivial,rfl,trivial,rfl,trivial,rfl,trivial,trivial⟩) ?_
                  exact hk127 true h
                · have hb129:=qdc hb129
                  have h:=if_t h hb129
                  refine qa0 hτ rfl rfl rfl ?_
                  refine qa0 hτ rfl rfl rfl ?_
                  refine qa0 hτ rfl rfl rfl ?_
                  refine qa0 hτ rfl rfl rfl ?_
                  refine qa0 hτ rfl rfl rfl ?_
                  refine qbn (qa3 [0,1] (l:=[(1,.ptr 0 0),(3,.d (.int .i64 v73)),(4,.ptr 1 0),(6,.d (.sl false (f_.qac.map qah))),(7,.d (.int .i64 (f_.qac.length:Int))),(8,.d (.int .i64 v73)),(27,.d (.bool true)),(36,.d (.bool (!(fcmp .eql .f32 x105.Own.re (0:Nat) && fcmp .eql .f32 x105.Own.im (0:Nat)))))]) (objs:=[.box [.d (.cx .f32 f_.Source.A.re f_.Source.A.im),.d (.cx .f32 f_.Source.B.re f_.Source.B.im),.d (.cx .f32 f_.Source.C.re f_.Source.C.im),.d (.sl false (f_.qac.map qah))],.box [.d (.int .i64 x105.qag),.d (.cx .f32 x105.Own.re x105.Own.im),.d (.cx .f32 x105.Shared.re x105.Shared.im),.d (.int .i64 x105.Kind),.d (.cx .f32 x105.Load.A.re x105.Load.A.im),.d (.cx .f32 x105.Load.B.re x105.Load.B.im),.d (.cx .f32 x105.Load.C.re x105.Load.C.im),.d (.int .i64 x105.qa6)]]) rfl (by simp) rfl (by trivial) ⟨rfl,trivial,rfl,trivial,rfl,trivial,rfl,trivial,rfl,trivial,rfl,trivial,rfl,trivial,rfl,trivial,trivial⟩) ?_
                  refine qcm 36 rfl (fun hb130=>?_) (fun hb130=>?_)
                  · have hb130:=qdd hb130
                    have h:=qch h hb130
                    refine qao rfl rfl ?_
                    refine qao rfl rfl ?_
                    refine qao rfl rfl ?_
                    refine qa0 hτ rfl rfl rfl ?_
                    refine qa0 hτ rfl rfl rfl ?_
                    refine qa0 hτ rfl rfl rfl ?_
                    refine qa4 ?_
                    refine qa9 (qa3 [0,1] (l:=[(1,.ptr 0 0),(3,.d (.int .i64 v73)),(4,.ptr 1 0),(6,.d (.sl false (f_.qac.map qah))),(7,.d (.int .i64 (f_.qac.length:Int))),(8,.d (.int .i64 v73)),(24,.d (.bool true))]) (objs:=[.box [.d (.cx .f32 f_.Source.A.re f_.Source.A.im),.d (.cx .f32 f_.Source.B.re f_.Source.B.im),.d (.cx .f32 f_.Source.C.re f_.Source.C.im),.d (.sl false (f_.qac.map qah))],.box [.d (.int .i64 x105.qag),.d (.cx .f32 x105.Own.re x105.Own.im),.d (.cx .f32 x105.Shared.re x105.Shared.im),.d (.int .i64 x105.Kind),.d (.cx .f32 x105.Load.A.re x105.Load.A.im),.d (.cx .f32 x105.Load.B.re x105.Load.B.im),.d (.cx .f32 x105.Load.C.re x105.Load.C.im),.d (.int .i64 x105.qa6)]]) rfl (by simp) rfl (by trivial) ⟨rfl,trivial,rfl,trivial,rfl,trivial,rfl,trivial,rfl,trivial,rfl,trivial,rfl,trivial,trivial⟩) ?_
                    exact hk127 true h
                  · have hb130:=qdc hb130
                    have h:=qci h hb130
                    refine qa0 hτ rfl rfl rfl ?_
                    refine qa0 hτ rfl rfl rfl ?_
                    refine qa0 hτ rfl rfl rfl ?_
                    refine qa0 hτ rfl rfl rfl ?_
                    refine qa0 hτ rfl rfl rfl ?_
                    refine qa0 hτ rfl rfl rfl ?_
                    refine qa4 ?_
                    refine qa9 (qa3 [0,1] (l:=[(1,.ptr 0 0),(3,.d (.int .i64 v73)),(4,.ptr 1 0),(6,.d (.sl false (f_.qac.map qah))),(7,.d (.int .i64 (f_.qac.length:Int))),(8,.d (.int .i64 v73)),(24,.d (.bool (!(fcmp .eql .f32 x105.Shared.re (0:Nat) && fcmp .eql .f32 x105.Shared.im (0:Nat)))))]) (objs:=[.box [.d (.cx .f32 f_.Source.A.re f_.Source.A.im),.d (.cx .f32 f_.Source.B.re f_.Source.B.im),.d (.cx .f32 f_.Source.C.re f_.Source.C.im),.d (.sl false (f_.qac.map qah))],.box [.d (.int .i64 x105.qag),.d (.cx .f32 x105.Own.re x105.Own.im),.d (.cx .f32 x105.Shared.re x105.Shared.im),.d (.int .i64 x105.Kind),.d (.cx .f32 x105.Load.A.re x105.Load.A.im),.d (.cx .f32 x105.Load.B.re x105.Load.B.im),.d (.cx .f32 x105.Load.C.re x105.Load.C.im),.d (.int .i64 x105.qa6)]]) rfl (by simp) rfl (by trivial) ⟨rfl,trivial,rfl,trivial,rfl,trivial,rfl,trivial,rfl,trivial,rfl,trivial,rfl,trivial,trivial⟩) ?_
                    exact hk127 (!(fcmp .eql .f32 x105.Shared.re (0:Nat) && fcmp .eql .f32 x105.Shared.im (0:Nat))) h
              · have h:=if_f h hb128
                refine qao rfl rfl ?_
                refine qao rfl rfl ?_
                refine qao rfl rfl ?_
                refine qao rfl rfl ?_
                refine qao rfl rfl ?_
                refine qao rfl rfl ?_
                refine qao rfl rfl ?_
                refine qao rfl rfl ?_
                refine qao rfl rfl ?_
                refine qbn (qa3 [0,1] (l:=[(1,.ptr 0 0),(3,.d (.int .i64 v73)),(4,.ptr 1 0),(6,.d (.sl false (f_.qac.map qah))),(7,.d (.int .i64 (f_.qac.length:Int))),(8,.d (.int .i64 v73)),(27,.d (.bool false)),(36,.und)]) (objs:=[.box [.d (.cx .f32 f_.Source.A.re f_.Source.A.im),.d (.cx .f32 f_.Source.B.re f_.Source.B.im),.d (.cx .f32 f_.Source.C.re f_.Source.C.im),.d (.sl false (f_.qac.map qah))],.box [.d (.int .i64 x105.qag),.d (.cx .f32 x105.Own.re x105.Own.im),.d (.cx .f32 x105.Shared.re x105.Shared.im),.d (.int .i64 x105.Kind),.d (.cx .f32 x105.Load.A.re x105.Load.A.im),.d (.cx .f32 x105.Load.B.re x105.Load.B.im),.d (.cx .f32 x105.Load.C.re x105.Load.C.im),.d (.int .i64 x105.qa6)]]) rfl (by simp) rfl (by trivial) ⟨rfl,trivial,rfl,trivial,rfl,trivial,rfl,trivial,rfl,trivial,rfl,trivial,rfl,trivial,rfl,trivial,trivial⟩) ?_
                refine qao rfl rfl ?_
                refine qao rfl rfl ?_
                refine qao rfl rfl ?_
                refine qao rfl rfl ?_
                refine qa0 hτ rfl rfl rfl ?_
                refine qa0 hτ rfl rfl rfl ?_
                refine qa4 ?_
                refine qa9 (qa3 [0,1] (l:=[(1,.ptr 0 0),(3,.d (.int .i64 v73)),(4,.ptr 1 0),(6,.d (.sl false (f_.qac.map qah))),(7,.d (.int .i64 (f_.qac.length:Int))),(8,.d (.int .i64 v73)),(24,.d (.bool false))]) (objs:=[.box [.d (.cx .f32 f_.Source.A.re f_.Source.A.im),.d (.cx .f32 f_.Source.B.re f_.Source.B.im),.d (.cx .f32 f_.Source.C.re f_.Source.C.im),.d (.sl false (f_.qac.map qah))],.box [.d (.int .i64 x105.qag),.d (.cx .f32 x105.Own.re x105.Own.im),.d (.cx .f32 x105.Shared.re x105.Shared.im),.d (.int .i64 x105.Kind),.d (.cx .f32 x105.Load.A.re x105.Load.A.im),.d (.cx .f32 x105.Load.B.re x105.Load.B.im),.d (.cx .f32 x105.Load.C.re x105.Load.C.im),.d (.int .i64 x105.qa6)]]) rfl (by simp) rfl (by trivial) ⟨rfl,trivial,rfl,trivial,rfl,trivial,rfl,trivial,rfl,trivial,rfl,trivial,rfl,trivial,trivial⟩) ?_
                exact hk127 false h
        · refine qa5 ?_
          refine qa9 (qa3 [0,1] (l:=[(1,.ptr 0 0),(3,.d (.int .i64 v73)),(4,.ptr 1 0),(6,.d (.sl false (f_.qac.map qah))),(7,.d (.int .i64 (f_.qac.length:Int))),(8,.d (.int .i64 v73))]) (objs:=[.box [.d (.cx .f32 f_.Source.A.re f_.Source.A.im),.d (.cx .f32 f_.Source.B.re f_.Source.B.im),.d (.cx .f32 f_.Source.C.re f_.Source.C.im),.d (.sl false (f_.qac.map qah))],.box [.d (.int .i64 x105.qag),.d (.cx .f32 x105.Own.re x105.Own.im),.d (.cx .f32 x105.Shared.re x105.Shared.im),.d (.int .i64 x105.Kind),.d (.cx .f32 x105.Load.A.re x105.Load.A.im),.d (.cx .f32 x105.Load.B.re x105.Load.B.im),.d (.cx .f32 x105.Load.C.re x105.Load.C.im),.d (.int .i64 x105.qa6)]]) rfl (by simp) rfl (by trivial) ⟨rfl,trivial,rfl,trivial,rfl,trivial,rfl,trivial,rfl,trivial,rfl,trivial,trivial⟩) ?_
          refine qa2 ?_
          refine qa0 hτ rfl rfl rfl ?_
          refine qa0 hτ rfl rfl rfl ?_
          refine qab h fun x132 hx132 h=>?_
          refine qam hτ false [] rfl rfl rfl (qap func106 rfl rfl) rfl rfl (by simp) ⟨trivial,trivial⟩ (by trivial) (impl_kindOk_ok n x105.Kind hx132) ?_
          rintro r0 o0 n0 ⟨rfl,rfl,rfl⟩ -
          refine qa0 hτ rfl rfl rfl ?_
          refine qa0 hτ rfl rfl rfl ?_
          refine qcm 18 rfl (fun hb133=>?_) (fun hb133=>?_)
          · have hb133:=qdd hb133
            have h:=qch h hb133
            refine qao rfl rfl ?_
            refine qao rfl rfl ?_
            refine qao rfl rfl ?_
            refine qao rfl rfl ?_
            refine qa0 hτ rfl rfl rfl ?_
            refine qa0 hτ rfl rfl rfl ?_
            refine qa4 ?_
            refine qa9 (qa3 [0,1] (l:=[(1,.ptr 0 0),(3,.d (.int .i64 v73)),(4,.ptr 1 0),(6,.d (.sl false (f_.qac.map qah))),(7,.d (.int .i64 (f_.qac.length:Int))),(8,.d (.int .i64 v73)),(13,.d (.bool true))]) (objs:=[.box [.d (.cx .f32 f_.Source.A.re f_.Source.A.im),.d (.cx .f32 f_.Source.B.re f_.Source.B.im),.d (.cx .f32 f_.Source.C.re f_.Source.C.im),.d (.sl false (f_.qac.map qah))],.box [.d (.int .i64 x105.qag),.d (.cx .f32 x105.Own.re x105.Own.im),.d (.cx .f32 x105.Shared.re x105.Shared.im),.d (.int .i64 x105.Kind),.d (.cx .f32 x105.Load.A.re x105.Load.A.im),.d (.cx .f32 x105.Load.B.re x105.Load.B.im),.d (.cx .f32 x105.Load.C.re x105.Load.C.im),.d (.int .i64 x105.qa6)]]) rfl (by simp) rfl (by trivial) ⟨rfl,trivial,rfl,trivial,rfl,trivial,rfl,trivial,rfl,trivial,rfl,trivial,rfl,trivial,trivial⟩) ?_
            exact hk131 true h
          · have hb133:=qdc hb133
            have h:=qci h hb133
            refine qa0 hτ rfl rfl rfl ?_
            refine qa0 hτ rfl rfl rfl ?_
            refine qab h fun x134 hx134 h=>?_
            refine qam hτ false [] rfl rfl rfl (qap func62 rfl rfl) rfl rfl (by simp) ⟨trivial,trivial,trivial,trivial⟩ (by trivial) (qgp n x105.qa6 (0:Int) (1000000:Int) hx134) ?_
            rintro r0 o0 n0 ⟨rfl,rfl,rfl⟩ -
            refine qa0 hτ rfl rfl rfl ?_
            refine qa0 hτ rfl rfl rfl ?_
            refine qa0 hτ rfl rfl rfl ?_
            refine qa4 ?_
            refine qa9 (qa3 [0,1] (l:=[(1,.ptr 0 0),(3,.d (.int .i64 v73)),(4,.ptr 1 0),(6,.d (.sl false (f_.qac.map qah))),(7,.d (.int .i64 (f_.qac.length:Int))),(8,.d (.int .i64 v73)),(13,.d (.bool (!x134)))]) (objs:=[.box [.d (.cx .f32 f_.Source.A.re f_.Source.A.im),.d (.cx .f32 f_.Source.B.re f_.Source.B.im),.d (.cx .f32 f_.Source.C.re f_.Source.C.im),.d (.sl false (f_.qac.map qah))],.box [.d (.int .i64 x105.qag),.d (.cx .f32 x105.Own.re x105.Own.im),.d (.cx .f32 x105.Shared.re x105.Shared.im),.d (.int .i64 x105.Kind),.d (.cx .f32 x105.Load.A.re x105.Load.A.im),.d (.cx .f32 x105.Load.B.re x105.Load.B.im),.d (.cx .f32 x105.Load.C.re x105.Load.C.im),.d (.int .i64 x105.qa6)]]) rfl (by simp) rfl (by trivial) ⟨rfl,trivial,rfl,trivial,rfl,trivial,rfl,trivial,rfl,trivial,rfl,trivial,rfl,trivial,trivial⟩) ?_
            exact hk131 (!x134) h
    · have h:=if_f h hc90
      refine qdv ?_
      refine qa9 (qa3 [0] (l:=[(1,.ptr 0 0)]) (objs:=[.box [.d (.cx .f32 f_.Source.A.re f_.Source.A.im),.d (.cx .f32 f_.Source.B.re f_.Source.B.im),.d (.cx .f32 f_.Source.C.re f_.Source.C.im),.d (.sl false (f_.qac.map qah))]]) rfl (by simp) rfl (by trivial) ⟨rfl,trivial,trivial⟩) ?_
      exact hk59 () h
theorem impl_ValidFeeder_ok (n:Nat) (f_:qck) {r:Bool} (h:qgd n f_ = some r):qb5 prog false 63 [.agg [.d (.cx .f32 f_.Source.A.re f_.Source.A.im),.d (.cx .f32 f_.Source.B.re f_.Source.B.im),.d (.cx .f32 f_.Source.C.re f_.Source.C.im),.d (.sl false (f_.qac.map qah))]] [] (fun v o new=>v = .d (.bool r)∧o = []∧new = []):=impl_ValidFeeder_ok_fr0 false n f_ h
def qhl (n:Nat) (t_:STie) (buses_:Int):Option Bool :=
  if t_.A = t_.B then
    some false
  else
    (qdb n t_.A (0:Int) (w64 (buses_ - (1:Int)))).bind fun x11 =>
    if x11 = true then
      (qdb n t_.B (0:Int) (w64 (buses_ - (1:Int)))).bind fun x13 =>
      if x13 = true then
        (qdb n t_.Most (0:Int) (16000000:Int)).bind fun x15 =>
        some x15
      else
        some false
    else
      some false
theorem impl_Tie_ok_ok_fr0 (fr:Bool) (n:Nat) (t_:STie) (buses_:Int) {r:Bool} (h:qhl n t_ buses_ = some r):qb5 prog fr 125 [.ptr 0 0,.d (.int .i64 buses_)] [.box [.d (.int .i64 t_.A),.d (.int .i64 t_.B),.d (.cx .f32 t_.Own.re t_.Own.im),.d (.cx .f32 t_.Shared.re t_.Shared.im),.d (.int .i64 t_.Most)]] (fun v o new=>v = .d (.bool r)∧o = [.box [.d (.int .i64 t_.A),.d (.int .i64 t_.B),.d (.cx .f32 t_.Own.re t_.Own.im),.d (.cx .f32 t_.Shared.re t_.Shared.im),.d (.int .i64 t_.Most)]]∧new = []):=by
  refine qar hτ func125 rfl (by simp) (by simp) ?_
  unfold qhl at h
  refine qa5 ?_
  refine qa2 ?_
  refine qa0 hτ rfl rfl rfl ?_
  refine qa4 ?_
  refine qa5 ?_
  refine qc9 ?_
  refine qa7 hτ [] 0 rfl rfl rfl rfl rfl ?_
  refine qa7 hτ [] 1 rfl rfl rfl rfl rfl ?_
  refine qa7 hτ [0] 2 rfl rfl rfl rfl rfl ?_
  refine qa7 hτ [0] 3 rfl rfl rfl rfl rfl ?_
  refine qa7 hτ [] 4 rfl rfl rfl rfl rfl ?_
  refine qa7 hτ [] 5 rfl rfl rfl rfl rfl ?_
  refine qa7 hτ [0] 6 rfl rfl rfl rfl rfl ?_
  refine qa7 hτ [0] 7 rfl rfl rfl rfl rfl ?_
  refine qa7 hτ (v:=.d (.bool (!(decide (t_.A = t_.B))))) [] 8 rfl rfl rfl rfl (qhx _ _) ?_
  refine qa7 hτ [] 9 rfl rfl rfl rfl rfl ?_
  refine qga 14 rfl (fun hb10=>?_) (fun hb10=>?_)
  · have hb10:=qdd hb10
    have h:=if_f h hb10
    refine qa7 hτ [] 10 rfl rfl rfl rfl rfl ?_
    refine qa7 hτ [] 11 rfl rfl rfl rfl rfl ?_
    refine qa7 hτ [0] 12 rfl rfl rfl rfl rfl ?_
    refine qa7 hτ [0] 13 rfl rfl rfl rfl rfl ?_
    refine qa7 hτ [] 14 rfl rfl rfl rfl rfl ?_
    refine qa7 hτ [] 15 rfl rfl rfl rfl rfl ?_
    refine qab h fun x11 hx11 h=>?_
    refine qbf hτ false [] [0] 16 rfl rfl rfl rfl (qap func62 rfl rfl) rfl rfl (by simp) ⟨trivial,trivial,trivial,trivial⟩ (by trivial) (qgp n t_.A (0:Int) (w64 (buses_ - (1:Int))) hx11) ⟨rfl,trivial⟩ ?_
    refine qa7 hτ [] 17 rfl rfl rfl rfl rfl ?_
    refine qa7 hτ [] 18 rfl rfl rfl rfl rfl ?_
    refine qga 23 rfl (fun hb12=>?_) (fun hb12=>?_)
    · have h:=qci h hb12
      refine qa7 hτ [] 19 rfl rfl rfl rfl rfl ?_
      refine qa7 hτ [] 20 rfl rfl rfl rfl rfl ?_
      refine qa7 hτ [0] 21 rfl rfl rfl rfl rfl ?_
      refine qa7 hτ [0] 22 rfl rfl rfl rfl rfl ?_
      refine qa7 hτ [] 23 rfl rfl rfl rfl rfl ?_
      refine qa7 hτ [] 24 rfl rfl rfl rfl rfl ?_
      refine qab h fun x13 hx13 h=>?_
      refine qbf hτ false [] [0] 25 rfl rfl rfl rfl (qap func62 rfl rfl) rfl rfl (by simp) ⟨trivial,trivial,trivial,trivial⟩ (by trivial) (qgp n t_.B (0:Int) (w64 (buses_ - (1:Int))) hx13) ⟨rfl,trivial⟩ ?_
      refine qa7 hτ [] 26 rfl rfl rfl rfl rfl ?_
      refine qa7 hτ [] 27 rfl rfl rfl rfl rfl ?_
      refine qga 32 rfl (fun hb14=>?_) (fun hb14=>?_)
      · have h:=qci h hb14
        refine qa7 hτ [] 28 rfl rfl rfl rfl rfl ?_
        refine qa7 hτ [] 29 rfl rfl rfl rfl rfl ?_
        refine qa7 hτ [0] 30 rfl rfl rfl rfl rfl ?_
        refine qa7 hτ [0] 31 rfl rfl rfl rfl rfl ?_
        refine qab h fun x15 hx15 h=>?_
        refine qbf hτ false [] [0] 32 rfl rfl rfl rfl (qap func62 rfl rfl) rfl rfl (by simp) ⟨trivial,trivial,trivial,trivial⟩ (by trivial) (qgp n t_.Most (0:Int) (16000000:Int) hx15) ⟨rfl,trivial⟩ ?_
        refine qa7 hτ [] 33 rfl rfl rfl rfl rfl ?_
        refine qa7 hτ [] 34 rfl rfl rfl rfl rfl ?_
        refine qbp mixed (by kernel_rfl) ?_
        refine qa9 (qa3 [0] (l:=[(4,.d (.bool x15))]) (objs:=[.box [.d (.int .i64 t_.A),.d (.int .i64 t_.B),.d (.cx .f32 t_.Own.re t_.Own.im),.d (.cx .f32 t_.Shared.re t_.Shared.im),.d (.int .i64 t_.Most)]]) rfl (by simp) rfl (by trivial) ⟨rfl,trivial,trivial⟩) ?_
        refine qas ?_
        have hr:=Option.some.inj h
        subst hr
        exact qaf (.inr rfl) [] (objs':=[.box [.d (.int .i64 t_.A),.d (.int .i64 t_.B),.d (.cx .f32 t_.Own.re t_.Own.im),.d (.cx .f32 t_.Shared.re t_.Shared.im),.d (.int .i64 t_.Most)]]) (new:=[]) rfl (by simp) (by simp) rfl (by trivial) rfl rfl (by trivial) (fun _=>⟨by simp [V.flat,V.qb2,V.qay,D.flat],(qb8 (by simp [AObj.flat,V.qay,D.flat]) qai)⟩) ⟨rfl,rfl,rfl⟩
      · have h:=qch h hb14
        refine qak 28 rfl rfl rfl ?_
        refine qak 29 rfl rfl rfl ?_
        refine qak 30 rfl rfl rfl ?_
        refine qak 31 rfl rfl rfl ?_
        refine qak 32 rfl rfl rfl ?_
        refine qa7 hτ [] 33 rfl rfl rfl rfl rfl ?_
        refine qa7 hτ [] 34 rfl rfl rfl rfl rfl ?_
        refine qbp mixed (by kernel_rfl) ?_
        refine qa9 (qa3 [0] (l:=[(4,.d (.bool false))]) (objs:=[.box [.d (.int .i64 t_.A),.d (.int .i64 t_.B),.d (.cx .f32 t_.Own.re t_.Own.im),.d (.cx .f32 t_.Shared.re t_.Shared.im),.d (.int .i64 t_.Most)]]) rfl (by simp) rfl (by trivial) ⟨rfl,trivial,trivial⟩) ?_
        refine qas ?_
        have hr:=Option.some.inj h
        subst hr
        exact qaf (.inr rfl) [] (objs':=[.box [.d (.int .i64 t_.A),.d (.int .i64 t_.B),.d (.cx .f32 t_.Own.re t_.Own.im),.d (.cx .f32 t_.Shared.re t_.Shared.im),.d (.int .i64 t_.Most)]]) (new:=[]) rfl (by simp) (by simp) rfl (by trivial) rfl rfl (by trivial) (fun _=>⟨by simp [V.flat,V.qb2,V.qay,D.flat],(qb8 (by simp [AObj.flat,V.qay,D.flat]) qai)⟩) ⟨rfl,rfl,rfl⟩
    · have h:=qch h hb12
      refine qak 19 rfl rfl rfl ?_
      refine qak 20 rfl rfl rfl ?_
      refine qak 21 rfl rfl rfl ?_
      refine qak 22 rfl rfl rfl ?_
      refine qak 23 rfl rfl rfl ?_
      refine qak 24 rfl rfl rfl ?_
      refine qak 25 rfl rfl rfl ?_
      refine qa7 hτ [] 26 rfl rfl rfl rfl rfl ?_
      refine qa7 hτ [] 27 rfl rfl rfl rfl rfl ?_
      refine qak 28 rfl rfl rfl ?_
      refine qak 29 rfl rfl rfl ?_
      refine qak 30 rfl rfl rfl ?_
      refine qak 31 rfl rfl rfl ?_
      refine qak 32 rfl rfl rfl ?_
      refine qa7 hτ [] 33 rfl rfl rfl rfl rfl ?_
      refine qa7 hτ [] 34 rfl rfl rfl rfl rfl ?_
      refine qbp mixed (by kernel_rfl) ?_
      refine qa9 (qa3 [0] (l:=[(4,.d (.bool false))]) (objs:=[.box [.d (.int .i64 t_.A),.d (.int .i64 t_.B),.d (.cx .f32 t_.Own.re t_.Own.im),.d (.cx .f32 t_.Shared.re t_.Shared.im),.d (.int .i64 t_.Most)]]) rfl (by simp) rfl (by trivial) ⟨rfl,trivial,trivial⟩) ?_
      refine qas ?_
      have hr:=Option.some.inj h
      subst hr
      exact qaf (.inr rfl) [] (objs':=[.box [.d (.int .i64 t_.A),.d (.int .i64 t_.B),.d (.cx .f32 t_.Own.re t_.Own.im),.d (.cx .f32 t_.Shared.re t_.Shared.im),.d (.int .i64 t_.Most)]]) (new:=[]) rfl (by simp) (by simp) rfl (by trivial) rfl rfl (by trivial) (fun _=>⟨by simp [V.flat,V.qb2,V.qay,D.flat],(qb8 (by simp [AObj.flat,V.qay,D.flat]) qai)⟩) ⟨rfl,rfl,rfl⟩
  · have hb10:=qdc hb10
    have h:=if_t h hb10
    refine qak 10 rfl rfl rfl ?_
    refine qak 11 rfl rfl rfl ?_
    refine qak 12 rfl rfl rfl ?_
    refine qak 13 rfl rfl rfl ?_
    refine qak 14 rfl rfl rfl ?_
    refine qak 15 rfl rfl rfl ?_
    refine qak 16 rfl rfl rfl ?_
    refine qa7 hτ [] 17 rfl rfl rfl rfl rfl ?_
    refine qa7 hτ [] 18 rfl rfl rfl rfl rfl ?_
    refine qak 19 rfl rfl rfl ?_
    refine qak 20 rfl rfl rfl ?_
    refine qak 21 rfl rfl rfl ?_
    refine qak 22 rfl rfl rfl ?_
    refine qak 23 rfl rfl rfl ?_
    refine qak 24 rfl rfl rfl ?_
    refine qak 25 rfl rfl rfl ?_
    refine qa7 hτ [] 26 rfl rfl rfl rfl rfl ?_
    refine qa7 hτ [] 27 rfl rfl rfl rfl rfl ?_
    refine qak 28 rfl rfl rfl ?_
    refine qak 29 rfl rfl rfl ?_
    refine qak 30 rfl rfl rfl ?_
    refine qak 31 rfl rfl rfl ?_
    refine qak 32 rfl rfl rfl ?_
    refine qa7 hτ [] 33 rfl rfl rfl rfl rfl ?_
    refine qa7 hτ [] 34 rfl rfl rfl rfl rfl ?_
    refine qbp mixed (by kernel_rfl) ?_
    refine qa9 (qa3 [0] (l:=[(4,.d (.bool false))]) (objs:=[.box [.d (.int .i64 t_.A),.d (.int .i64 t_.B),.d (.cx .f32 t_.Own.re t_.Own.im),.d (.cx .f32 t_.Shared.re t_.Shared.im),.d (.int .i64 t_.Most)]]) rfl (by simp) rfl (by trivial) ⟨rfl,trivial,trivial⟩) ?_
    refine qas ?_
    have hr:=Option.some.inj h
    subst hr
    exact qaf (.inr rfl) [] (objs':=[.box [.d (.int .i64 t_.A),.d (.int .i64 t_.B),.d (.cx .f32 t_.Own.re t_.Own.im),.d (.cx .f32 t_.Shared.re t_.Shared.im),.d (.int .i64 t_.Most)]]) (new:=[]) rfl (by simp) (by simp) rfl (by trivial) rfl rfl (by trivial) (fun _=>⟨by simp [V.flat,V.qb2,V.qay,D.flat],(qb8 (by simp [AObj.flat,V.qay,D.flat]) qai)⟩) ⟨rfl,rfl,rfl⟩
theorem impl_Tie_ok_ok (n:Nat) (t_:STie) (buses_:Int) {r:Bool} (h:qhl n t_ buses_ = some r):qb5 prog false 125 [.ptr 0 0,.d (.int .i64 buses_)] [.box [.d (.int .i64 t_.A),.d (.int .i64 t_.B),.d (.cx .f32 t_.Own.re t_.Own.im),.d (.cx .f32 t_.Shared.re t_.Shared.im),.d (.int .i64 t_.Most)]] (fun v o new=>v = .d (.bool r)∧o = [.box [.d (.int .i64 t_.A),.d (.int .i64 t_.B),.d (.cx .f32 t_.Own.re t_.Own.im),.d (.cx .f32 t_.Shared.re t_.Shared.im),.d (.int .i64 t_.Most)]]∧new = []):=impl_Tie_ok_ok_fr0 false n t_ buses_ h
def qge (n:Nat) (t_:STie) (a1_:Int):Option Bool :=
  (qhl n t_ a1_).bind fun x2 =>
  some (!x2)
theorem impl_ValidGrid_1_ok_fr0 (fr:Bool) (n:Nat) (t_:STie) (a1_:Int) {r:Bool} (h:qge n t_ a1_ = some r):qb5 prog fr 124 [.agg [.d (.int .i64 t_.A),.d (.int .i64 t_.B),.d (.cx .f32 t_.Own.re t_.Own.im),.d (.cx .f32 t_.Shared.re t_.Shared.im),.d (.int .i64 t_.Most)],.ptr 0 0] [.box [.d (.int .i64 a1_)]] (fun v o new=>v = .d (.bool r)∧o = [.box [.d (.int .i64 a1_)]]∧new = []):=by
  refine qar hτ func124 rfl (by simp) (by simp) ?_
  unfold qge at h
  refine qa5 ?_
  refine qa2 ?_
  refine qaq hτ rfl rfl rfl ?_
  refine qa0 hτ rfl rfl rfl ?_
  refine qa4 ?_
  refine qa5 ?_
  refine qa2 ?_
  refine qa0 hτ rfl rfl rfl ?_
  refine qab h fun x2 hx2 h=>?_
  refine qam hτ false [1] rfl rfl rfl (qap func125 rfl rfl) rfl rfl (by simp) ⟨trivial,trivial,trivial⟩ (by trivial) (impl_Tie_ok_ok n t_ a1_ hx2) ?_
  rintro r0 o0 n0 ⟨rfl,rfl,rfl⟩ -
  refine qa0 hτ rfl rfl rfl ?_
  refine qa0 hτ rfl rfl rfl ?_
  refine qa4 ?_
  refine qa9 (qa3 [0] (l:=[(3,.d (.bool (!x2)))]) (objs:=[.box [.d (.int .i64 a1_)]]) rfl (by simp) rfl (by trivial) ⟨rfl,trivial,trivial⟩) ?_
  refine qas ?_
  have hr:=Option.some.inj h
  subst hr
  exact qaf (.inr rfl) [] (objs':=[.box [.d (.int .i64 a1_)]]) (new:=[]) rfl (by simp) (by simp) rfl (by trivial) rfl rfl (by trivial) (fun _=>⟨by simp [V.flat,V.qb2,V.qay,D.flat],(qb8 (by simp [AObj.flat,V.qay,D.flat]) qai)⟩) ⟨rfl,rfl,rfl⟩
theorem impl_ValidGrid_1_ok (n:Nat) (t_:STie) (a1_:Int) {r:Bool} (h:qge n t_ a1_ = some r):qb5 prog false 124 [.agg [.d (.int .i64 t_.A),.d (.int .i64 t_.B),.d (.cx .f32 t_.Own.re t_.Own.im),.d (.cx .f32 t_.Shared.re t_.Shared.im),.d (.int .i64 t_.Most)],.ptr 0 0] [.box [.d (.int .i64 a1_)]] (fun v o new=>v = .d (.bool r)∧o = [.box [.d (.int .i64 a1_)]]∧new = []):=impl_ValidGrid_1_ok_fr0 false n t_ a1_ h
def qcs (n:Nat) (s_:List STie) (c_:Int):Nat→Int→Option Int
  | 0,_=>none
  | m13 + 1,v9 =>
    if v9 < (s_.length:Int) then
      (getI s_ v9).bind fun x18 =>
      (qge n x18 c_).bind fun x19 =>
      if x19 = true then
        some v9
      else
        (qcs n s_ c_ m13) (w64 (v9 + (1:Int)))
    else
      some (-1:Int)
def qgf (n:Nat) (s_:List STie) (c_:Int):Option Int :=
  qcs n s_ c_ n (0:Int)
theorem slices_IndexFunc_ok_fr0 (fr:Bool) (n:Nat) (s_:List STie) (c_:Int) {r:Int} (h:qgf n s_ c_ = some r):qb5 prog fr 156 [.d (.sl false (s_.map qan)),.func 124 [] [.ptr 0 0]] [.box [.d (.int .i64 c_)]] (fun v o new=>v = .d (.int .i64 r)∧o = [.box [.d (.int .i64 c_)]]∧new = []):=by
  refine qar hτ func156 rfl (by simp) (by simp) ?_
  unfold qgf at h
  refine qa5 ?_
  refine qa2 ?_
  refine qa0 hτ rfl rfl rfl ?_
  refine qa4 ?_
  refine qa5 ?_
  refine qa5 ?_
  refine qa2 ?_
  refine qa0 hτ rfl rfl rfl ?_
  refine qa0 hτ (v:=.d (.int .i64 (s_.length:Int))) rfl rfl (Eq.trans rfl (qfo (f:=qan) s_)) ?_
  refine qa0 hτ rfl rfl rfl ?_
  refine qa4 ?_
  refine qb6 ?_
  refine qe1 (ι:=Nat × Int) (fun (m13,v9)=>St.of [(0,.d (.sl false (s_.map qan))),(1,.func 124 [] [.ptr 0 0]),(7,.d (.int .i64 (s_.length:Int))),(8,.d (.int .i64 v9))] [.box [.d (.int .i64 c_)]] f156.ntmps 1) (fun (m13,v9)=>qcs n s_ c_ m13 v9 = some r) (fun x=>x.1) (n,(0:Int)) h (qa3 [0] (l:=[(0,.d (.sl false (s_.map qan))),(1,.func 124 [] [.ptr 0 0]),(7,.d (.int .i64 (s_.length:Int))),(8,.d (.int .i64 (0:Int)))]) (objs:=[.box [.d (.int .i64 c_)]]) rfl (by simp) rfl (by trivial) ⟨rfl,trivial,rfl,(by trivial),rfl,trivial,rfl,trivial,trivial⟩) ?_
  rintro ⟨m13,v9⟩ h
  replace h:qcs n s_ c_ m13 v9 = some r:=h
  rcases m13 with _ | m13
  · rw [qcs] at h;cases h
  rw [qcs] at h
  refine qa5 ?_
  refine qa2 ?_
  refine qa0 hτ rfl rfl rfl ?_
  refine qa4 ?_
  refine qa5 ?_
  refine qau rfl (fun hc15=>?_) (fun hc15=>?_)
  · have h:=if_t h hc15
    refine qav ?_
    refine qa5 ?_
    refine qb6 ?_
    refine qa5 ?_
    refine qa2 ?_
    refine qa0 hτ rfl rfl rfl ?_
    refine qa0 hτ rfl rfl rfl ?_
    refine qa4 ?_
    refine qa5 ?_
    refine qa2 ?_
    refine qa0 hτ rfl rfl rfl ?_
    refine qa0 hτ rfl rfl rfl ?_
    refine qa0 hτ rfl rfl rfl ?_
    refine qab h fun x18 hx18 h=>?_
    refine qdw hτ rfl rfl rfl (qbo hx18).1 (qcd hx18) rfl ?_
    refine qa0 hτ rfl rfl rfl ?_
    refine qab h fun x19 hx19 h=>?_
    refine qam hτ false [0] rfl rfl rfl (qap func124 rfl rfl) rfl rfl (by simp) ⟨(by trivial),trivial,trivial⟩ (by trivial) (impl_ValidGrid_1_ok n x18 c_ hx19) ?_
    rintro r0 o0 n0 ⟨rfl,rfl,rfl⟩ -
    refine qa4 ?_
    refine qa9 (qa3 [0] (l:=[(0,.d (.sl false (s_.map qan))),(1,.func 124 [] [.ptr 0 0]),(5,.d (.int .i64 v9)),(7,.d (.int .i64 (s_.length:Int))),(8,.d (.int .i64 v9)),(16,.d (.bool x19))]) (objs:=[.box [.d (.int .i64 c_)]]) rfl (by simp) rfl (by trivial) ⟨rfl,trivial,rfl,(by trivial),rfl,trivial,rfl,trivial,rfl,trivial,rfl,trivial,trivial⟩) ?_
    refine qau rfl (fun hc20=>?_) (fun hc20=>?_)
    · have h:=qci h hc20
      refine qa5 ?_
      refine qa2 ?_
      refine qa0 hτ rfl rfl rfl ?_
      refine qa0 hτ rfl rfl rfl ?_
      refine qa4 ?_
      refine qa9 (qa3 [0] (l:=[(4,.d (.int .i64 v9))]) (objs:=[.box [.d (.int .i64 c_)]]) rfl (by simp) rfl (by trivial) ⟨rfl,trivial,trivial⟩) ?_
      refine qas ?_
      have hr:=Option.some.inj h
      subst hr
      exact qaf (.inr rfl) [] (objs':=[.box [.d (.int .i64 c_)]]) (new:=[]) rfl (by simp) (by simp) rfl (by trivial) rfl rfl (by trivial) (fun _=>⟨by simp [V.flat,V.qb2,V.qay,D.flat],(qb8 (by simp [AObj.flat,V.qay,D.flat]) qai)⟩) ⟨rfl,rfl,rfl⟩
    · have h:=qch h hc20
      refine qav ?_
      refine qa2 ?_
      refine qa0 hτ rfl rfl rfl ?_
      refine qa0 hτ rfl rfl rfl ?_
      refine qa4 ?_
      exact ⟨(m13,(w64 (v9 + (1:Int)))),h,Nat.lt_succ_self m13,(qa3 [0] (l:=[(0,.d (.sl false (s_.map qan))),(1,.func 124 [] [.ptr 0 0]),(7,.d (.int .i64 (s_.length:Int))),(8,.d (.int .i64 (w64 (v9 + (1:Int)))))]) (objs:=[.box [.d (.int .i64 c_)]]) rfl (by simp) rfl (by trivial) ⟨rfl,trivial,rfl,(by trivial),rfl,trivial,rfl,trivial,trivial⟩)⟩
  · have h:=if_f h hc15
    refine qdv ?_
    refine qa5 ?_
    refine qa2 ?_
    refine qa0 hτ rfl rfl rfl ?_
    refine qa4 ?_
    refine qa9 (qa3 [0] (l:=[(4,.d (.int .i64 (-1:Int)))]) (objs:=[.box [.d (.int .i64 c_)]]) rfl (by simp) rfl (by trivial) ⟨rfl,trivial,trivial⟩) ?_
    refine qas ?_
    have hr:=Option.some.inj h
    subst hr
    exact qaf (.inr rfl) [] (objs':=[.box [.d (.int .i64 c_)]]) (new:=[]) rfl (by simp) (by simp) rfl (by trivial) rfl rfl (by trivial) (fun _=>⟨by simp [V.flat,V.qb2,V.qay,D.flat],(qb8 (by simp [AObj.flat,V.qay,D.flat]) qai)⟩) ⟨rfl,rfl,rfl⟩
theorem slices_IndexFunc_ok (n:Nat) (s_:List STie) (c_:Int) {r:Int} (h:qgf n s_ c_ = some r):qb5 prog false 156 [.d (.sl false (s_.map qan)),.func 124 [] [.ptr 0 0]] [.box [.d (.int .i64 c_)]] (fun v o new=>v = .d (.int .i64 r)∧o = [.box [.d (.int .i64 c_)]]∧new = []):=slices_IndexFunc_ok_fr0 false n s_ c_ h
def qf7 (n:Nat) (s_:List STie) (c_:Int):Option Bool :=
  (qgf n s_ c_).bind fun x2 =>
  some (decide (x2 ≥ (0:Int)))
theorem slices_ContainsFunc_ok_fr0 (fr:Bool) (n:Nat) (s_:List STie) (c_:Int) {r:Bool} (h:qf7 n s_ c_ = some r):qb5 prog fr 123 [.d (.sl false (s_.map qan)),.func 124 [] [.ptr 0 0]] [.box [.d (.int .i64 c_)]] (fun v o new=>v = .d (.bool r)∧o = [.box [.d (.int .i64 c_)]]∧new = []):=by
  refine qar hτ func123 rfl (by simp) (by simp) ?_
  unfold qf7 at h
  refine qa5 ?_
  refine qa2 ?_
  refine qa0 hτ rfl rfl rfl ?_
  refine qa4 ?_
  refine qa5 ?_
  refine qa2 ?_
  refine qa0 hτ rfl rfl rfl ?_
  refine qa0 hτ rfl rfl rfl ?_
  refine qab h fun x2 hx2 h=>?_
  refine qam hτ false [0] rfl rfl rfl (qap func156 rfl rfl) rfl rfl (by simp) ⟨trivial,(by trivial),trivial⟩ (by trivial) (slices_IndexFunc_ok n s_ c_ hx2) ?_
  rintro r0 o0 n0 ⟨rfl,rfl,rfl⟩ -
  refine qa0 hτ rfl rfl rfl ?_
  refine qa0 hτ rfl rfl rfl ?_
  refine qa4 ?_
  refine qa9 (qa3 [0] (l:=[(4,.d (.bool (decide (x2 ≥ (0:Int)))))]) (objs:=[.box [.d (.int .i64 c_)]]) rfl (by simp) rfl (by trivial) ⟨rfl,trivial,trivial⟩) ?_
  refine qas ?_
  have hr:=Option.some.inj h
  subst hr
  exact qaf (.inr rfl) [] (objs':=[.box [.d (.int .i64 c_)]]) (new:=[]) rfl (by simp) (by simp) rfl (by trivial) rfl rfl (by trivial) (fun _=>⟨by simp [V.flat,V.qb2,V.qay,D.flat],(qb8 (by simp [AObj.flat,V.qay,D.flat]) qai)⟩) ⟨rfl,rfl,rfl⟩
theorem slices_ContainsFunc_ok (n:Nat) (s_:List STie) (c_:Int) {r:Bool} (h:qf7 n s_ c_ = some r):qb5 prog false 123 [.d (.sl false (s_.map qan)),.func 124 [] [.ptr 0 0]] [.box [.d (.int .i64 c_)]] (fun v o new=>v = .d (.bool r)∧o = [.box [.d (.int .i64 c_)]]∧new = []):=slices_ContainsFunc_ok_fr0 false n s_ c_ h
def qg8 (n:Nat) (g_:qbi):Option Bool :=
  (qgd n g_.qa1).bind fun x7 =>
  if x7 = true then
    if (g_.Ties.length:Int) ≤ (6:Int) then
      (qf7 n g_.Ties (g_.qa1.qac.length:Int)).bind fun x10 =>
      some (!x10)
    else
      some false
  else
    some false
theorem impl_ValidGrid_ok_fr0 (fr:Bool) (n:Nat) (g_:qbi) {r:Bool} (h:qg8 n g_ = some r):qb5 prog fr 83 [.agg [.d (.cx .f32 g_.qa1.Source.A.re g_.qa1.Source.A.im),.d (.cx .f32 g_.qa1.Source.B.re g_.qa1.Source.B.im),.d (.cx .f32 g_.qa1.Source.C.re g_.qa1.Source.C.im),.d (.sl false (g_.qa1.qac.map qah)),.d (.sl false (g_.Ties.map qan))]] [] (fun v o new=>v = .d (.bool r)∧o = []∧new = []):=by
  refine qar hτ func83 rfl (by simp) (by simp) ?_
  unfold qg8 at h
  refine qa5 ?_
  refine qa2 ?_
  refine qaq hτ rfl rfl rfl ?_
  refine qa0 hτ rfl rfl rfl ?_
  refine qa4 ?_
  refine qa5 ?_
  refine qa2 ?_
  refine qa0 hτ rfl rfl rfl ?_
  refine qa0 hτ rfl rfl rfl ?_
  refine qa0 hτ rfl rfl rfl ?_
  refine qa0 hτ (v:=.d (.int .i64 (g_.qa1.qac.length:Int))) rfl rfl (Eq.trans rfl (qfo (f:=qah) g_.qa1.qac)) ?_
  refine qaq hτ rfl rfl rfl ?_
  refine qaq hτ rfl rfl rfl ?_
  refine qa4 ?_
  refine qa5 ?_
  refine qa9 (qa3 [0,1] (l:=[(1,.ptr 0 0),(3,.ptr 1 0)]) (objs:=[.box [.d (.cx .f32 g_.qa1.Source.A.re g_.qa1.Source.A.im),.d (.cx .f32 g_.qa1.Source.B.re g_.qa1.Source.B.im),.d (.cx .f32 g_.qa1.Source.C.re g_.qa1.Source.C.im),.d (.sl false (g_.qa1.qac.map qah)),.d (.sl false (g_.Ties.map qan))],.box [.d (.int .i64 (g_.qa1.qac.length:Int))]]) rfl (by simp) rfl (by trivial) ⟨rfl,trivial,rfl,trivial,trivial⟩) ?_
  refine qa2 ?_
  refine qa0 hτ rfl rfl rfl ?_
  refine qa0 hτ rfl rfl rfl ?_
  refine qab h fun x7 hx7 h=>?_
  refine qam hτ false [] rfl rfl rfl (qap func63 rfl rfl) rfl rfl (by simp) ⟨(by trivial),trivial⟩ (by trivial) (impl_ValidFeeder_ok n g_.qa1 hx7) ?_
  rintro r0 o0 n0 ⟨rfl,rfl,rfl⟩ -
  refine qa0 hτ rfl rfl rfl ?_
  refine qcm 11 rfl (fun hb8=>?_) (fun hb8=>?_)
  · have h:=qci h hb8
    refine qa0 hτ rfl rfl rfl ?_
    refine qa0 hτ rfl rfl rfl ?_
    refine qa0 hτ (v:=.d (.int .i64 (g_.Ties.length:Int))) rfl rfl (Eq.trans rfl (qfo (f:=qan) g_.Ties)) ?_
    refine qa0 hτ rfl rfl rfl ?_
    refine qa0 hτ rfl rfl rfl ?_
    refine qa0 hτ rfl rfl rfl ?_
    refine qcm 17 rfl (fun hb9=>?_) (fun hb9=>?_)
    · have h:=if_t h hb9
      refine qa0 hτ rfl rfl rfl ?_
      refine qa0 hτ rfl rfl rfl ?_
      refine qbn (qa3 [1] (l:=[(3,.ptr 0 0),(17,.d (.bool true)),(19,.d (.sl false (g_.Ties.map qan)))]) (objs:=[.box [.d (.int .i64 (g_.qa1.qac.length:Int))]]) rfl (by simp) rfl (by trivial) ⟨rfl,trivial,rfl,trivial,rfl,trivial,trivial⟩) ?_
      refine qa0 hτ rfl rfl rfl ?_
      refine qab h fun x10 hx10 h=>?_
      refine qam hτ false [0] rfl rfl rfl (qap func123 rfl rfl) rfl rfl (by simp) ⟨trivial,(by trivial),trivial⟩ (by trivial) (slices_ContainsFunc_ok n g_.Ties (g_.qa1.qac.length:Int) hx10) ?_
      rintro r0 o0 n0 ⟨rfl,rfl,rfl⟩ -
      refine qa0 hτ rfl rfl rfl ?_
      refine qa0 hτ rfl rfl rfl ?_
      refine qa0 hτ rfl rfl rfl ?_
      refine qa4 ?_
      refine qa9 (qa3 [] (l:=[(2,.d (.bool (!x10)))]) (objs:=[]) rfl (by simp) rfl (by trivial) ⟨rfl,trivial,trivial⟩) ?_
      refine qas ?_
      have hr:=Option.some.inj h
      subst hr
      exact qaf (.inr rfl) [] (objs':=[]) (new:=[]) rfl (by simp) (by simp) rfl (by trivial) rfl rfl (by trivial) (fun _=>⟨by simp [V.flat,V.qb2,V.qay,D.flat],qai⟩) ⟨rfl,rfl,rfl⟩
    · have h:=if_f h hb9
      refine qao rfl rfl ?_
      refine qao rfl rfl ?_
      refine qbn (qa3 [1] (l:=[(3,.ptr 0 0),(17,.d (.bool false)),(19,.und)]) (objs:=[.box [.d (.int .i64 (g_.qa1.qac.length:Int))]]) rfl (by simp) rfl (by trivial) ⟨rfl,trivial,rfl,trivial,rfl,trivial,trivial⟩) ?_
      refine qao rfl rfl ?_
      refine qao rfl rfl ?_
      refine qao rfl rfl ?_
      refine qa0 hτ rfl rfl rfl ?_
      refine qa0 hτ rfl rfl rfl ?_
      refine qa4 ?_
      refine qa9 (qa3 [] (l:=[(2,.d (.bool false))]) (objs:=[]) rfl (by simp) rfl (by trivial) ⟨rfl,trivial,trivial⟩) ?_
      refine qas ?_
      have hr:=Option.some.inj h
      subst hr
      exact qaf (.inr rfl) [] (objs':=[]) (new:=[]) rfl (by simp) (by simp) rfl (by trivial) rfl rfl (by trivial) (fun _=>⟨by simp [V.flat,V.qb2,V.qay,D.flat],qai⟩) ⟨rfl,rfl,rfl⟩
  · have h:=qch h hb8
    refine qao rfl rfl ?_
    refine qao rfl rfl ?_
    refine qao rfl rfl ?_
    refine qao rfl rfl ?_
    refine qa0 hτ rfl rfl rfl ?_
    refine qa0 hτ rfl rfl rfl ?_
    refine qao rfl rfl ?_
    refine qao rfl rfl ?_
    refine qbn (qa3 [1] (l:=[(3,.ptr 0 0),(17,.d (.bool false)),(19,.und)]) (objs:=[.box [.d (.int .i64 (g_.qa1.qac.length:Int))]]) rfl (by simp) rfl (by trivial) ⟨rfl,trivial,rfl,trivial,rfl,trivial,trivial⟩) ?_
    refine qao rfl rfl ?_
    refine qao rfl rfl ?_
    refine qao rfl rfl ?_
    refine qa0 hτ rfl rfl rfl ?_
    refine qa0 hτ rfl rfl rfl ?_
    refine qa4 ?_
    refine qa9 (qa3 [] (l:=[(2,.d (.bool false))]) (objs:=[]) rfl (by simp) rfl (by trivial) ⟨rfl,trivial,trivial⟩) ?_
    refine qas ?_
    have hr:=Option.some.inj h
    subst hr
    exact qaf (.inr rfl) [] (objs':=[]) (new:=[]) rfl (by simp) (by simp) rfl (by trivial) rfl rfl (by trivial) (fun _=>⟨by simp [V.flat,V.qb2,V.qay,D.flat],qai⟩) ⟨rfl,rfl,rfl⟩
theorem impl_ValidGrid_ok_fr (n:Nat) (g_:qbi) {r:Bool} (h:qg8 n g_ = some r):qb5 prog true 83 [.agg [.d (.cx .f32 g_.qa1.Source.A.re g_.qa1.Source.A.im),.d (.cx .f32 g_.qa1.Source.B.re g_.qa1.Source.B.im),.d (.cx .f32 g_.qa1.Source.C.re g_.qa1.Source.C.im),.d (.sl false (g_.qa1.qac.map qah)),.d (.sl false (g_.Ties.map qan))]] [] (fun v o new=>v = .d (.bool r)∧o = []∧new = []):=impl_ValidGrid_ok_fr0 true n g_ h
def qgq (n:Nat) (v17:List Int):Option Str :=
  some (chars v17)
def qe8 (n:Nat) (many_:Int):Nat→Int→List Int→Int→Option Str
  | 0,_,_,_=>none
  | m27 + 1,v20,v21,v22 =>
    if v22 < many_ then
      grd (room (v21.length + 1) 1) <|
      (qe8 n many_ m27) (v20.fdiv (2 ^ min (8:Int).toNat (IntKind.bits .i64))) (v21 ++ [(IntKind.wrap .u8 (v20))]) (w64 (v22 + (1:Int)))
    else
      qgq n v21
def qb7 (n:Nat) (n_:Int) (many_:Int):Option Str :=
  qe8 n many_ n n_ ([]:List Int) (0:Int)
theorem impl_bytesOf_ok_fr0 (fr:Bool) (n:Nat) (n_:Int) (many_:Int) {r:Str} (h:qb7 n n_ many_ = some r):qb5 prog fr 44 [.d (.int .i64 n_),.d (.int .i64 many_)] [] (fun v o new=>v = .d (.str (bstr r))∧o = []∧new = []):=by
  refine qar hτ func44 rfl (by simp) (by simp) ?_
  unfold qb7 at h
  refine qa5 ?_
  refine qa2 ?_
  refine qa0 hτ rfl rfl rfl ?_
  refine qa4 ?_
  refine qa5 ?_
  refine qa2 ?_
  refine qaq hτ rfl rfl rfl ?_
  refine qa0 hτ rfl rfl rfl ?_
  refine qa4 ?_
  refine qd1 (ι:=List Int) (fun v17=>St.of [(5,.row 0 v17.length 0 v17.length)] [.row 1 (v17.map qiq)] f44.ntmps 0) (fun v17=>qgq n v17 = some r) ?_ (fun hk18=>?_)
  · rintro v17 h
    replace h:qgq n v17 = some r:=h
    unfold qgq at h
    refine qa5 ?_
    refine qa2 ?_
    refine qa0 hτ rfl rfl rfl ?_
    refine qha rfl rfl (qva hτ (f:=qiq) (l:=v17) rfl rfl rfl rfl rfl rfl rfl (fun _=>rfl) (qqu v17 rfl rfl) ⟨qc8 _,by omega⟩) ?_
    refine qa0 hτ rfl rfl rfl ?_
    refine qa4 ?_
    refine qa9 (qa3 [] (l:=[(4,.d (.str (bstr (chars v17))))]) (objs:=[]) rfl (by simp) rfl (by trivial) ⟨rfl,trivial,trivial⟩) ?_
    refine qas ?_
    have hr:=Option.some.inj h
    subst hr
    exact qaf (.inr rfl) [] (objs':=[]) (new:=[]) rfl (by simp) (by simp) rfl (by trivial) rfl rfl (by trivial) (fun _=>⟨by simp [V.flat,V.qb2,V.qay,D.flat],qai⟩) ⟨rfl,rfl,rfl⟩
  · refine qa5 ?_
    refine qa5 ?_
    refine qa2 ?_
    refine qa0 hτ rfl rfl rfl ?_
    refine qa0 hτ rfl rfl rfl ?_
    refine qa4 ?_
    refine qb6 ?_
    refine qe1 (ι:=Nat × Int × List Int × Int) (fun (m27,v20,v21,v22)=>St.of [(0,.d (.int .i64 v20)),(5,.row 0 v21.length 0 v21.length),(7,.d (.int .i64 many_)),(8,.d (.int .i64 v22))] [.row 1 (v21.map qiq)] f44.ntmps 0) (fun (m27,v20,v21,v22)=>qe8 n many_ m27 v20 v21 v22 = some r) (fun x=>x.1) (n,n_,([]:List Int),(0:Int)) h (qa3 [0] (l:=[(0,.d (.int .i64 n_)),(5,.row 0 (([]:List Int).length) 0 (([]:List Int).length)),(7,.d (.int .i64 many_)),(8,.d (.int .i64 (0:Int)))]) (objs:=[.row 1 (([]:List Int).map qiq)]) rfl (by simp) rfl (by trivial) ⟨rfl,trivial,rfl,trivial,rfl,trivial,rfl,trivial,trivial⟩) ?_
    rintro ⟨m27,v20,v21,v22⟩ h
    replace h:qe8 n many_ m27 v20 v21 v22 = some r:=h
    rcases m27 with _ | m27
    · rw [qe8] at h;cases h
    rw [qe8] at h
    refine qa5 ?_
    refine qa2 ?_
    refine qa0 hτ rfl rfl rfl ?_
    refine qa4 ?_
    refine qa5 ?_
    refine qau rfl (fun hc29=>?_) (fun hc29=>?_)
    · have h:=if_t h hc29
      refine qav ?_
      refine qa5 ?_
      refine qb6 ?_
      refine qa5 ?_
      refine qa2 ?_
      refine qa0 hτ rfl rfl rfl ?_
      refine qa0 hτ rfl rfl rfl ?_
      refine qa0 hτ rfl rfl rfl ?_
      refine qaq hτ rfl rfl rfl ?_
      refine qbh h fun hg30 h=>?_
      refine qlf hτ rfl rfl (Eq.trans rfl (or_append (f:=qiq) v21 [(IntKind.wrap .u8 (v20))] rfl)) ⟨⟨rfl,Nat.le_of_ble_eq_true rfl⟩,qc8 _,rfl,rfl,hg30,by decide,(all1 rfl)⟩ ?_
      refine qa0 hτ rfl rfl rfl ?_
      refine qa4 ?_
      refine qa9 (qa3 [0] (l:=[(0,.d (.int .i64 v20)),(5,.row 0 ((v21 ++ [(IntKind.wrap .u8 (v20))]).length) 0 ((v21 ++ [(IntKind.wrap .u8 (v20))]).length)),(7,.d (.int .i64 many_)),(8,.d (.int .i64 v22))]) (objs:=[.row 1 ((v21 ++ [(IntKind.wrap .u8 (v20))]).map qiq)]) rfl (by simp) rfl (by trivial) ⟨rfl,trivial,rfl,trivial,rfl,trivial,rfl,trivial,trivial⟩) ?_
      refine qa2 ?_
      refine qa0 hτ rfl rfl rfl ?_
      refine qbd hτ rfl rfl rfl (by decide) ?_
      refine qa0 hτ rfl rfl rfl ?_
      refine qa4 ?_
      refine qa2 ?_
      refine qa0 hτ rfl rfl rfl ?_
      refine qa0 hτ rfl rfl rfl ?_
      refine qa4 ?_
      exact ⟨(m27,(v20.fdiv (2 ^ min (8:Int).toNat (IntKind.bits .i64))),(v21 ++ [(IntKind.wrap .u8 (v20))]),(w64 (v22 + (1:Int)))),h,Nat.lt_succ_self m27,(qa3 [0] (l:=[(0,.d (.int .i64 (v20.fdiv (2 ^ min (8:Int).toNat (IntKind.bits .i64))))),(5,.row 0 ((v21 ++ [(IntKind.wrap .u8 (v20))]).length) 0 ((v21 ++ [(IntKind.wrap .u8 (v20))]).length)),(7,.d (.int .i64 many_)),(8,.d (.int .i64 (w64 (v22 + (1:Int)))))]) (objs:=[.row 1 ((v21 ++ [(IntKind.wrap .u8 (v20))]).map qiq)]) rfl (by simp) rfl (by trivial) ⟨rfl,trivial,rfl,trivial,rfl,trivial,rfl,trivial,trivial⟩)⟩
    · have h:=if_f h hc29
      refine qdv ?_
      refine qa9 (qa3 [0] (l:=[(5,.row 0 v21.length 0 v21.length)]) (objs:=[.row 1 (v21.map qiq)]) rfl (by simp) rfl (by trivial) ⟨rfl,trivial,trivial⟩) ?_
      exact hk18 v21 h
theorem qhd (n:Nat) (n_:Int) (many_:Int) {r:Str} (h:qb7 n n_ many_ = some r):qb5 prog false 44 [.d (.int .i64 n_),.d (.int .i64 many_)] [] (fun v o new=>v = .d (.str (bstr r))∧o = []∧new = []):=impl_bytesOf_ok_fr0 false n n_ many_ h
def qjr (n:Nat) (x_:Nat):Option Bool :=
  some (fcmp .neq .f32 x_ x_)
theorem impl_isNaN_ok_fr0 (fr:Bool) (n:Nat) (x_:Nat) {r:Bool} (h:qjr n x_ = some r):qb5 prog fr 176 [.d (.fl .f32 x_)] [] (fun v o new=>v = .d (.bool r)∧o = []∧new = []):=by
  refine qar hτ func176 rfl (by simp) (by simp) ?_
  unfold qjr at h
  refine qa5 ?_
  refine qa2 ?_
  refine qa0 hτ rfl rfl rfl ?_
  refine qa4 ?_
  refine qa5 ?_
  refine qa2 ?_
  refine qa0 hτ rfl rfl rfl ?_
  refine qa0 hτ rfl rfl rfl ?_
  refine qa0 hτ rfl rfl rfl ?_
  refine qa0 hτ rfl rfl rfl ?_
  refine qa4 ?_
  refine qa9 (qa3 [] (l:=[(2,.d (.bool (fcmp .neq .f32 x_ x_)))]) (objs:=[]) rfl (by simp) rfl (by trivial) ⟨rfl,trivial,trivial⟩) ?_
  refine qas ?_
  have hr:=Option.some.inj h
  subst hr
  exact qaf (.inr rfl) [] (objs':=[]) (new:=[]) rfl (by simp) (by simp) rfl (by trivial) rfl rfl (by trivial) (fun _=>⟨by simp [V.flat,V.qb2,V.qay,D.flat],qai⟩) ⟨rfl,rfl,rfl⟩
theorem impl_isNaN_ok (n:Nat) (x_:Nat) {r:Bool} (h:qjr n x_ = some r):qb5 prog false 176 [.d (.fl .f32 x_)] [] (fun v o new=>v = .d (.bool r)∧o = []∧new = []):=impl_isNaN_ok_fr0 false n x_ h
def qhk (n:Nat) (x_:Nat):Option Int :=
  (qjr n x_).bind fun x4 =>
  if x4 = true then
    some (2143289344:Int)
  else
    grd (isnan .f32 x_ = false) <|
    some (w64 ((x_:Int)))
theorem impl_BitsOf_ok_fr0 (fr:Bool) (n:Nat) (x_:Nat) {r:Int} (h:qhk n x_ = some r):qb5 prog fr 158 [.d (.fl .f32 x_)] [] (fun v o new=>v = .d (.int .i64 r)∧o = []∧new = []):=by
  refine qar hτ func158 rfl (by simp) (by simp) ?_
  unfold qhk at h
  refine qa5 ?_
  refine qa2 ?_
  refine qa0 hτ rfl rfl rfl ?_
  refine qa4 ?_
  refine qa5 ?_
  refine qa5 ?_
  refine qa2 ?_
  refine qa0 hτ rfl rfl rfl ?_
  refine qab h fun x4 hx4 h=>?_
  refine qam hτ false [] rfl rfl rfl (qap func176 rfl rfl) rfl rfl (by simp) ⟨trivial,trivial⟩ (by trivial) (impl_isNaN_ok n x_ hx4) ?_
  rintro r0 o0 n0 ⟨rfl,rfl,rfl⟩ -
  refine qa4 ?_
  refine qau rfl (fun hc5=>?_) (fun hc5=>?_)
  · have h:=qci h hc5
    refine qa5 ?_
    refine qa2 ?_
    refine qa0 hτ rfl rfl rfl ?_
    refine qa4 ?_
    refine qa9 (qa3 [] (l:=[(2,.d (.int .i64 (2143289344:Int)))]) (objs:=[]) rfl (by simp) rfl (by trivial) ⟨rfl,trivial,trivial⟩) ?_
    refine qas ?_
    have hr:=Option.some.inj h
    subst hr
    exact qaf (.inr rfl) [] (objs':=[]) (new:=[]) rfl (by simp) (by simp) rfl (by trivial) rfl rfl (by trivial) (fun _=>⟨by simp [V.flat,V.qb2,V.qay,D.flat],qai⟩) ⟨rfl,rfl,rfl⟩
  · have h:=qch h hc5
    refine qav ?_
    refine qa5 ?_
    refine qa2 ?_
    refine qa0 hτ rfl rfl rfl ?_
    refine qbh h fun hg6 h=>?_
    refine qp1 hτ rfl rfl rfl (quh hg6) ?_
    refine qa0 hτ rfl rfl rfl ?_
    refine qa0 hτ rfl rfl rfl ?_
    refine qa4 ?_
    refine qa9 (qa3 [] (l:=[(2,.d (.int .i64 (w64 ((x_:Int)))))]) (objs:=[]) rfl (by simp) rfl (by trivial) ⟨rfl,trivial,trivial⟩) ?_
    refine qas ?_
    have hr:=Option.some.inj h
    subst hr
    exact qaf (.inr rfl) [] (objs':=[]) (new:=[]) rfl (by simp) (by simp) rfl (by trivial) rfl rfl (by trivial) (fun _=>⟨by simp [V.flat,V.qb2,V.qay,D.flat],qai⟩) ⟨rfl,rfl,rfl⟩
theorem qkz (n:Nat) (x_:Nat) {r:Int} (h:qhk n x_ = some r):qb5 prog false 158 [.d (.fl .f32 x_)] [] (fun v o new=>v = .d (.int .i64 r)∧o = []∧new = []):=impl_BitsOf_ok_fr0 false n x_ h
def qbr (n:Nat) (x_:Cx):Option Str :=
  (qhk n x_.re).bind fun x6 =>
  (qb7 n x6 (4:Int)).bind fun x7 =>
  (qhk n x_.im).bind fun x8 =>
  (qb7 n x8 (4:Int)).bind fun x9 =>
  grd (x7.length + x9.length ≤ 9223372036854775807) <|
  some (x7 ++ x9)
theorem impl_pairOf_ok_fr0 (fr:Bool) (n:Nat) (x_:Cx) {r:Str} (h:qbr n x_ = some r):qb5 prog fr 129 [.d (.cx .f32 x_.re x_.im)] [] (fun v o new=>v = .d (.str (bstr r))∧o = []∧new = []):=by
  refine qar hτ func129 rfl (by simp) (by simp) ?_
  unfold qbr at h
  refine qa5 ?_
  refine qa2 ?_
  refine qa0 hτ rfl rfl rfl ?_
  refine qa4 ?_
  refine qa5 ?_
  refine qa2 ?_
  refine qa0 hτ rfl rfl rfl ?_
  refine qa0 hτ rfl rfl rfl ?_
  refine qab h fun x6 hx6 h=>?_
  refine qam hτ false [] rfl rfl rfl (qap func158 rfl rfl) rfl rfl (by simp) ⟨trivial,trivial⟩ (by trivial) (qkz n x_.re hx6) ?_
  rintro r0 o0 n0 ⟨rfl,rfl,rfl⟩ -
  refine qab h fun x7 hx7 h=>?_
  refine qam hτ false [] rfl rfl rfl (qap func44 rfl rfl) rfl rfl (by simp) ⟨trivial,trivial,trivial⟩ (by trivial) (qhd n x6 (4:Int) hx7) ?_
  rintro r0 o0 n0 ⟨rfl,rfl,rfl⟩ -
  refine qa0 hτ rfl rfl rfl ?_
  refine qa0 hτ rfl rfl rfl ?_
  refine qab h fun x8 hx8 h=>?_
  refine qam hτ false [] rfl rfl rfl (qap func158 rfl rfl) rfl rfl (by simp) ⟨trivial,trivial⟩ (by trivial) (qkz n x_.im hx8) ?_
  rintro r0 o0 n0 ⟨rfl,rfl,rfl⟩ -
  refine qab h fun x9 hx9 h=>?_
  refine qam hτ false [] rfl rfl rfl (qap func44 rfl rfl) rfl rfl (by simp) ⟨trivial,trivial,trivial⟩ (by trivial) (qhd n x8 (4:Int) hx9) ?_
  rintro r0 o0 n0 ⟨rfl,rfl,rfl⟩ -
  refine qbh h fun hg10 h=>?_
  refine qbd hτ (v:=.d (.str (bstr (x7 ++ x9)))) rfl rfl (Eq.trans rfl (qh1 _ _)) hg10 ?_
  refine qa0 hτ rfl rfl rfl ?_
  refine qa4 ?_
  refine qa9 (qa3 [] (l:=[(2,.d (.str (bstr (x7 ++ x9))))]) (objs:=[]) rfl (by simp) rfl (by trivial) ⟨rfl,trivial,trivial⟩) ?_
  refine qas ?_
  have hr:=Option.some.inj h
  subst hr
  exact qaf (.inr rfl) [] (objs':=[]) (new:=[]) rfl (by simp) (by simp) rfl (by trivial) rfl rfl (by trivial) (fun _=>⟨by simp [V.flat,V.qb2,V.qay,D.flat],qai⟩) ⟨rfl,rfl,rfl⟩
theorem qiy (n:Nat) (x_:Cx) {r:Str} (h:qbr n x_ = some r):qb5 prog false 129 [.d (.cx .f32 x_.re x_.im)] [] (fun v o new=>v = .d (.str (bstr r))∧o = []∧new = []):=impl_pairOf_ok_fr0 false n x_ h
def qcb (n:Nat) (p_:qaa):Option Str :=
  (qbr n p_.A).bind fun x6 =>
  (qbr n p_.B).bind fun x7 =>
  grd (x6.length + x7.length ≤ 9223372036854775807) <|
  (qbr n p_.C).bind fun x9 =>
  grd ((x6 ++ x7).length + x9.length ≤ 9223372036854775807) <|
  some ((x6 ++ x7) ++ x9)
theorem impl_phasesOf_ok_fr0 (fr:Bool) (n:Nat) (p_:qaa) {r:Str} (h:qcb n p_ = some r):qb5 prog fr 128 [.agg [.d (.cx .f32 p_.A.re p_.A.im),.d (.cx .f32 p_.B.re p_.B.im),.d (.cx .f32 p_.C.re p_.C.im)]] [] (fun v o new=>v = .d (.str (bstr r))∧o = []∧new = []):=by
  refine qar hτ func128 rfl (by simp) (by simp) ?_
  unfold qcb at h
  refine qa5 ?_
  refine qa2 ?_
  refine qaq hτ rfl rfl rfl ?_
  refine qa0 hτ rfl rfl rfl ?_
  refine qa4 ?_
  refine qa5 ?_
  refine qc9 ?_
  refine qa7 hτ [0] 0 rfl rfl rfl rfl rfl ?_
  refine qa7 hτ [0] 1 rfl rfl rfl rfl rfl ?_
  refine qa7 hτ [0] 3 rfl rfl rfl rfl rfl ?_
  refine qa7 hτ [0] 4 rfl rfl rfl rfl rfl ?_
  refine qa7 hτ [0] 7 rfl rfl rfl rfl rfl ?_
  refine qa7 hτ [0] 8 rfl rfl rfl rfl rfl ?_
  refine qab h fun x6 hx6 h=>?_
  refine qbf hτ false [] [0] 2 rfl rfl rfl rfl (qap func129 rfl rfl) rfl rfl (by simp) ⟨trivial,trivial⟩ (by trivial) (qiy n p_.A hx6) ⟨rfl,trivial⟩ ?_
  refine qab h fun x7 hx7 h=>?_
  refine qbf hτ false [] [0] 5 rfl rfl rfl rfl (qap func129 rfl rfl) rfl rfl (by simp) ⟨trivial,trivial⟩ (by trivial) (qiy n p_.B hx7) ⟨rfl,trivial⟩ ?_
  refine qbh h fun hg8 h=>?_
  refine qcz hτ (v:=.d (.str (bstr (x6 ++ x7)))) [] 6 rfl rfl rfl rfl (Eq.trans rfl (qh1 _ _)) hg8 ?_
  refine qab h fun x9 hx9 h=>?_
  refine qbf hτ false [] [0] 9 rfl rfl rfl rfl (qap func129 rfl rfl) rfl rfl (by simp) ⟨trivial,trivial⟩ (by trivial) (qiy n p_.C hx9) ⟨rfl,trivial⟩ ?_
  refine qbh h fun hg10 h=>?_
  refine qcz hτ (v:=.d (.str (bstr ((x6 ++ x7) ++ x9)))) [] 10 rfl rfl rfl rfl (Eq.trans rfl (qh1 _ _)) hg10 ?_
  refine qa7 hτ [] 11 rfl rfl rfl rfl rfl ?_
  refine qbp mixed (by kernel_rfl) ?_
  refine qa9 (qa3 [] (l:=[(2,.d (.str (bstr ((x6 ++ x7) ++ x9))))]) (objs:=[]) rfl (by simp) rfl (by trivial) ⟨rfl,trivial,trivial⟩) ?_
  refine qas ?_
  have hr:=Option.some.inj h
  subst hr
  exact qaf (.inr rfl) [] (objs':=[]) (new:=[]) rfl (by simp) (by simp) rfl (by trivial) rfl rfl (by trivial) (fun _=>⟨by simp [V.flat,V.qb2,V.qay,D.flat],qai⟩) ⟨rfl,rfl,rfl⟩
theorem qkd (n:Nat) (p_:qaa) {r:Str} (h:qcb n p_ = some r):qb5 prog false 128 [.agg [.d (.cx .f32 p_.A.re p_.A.im),.d (.cx .f32 p_.B.re p_.B.im),.d (.cx .f32 p_.C.re p_.C.im)]] [] (fun v o new=>v = .d (.str (bstr r))∧o = []∧new = []):=impl_phasesOf_ok_fr0 false n p_ h
end Go.Proofs.Ytmllgpkgjniomaa.AWN
