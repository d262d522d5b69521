/- Models and contracts, printed by program. -/
import Derived.Test.YtmllgpkgjniomaaRecB
set_option linter.unusedVariables false
set_option linter.unusedSimpArgs false
set_option linter.unusedSectionVars false
set_option maxHeartbeats 2000000
namespace Go.Proofs.Ytmllgpkgjniomaa.AWN
open Go Go.Proofs.Try
def qjd (p:qaa):PhV:=⟨p.A.re,p.A.im,p.B.re,p.B.im,p.C.re,p.C.im⟩
def qu0 (x:SBus):BusV:=⟨x.qag,x.Kind,x.qa6,x.Own.re,x.Own.im,x.Shared.re,x.Shared.im,qjd x.Load⟩
def qu1 (x:STie):TieV:=⟨x.A,x.B,x.Most,x.Own.re,x.Own.im,x.Shared.re,x.Shared.im⟩
def qii (n:Nat) (g_:qbi):Option Str:=qpq (qb7 n) (fun a b=>qbr n (Cx.mk a b)) (fun p=>qcb n (qaa.mk (Cx.mk p.a p.a') (Cx.mk p.b p.b') (Cx.mk p.c p.c'))) (qjd g_.qa1.Source) (g_.qa1.qac.map qu0) (g_.Ties.map qu1)
theorem impl_stored_ok_fr (n:Nat) (g_:qbi) {r:Str} (h:qii n g_ = some r):qb5 prog true 84 [.agg [.d (.cx .f32 g_.qa1.Source.A.re g_.qa1.Source.A.im),.d (.cx .f32 g_.qa1.Source.B.re g_.qa1.Source.B.im),.d (.cx .f32 g_.qa1.Source.C.re g_.qa1.Source.C.im),.d (.sl false (g_.qa1.qac.map qah)),.d (.sl false (g_.Ties.map qan))]] [] (fun v o new=>v = .d (.str (bstr r))∧o = []∧new = []):=stored_does (S:=qjd g_.qa1.Source) (vB:=qu0) (vT:=qu1) (fun _=>rfl) (fun _=>rfl) (fun a b r h=>qhd n a b h) (fun a b r h=>qiy n (Cx.mk a b) h) (fun p r h=>qkd n (qaa.mk (Cx.mk p.a p.a') (Cx.mk p.b p.b') (Cx.mk p.c p.c')) h) h
def qh8 (n:Nat) (x49:qaa × qaz) (v77:List SBus) (v95:Int) (v97:List STie):Option (qbi × Int × Bool) :=
  some ((qbi.mk (qck.mk x49.1 v77) v97),v95,true)
def qek (n:Nat) (x49:qaa × qaz) (v77:List SBus) (v95:Int) (v97:List STie) (v111:Bool):Option (qbi × Int × Bool) :=
  if v111 = true then
    some ((qbi.mk (qck.mk (qaa.mk (Cx.mk (0:Nat) (0:Nat)) (Cx.mk (0:Nat) (0:Nat)) (Cx.mk (0:Nat) (0:Nat))) ([]:List SBus)) ([]:List STie)),(0:Int),false)
  else
    qh8 n x49 v77 v95 v97
def qej (n:Nat) (s_:Str) (x49:qaa × qaz) (v77:List SBus) (v94:Str) (v95:Int) (v96:Bool) (v97:List STie):Option (qbi × Int × Bool) :=
  if v96 = true then
    qek n x49 v77 v95 v97 true
  else
    (qg8 n (qbi.mk (qck.mk x49.1 v77) v97)).bind fun x115 =>
    if x115 = true then
      grd (0 ≤ (0:Int)∧(0:Int) ≤ v95∧v95 ≤ (s_.length:Int)) <|
      (qii n (qbi.mk (qck.mk x49.1 v77) v97)).bind fun x118 =>
      qek n x49 v77 v95 v97 (!(decide (x118 = (sub s_ (0:Int) v95))))
    else
      qek n x49 v77 v95 v97 true
def qbx (n:Nat) (s_:Str) (x49:qaa × qaz) (v77:List SBus) (x120:Int × qaz):Nat→Str→Int→Bool→List STie→Int→Option (qbi × Int × Bool)
  | 0,_,_,_,_,_=>none
  | m135 + 1,v123,v124,v125,v126,v127 =>
    if v127 < x120.1 then
      (qea n (qaz.mk v123 v124 v125)).bind fun x138 =>
      grd (room (v126.length + 1) 40) <|
      (qbx n s_ x49 v77 x120 m135) x138.2.s x138.2.at_ x138.2.short (v126 ++ [x138.1]) (w64 (v127 + (1:Int)))
    else
      qej n s_ x49 v77 v123 v124 v125 v126
def qdj (n:Nat) (s_:Str) (x49:qaa × qaz) (v72:List SBus) (v73:List STie) (v74:Str) (v75:Int) (v76:Bool) (v77:List SBus) (v78:List STie):Option (qbi × Int × Bool) :=
  (qal n (qaz.mk v74 v75 v76) (1:Int)).bind fun x120 =>
  qbx n s_ x49 v77 x120 n x120.2.s x120.2.at_ x120.2.short v78 (0:Int)
def qbt (n:Nat) (s_:Str) (x49:qaa × qaz) (x141:Int × qaz):Nat→List SBus→List STie→Str→Int→Bool→List SBus→List STie→Int→Option (qbi × Int × Bool)
  | 0,_,_,_,_,_,_,_,_=>none
  | m163 + 1,v145,v146,v147,v148,v149,v150,v151,v152 =>
    if v152 < x141.1 then
      (qe9 n (qaz.mk v147 v148 v149)).bind fun x166 =>
      grd (room (v150.length + 1) 64) <|
      (qbt n s_ x49 x141 m163) v145 v146 x166.2.s x166.2.at_ x166.2.short (v150 ++ [x166.1]) v151 (w64 (v152 + (1:Int)))
    else
      qdj n s_ x49 v145 v146 v147 v148 v149 v150 v151
def qcw (n:Nat) (s_:Str):Option (qbi × Int × Bool) :=
  (qg1 n s_ ([70,68,82,49]:Str)).bind fun x47 =>
  if x47 = true then
    (qb9 n (qaz.mk s_ (4:Int) false)).bind fun x49 =>
    (qal n x49.2 (1:Int)).bind fun x141 =>
    qbt n s_ x49 x141 n ([]:List SBus) ([]:List STie) x141.2.s x141.2.at_ x141.2.short ([]:List SBus) ([]:List STie) (0:Int)
  else
    some ((qbi.mk (qck.mk (qaa.mk (Cx.mk (0:Nat) (0:Nat)) (Cx.mk (0:Nat) (0:Nat)) (Cx.mk (0:Nat) (0:Nat))) ([]:List SBus)) ([]:List STie)),(0:Int),false)
theorem impl_loadGrid_ok_fr0 (fr:Bool) (n:Nat) (s_:Str) {r:qbi × Int × Bool} (h:qcw n s_ = some r):qb5 prog fr 34 [.d (.str (bstr s_))] [] (fun v o new=>v = .tup [.agg [.d (.cx .f32 r.1.qa1.Source.A.re r.1.qa1.Source.A.im),.d (.cx .f32 r.1.qa1.Source.B.re r.1.qa1.Source.B.im),.d (.cx .f32 r.1.qa1.Source.C.re r.1.qa1.Source.C.im),.row 0 r.1.qa1.qac.length 0 r.1.qa1.qac.length,.row 1 r.1.Ties.length 0 r.1.Ties.length],.d (.int .i64 r.2.1),.d (.bool r.2.2)]∧o = []∧new = [.row 8 (r.1.qa1.qac.map qah),.row 5 (r.1.Ties.map qan)]):=by
  refine qar hτ func34 rfl (by simp) (by simp) ?_
  unfold qcw at h
  refine qa5 ?_
  refine qa2 ?_
  refine qaq hτ rfl rfl rfl ?_
  refine qa0 hτ rfl rfl rfl ?_
  refine qa0 hτ rfl rfl rfl ?_
  refine qa4 ?_
  refine qa5 ?_
  refine qa2 ?_
  refine qa0 hτ rfl rfl rfl ?_
  refine qa0 hτ rfl rfl rfl ?_
  refine qa0 hτ rfl rfl rfl ?_
  refine qaq hτ rfl rfl rfl ?_
  refine qaq hτ rfl rfl rfl ?_
  refine qaq hτ rfl rfl rfl ?_
  refine qaq hτ rfl rfl rfl ?_
  refine qa4 ?_
  refine qa5 ?_
  refine qa5 ?_
  refine qa9 (qa3 [0,1,2] (l:=[(0,.d (.str (bstr s_))),(2,.ptr 0 0),(5,.ptr 1 0),(6,.ptr 2 0)]) (objs:=[.box [.d (.cx .f32 (0:Nat) (0:Nat)),.d (.cx .f32 (0:Nat) (0:Nat)),.d (.cx .f32 (0:Nat) (0:Nat)),.d (.nils),.d (.nils)],.box [.d (.str (bstr s_)),.d (.int .i64 (4:Int)),.d (.bool false)],.box [.d (.cx .f32 (0:Nat) (0:Nat)),.d (.cx .f32 (0:Nat) (0:Nat)),.d (.cx .f32 (0:Nat) (0:Nat)),.d (.nils),.d (.nils)]]) rfl (by simp) rfl (by trivial) ⟨rfl,trivial,rfl,trivial,rfl,trivial,rfl,trivial,trivial⟩) ?_
  refine qa2 ?_
  refine qa0 hτ rfl rfl rfl ?_
  refine qab h fun x47 hx47 h=>?_
  refine qam hτ false [] rfl rfl rfl (qap func78 rfl rfl) rfl rfl (by simp) ⟨trivial,trivial,trivial⟩ (by trivial) (strings_HasPrefix_ok n s_ ([70,68,82,49]:Str) hx47) ?_
  rintro r0 o0 n0 ⟨rfl,rfl,rfl⟩ -
  refine qa0 hτ rfl rfl rfl ?_
  refine qa4 ?_
  refine qau rfl (fun hc48=>?_) (fun hc48=>?_)
  · have hc48:=qdd hc48
    have h:=qch h hc48
    refine qa5 ?_
    refine qa2 ?_
    refine qa0 hτ rfl rfl rfl ?_
    refine qaq hτ rfl rfl rfl ?_
    refine qa0 hτ rfl rfl rfl ?_
    refine qa0 hτ rfl rfl rfl ?_
    refine qa4 ?_
    refine qa9 (qa3 [0] (l:=[(2,.ptr 0 0),(3,.d (.int .i64 (0:Int))),(4,.d (.bool false))]) (objs:=[.box [.d (.cx .f32 (0:Nat) (0:Nat)),.d (.cx .f32 (0:Nat) (0:Nat)),.d (.cx .f32 (0:Nat) (0:Nat)),.d (.nils),.d (.nils)]]) rfl (by simp) rfl (by trivial) ⟨rfl,trivial,rfl,trivial,rfl,trivial,trivial⟩) ?_
    refine qa9 (qh4 [8,5] (l':=[(2,.ptr 0 0),(3,.d (.int .i64 (0:Int))),(4,.d (.bool false))]) (objs':=[.box [.d (.cx .f32 (0:Nat) (0:Nat)),.d (.cx .f32 (0:Nat) (0:Nat)),.d (.cx .f32 (0:Nat) (0:Nat)),.row 1 (([]:List SBus).length) 0 (([]:List SBus).length),.row 2 (([]:List STie).length) 0 (([]:List STie).length)]]) (.cons (.c (.refl _)) (.cons (.c (.refl _)) (.cons (.c (.refl _)) .nil))) (.cons (.box (.cons (.refl _) (.cons (.refl _) (.cons (.refl _) (.cons (.ghost ⟨Nat.le_of_ble_eq_true rfl,Nat.le_of_ble_eq_true rfl⟩) (.cons (.ghost ⟨Nat.le_of_ble_eq_true rfl,Nat.le_of_ble_eq_true rfl⟩) .nil)))))) .nil)) ?_
    refine qas ?_
    have hr:=Option.some.inj h
    subst hr
    exact qaf (.inr rfl) [1,2] (objs':=[]) (new:=[.row 8 (([]:List SBus).map qah),.row 5 (([]:List STie).map qan)]) rfl (by simp) (by simp) rfl (by trivial) rfl rfl (by trivial) (fun _=>⟨by simp [V.flat,V.qb2,V.qay,D.flat],(qb8 (qd2 qjf _) (qb8 (qd2 qjv _) qai))⟩) ⟨rfl,rfl,rfl⟩
  · have hc48:=qdc hc48
    have h:=qci h hc48
    refine qav ?_
    refine qa5 ?_
    refine qa2 ?_
    refine qab h fun x49 hx49 h=>?_
    refine qam hτ false [1] rfl rfl rfl (qap func79 rfl rfl) rfl rfl (by simp) ⟨trivial,trivial⟩ (by trivial) (qgc n (qaz.mk s_ (4:Int) false) hx49) ?_
    rintro r0 o0 n0 ⟨rfl,rfl,rfl⟩ -
    refine qa0 hτ rfl rfl rfl ?_
    refine qa0 hτ rfl rfl rfl ?_
    refine qaq hτ rfl rfl rfl ?_
    refine qa4 ?_
    refine qd1 (ι:=List SBus × List STie × Str × Int × Bool × List SBus × List STie) (fun (v72,v73,v74,v75,v76,v77,v78)=>St.of [(0,.d (.str (bstr s_))),(2,.ptr 0 0),(5,.ptr 3 0),(6,.ptr 4 0)] [.box [.d (.cx .f32 (0:Nat) (0:Nat)),.d (.cx .f32 (0:Nat) (0:Nat)),.d (.cx .f32 (0:Nat) (0:Nat)),.row 1 v72.length 0 v72.length,.row 2 v73.length 0 v73.length],.row 8 (v72.map qah),.row 5 (v73.map qan),.box [.d (.str (bstr v74)),.d (.int .i64 v75),.d (.bool v76)],.box [.d (.cx .f32 x49.1.A.re x49.1.A.im),.d (.cx .f32 x49.1.B.re x49.1.B.im),.d (.cx .f32 x49.1.C.re x49.1.C.im),.row 5 v77.length 0 v77.length,.row 6 v78.length 0 v78.length],.row 8 (v77.map qah),.row 5 (v78.map qan)] f34.ntmps 0) (fun (v72,v73,v74,v75,v76,v77,v78)=>qdj n s_ x49 v72 v73 v74 v75 v76 v77 v78 = some r) ?_ (fun hk140=>?_)
    · rintro ⟨v72,v73,v74,v75,v76,v77,v78⟩ h
      replace h:qdj n s_ x49 v72 v73 v74 v75 v76 v77 v78 = some r:=h
      unfold qdj at h
      refine qd1 (ι:=Str × Int × Bool × List STie) (fun (v94,v95,v96,v97)=>St.of [(0,.d (.str (bstr s_))),(2,.ptr 0 0),(5,.ptr 3 0),(6,.ptr 4 0)] [.box [.d (.cx .f32 (0:Nat) (0:Nat)),.d (.cx .f32 (0:Nat) (0:Nat)),.d (.cx .f32 (0:Nat) (0:Nat)),.row 1 v72.length 0 v72.length,.row 2 v73.length 0 v73.length],.row 8 (v72.map qah),.row 5 (v73.map qan),.box [.d (.str (bstr v94)),.d (.int .i64 v95),.d (.bool v96)],.box [.d (.cx .f32 x49.1.A.re x49.1.A.im),.d (.cx .f32 x49.1.B.re x49.1.B.im),.d (.cx .f32 x49.1.C.re x49.1.C.im),.row 5 v77.length 0 v77.length,.row 6 v97.length 0 v97.length],.row 8 (v77.map qah),.row 5 (v97.map qan)] f34.ntmps 0) (fun (v94,v95,v96,v97)=>qej n s_ x49 v77 v94 v95 v96 v97 = some r) ?_ (fun hk119=>?_)
      · rintro ⟨v94,v95,v96,v97⟩ h
        replace h:qej n s_ x49 v77 v94 v95 v96 v97 = some r:=h
        unfold qej at h
        refine qd1 (ι:=Unit) (fun _=>St.of [(2,.ptr 0 0),(5,.ptr 3 0),(6,.ptr 4 0)] [.box [.d (.cx .f32 (0:Nat) (0:Nat)),.d (.cx .f32 (0:Nat) (0:Nat)),.d (.cx .f32 (0:Nat) (0:Nat)),.row 1 v72.length 0 v72.length,.row 2 v73.length 0 v73.length],.row 8 (v72.map qah),.row 5 (v73.map qan),.box [.d (.str (bstr v94)),.d (.int .i64 v95),.d (.bool v96)],.box [.d (.cx .f32 x49.1.A.re x49.1.A.im),.d (.cx .f32 x49.1.B.re x49.1.B.im),.d (.cx .f32 x49.1.C.re x49.1.C.im),.row 5 v77.length 0 v77.length,.row 6 v97.length 0 v97.length],.row 8 (v77.map qah),.row 5 (v97.map qan)] f34.ntmps 0) (fun _=>qh8 n x49 v77 v95 v97 = some r) ?_ (fun hk104=>?_)
        · rintro ⟨⟩ h
          replace h:qh8 n x49 v77 v95 v97 = some r:=h
          unfold qh8 at h
          refine qa5 ?_
          refine qc9 ?_
          refine qa7 hτ [4] 0 rfl rfl rfl rfl rfl ?_
          refine qa7 hτ [3] 1 rfl rfl rfl rfl rfl ?_
          refine qa7 hτ [3] 2 rfl rfl rfl rfl rfl ?_
          refine qd3 hτ [1,2,3,4,5,6] 3 rfl rfl rfl rfl ⟨rfl,rfl,rfl,rfl,rfl,rfl,trivial⟩ ?_
          refine qa7 hτ [] 4 rfl rfl rfl rfl rfl ?_
          refine qa7 hτ [] 5 rfl rfl rfl rfl rfl ?_
          refine qbp mixed (by kernel_rfl) ?_
          refine qa9 (qa3 [0,5,6] (l:=[(2,.ptr 0 0),(3,.d (.int .i64 v95)),(4,.d (.bool true))]) (objs:=[.box [.d (.cx .f32 x49.1.A.re x49.1.A.im),.d (.cx .f32 x49.1.B.re x49.1.B.im),.d (.cx .f32 x49.1.C.re x49.1.C.im),.row 1 v77.length 0 v77.length,.row 2 v97.length 0 v97.length],.row 8 (v77.map qah),.row 5 (v97.map qan)]) rfl (by simp) rfl (by trivial) ⟨rfl,trivial,rfl,trivial,rfl,trivial,trivial⟩) ?_
          refine qas ?_
          have hr:=Option.some.inj h
          subst hr
          exact qaf (.inr rfl) [1,2] (objs':=[]) (new:=[.row 8 (v77.map qah),.row 5 (v97.map qan)]) rfl (by simp) (by simp) rfl (by trivial) rfl rfl (by trivial) (fun _=>⟨by simp [V.flat,V.qb2,V.qay,D.flat],(qb8 (qd2 qjf _) (qb8 (qd2 qjv _) qai))⟩) ⟨rfl,rfl,rfl⟩
        · refine qa5 ?_
          refine qd1 (ι:=Bool) (fun v111=>St.of [(2,.ptr 0 0),(5,.ptr 3 0),(6,.ptr 4 0),(54,.d (.bool v111))] [.box [.d (.cx .f32 (0:Nat) (0:Nat)),.d (.cx .f32 (0:Nat) (0:Nat)),.d (.cx .f32 (0:Nat) (0:Nat)),.row 1 v72.length 0 v72.length,.row 2 v73.length 0 v73.length],.row 8 (v72.map qah),.row 5 (v73.map qan),.box [.d (.str (bstr v94)),.d (.int .i64 v95),.d (.bool v96)],.box [.d (.cx .f32 x49.1.A.re x49.1.A.im),.d (.cx .f32 x49.1.B.re x49.1.B.im),.d (.cx .f32 x49.1.C.re x49.1.C.im),.row 5 v77.length 0 v77.length,.row 6 v97.length 0 v97.length],.row 8 (v77.map qah),.row 5 (v97.map qan)] f34.ntmps 0) (fun v111=>qek n x49 v77 v95 v97 v111 = some r) ?_ (fun hk113=>?_)
          · rintro v111 h
            replace h:qek n x49 v77 v95 v97 v111 = some r:=h
            unfold qek at h
            refine qau rfl (fun hc112=>?_) (fun hc112=>?_)
            · have h:=qci h hc112
              refine qa5 ?_
              refine qa2 ?_
              refine qa0 hτ rfl rfl rfl ?_
              refine qaq hτ rfl rfl rfl ?_
              refine qa0 hτ rfl rfl rfl ?_
              refine qa0 hτ rfl rfl rfl ?_
              refine qa4 ?_
              refine qa9 (qa3 [0] (l:=[(2,.ptr 0 0),(3,.d (.int .i64 (0:Int))),(4,.d (.bool false))]) (objs:=[.box [.d (.cx .f32 (0:Nat) (0:Nat)),.d (.cx .f32 (0:Nat) (0:Nat)),.d (.cx .f32 (0:Nat) (0:Nat)),.d (.nils),.d (.nils)]]) rfl (by simp) rfl (by trivial) ⟨rfl,trivial,rfl,trivial,rfl,trivial,trivial⟩) ?_
              refine qa9 (qh4 [8,5] (l':=[(2,.ptr 0 0),(3,.d (.int .i64 (0:Int))),(4,.d (.bool false))]) (objs':=[.box [.d (.cx .f32 (0:Nat) (0:Nat)),.d (.cx .f32 (0:Nat) (0:Nat)),.d (.cx .f32 (0:Nat) (0:Nat)),.row 1 (([]:List SBus).length) 0 (([]:List SBus).length),.row 2 (([]:List STie).length) 0 (([]:List STie).length)]]) (.cons (.c (.refl _)) (.cons (.c (.refl _)) (.cons (.c (.refl _)) .nil))) (.cons (.box (.cons (.refl _) (.cons (.refl _) (.cons (.refl _) (.cons (.ghost ⟨Nat.le_of_ble_eq_true rfl,Nat.le_of_ble_eq_true rfl⟩) (.cons (.ghost ⟨Nat.le_of_ble_eq_true rfl,Nat.le_of_ble_eq_true rfl⟩) .nil)))))) .nil)) ?_
              refine qas ?_
              have hr:=Option.some.inj h
              subst hr
              exact qaf (.inr rfl) [1,2] (objs':=[]) (new:=[.row 8 (([]:List SBus).map qah),.row 5 (([]:List STie).map qan)]) rfl (by simp) (by simp) rfl (by trivial) rfl rfl (by trivial) (fun _=>⟨by simp [V.flat,V.qb2,V.qay,D.flat],(qb8 (qd2 qjf _) (qb8 (qd2 qjv _) qai))⟩) ⟨rfl,rfl,rfl⟩
            · have h:=qch h hc112
              refine qav ?_
              refine qa9 (qa3 [0,1,2,3,4,5,6] (l:=[(2,.ptr 0 0),(5,.ptr 3 0),(6,.ptr 4 0)]) (objs:=[.box [.d (.cx .f32 (0:Nat) (0:Nat)),.d (.cx .f32 (0:Nat) (0:Nat)),.d (.cx .f32 (0:Nat) (0:Nat)),.row 1 v72.length 0 v72.length,.row 2 v73.length 0 v73.length],.row 8 (v72.map qah),.row 5 (v73.map qan),.box [.d (.str (bstr v94)),.d (.int .i64 v95),.d (.bool v96)],.box [.d (.cx .f32 x49.1.A.re x49.1.A.im),.d (.cx .f32 x49.1.B.re x49.1.B.im),.d (.cx .f32 x49.1.C.re x49.1.C.im),.row 5 v77.length 0 v77.length,.row 6 v97.length 0 v97.length],.row 8 (v77.map qah),.row 5 (v97.map qan)]) rfl (by simp) rfl (by trivial) ⟨rfl,trivial,rfl,trivial,rfl,trivial,trivial⟩) ?_
              exact hk104 () h
          · refine qa5 ?_
            refine qc9 ?_
            refine qa7 hτ [3] 0 rfl rfl rfl rfl rfl ?_
            refine qa7 hτ [3] 1 rfl rfl rfl rfl rfl ?_
            refine qa7 hτ [] 2 rfl rfl rfl rfl rfl ?_
            refine qga 41 rfl (fun hb114=>?_) (fun hb114=>?_)
            · have h:=qci h hb114
              refine qak 3 rfl rfl rfl ?_
              refine qak 4 rfl rfl rfl ?_
              refine qak 5 rfl rfl rfl ?_
              refine qa7 hτ [] 6 rfl rfl rfl rfl rfl ?_
              refine qa7 hτ [] 7 rfl rfl rfl rfl rfl ?_
              refine qak 8 rfl rfl rfl ?_
              refine qak 10 rfl rfl rfl ?_
              refine qak 11 rfl rfl rfl ?_
              refine qak 12 rfl rfl rfl ?_
              refine qak 13 rfl rfl rfl ?_
              refine qak 9 rfl rfl rfl ?_
              refine qak 14 rfl rfl rfl ?_
              refine qa7 hτ [] 15 rfl rfl rfl rfl rfl ?_
              refine qbp mixed (by kernel_rfl) ?_
              refine qa9 (qa3 [0,1,2,3,4,5,6] (l:=[(2,.ptr 0 0),(5,.ptr 3 0),(6,.ptr 4 0),(54,.d (.bool true))]) (objs:=[.box [.d (.cx .f32 (0:Nat) (0:Nat)),.d (.cx .f32 (0:Nat) (0:Nat)),.d (.cx .f32 (0:Nat) (0:Nat)),.row 1 v72.length 0 v72.length,.row 2 v73.length 0 v73.length],.row 8 (v72.map qah),.row 5 (v73.map qan),.box [.d (.str (bstr v94)),.d (.int .i64 v95),.d (.bool v96)],.box [.d (.cx .f32 x49.1.A.re x49.1.A.im),.d (.cx .f32 x49.1.B.re x49.1.B.im),.d (.cx .f32 x49.1.C.re x49.1.C.im),.row 5 v77.length 0 v77.length,.row 6 v97.length 0 v97.length],.row 8 (v77.map qah),.row 5 (v97.map qan)]) rfl (by simp) rfl (by trivial) ⟨rfl,trivial,rfl,trivial,rfl,trivial,rfl,trivial,trivial⟩) ?_
              exact hk113 true h
            · have h:=qch h hb114
              refine qa7 hτ [4] 3 rfl rfl rfl rfl rfl ?_
              refine qab h fun x115 hx115 h=>?_
              refine qbf hτ true [] [0,1,2,3,4,5,6] 4 rfl rfl rfl rfl (qap func83 rfl rfl) (qbg (qp2 (qbg rfl (qbg rfl (qbg rfl (qbg (qie (f:=qah) v77 rfl rfl rfl) (qbg (qie (f:=qan) v97 rfl rfl rfl) qht)))))) qht) rfl (by simp) ⟨⟨trivial,trivial,trivial,(qif (f:=qah) v77 rfl rfl rfl),(qif (f:=qan) v97 rfl rfl rfl)⟩,trivial⟩ (by trivial) (impl_ValidGrid_ok_fr n (qbi.mk (qck.mk x49.1 v77) v97) hx115) ⟨rfl,rfl,rfl,rfl,rfl,rfl,rfl,trivial⟩ ?_
              refine qa7 hτ [] 5 rfl rfl rfl rfl rfl ?_
              refine qa7 hτ [] 6 rfl rfl rfl rfl rfl ?_
              refine qa7 hτ [] 7 rfl rfl rfl rfl rfl ?_
              refine qga 46 rfl (fun hb116=>?_) (fun hb116=>?_)
              · have hb116:=qdd hb116
                have h:=qch h hb116
                refine qak 8 rfl rfl rfl ?_
                refine qak 10 rfl rfl rfl ?_
                refine qak 11 rfl rfl rfl ?_
                refine qak 12 rfl rfl rfl ?_
                refine qak 13 rfl rfl rfl ?_
                refine qak 9 rfl rfl rfl ?_
                refine qak 14 rfl rfl rfl ?_
                refine qa7 hτ [] 15 rfl rfl rfl rfl rfl ?_
                refine qbp mixed (by kernel_rfl) ?_
                refine qa9 (qa3 [0,1,2,3,4,5,6] (l:=[(2,.ptr 0 0),(5,.ptr 3 0),(6,.ptr 4 0),(54,.d (.bool true))]) (objs:=[.box [.d (.cx .f32 (0:Nat) (0:Nat)),.d (.cx .f32 (0:Nat) (0:Nat)),.d (.cx .f32 (0:Nat) (0:Nat)),.row 1 v72.length 0 v72.length,.row 2 v73.length 0 v73.length],.row 8 (v72.map qah),.row 5 (v73.map qan),.box [.d (.str (bstr v94)),.d (.int .i64 v95),.d (.bool v96)],.box [.d (.cx .f32 x49.1.A.re x49.1.A.im),.d (.cx .f32 x49.1.B.re x49.1.B.im),.d (.cx .f32 x49.1.C.re x49.1.C.im),.row 5 v77.length 0 v77.length,.row 6 v97.length 0 v97.length],.row 8 (v77.map qah),.row 5 (v97.map qan)]) rfl (by simp) rfl (by trivial) ⟨rfl,trivial,rfl,trivial,rfl,trivial,rfl,trivial,trivial⟩) ?_
                exact hk113 true h
              · have hb116:=qdc hb116
                have h:=qci h hb116
                refine qa7 hτ [4] 8 rfl rfl rfl rfl rfl ?_
                refine qa7 hτ [] 10 rfl rfl rfl rfl rfl ?_
                refine qa7 hτ [3] 11 rfl rfl rfl rfl rfl ?_
                refine qa7 hτ [3] 12 rfl rfl rfl rfl rfl ?_
                refine qbh h fun hg117 h=>?_
                refine qcz hτ (v:=.d (.str (bstr (sub s_ (0:Int) v95)))) [] 13 rfl rfl rfl rfl (Eq.trans rfl (qlc _ _ _)) hg117 ?_
                refine qab h fun x118 hx118 h=>?_
                refine qbf hτ true [] [0,1,2,3,4,5,6] 9 rfl rfl rfl rfl (qap func84 rfl rfl) (qbg (qp2 (qbg rfl (qbg rfl (qbg rfl (qbg (qie (f:=qah) v77 rfl rfl rfl) (qbg (qie (f:=qan) v97 rfl rfl rfl) qht)))))) qht) rfl (by simp) ⟨⟨trivial,trivial,trivial,(qif (f:=qah) v77 rfl rfl rfl),(qif (f:=qan) v97 rfl rfl rfl)⟩,trivial⟩ (by trivial) (impl_stored_ok_fr n (qbi.mk (qck.mk x49.1 v77) v97) hx118) ⟨rfl,rfl,rfl,rfl,rfl,rfl,rfl,trivial⟩ ?_
                refine qa7 hτ (v:=.d (.bool (!(decide (x118 = (sub s_ (0:Int) v95)))))) [] 14 rfl rfl rfl rfl (qsg _ _) ?_
                refine qa7 hτ [] 15 rfl rfl rfl rfl rfl ?_
                refine qbp mixed (by kernel_rfl) ?_
                refine qa9 (qa3 [0,1,2,3,4,5,6] (l:=[(2,.ptr 0 0),(5,.ptr 3 0),(6,.ptr 4 0),(54,.d (.bool (!(decide (x118 = (sub s_ (0:Int) v95))))))]) (objs:=[.box [.d (.cx .f32 (0:Nat) (0:Nat)),.d (.cx .f32 (0:Nat) (0:Nat)),.d (.cx .f32 (0:Nat) (0:Nat)),.row 1 v72.length 0 v72.length,.row 2 v73.length 0 v73.length],.row 8 (v72.map qah),.row 5 (v73.map qan),.box [.d (.str (bstr v94)),.d (.int .i64 v95),.d (.bool v96)],.box [.d (.cx .f32 x49.1.A.re x49.1.A.im),.d (.cx .f32 x49.1.B.re x49.1.B.im),.d (.cx .f32 x49.1.C.re x49.1.C.im),.row 5 v77.length 0 v77.length,.row 6 v97.length 0 v97.length],.row 8 (v77.map qah),.row 5 (v97.map qan)]) rfl (by simp) rfl (by trivial) ⟨rfl,trivial,rfl,trivial,rfl,trivial,rfl,trivial,trivial⟩) ?_
                exact hk113 (!(decide (x118 = (sub s_ (0:Int) v95)))) h
      · refine qa5 ?_
        refine qa5 ?_
        refine qa2 ?_
        refine qab h fun x120 hx120 h=>?_
        refine qam hτ false [3] rfl rfl rfl (qap func80 rfl rfl) rfl rfl (by simp) ⟨trivial,trivial,trivial⟩ (by trivial) (qbs n (qaz.mk v74 v75 v76) (1:Int) hx120) ?_
        rintro r0 o0 n0 ⟨rfl,rfl,rfl⟩ -
        refine qa0 hτ rfl rfl rfl ?_
        refine qa4 ?_
        refine qb6 ?_
        refine qe1 (ι:=Nat × Str × Int × Bool × List STie × Int) (fun (m135,v123,v124,v125,v126,v127)=>St.of [(0,.d (.str (bstr s_))),(2,.ptr 0 0),(5,.ptr 3 0),(6,.ptr 4 0),(29,.d (.int .i64 x120.1)),(30,.d (.int .i64 v127))] [.box [.d (.cx .f32 (0:Nat) (0:Nat)),.d (.cx .f32 (0:Nat) (0:Nat)),.d (.cx .f32 (0:Nat) (0:Nat)),.row 1 v72.length 0 v72.length,.row 2 v73.length 0 v73.length],.row 8 (v72.map qah),.row 5 (v73.map qan),.box [.d (.str (bstr v123)),.d (.int .i64 v124),.d (.bool v125)],.box [.d (.cx .f32 x49.1.A.re x49.1.A.im),.d (.cx .f32 x49.1.B.re x49.1.B.im),.d (.cx .f32 x49.1.C.re x49.1.C.im),.row 5 v77.length 0 v77.length,.row 6 v126.length 0 v126.length],.row 8 (v77.map qah),.row 5 (v126.map qan)] f34.ntmps 0) (fun (m135,v123,v124,v125,v126,v127)=>qbx n s_ x49 v77 x120 m135 v123 v124 v125 v126 v127 = some r) (fun x=>x.1) (n,x120.2.s,x120.2.at_,x120.2.short,v78,(0:Int)) h (qa3 [0,1,2,3,4,5,6] (l:=[(0,.d (.str (bstr s_))),(2,.ptr 0 0),(5,.ptr 3 0),(6,.ptr 4 0),(29,.d (.int .i64 x120.1)),(30,.d (.int .i64 (0:Int)))]) (objs:=[.box [.d (.cx .f32 (0:Nat) (0:Nat)),.d (.cx .f32 (0:Nat) (0:Nat)),.d (.cx .f32 (0:Nat) (0:Nat)),.row 1 v72.length 0 v72.length,.row 2 v73.length 0 v73.length],.row 8 (v72.map qah),.row 5 (v73.map qan),.box [.d (.str (bstr x120.2.s)),.d (.int .i64 x120.2.at_),.d (.bool x120.2.short)],.box [.d (.cx .f32 x49.1.A.re x49.1.A.im),.d (.cx .f32 x49.1.B.re x49.1.B.im),.d (.cx .f32 x49.1.C.re x49.1.C.im),.row 5 v77.length 0 v77.length,.row 6 v78.length 0 v78.length],.row 8 (v77.map qah),.row 5 (v78.map qan)]) rfl (by simp) rfl (by trivial) ⟨rfl,trivial,rfl,trivial,rfl,trivial,rfl,trivial,rfl,trivial,rfl,trivial,trivial⟩) ?_
        rintro ⟨m135,v123,v124,v125,v126,v127⟩ h
        replace h:qbx n s_ x49 v77 x120 m135 v123 v124 v125 v126 v127 = some r:=h
        rcases m135 with _ | m135
        · rw [qbx] at h;cases h
        rw [qbx] at h
        refine qa5 ?_
        refine qa2 ?_
        refine qa0 hτ rfl rfl rfl ?_
        refine qa4 ?_
        refine qa5 ?_
        refine qau rfl (fun hc137=>?_) (fun hc137=>?_)
        · have h:=if_t h hc137
          refine qav ?_
          refine qa5 ?_
          refine qb6 ?_
          refine qc9 ?_
          refine qa7 hτ [4] 0 rfl rfl rfl rfl rfl ?_
          refine qa7 hτ [4] 1 rfl rfl rfl rfl rfl ?_
          refine qab h fun x138 hx138 h=>?_
          refine qbf hτ false [3] [0,1,2,4,5,6] 2 rfl rfl rfl rfl (qap func82 rfl rfl) rfl rfl (by simp) ⟨trivial,trivial⟩ (by trivial) (impl_reader_tie_ok n (qaz.mk v123 v124 v125) hx138) ⟨rfl,rfl,rfl,rfl,rfl,rfl,trivial⟩ ?_
          refine qd3 hτ [0,1,2,3,4,5,6] 3 rfl rfl rfl rfl ⟨rfl,rfl,rfl,rfl,rfl,rfl,rfl,trivial⟩ ?_
          refine qbh h fun hg139 h=>?_
          refine qir hτ [0,1,2,3,4,5,7] 4 rfl rfl rfl (Eq.trans rfl (or_append (f:=qan) v126 [x138.1] rfl)) ⟨⟨rfl,Nat.le_of_ble_eq_true rfl⟩,qc8 _,rfl,rfl,hg139,by decide,(all1 rfl)⟩ ⟨rfl,rfl,rfl,rfl,rfl,rfl,rfl,trivial⟩ ?_
          refine qa7 hτ [4] 5 rfl rfl rfl rfl rfl ?_
          refine qd3 hτ [0,1,2,3,5,6,7] 6 rfl rfl rfl rfl ⟨rfl,rfl,rfl,rfl,rfl,rfl,rfl,trivial⟩ ?_
          refine qbp mixed (by kernel_rfl) ?_
          refine qa9 (qa3 [0,1,2,3,4,5,6] (l:=[(0,.d (.str (bstr s_))),(2,.ptr 0 0),(5,.ptr 3 0),(6,.ptr 4 0),(29,.d (.int .i64 x120.1)),(30,.d (.int .i64 v127))]) (objs:=[.box [.d (.cx .f32 (0:Nat) (0:Nat)),.d (.cx .f32 (0:Nat) (0:Nat)),.d (.cx .f32 (0:Nat) (0:Nat)),.row 1 v72.length 0 v72.length,.row 2 v73.length 0 v73.length],.row 8 (v72.map qah),.row 5 (v73.map qan),.box [.d (.str (bstr x138.2.s)),.d (.int .i64 x138.2.at_),.d (.bool x138.2.short)],.box [.d (.cx .f32 x49.1.A.re x49.1.A.im),.d (.cx .f32 x49.1.B.re x49.1.B.im),.d (.cx .f32 x49.1.C.re x49.1.C.im),.row 5 v77.length 0 v77.length,.row 6 ((v126 ++ [x138.1]).length) 0 ((v126 ++ [x138.1]).length)],.row 8 (v77.map qah),.row 5 ((v126 ++ [x138.1]).map qan)]) rfl (by simp) rfl (by trivial) ⟨rfl,trivial,rfl,trivial,rfl,trivial,rfl,trivial,rfl,trivial,rfl,trivial,trivial⟩) ?_
          refine qa2 ?_
          refine qa0 hτ rfl rfl rfl ?_
          refine qa0 hτ rfl rfl rfl ?_
          refine qa4 ?_
          exact ⟨(m135,x138.2.s,x138.2.at_,x138.2.short,(v126 ++ [x138.1]),(w64 (v127 + (1:Int)))),h,Nat.lt_succ_self m135,(qa3 [0,1,2,3,4,5,6] (l:=[(0,.d (.str (bstr s_))),(2,.ptr 0 0),(5,.ptr 3 0),(6,.ptr 4 0),(29,.d (.int .i64 x120.1)),(30,.d (.int .i64 (w64 (v127 + (1:Int)))))]) (objs:=[.box [.d (.cx .f32 (0:Nat) (0:Nat)),.d (.cx .f32 (0:Nat) (0:Nat)),.d (.cx .f32 (0:Nat) (0:Nat)),.row 1 v72.length 0 v72.length,.row 2 v73.length 0 v73.length],.row 8 (v72.map qah),.row 5 (v73.map qan),.box [.d (.str (bstr x138.2.s)),.d (.int .i64 x138.2.at_),.d (.bool x138.2.short)],.box [.d (.cx .f32 x49.1.A.re x49.1.A.im),.d (.cx .f32 x49.1.B.re x49.1.B.im),.d (.cx .f32 x49.1.C.re x49.1.C.im),.row 5 v77.length 0 v77.length,.row 6 ((v126 ++ [x138.1]).length) 0 ((v126 ++ [x138.1]).length)],.row 8 (v77.map qah),.row 5 ((v126 ++ [x138.1]).map qan)]) rfl (by simp) rfl (by trivial) ⟨rfl,trivial,rfl,trivial,rfl,trivial,rfl,trivial,rfl,trivial,rfl,trivial,trivial⟩)⟩
        · have h:=if_f h hc137
          refine qdv ?_
          refine qa9 (qa3 [0,1,2,3,4,5,6] (l:=[(0,.d (.str (bstr s_))),(2,.ptr 0 0),(5,.ptr 3 0),(6,.ptr 4 0)]) (objs:=[.box [.d (.cx .f32 (0:Nat) (0:Nat)),.d (.cx .f32 (0:Nat) (0:Nat)),.d (.cx .f32 (0:Nat) (0:Nat)),.row 1 v72.length 0 v72.length,.row 2 v73.length 0 v73.length],.row 8 (v72.map qah),.row 5 (v73.map qan),.box [.d (.str (bstr v123)),.d (.int .i64 v124),.d (.bool v125)],.box [.d (.cx .f32 x49.1.A.re x49.1.A.im),.d (.cx .f32 x49.1.B.re x49.1.B.im),.d (.cx .f32 x49.1.C.re x49.1.C.im),.row 5 v77.length 0 v77.length,.row 6 v126.length 0 v126.length],.row 8 (v77.map qah),.row 5 (v126.map qan)]) rfl (by simp) rfl (by trivial) ⟨rfl,trivial,rfl,trivial,rfl,trivial,rfl,trivial,trivial⟩) ?_
          exact hk119 (v123,v124,v125,v126) h
    · refine qa5 ?_
      refine qa5 ?_
      refine qa9 (qa3 [0,1,2] (l:=[(0,.d (.str (bstr s_))),(2,.ptr 0 0),(5,.ptr 1 0),(6,.ptr 2 0)]) (objs:=[.box [.d (.cx .f32 (0:Nat) (0:Nat)),.d (.cx .f32 (0:Nat) (0:Nat)),.d (.cx .f32 (0:Nat) (0:Nat)),.d (.nils),.d (.nils)],.box [.d (.str (bstr x49.2.s)),.d (.int .i64 x49.2.at_),.d (.bool x49.2.short)],.box [.d (.cx .f32 x49.1.A.re x49.1.A.im),.d (.cx .f32 x49.1.B.re x49.1.B.im),.d (.cx .f32 x49.1.C.re x49.1.C.im),.d (.nils),.d (.nils)]]) rfl (by simp) rfl (by trivial) ⟨rfl,trivial,rfl,trivial,rfl,trivial,rfl,trivial,trivial⟩) ?_
      refine qa2 ?_
      refine qab h fun x141 hx141 h=>?_
      refine qam hτ false [1] rfl rfl rfl (qap func80 rfl rfl) rfl rfl (by simp) ⟨trivial,trivial,trivial⟩ (by trivial) (qbs n x49.2 (1:Int) hx141) ?_
      rintro r0 o0 n0 ⟨rfl,rfl,rfl⟩ -
      refine qa0 hτ rfl rfl rfl ?_
      refine qa4 ?_
      refine qb6 ?_
      refine qe1 (ι:=Nat × List SBus × List STie × Str × Int × Bool × List SBus × List STie × Int) (fun (m163,v145,v146,v147,v148,v149,v150,v151,v152)=>St.of [(0,.d (.str (bstr s_))),(2,.ptr 0 0),(5,.ptr 3 0),(6,.ptr 4 0),(17,.d (.int .i64 x141.1)),(18,.d (.int .i64 v152))] [.box [.d (.cx .f32 (0:Nat) (0:Nat)),.d (.cx .f32 (0:Nat) (0:Nat)),.d (.cx .f32 (0:Nat) (0:Nat)),.row 1 v145.length 0 v145.length,.row 2 v146.length 0 v146.length],.row 8 (v145.map qah),.row 5 (v146.map qan),.box [.d (.str (bstr v147)),.d (.int .i64 v148),.d (.bool v149)],.box [.d (.cx .f32 x49.1.A.re x49.1.A.im),.d (.cx .f32 x49.1.B.re x49.1.B.im),.d (.cx .f32 x49.1.C.re x49.1.C.im),.row 5 v150.length 0 v150.length,.row 6 v151.length 0 v151.length],.row 8 (v150.map qah),.row 5 (v151.map qan)] f34.ntmps 0) (fun (m163,v145,v146,v147,v148,v149,v150,v151,v152)=>qbt n s_ x49 x141 m163 v145 v146 v147 v148 v149 v150 v151 v152 = some r) (fun x=>x.1) (n,([]:List SBus),([]:List STie),x141.2.s,x141.2.at_,x141.2.short,([]:List SBus),([]:List STie),(0:Int)) h (Weak.trans (Weak.trans (qa3 [0,1,2] (l:=[(0,.d (.str (bstr s_))),(2,.ptr 0 0),(5,.ptr 1 0),(6,.ptr 2 0),(17,.d (.int .i64 x141.1)),(18,.d (.int .i64 (0:Int)))]) (objs:=[.box [.d (.cx .f32 (0:Nat) (0:Nat)),.d (.cx .f32 (0:Nat) (0:Nat)),.d (.cx .f32 (0:Nat) (0:Nat)),.d (.nils),.d (.nils)],.box [.d (.str (bstr x141.2.s)),.d (.int .i64 x141.2.at_),.d (.bool x141.2.short)],.box [.d (.cx .f32 x49.1.A.re x49.1.A.im),.d (.cx .f32 x49.1.B.re x49.1.B.im),.d (.cx .f32 x49.1.C.re x49.1.C.im),.d (.nils),.d (.nils)]]) rfl (by simp) rfl (by trivial) ⟨rfl,trivial,rfl,trivial,rfl,trivial,rfl,trivial,rfl,trivial,rfl,trivial,trivial⟩) (qh4 [8,5,8,5] (l':=[(0,.d (.str (bstr s_))),(2,.ptr 0 0),(5,.ptr 1 0),(6,.ptr 2 0),(17,.d (.int .i64 x141.1)),(18,.d (.int .i64 (0:Int)))]) (objs':=[.box [.d (.cx .f32 (0:Nat) (0:Nat)),.d (.cx .f32 (0:Nat) (0:Nat)),.d (.cx .f32 (0:Nat) (0:Nat)),.row 3 (([]:List SBus).length) 0 (([]:List SBus).length),.row 4 (([]:List STie).length) 0 (([]:List STie).length)],.box [.d (.str (bstr x141.2.s)),.d (.int .i64 x141.2.at_),.d (.bool x141.2.short)],.box [.d (.cx .f32 x49.1.A.re x49.1.A.im),.d (.cx .f32 x49.1.B.re x49.1.B.im),.d (.cx .f32 x49.1.C.re x49.1.C.im),.row 5 (([]:List SBus).length) 0 (([]:List SBus).length),.row 6 (([]:List STie).length) 0 (([]:List STie).length)]]) (.cons (.c (.refl _)) (.cons (.c (.refl _)) (.cons (.c (.refl _)) (.cons (.c (.refl _)) (.cons (.c (.refl _)) (.cons (.c (.refl _)) .nil)))))) (.cons (.box (.cons (.refl _) (.cons (.refl _) (.cons (.refl _) (.cons (.ghost ⟨Nat.le_of_ble_eq_true rfl,Nat.le_of_ble_eq_true rfl⟩) (.cons (.ghost ⟨Nat.le_of_ble_eq_true rfl,Nat.le_of_ble_eq_true rfl⟩) .nil)))))) (.cons (.refl _) (.cons (.box (.cons (.refl _) (.cons (.refl _) (.cons (.refl _) (.cons (.ghost ⟨Nat.le_of_ble_eq_true rfl,Nat.le_of_ble_eq_true rfl⟩) (.cons (.ghost ⟨Nat.le_of_ble_eq_true rfl,Nat.le_of_ble_eq_true rfl⟩) .nil)))))) .nil))))) (qa3 [0,3,4,1,2,5,6] (l:=[(0,.d (.str (bstr s_))),(2,.ptr 0 0),(5,.ptr 3 0),(6,.ptr 4 0),(17,.d (.int .i64 x141.1)),(18,.d (.int .i64 (0:Int)))]) (objs:=[.box [.d (.cx .f32 (0:Nat) (0:Nat)),.d (.cx .f32 (0:Nat) (0:Nat)),.d (.cx .f32 (0:Nat) (0:Nat)),.row 1 (([]:List SBus).length) 0 (([]:List SBus).length),.row 2 (([]:List STie).length) 0 (([]:List STie).length)],.row 8 (([]:List SBus).map qah),.row 5 (([]:List STie).map qan),.box [.d (.str (bstr x141.2.s)),.d (.int .i64 x141.2.at_),.d (.bool x141.2.short)],.box [.d (.cx .f32 x49.1.A.re x49.1.A.im),.d (.cx .f32 x49.1.B.re x49.1.B.im),.d (.cx .f32 x49.1.C.re x49.1.C.im),.row 5 (([]:List SBus).length) 0 (([]:List SBus).length),.row 6 (([]:List STie).length) 0 (([]:List STie).length)],.row 8 (([]:List SBus).map qah),.row 5 (([]:List STie).map qan)]) rfl (by simp) rfl (by trivial) ⟨rfl,trivial,rfl,trivial,rfl,trivial,rfl,trivial,rfl,trivial,rfl,trivial,trivial⟩)) ?_
      rintro ⟨m163,v145,v146,v147,v148,v149,v150,v151,v152⟩ h
      replace h:qbt n s_ x49 x141 m163 v145 v146 v147 v148 v149 v150 v151 v152 = some r:=h
      rcases m163 with _ | m163
      · rw [qbt] at h;cases h
      rw [qbt] at h
      refine qa5 ?_
      refine qa2 ?_
      refine qa0 hτ rfl rfl rfl ?_
      refine qa4 ?_
      refine qa5 ?_
      refine qau rfl (fun hc165=>?_) (fun hc165=>?_)
      · have h:=if_t h hc165
        refine qav ?_
        refine qa5 ?_
        refine qb6 ?_
        refine qc9 ?_
        refine qa7 hτ [4] 0 rfl rfl rfl rfl rfl ?_
        refine qa7 hτ [4] 1 rfl rfl rfl rfl rfl ?_
        refine qa7 hτ [4] 2 rfl rfl rfl rfl rfl ?_
        refine qab h fun x166 hx166 h=>?_
        refine qbf hτ false [3] [0,1,2,4,5,6] 3 rfl rfl rfl rfl (qap func81 rfl rfl) rfl rfl (by simp) ⟨trivial,trivial⟩ (by trivial) (impl_reader_bus_ok n (qaz.mk v147 v148 v149) hx166) ⟨rfl,rfl,rfl,rfl,rfl,rfl,trivial⟩ ?_
        refine qd3 hτ [0,1,2,3,4,5,6] 4 rfl rfl rfl rfl ⟨rfl,rfl,rfl,rfl,rfl,rfl,rfl,trivial⟩ ?_
        refine qbh h fun hg167 h=>?_
        refine qir hτ [0,1,2,3,4,6,7] 5 rfl rfl rfl (Eq.trans rfl (or_append (f:=qah) v150 [x166.1] rfl)) ⟨⟨rfl,Nat.le_of_ble_eq_true rfl⟩,qc8 _,rfl,rfl,hg167,by decide,(all1 rfl)⟩ ⟨rfl,rfl,rfl,rfl,rfl,rfl,rfl,trivial⟩ ?_
        refine qa7 hτ [4] 6 rfl rfl rfl rfl rfl ?_
        refine qa7 hτ [4] 7 rfl rfl rfl rfl rfl ?_
        refine qd3 hτ [0,1,2,3,5,6,7] 8 rfl rfl rfl rfl ⟨rfl,rfl,rfl,rfl,rfl,rfl,rfl,trivial⟩ ?_
        refine qbp mixed (by kernel_rfl) ?_
        refine qa9 (qa3 [0,1,2,3,4,5,6] (l:=[(0,.d (.str (bstr s_))),(2,.ptr 0 0),(5,.ptr 3 0),(6,.ptr 4 0),(17,.d (.int .i64 x141.1)),(18,.d (.int .i64 v152))]) (objs:=[.box [.d (.cx .f32 (0:Nat) (0:Nat)),.d (.cx .f32 (0:Nat) (0:Nat)),.d (.cx .f32 (0:Nat) (0:Nat)),.row 1 v145.length 0 v145.length,.row 2 v146.length 0 v146.length],.row 8 (v145.map qah),.row 5 (v146.map qan),.box [.d (.str (bstr x166.2.s)),.d (.int .i64 x166.2.at_),.d (.bool x166.2.short)],.box [.d (.cx .f32 x49.1.A.re x49.1.A.im),.d (.cx .f32 x49.1.B.re x49.1.B.im),.d (.cx .f32 x49.1.C.re x49.1.C.im),.row 5 ((v150 ++ [x166.1]).length) 0 ((v150 ++ [x166.1]).length),.row 6 v151.length 0 v151.length],.row 8 ((v150 ++ [x166.1]).map qah),.row 5 (v151.map qan)]) rfl (by simp) rfl (by trivial) ⟨rfl,trivial,rfl,trivial,rfl,trivial,rfl,trivial,rfl,trivial,rfl,trivial,trivial⟩) ?_
        refine qa2 ?_
        refine qa0 hτ rfl rfl rfl ?_
        refine qa0 hτ rfl rfl rfl ?_
        refine qa4 ?_
        exact ⟨(m163,v145,v146,x166.2.s,x166.2.at_,x166.2.short,(v150 ++ [x166.1]),v151,(w64 (v152 + (1:Int)))),h,Nat.lt_succ_self m163,(qa3 [0,1,2,3,4,5,6] (l:=[(0,.d (.str (bstr s_))),(2,.ptr 0 0),(5,.ptr 3 0),(6,.ptr 4 0),(17,.d (.int .i64 x141.1)),(18,.d (.int .i64 (w64 (v152 + (1:Int)))))]) (objs:=[.box [.d (.cx .f32 (0:Nat) (0:Nat)),.d (.cx .f32 (0:Nat) (0:Nat)),.d (.cx .f32 (0:Nat) (0:Nat)),.row 1 v145.length 0 v145.length,.row 2 v146.length 0 v146.length],.row 8 (v145.map qah),.row 5 (v146.map qan),.box [.d (.str (bstr x166.2.s)),.d (.int .i64 x166.2.at_),.d (.bool x166.2.short)],.box [.d (.cx .f32 x49.1.A.re x49.1.A.im),.d (.cx .f32 x49.1.B.re x49.1.B.im),.d (.cx .f32 x49.1.C.re x49.1.C.im),.row 5 ((v150 ++ [x166.1]).length) 0 ((v150 ++ [x166.1]).length),.row 6 v151.length 0 v151.length],.row 8 ((v150 ++ [x166.1]).map qah),.row 5 (v151.map qan)]) rfl (by simp) rfl (by trivial) ⟨rfl,trivial,rfl,trivial,rfl,trivial,rfl,trivial,rfl,trivial,rfl,trivial,trivial⟩)⟩
      · have h:=if_f h hc165
        refine qdv ?_
        refine qa9 (qa3 [0,1,2,3,4,5,6] (l:=[(0,.d (.str (bstr s_))),(2,.ptr 0 0),(5,.ptr 3 0),(6,.ptr 4 0)]) (objs:=[.box [.d (.cx .f32 (0:Nat) (0:Nat)),.d (.cx .f32 (0:Nat) (0:Nat)),.d (.cx .f32 (0:Nat) (0:Nat)),.row 1 v145.length 0 v145.length,.row 2 v146.length 0 v146.length],.row 8 (v145.map qah),.row 5 (v146.map qan),.box [.d (.str (bstr v147)),.d (.int .i64 v148),.d (.bool v149)],.box [.d (.cx .f32 x49.1.A.re x49.1.A.im),.d (.cx .f32 x49.1.B.re x49.1.B.im),.d (.cx .f32 x49.1.C.re x49.1.C.im),.row 5 v150.length 0 v150.length,.row 6 v151.length 0 v151.length],.row 8 (v150.map qah),.row 5 (v151.map qan)]) rfl (by simp) rfl (by trivial) ⟨rfl,trivial,rfl,trivial,rfl,trivial,rfl,trivial,trivial⟩) ?_
        exact hk140 (v145,v146,v147,v148,v149,v150,v151) h
theorem impl_loadGrid_ok_fr (n:Nat) (s_:Str) {r:qbi × Int × Bool} (h:qcw n s_ = some r):qb5 prog true 34 [.d (.str (bstr s_))] [] (fun v o new=>v = .tup [.agg [.d (.cx .f32 r.1.qa1.Source.A.re r.1.qa1.Source.A.im),.d (.cx .f32 r.1.qa1.Source.B.re r.1.qa1.Source.B.im),.d (.cx .f32 r.1.qa1.Source.C.re r.1.qa1.Source.C.im),.row 0 r.1.qa1.qac.length 0 r.1.qa1.qac.length,.row 1 r.1.Ties.length 0 r.1.Ties.length],.d (.int .i64 r.2.1),.d (.bool r.2.2)]∧o = []∧new = [.row 8 (r.1.qa1.qac.map qah),.row 5 (r.1.Ties.map qan)]):=impl_loadGrid_ok_fr0 true n s_ h
def qi4 (n:Nat) (flow_:qbb):Option (Str × Bool):=qu7 (qb7 n) (qcb n) flow_.qad flow_.qae flow_.Rounds flow_.qcj
theorem m_impl_FlowBytes_in (n:Nat) (k lo hi:Int):qdb n k lo hi = some (decide (lo ≤ k∧k ≤ hi)):=by
  unfold qdb
  by_cases h:k ≥ lo
  · rw [if_pos h];congr 1;simp only [decide_eq_decide];exact ⟨fun g=>⟨h,g⟩,fun g=>g.2⟩
  · rw [if_neg h];congr 1;exact (decide_eq_false fun g=>h g.1).symm
theorem impl_FlowBytes_ok_fr (n:Nat) (flow_:qbb) {r:Str × Bool} (h:qi4 n flow_ = some r):qb5 prog true 92 [.agg [.d (.sl false (flow_.qad.map qa8)),.d (.sl false (flow_.qae.map qa8)),.d (.int .i64 flow_.Rounds),.d (.bool flow_.qcj)]] [] (fun v o new=>v = .tup [.d (.str (bstr r.1)),.d (.bool r.2)]∧o = []∧new = []):=flow_does (fun _=>rfl) (fun k lo hi=>qgp n k lo hi (m_impl_FlowBytes_in n k lo hi)) (fun a b r h=>qhd n a b h) (fun a r h=>qkd n a h) h
def qf2 (n:Nat) (x37:Int × qaz) (x38:Int × qaz) (v66:List qaa) (v67:List qaa):Option (qbb × Bool) :=
  some ((qbb.mk v66 v67 x37.1 (decide (x38.1 = (1:Int)))),true)
def qe7 (n:Nat) (x37:Int × qaz) (x38:Int × qaz) (v66:List qaa) (v67:List qaa) (v75:Bool):Option (qbb × Bool) :=
  if v75 = true then
    some ((qbb.mk ([]:List qaa) ([]:List qaa) (0:Int) false),false)
  else
    qf2 n x37 x38 v66 v67
def qe6 (n:Nat) (s_:Str) (x37:Int × qaz) (x38:Int × qaz) (v64:List qaa) (v65:List qaa) (v66:List qaa) (v67:List qaa):Option (qbb × Bool) :=
  (qi4 n (qbb.mk v66 v67 x37.1 (decide (x38.1 = (1:Int))))).bind fun x72 =>
  if x72.2 = true then
    qe7 n x37 x38 v66 v67 (!(decide (x72.1 = s_)))
  else
    qe7 n x37 x38 v66 v67 true
def qcn (n:Nat) (s_:Str) (buses_:Int) (x37:Int × qaz) (x38:Int × qaz):Nat→List qaa→List qaa→Str→Int→Bool→List qaa→List qaa→Int→Option (qbb × Bool)
  | 0,_,_,_,_,_,_,_,_=>none
  | m105 + 1,v85,v86,v87,v88,v89,v90,v91,v92 =>
    if v92 < buses_ then
      (qb9 n (qaz.mk v87 v88 v89)).bind fun x108 =>
      grd (room (v90.length + 1) 24) <|
      (qb9 n x108.2).bind fun x110 =>
      grd (room (v91.length + 1) 24) <|
      (qcn n s_ buses_ x37 x38 m105) v85 v86 x110.2.s x110.2.at_ x110.2.short (v90 ++ [x108.1]) (v91 ++ [x110.1]) (w64 (v92 + (1:Int)))
    else
      qe6 n s_ x37 x38 v85 v86 v90 v91
def qf1 (n:Nat) (s_:Str) (buses_:Int):Option (qbb × Bool) :=
  (qal n (qaz.mk s_ (0:Int) false) (1:Int)).bind fun x37 =>
  (qal n x37.2 (1:Int)).bind fun x38 =>
  qcn n s_ buses_ x37 x38 n ([]:List qaa) ([]:List qaa) x38.2.s x38.2.at_ x38.2.short ([]:List qaa) ([]:List qaa) (0:Int)
def qd4 (n:Nat) (s_:Str) (buses_:Int) (v116:Bool):Option (qbb × Bool) :=
  if v116 = true then
    some ((qbb.mk ([]:List qaa) ([]:List qaa) (0:Int) false),false)
  else
    qf1 n s_ buses_
def qdi (n:Nat) (s_:Str) (buses_:Int):Option (qbb × Bool) :=
  (qdb n buses_ (1:Int) (16:Int)).bind fun x119 =>
  if x119 = true then
    qd4 n s_ buses_ (!(decide ((s_.length:Int) = (w64 ((2:Int) + (w64 ((48:Int) * buses_)))))))
  else
    qd4 n s_ buses_ true
theorem impl_FlowOfBytes_ok_fr0 (fr:Bool) (n:Nat) (s_:Str) (buses_:Int) {r:qbb × Bool} (h:qdi n s_ buses_ = some r):qb5 prog fr 42 [.d (.str (bstr s_)),.d (.int .i64 buses_)] [] (fun v o new=>v = .tup [.agg [.row 0 r.1.qad.length 0 r.1.qad.length,.row 1 r.1.qae.length 0 r.1.qae.length,.d (.int .i64 r.1.Rounds),.d (.bool r.1.qcj)],.d (.bool r.2)]∧o = []∧new = [.row 3 (r.1.qad.map qa8),.row 3 (r.1.qae.map qa8)]):=by
  refine qar hτ func42 rfl (by simp) (by simp) ?_
  unfold qdi at h
  refine qa5 ?_
  refine qa2 ?_
  refine qaq hτ rfl rfl rfl ?_
  refine qa0 hτ rfl rfl rfl ?_
  refine qa4 ?_
  refine qd1 (ι:=Unit) (fun _=>St.of [(0,.d (.str (bstr s_))),(1,.d (.int .i64 buses_)),(4,.ptr 0 0)] [.box [.d (.nils),.d (.nils),.d (.int .i64 (0:Int)),.d (.bool false)]] f42.ntmps 0) (fun _=>qf1 n s_ buses_ = some r) ?_ (fun hk112=>?_)
  · rintro ⟨⟩ h
    replace h:qf1 n s_ buses_ = some r:=h
    unfold qf1 at h
    refine qa5 ?_
    refine qa2 ?_
    refine qa0 hτ rfl rfl rfl ?_
    refine qa0 hτ rfl rfl rfl ?_
    refine qaq hτ rfl rfl rfl ?_
    refine qaq hτ rfl rfl rfl ?_
    refine qa4 ?_
    refine qa5 ?_
    refine qa2 ?_
    refine qab h fun x37 hx37 h=>?_
    refine qam hτ false [1] rfl rfl rfl (qap func80 rfl rfl) rfl rfl (by simp) ⟨trivial,trivial,trivial⟩ (by trivial) (qbs n (qaz.mk s_ (0:Int) false) (1:Int) hx37) ?_
    rintro r0 o0 n0 ⟨rfl,rfl,rfl⟩ -
    refine qa0 hτ rfl rfl rfl ?_
    refine qaq hτ rfl rfl rfl ?_
    refine qaq hτ rfl rfl rfl ?_
    refine qa4 ?_
    refine qa5 ?_
    refine qa9 (qa3 [0,1,2] (l:=[(0,.d (.str (bstr s_))),(1,.d (.int .i64 buses_)),(4,.ptr 0 0),(6,.ptr 1 0),(7,.ptr 2 0)]) (objs:=[.box [.d (.nils),.d (.nils),.d (.int .i64 (0:Int)),.d (.bool false)],.box [.d (.str (bstr x37.2.s)),.d (.int .i64 x37.2.at_),.d (.bool x37.2.short)],.box [.d (.nils),.d (.nils),.d (.int .i64 x37.1),.d (.bool false)]]) rfl (by simp) rfl (by trivial) ⟨rfl,trivial,rfl,trivial,rfl,trivial,rfl,trivial,rfl,trivial,trivial⟩) ?_
    refine qa2 ?_
    refine qab h fun x38 hx38 h=>?_
    refine qam hτ false [1] rfl rfl rfl (qap func80 rfl rfl) rfl rfl (by simp) ⟨trivial,trivial,trivial⟩ (by trivial) (qbs n x37.2 (1:Int) hx38) ?_
    rintro r0 o0 n0 ⟨rfl,rfl,rfl⟩ -
    refine qa0 hτ (v:=.d (.bool (decide (x38.1 = (1:Int))))) rfl rfl (qom _ _) ?_
    refine qa0 hτ rfl rfl rfl ?_
    refine qaq hτ rfl rfl rfl ?_
    refine qa4 ?_
    refine qd1 (ι:=List qaa × List qaa × List qaa × List qaa) (fun (v64,v65,v66,v67)=>St.of [(0,.d (.str (bstr s_))),(4,.ptr 0 0),(7,.ptr 3 0)] [.box [.row 1 v64.length 0 v64.length,.row 2 v65.length 0 v65.length,.d (.int .i64 (0:Int)),.d (.bool false)],.row 3 (v64.map qa8),.row 3 (v65.map qa8),.box [.row 4 v66.length 0 v66.length,.row 5 v67.length 0 v67.length,.d (.int .i64 x37.1),.d (.bool (decide (x38.1 = (1:Int))))],.row 3 (v66.map qa8),.row 3 (v67.map qa8)] f42.ntmps 0) (fun (v64,v65,v66,v67)=>qe6 n s_ x37 x38 v64 v65 v66 v67 = some r) ?_ (fun hk79=>?_)
    · rintro ⟨v64,v65,v66,v67⟩ h
      replace h:qe6 n s_ x37 x38 v64 v65 v66 v67 = some r:=h
      unfold qe6 at h
      refine qd1 (ι:=Unit) (fun _=>St.of [(4,.ptr 0 0),(7,.ptr 3 0)] [.box [.row 1 v64.length 0 v64.length,.row 2 v65.length 0 v65.length,.d (.int .i64 (0:Int)),.d (.bool false)],.row 3 (v64.map qa8),.row 3 (v65.map qa8),.box [.row 4 v66.length 0 v66.length,.row 5 v67.length 0 v67.length,.d (.int .i64 x37.1),.d (.bool (decide (x38.1 = (1:Int))))],.row 3 (v66.map qa8),.row 3 (v67.map qa8)] f42.ntmps 0) (fun _=>qf2 n x37 x38 v66 v67 = some r) ?_ (fun hk71=>?_)
      · rintro ⟨⟩ h
        replace h:qf2 n x37 x38 v66 v67 = some r:=h
        unfold qf2 at h
        refine qa5 ?_
        refine qa2 ?_
        refine qa0 hτ rfl rfl rfl ?_
        refine qaq hτ rfl rfl rfl ?_
        refine qa0 hτ rfl rfl rfl ?_
        refine qa4 ?_
        refine qa9 (qa3 [0,4,5] (l:=[(4,.ptr 0 0),(5,.d (.bool true))]) (objs:=[.box [.row 1 v66.length 0 v66.length,.row 2 v67.length 0 v67.length,.d (.int .i64 x37.1),.d (.bool (decide (x38.1 = (1:Int))))],.row 3 (v66.map qa8),.row 3 (v67.map qa8)]) rfl (by simp) rfl (by trivial) ⟨rfl,trivial,rfl,trivial,trivial⟩) ?_
        refine qas ?_
        have hr:=Option.some.inj h
        subst hr
        exact qaf (.inr rfl) [1,2] (objs':=[]) (new:=[.row 3 (v66.map qa8),.row 3 (v67.map qa8)]) rfl (by simp) (by simp) rfl (by trivial) rfl rfl (by trivial) (fun _=>⟨by simp [V.flat,V.qb2,V.qay,D.flat],(qb8 (qd2 qca _) (qb8 (qd2 qca _) qai))⟩) ⟨rfl,rfl,rfl⟩
      · refine qa5 ?_
        refine qa5 ?_
        refine qa2 ?_
        refine qa0 hτ rfl rfl rfl ?_
        refine qbn (qa3 [0,1,2,3,4,5] (l:=[(0,.d (.str (bstr s_))),(4,.ptr 0 0),(7,.ptr 3 0),(46,.agg [.row 4 v66.length 0 v66.length,.row 5 v67.length 0 v67.length,.d (.int .i64 x37.1),.d (.bool (decide (x38.1 = (1:Int))))])]) (objs:=[.box [.row 1 v64.length 0 v64.length,.row 2 v65.length 0 v65.length,.d (.int .i64 (0:Int)),.d (.bool false)],.row 3 (v64.map qa8),.row 3 (v65.map qa8),.box [.row 4 v66.length 0 v66.length,.row 5 v67.length 0 v67.length,.d (.int .i64 x37.1),.d (.bool (decide (x38.1 = (1:Int))))],.row 3 (v66.map qa8),.row 3 (v67.map qa8)]) rfl (by simp) rfl (by trivial) ⟨rfl,trivial,rfl,trivial,rfl,trivial,rfl,(by trivial),trivial⟩) ?_
        refine qab h fun x72 hx72 h=>?_
        refine qam hτ true [] rfl rfl rfl (qap func92 rfl rfl) (qbg (qp2 (qbg (qie (f:=qa8) v66 rfl rfl rfl) (qbg (qie (f:=qa8) v67 rfl rfl rfl) (qbg rfl (qbg rfl qht))))) qht) rfl (by simp) ⟨⟨(qif (f:=qa8) v66 rfl rfl rfl),(qif (f:=qa8) v67 rfl rfl rfl),trivial,trivial⟩,trivial⟩ (by trivial) (impl_FlowBytes_ok_fr n (qbb.mk v66 v67 x37.1 (decide (x38.1 = (1:Int)))) hx72) ?_
        rintro r0 o0 n0 ⟨rfl,rfl,rfl⟩ -
        refine qa0 hτ rfl rfl rfl ?_
        refine qa0 hτ rfl rfl rfl ?_
        refine qa0 hτ rfl rfl rfl ?_
        refine qa0 hτ rfl rfl rfl ?_
        refine qa0 hτ rfl rfl rfl ?_
        refine qa4 ?_
        refine qd1 (ι:=Bool) (fun v75=>St.of [(4,.ptr 0 0),(7,.ptr 3 0),(56,.d (.bool v75))] [.box [.row 1 v64.length 0 v64.length,.row 2 v65.length 0 v65.length,.d (.int .i64 (0:Int)),.d (.bool false)],.row 3 (v64.map qa8),.row 3 (v65.map qa8),.box [.row 4 v66.length 0 v66.length,.row 5 v67.length 0 v67.length,.d (.int .i64 x37.1),.d (.bool (decide (x38.1 = (1:Int))))],.row 3 (v66.map qa8),.row 3 (v67.map qa8)] f42.ntmps 0) (fun v75=>qe7 n x37 x38 v66 v67 v75 = some r) ?_ (fun hk77=>?_)
        · rintro v75 h
          replace h:qe7 n x37 x38 v66 v67 v75 = some r:=h
          unfold qe7 at h
          refine qau rfl (fun hc76=>?_) (fun hc76=>?_)
          · have h:=qci h hc76
            refine qa5 ?_
            refine qa2 ?_
            refine qa0 hτ rfl rfl rfl ?_
            refine qaq hτ rfl rfl rfl ?_
            refine qa0 hτ rfl rfl rfl ?_
            refine qa4 ?_
            refine qa9 (qa3 [0] (l:=[(4,.ptr 0 0),(5,.d (.bool false))]) (objs:=[.box [.d (.nils),.d (.nils),.d (.int .i64 (0:Int)),.d (.bool false)]]) rfl (by simp) rfl (by trivial) ⟨rfl,trivial,rfl,trivial,trivial⟩) ?_
            refine qa9 (qh4 [3,3] (l':=[(4,.ptr 0 0),(5,.d (.bool false))]) (objs':=[.box [.row 1 (([]:List qaa).length) 0 (([]:List qaa).length),.row 2 (([]:List qaa).length) 0 (([]:List qaa).length),.d (.int .i64 (0:Int)),.d (.bool false)]]) (.cons (.c (.refl _)) (.cons (.c (.refl _)) .nil)) (.cons (.box (.cons (.ghost ⟨Nat.le_of_ble_eq_true rfl,Nat.le_of_ble_eq_true rfl⟩) (.cons (.ghost ⟨Nat.le_of_ble_eq_true rfl,Nat.le_of_ble_eq_true rfl⟩) (.cons (.refl _) (.cons (.refl _) .nil))))) .nil)) ?_
            refine qas ?_
            have hr:=Option.some.inj h
            subst hr
            exact qaf (.inr rfl) [1,2] (objs':=[]) (new:=[.row 3 (([]:List qaa).map qa8),.row 3 (([]:List qaa).map qa8)]) rfl (by simp) (by simp) rfl (by trivial) rfl rfl (by trivial) (fun _=>⟨by simp [V.flat,V.qb2,V.qay,D.flat],(qb8 (qd2 qca _) (qb8 (qd2 qca _) qai))⟩) ⟨rfl,rfl,rfl⟩
          · have h:=qch h hc76
            refine qav ?_
            refine qa9 (qa3 [0,1,2,3,4,5] (l:=[(4,.ptr 0 0),(7,.ptr 3 0)]) (objs:=[.box [.row 1 v64.length 0 v64.length,.row 2 v65.length 0 v65.length,.d (.int .i64 (0:Int)),.d (.bool false)],.row 3 (v64.map qa8),.row 3 (v65.map qa8),.box [.row 4 v66.length 0 v66.length,.row 5 v67.length 0 v67.length,.d (.int .i64 x37.1),.d (.bool (decide (x38.1 = (1:Int))))],.row 3 (v66.map qa8),.row 3 (v67.map qa8)]) rfl (by simp) rfl (by trivial) ⟨rfl,trivial,rfl,trivial,trivial⟩) ?_
            exact hk71 () h
        · refine qa5 ?_
          refine qa9 (qa3 [0,1,2,3,4,5] (l:=[(0,.d (.str (bstr s_))),(4,.ptr 0 0),(7,.ptr 3 0),(8,.d (.str (bstr x72.1))),(9,.d (.bool x72.2))]) (objs:=[.box [.row 1 v64.length 0 v64.length,.row 2 v65.length 0 v65.length,.d (.int .i64 (0:Int)),.d (.bool false)],.row 3 (v64.map qa8),.row 3 (v65.map qa8),.box [.row 4 v66.length 0 v66.length,.row 5 v67.length 0 v67.length,.d (.int .i64 x37.1),.d (.bool (decide (x38.1 = (1:Int))))],.row 3 (v66.map qa8),.row 3 (v67.map qa8)]) rfl (by simp) rfl (by trivial) ⟨rfl,trivial,rfl,trivial,rfl,trivial,rfl,trivial,rfl,trivial,trivial⟩) ?_
          refine qa2 ?_
          refine qa0 hτ rfl rfl rfl ?_
          refine qa0 hτ rfl rfl rfl ?_
          refine qa0 hτ rfl rfl rfl ?_
          refine qcm 52 rfl (fun hb78=>?_) (fun hb78=>?_)
          · have hb78:=qdd hb78
            have h:=qch h hb78
            refine qao rfl rfl ?_
            refine qao rfl rfl ?_
            refine qao rfl rfl ?_
            refine qa0 hτ rfl rfl rfl ?_
            refine qa4 ?_
            refine qa9 (qa3 [0,1,2,3,4,5] (l:=[(4,.ptr 0 0),(7,.ptr 3 0),(56,.d (.bool true))]) (objs:=[.box [.row 1 v64.length 0 v64.length,.row 2 v65.length 0 v65.length,.d (.int .i64 (0:Int)),.d (.bool false)],.row 3 (v64.map qa8),.row 3 (v65.map qa8),.box [.row 4 v66.length 0 v66.length,.row 5 v67.length 0 v67.length,.d (.int .i64 x37.1),.d (.bool (decide (x38.1 = (1:Int))))],.row 3 (v66.map qa8),.row 3 (v67.map qa8)]) rfl (by simp) rfl (by trivial) ⟨rfl,trivial,rfl,trivial,rfl,trivial,trivial⟩) ?_
            exact hk77 true h
          · have hb78:=qdc hb78
            have h:=qci h hb78
            refine qa0 hτ rfl rfl rfl ?_
            refine qa0 hτ rfl rfl rfl ?_
            refine qa0 hτ (v:=.d (.bool (!(decide (x72.1 = s_))))) rfl rfl (qsg _ _) ?_
            refine qa0 hτ rfl rfl rfl ?_
            refine qa4 ?_
            refine qa9 (qa3 [0,1,2,3,4,5] (l:=[(4,.ptr 0 0),(7,.ptr 3 0),(56,.d (.bool (!(decide (x72.1 = s_)))))]) (objs:=[.box [.row 1 v64.length 0 v64.length,.row 2 v65.length 0 v65.length,.d (.int .i64 (0:Int)),.d (.bool false)],.row 3 (v64.map qa8),.row 3 (v65.map qa8),.box [.row 4 v66.length 0 v66.length,.row 5 v67.length 0 v67.length,.d (.int .i64 x37.1),.d (.bool (decide (x38.1 = (1:Int))))],.row 3 (v66.map qa8),.row 3 (v67.map qa8)]) rfl (by simp) rfl (by trivial) ⟨rfl,trivial,rfl,trivial,rfl,trivial,trivial⟩) ?_
            exact hk77 (!(decide (x72.1 = s_))) h
    · refine qa5 ?_
      refine qa5 ?_
      refine qa2 ?_
      refine qa0 hτ rfl rfl rfl ?_
      refine qa0 hτ rfl rfl rfl ?_
      refine qa4 ?_
      refine qb6 ?_
      refine qe1 (ι:=Nat × List qaa × List qaa × Str × Int × Bool × List qaa × List qaa × Int) (fun (m105,v85,v86,v87,v88,v89,v90,v91,v92)=>St.of [(0,.d (.str (bstr s_))),(4,.ptr 0 0),(6,.ptr 3 0),(7,.ptr 4 0),(29,.d (.int .i64 buses_)),(30,.d (.int .i64 v92))] [.box [.row 1 v85.length 0 v85.length,.row 2 v86.length 0 v86.length,.d (.int .i64 (0:Int)),.d (.bool false)],.row 3 (v85.map qa8),.row 3 (v86.map qa8),.box [.d (.str (bstr v87)),.d (.int .i64 v88),.d (.bool v89)],.box [.row 5 v90.length 0 v90.length,.row 6 v91.length 0 v91.length,.d (.int .i64 x37.1),.d (.bool (decide (x38.1 = (1:Int))))],.row 3 (v90.map qa8),.row 3 (v91.map qa8)] f42.ntmps 0) (fun (m105,v85,v86,v87,v88,v89,v90,v91,v92)=>qcn n s_ buses_ x37 x38 m105 v85 v86 v87 v88 v89 v90 v91 v92 = some r) (fun x=>x.1) (n,([]:List qaa),([]:List qaa),x38.2.s,x38.2.at_,x38.2.short,([]:List qaa),([]:List qaa),(0:Int)) h (Weak.trans (Weak.trans (qa3 [0,1,2] (l:=[(0,.d (.str (bstr s_))),(4,.ptr 0 0),(6,.ptr 1 0),(7,.ptr 2 0),(29,.d (.int .i64 buses_)),(30,.d (.int .i64 (0:Int)))]) (objs:=[.box [.d (.nils),.d (.nils),.d (.int .i64 (0:Int)),.d (.bool false)],.box [.d (.str (bstr x38.2.s)),.d (.int .i64 x38.2.at_),.d (.bool x38.2.short)],.box [.d (.nils),.d (.nils),.d (.int .i64 x37.1),.d (.bool (decide (x38.1 = (1:Int))))]]) rfl (by simp) rfl (by trivial) ⟨rfl,trivial,rfl,trivial,rfl,trivial,rfl,trivial,rfl,trivial,rfl,trivial,trivial⟩) (qh4 [3,3,3,3] (l':=[(0,.d (.str (bstr s_))),(4,.ptr 0 0),(6,.ptr 1 0),(7,.ptr 2 0),(29,.d (.int .i64 buses_)),(30,.d (.int .i64 (0:Int)))]) (objs':=[.box [.row 3 (([]:List qaa).length) 0 (([]:List qaa).length),.row 4 (([]:List qaa).length) 0 (([]:List qaa).length),.d (.int .i64 (0:Int)),.d (.bool false)],.box [.d (.str (bstr x38.2.s)),.d (.int .i64 x38.2.at_),.d (.bool x38.2.short)],.box [.row 5 (([]:List qaa).length) 0 (([]:List qaa).length),.row 6 (([]:List qaa).length) 0 (([]:List qaa).length),.d (.int .i64 x37.1),.d (.bool (decide (x38.1 = (1:Int))))]]) (.cons (.c (.refl _)) (.cons (.c (.refl _)) (.cons (.c (.refl _)) (.cons (.c (.refl _)) (.cons (.c (.refl _)) (.cons (.c (.refl _)) .nil)))))) (.cons (.box (.cons (.ghost ⟨Nat.le_of_ble_eq_true rfl,Nat.le_of_ble_eq_true rfl⟩) (.cons (.ghost ⟨Nat.le_of_ble_eq_true rfl,Nat.le_of_ble_eq_true rfl⟩) (.cons (.refl _) (.cons (.refl _) .nil))))) (.cons (.refl _) (.cons (.box (.cons (.ghost ⟨Nat.le_of_ble_eq_true rfl,Nat.le_of_ble_eq_true rfl⟩) (.cons (.ghost ⟨Nat.le_of_ble_eq_true rfl,Nat.le_of_ble_eq_true rfl⟩) (.cons (.refl _) (.cons (.refl _) .nil))))) .nil))))) (qa3 [0,3,4,1,2,5,6] (l:=[(0,.d (.str (bstr s_))),(4,.ptr 0 0),(6,.ptr 3 0),(7,.ptr 4 0),(29,.d (.int .i64 buses_)),(30,.d (.int .i64 (0:Int)))]) (objs:=[.box [.row 1 (([]:List qaa).length) 0 (([]:List qaa).length),.row 2 (([]:List qaa).length) 0 (([]:List qaa).length),.d (.int .i64 (0:Int)),.d (.bool false)],.row 3 (([]:List qaa).map qa8),.row 3 (([]:List qaa).map qa8),.box [.d (.str (bstr x38.2.s)),.d (.int .i64 x38.2.at_),.d (.bool x38.2.short)],.box [.row 5 (([]:List qaa).length) 0 (([]:List qaa).length),.row 6 (([]:List qaa).length) 0 (([]:List qaa).length),.d (.int .i64 x37.1),.d (.bool (decide (x38.1 = (1:Int))))],.row 3 (([]:List qaa).map qa8),.row 3 (([]:List qaa).map qa8)]) rfl (by simp) rfl (by trivial) ⟨rfl,trivial,rfl,trivial,rfl,trivial,rfl,trivial,rfl,trivial,rfl,trivial,trivial⟩)) ?_
      rintro ⟨m105,v85,v86,v87,v88,v89,v90,v91,v92⟩ h
      replace h:qcn n s_ buses_ x37 x38 m105 v85 v86 v87 v88 v89 v90 v91 v92 = some r:=h
      rcases m105 with _ | m105
      · rw [qcn] at h;cases h
      rw [qcn] at h
      refine qa5 ?_
      refine qa2 ?_
      refine qa0 hτ rfl rfl rfl ?_
      refine qa4 ?_
      refine qa5 ?_
      refine qau rfl (fun hc107=>?_) (fun hc107=>?_)
      · have h:=if_t h hc107
        refine qav ?_
        refine qa5 ?_
        refine qb6 ?_
        refine qa5 ?_
        refine qc9 ?_
        refine qa7 hτ [4] 0 rfl rfl rfl rfl rfl ?_
        refine qa7 hτ [4] 1 rfl rfl rfl rfl rfl ?_
        refine qab h fun x108 hx108 h=>?_
        refine qbf hτ false [3] [0,1,2,4,5,6] 2 rfl rfl rfl rfl (qap func79 rfl rfl) rfl rfl (by simp) ⟨trivial,trivial⟩ (by trivial) (qgc n (qaz.mk v87 v88 v89) hx108) ⟨rfl,rfl,rfl,rfl,rfl,rfl,trivial⟩ ?_
        refine qd3 hτ [0,1,2,3,4,5,6] 3 rfl rfl rfl rfl ⟨rfl,rfl,rfl,rfl,rfl,rfl,rfl,trivial⟩ ?_
        refine qbh h fun hg109 h=>?_
        refine qir hτ [0,1,2,3,4,6,7] 4 rfl rfl rfl (Eq.trans rfl (or_append (f:=qa8) v90 [x108.1] rfl)) ⟨⟨rfl,Nat.le_of_ble_eq_true rfl⟩,qc8 _,rfl,rfl,hg109,by decide,(all1 rfl)⟩ ⟨rfl,rfl,rfl,rfl,rfl,rfl,rfl,trivial⟩ ?_
        refine qa7 hτ [4] 5 rfl rfl rfl rfl rfl ?_
        refine qd3 hτ [0,1,2,3,5,6,7] 6 rfl rfl rfl rfl ⟨rfl,rfl,rfl,rfl,rfl,rfl,rfl,trivial⟩ ?_
        refine qbp mixed (by kernel_rfl) ?_
        refine qa9 (qa3 [0,1,2,3,4,5,6] (l:=[(0,.d (.str (bstr s_))),(4,.ptr 0 0),(6,.ptr 3 0),(7,.ptr 4 0),(29,.d (.int .i64 buses_)),(30,.d (.int .i64 v92))]) (objs:=[.box [.row 1 v85.length 0 v85.length,.row 2 v86.length 0 v86.length,.d (.int .i64 (0:Int)),.d (.bool false)],.row 3 (v85.map qa8),.row 3 (v86.map qa8),.box [.d (.str (bstr x108.2.s)),.d (.int .i64 x108.2.at_),.d (.bool x108.2.short)],.box [.row 5 ((v90 ++ [x108.1]).length) 0 ((v90 ++ [x108.1]).length),.row 6 v91.length 0 v91.length,.d (.int .i64 x37.1),.d (.bool (decide (x38.1 = (1:Int))))],.row 3 ((v90 ++ [x108.1]).map qa8),.row 3 (v91.map qa8)]) rfl (by simp) rfl (by trivial) ⟨rfl,trivial,rfl,trivial,rfl,trivial,rfl,trivial,rfl,trivial,rfl,trivial,trivial⟩) ?_
        refine qc9 ?_
        refine qa7 hτ [4] 0 rfl rfl rfl rfl rfl ?_
        refine qa7 hτ [4] 1 rfl rfl rfl rfl rfl ?_
        refine qab h fun x110 hx110 h=>?_
        refine qbf hτ false [3] [0,1,2,4,5,6] 2 rfl rfl rfl rfl (qap func79 rfl rfl) rfl rfl (by simp) ⟨trivial,trivial⟩ (by trivial) (qgc n x108.2 hx110) ⟨rfl,rfl,rfl,rfl,rfl,rfl,trivial⟩ ?_
        refine qd3 hτ [0,1,2,3,4,5,6] 3 rfl rfl rfl rfl ⟨rfl,rfl,rfl,rfl,rfl,rfl,rfl,trivial⟩ ?_
        refine qbh h fun hg111 h=>?_
        refine qir hτ [0,1,2,3,4,5,7] 4 rfl rfl rfl (Eq.trans rfl (or_append (f:=qa8) v91 [x110.1] rfl)) ⟨⟨rfl,Nat.le_of_ble_eq_true rfl⟩,qc8 _,rfl,rfl,hg111,by decide,(all1 rfl)⟩ ⟨rfl,rfl,rfl,rfl,rfl,rfl,rfl,trivial⟩ ?_
        refine qa7 hτ [4] 5 rfl rfl rfl rfl rfl ?_
        refine qd3 hτ [0,1,2,3,5,6,7] 6 rfl rfl rfl rfl ⟨rfl,rfl,rfl,rfl,rfl,rfl,rfl,trivial⟩ ?_
        refine qbp mixed (by kernel_rfl) ?_
        refine qa9 (qa3 [0,1,2,3,4,5,6] (l:=[(0,.d (.str (bstr s_))),(4,.ptr 0 0),(6,.ptr 3 0),(7,.ptr 4 0),(29,.d (.int .i64 buses_)),(30,.d (.int .i64 v92))]) (objs:=[.box [.row 1 v85.length 0 v85.length,.row 2 v86.length 0 v86.length,.d (.int .i64 (0:Int)),.d (.bool false)],.row 3 (v85.map qa8),.row 3 (v86.map qa8),.box [.d (.str (bstr x110.2.s)),.d (.int .i64 x110.2.at_),.d (.bool x110.2.short)],.box [.row 5 ((v90 ++ [x108.1]).length) 0 ((v90 ++ [x108.1]).length),.row 6 ((v91 ++ [x110.1]).length) 0 ((v91 ++ [x110.1]).length),.d (.int .i64 x37.1),.d (.bool (decide (x38.1 = (1:Int))))],.row 3 ((v90 ++ [x108.1]).map qa8),.row 3 ((v91 ++ [x110.1]).map qa8)]) rfl (by simp) rfl (by trivial) ⟨rfl,trivial,rfl,trivial,rfl,trivial,rfl,trivial,rfl,trivial,rfl,trivial,trivial⟩) ?_
        refine qa2 ?_
        refine qa0 hτ rfl rfl rfl ?_
        refine qa0 hτ rfl rfl rfl ?_
        refine qa4 ?_
        exact ⟨(m105,v85,v86,x110.2.s,x110.2.at_,x110.2.short,(v90 ++ [x108.1]),(v91 ++ [x110.1]),(w64 (v92 + (1:Int)))),h,Nat.lt_succ_self m105,(qa3 [0,1,2,3,4,5,6] (l:=[(0,.d (.str (bstr s_))),(4,.ptr 0 0),(6,.ptr 3 0),(7,.ptr 4 0),(29,.d (.int .i64 buses_)),(30,.d (.int .i64 (w64 (v92 + (1:Int)))))]) (objs:=[.box [.row 1 v85.length 0 v85.length,.row 2 v86.length 0 v86.length,.d (.int .i64 (0:Int)),.d (.bool false)],.row 3 (v85.map qa8),.row 3 (v86.map qa8),.box [.d (.str (bstr x110.2.s)),.d (.int .i64 x110.2.at_),.d (.bool x110.2.short)],.box [.row 5 ((v90 ++ [x108.1]).length) 0 ((v90 ++ [x108.1]).length),.row 6 ((v91 ++ [x110.1]).length) 0 ((v91 ++ [x110.1]).length),.d (.int .i64 x37.1),.d (.bool (decide (x38.1 = (1:Int))))],.row 3 ((v90 ++ [x108.1]).map qa8),.row 3 ((v91 ++ [x110.1]).map qa8)]) rfl (by simp) rfl (by trivial) ⟨rfl,trivial,rfl,trivial,rfl,trivial,rfl,trivial,rfl,trivial,rfl,trivial,trivial⟩)⟩
      · have h:=if_f h hc107
        refine qdv ?_
        refine qa9 (qa3 [0,1,2,4,5,6] (l:=[(0,.d (.str (bstr s_))),(4,.ptr 0 0),(7,.ptr 3 0)]) (objs:=[.box [.row 1 v85.length 0 v85.length,.row 2 v86.length 0 v86.length,.d (.int .i64 (0:Int)),.d (.bool false)],.row 3 (v85.map qa8),.row 3 (v86.map qa8),.box [.row 4 v90.length 0 v90.length,.row 5 v91.length 0 v91.length,.d (.int .i64 x37.1),.d (.bool (decide (x38.1 = (1:Int))))],.row 3 (v90.map qa8),.row 3 (v91.map qa8)]) rfl (by simp) rfl (by trivial) ⟨rfl,trivial,rfl,trivial,rfl,trivial,trivial⟩) ?_
        exact hk79 (v85,v86,v90,v91) h
  · refine qa5 ?_
    refine qd1 (ι:=Bool) (fun v116=>St.of [(0,.d (.str (bstr s_))),(1,.d (.int .i64 buses_)),(4,.ptr 0 0),(20,.d (.bool v116))] [.box [.d (.nils),.d (.nils),.d (.int .i64 (0:Int)),.d (.bool false)]] f42.ntmps 0) (fun v116=>qd4 n s_ buses_ v116 = some r) ?_ (fun hk118=>?_)
    · rintro v116 h
      replace h:qd4 n s_ buses_ v116 = some r:=h
      unfold qd4 at h
      refine qau rfl (fun hc117=>?_) (fun hc117=>?_)
      · have h:=qci h hc117
        refine qa5 ?_
        refine qa2 ?_
        refine qa0 hτ rfl rfl rfl ?_
        refine qaq hτ rfl rfl rfl ?_
        refine qa0 hτ rfl rfl rfl ?_
        refine qa4 ?_
        refine qa9 (qa3 [0] (l:=[(4,.ptr 0 0),(5,.d (.bool false))]) (objs:=[.box [.d (.nils),.d (.nils),.d (.int .i64 (0:Int)),.d (.bool false)]]) rfl (by simp) rfl (by trivial) ⟨rfl,trivial,rfl,trivial,trivial⟩) ?_
        refine qa9 (qh4 [3,3] (l':=[(4,.ptr 0 0),(5,.d (.bool false))]) (objs':=[.box [.row 1 (([]:List qaa).length) 0 (([]:List qaa).length),.row 2 (([]:List qaa).length) 0 (([]:List qaa).length),.d (.int .i64 (0:Int)),.d (.bool false)]]) (.cons (.c (.refl _)) (.cons (.c (.refl _)) .nil)) (.cons (.box (.cons (.ghost ⟨Nat.le_of_ble_eq_true rfl,Nat.le_of_ble_eq_true rfl⟩) (.cons (.ghost ⟨Nat.le_of_ble_eq_true rfl,Nat.le_of_ble_eq_true rfl⟩) (.cons (.refl _) (.cons (.refl _) .nil))))) .nil)) ?_
        refine qas ?_
        have hr:=Option.some.inj h
        subst hr
        exact qaf (.inr rfl) [1,2] (objs':=[]) (new:=[.row 3 (([]:List qaa).map qa8),.row 3 (([]:List qaa).map qa8)]) rfl (by simp) (by simp) rfl (by trivial) rfl rfl (by trivial) (fun _=>⟨by simp [V.flat,V.qb2,V.qay,D.flat],(qb8 (qd2 qca _) (qb8 (qd2 qca _) qai))⟩) ⟨rfl,rfl,rfl⟩
      · have h:=qch h hc117
        refine qav ?_
        refine qa9 (qa3 [0] (l:=[(0,.d (.str (bstr s_))),(1,.d (.int .i64 buses_)),(4,.ptr 0 0)]) (objs:=[.box [.d (.nils),.d (.nils),.d (.int .i64 (0:Int)),.d (.bool false)]]) rfl (by simp) rfl (by trivial) ⟨rfl,trivial,rfl,trivial,rfl,trivial,trivial⟩) ?_
        exact hk112 () h
    · refine qa5 ?_
      refine qa2 ?_
      refine qa0 hτ rfl rfl rfl ?_
      refine qab h fun x119 hx119 h=>?_
      refine qam hτ false [] rfl rfl rfl (qap func62 rfl rfl) rfl rfl (by simp) ⟨trivial,trivial,trivial,trivial⟩ (by trivial) (qgp n buses_ (1:Int) (16:Int) hx119) ?_
      rintro r0 o0 n0 ⟨rfl,rfl,rfl⟩ -
      refine qa0 hτ rfl rfl rfl ?_
      refine qa0 hτ rfl rfl rfl ?_
      refine qcm 13 rfl (fun hb120=>?_) (fun hb120=>?_)
      · have hb120:=qdd hb120
        have h:=qch h hb120
        refine qao rfl rfl ?_
        refine qao rfl rfl ?_
        refine qao rfl rfl ?_
        refine qao rfl rfl ?_
        refine qao rfl rfl ?_
        refine qao rfl rfl ?_
        refine qbn (qa3 [0] (l:=[(0,.d (.str (bstr s_))),(1,.d (.int .i64 buses_)),(4,.ptr 0 0),(13,.d (.bool true)),(19,.und)]) (objs:=[.box [.d (.nils),.d (.nils),.d (.int .i64 (0:Int)),.d (.bool false)]]) rfl (by simp) rfl (by trivial) ⟨rfl,trivial,rfl,trivial,rfl,trivial,rfl,trivial,rfl,trivial,trivial⟩) ?_
        refine qa0 hτ rfl rfl rfl ?_
        refine qa4 ?_
        refine qa9 (qa3 [0] (l:=[(0,.d (.str (bstr s_))),(1,.d (.int .i64 buses_)),(4,.ptr 0 0),(20,.d (.bool true))]) (objs:=[.box [.d (.nils),.d (.nils),.d (.int .i64 (0:Int)),.d (.bool false)]]) rfl (by simp) rfl (by trivial) ⟨rfl,trivial,rfl,trivial,rfl,trivial,rfl,trivial,trivial⟩) ?_
        exact hk118 true h
      · have hb120:=qdc hb120
        have h:=qci h hb120
        refine qa0 hτ rfl rfl rfl ?_
        refine qa0 hτ rfl rfl rfl ?_
        refine qa0 hτ rfl rfl rfl ?_
        refine qa0 hτ rfl rfl rfl ?_
        refine qa0 hτ rfl rfl rfl ?_
        refine qa0 hτ (v:=.d (.bool (!(decide ((s_.length:Int) = (w64 ((2:Int) + (w64 ((48:Int) * buses_))))))))) rfl rfl (qhx _ _) ?_
        refine qbn (qa3 [0] (l:=[(0,.d (.str (bstr s_))),(1,.d (.int .i64 buses_)),(4,.ptr 0 0),(13,.d (.bool false)),(19,.d (.bool (!(decide ((s_.length:Int) = (w64 ((2:Int) + (w64 ((48:Int) * buses_)))))))))]) (objs:=[.box [.d (.nils),.d (.nils),.d (.int .i64 (0:Int)),.d (.bool false)]]) rfl (by simp) rfl (by trivial) ⟨rfl,trivial,rfl,trivial,rfl,trivial,rfl,trivial,rfl,trivial,trivial⟩) ?_
        refine qa0 hτ rfl rfl rfl ?_
        refine qa4 ?_
        refine qa9 (qa3 [0] (l:=[(0,.d (.str (bstr s_))),(1,.d (.int .i64 buses_)),(4,.ptr 0 0),(20,.d (.bool (!(decide ((s_.length:Int) = (w64 ((2:Int) + (w64 ((48:Int) * buses_)))))))))]) (objs:=[.box [.d (.nils),.d (.nils),.d (.int .i64 (0:Int)),.d (.bool false)]]) rfl (by simp) rfl (by trivial) ⟨rfl,trivial,rfl,trivial,rfl,trivial,rfl,trivial,trivial⟩) ?_
        exact hk118 (!(decide ((s_.length:Int) = (w64 ((2:Int) + (w64 ((48:Int) * buses_))))))) h
theorem impl_FlowOfBytes_ok_fr (n:Nat) (s_:Str) (buses_:Int) {r:qbb × Bool} (h:qdi n s_ buses_ = some r):qb5 prog true 42 [.d (.str (bstr s_)),.d (.int .i64 buses_)] [] (fun v o new=>v = .tup [.agg [.row 0 r.1.qad.length 0 r.1.qad.length,.row 1 r.1.qae.length 0 r.1.qae.length,.d (.int .i64 r.1.Rounds),.d (.bool r.1.qcj)],.d (.bool r.2)]∧o = []∧new = [.row 3 (r.1.qad.map qa8),.row 3 (r.1.qae.map qa8)]):=impl_FlowOfBytes_ok_fr0 true n s_ buses_ h
def qe5 (n:Nat) (s_:Str):Nat→Int→Int→Option (Int × Bool)
  | 0,_,_=>none
  | m17 + 1,v12,v13 =>
    if v13 < (s_.length:Int) then
      (getI s_ v13).bind fun x20 =>
      (qe5 n s_ m17) ((w64 ((w64 ((w64 ((691:Int) * v12)) + (w64 ((x20.toNat:Int))))) + (43:Int))).tmod (65003:Int)) (w64 (v13 + (1:Int)))
    else
      some (v12,true)
def qgj (n:Nat) (start_:Int) (s_:Str):Option (Int × Bool) :=
  (qdb n start_ (0:Int) (65002:Int)).bind fun x9 =>
  if x9 = true then
    qe5 n s_ n start_ (0:Int)
  else
    some ((0:Int),false)
theorem impl_CheckOf_ok_fr0 (fr:Bool) (n:Nat) (start_:Int) (s_:Str) {r:Int × Bool} (h:qgj n start_ s_ = some r):qb5 prog fr 43 [.d (.int .i64 start_),.d (.str (bstr s_))] [] (fun v o new=>v = .tup [.d (.int .i64 r.1),.d (.bool r.2)]∧o = []∧new = []):=by
  refine qar hτ func43 rfl (by simp) (by simp) ?_
  unfold qgj at h
  refine qa5 ?_
  refine qa2 ?_
  refine qa0 hτ rfl rfl rfl ?_
  refine qa0 hτ rfl rfl rfl ?_
  refine qa4 ?_
  refine qa5 ?_
  refine qa5 ?_
  refine qa2 ?_
  refine qa0 hτ rfl rfl rfl ?_
  refine qab h fun x9 hx9 h=>?_
  refine qam hτ false [] rfl rfl rfl (qap func62 rfl rfl) rfl rfl (by simp) ⟨trivial,trivial,trivial,trivial⟩ (by trivial) (qgp n start_ (0:Int) (65002:Int) hx9) ?_
  rintro r0 o0 n0 ⟨rfl,rfl,rfl⟩ -
  refine qa0 hτ rfl rfl rfl ?_
  refine qa4 ?_
  refine qau rfl (fun hc10=>?_) (fun hc10=>?_)
  · have hc10:=qdd hc10
    have h:=qch h hc10
    refine qa5 ?_
    refine qa2 ?_
    refine qa0 hτ rfl rfl rfl ?_
    refine qa0 hτ rfl rfl rfl ?_
    refine qa4 ?_
    refine qa9 (qa3 [] (l:=[(4,.d (.int .i64 (0:Int))),(5,.d (.bool false))]) (objs:=[]) rfl (by simp) rfl (by trivial) ⟨rfl,trivial,rfl,trivial,trivial⟩) ?_
    refine qas ?_
    have hr:=Option.some.inj h
    subst hr
    exact qaf (.inr rfl) [] (objs':=[]) (new:=[]) rfl (by simp) (by simp) rfl (by trivial) rfl rfl (by trivial) (fun _=>⟨by simp [V.flat,V.qb2,V.qay,D.flat],qai⟩) ⟨rfl,rfl,rfl⟩
  · have hc10:=qdc hc10
    have h:=qci h hc10
    refine qav ?_
    refine qa5 ?_
    refine qa5 ?_
    refine qa2 ?_
    refine qa0 hτ rfl rfl rfl ?_
    refine qa0 hτ rfl rfl rfl ?_
    refine qa0 hτ rfl rfl rfl ?_
    refine qa4 ?_
    refine qb6 ?_
    refine qe1 (ι:=Nat × Int × Int) (fun (m17,v12,v13)=>St.of [(0,.d (.int .i64 v12)),(1,.d (.str (bstr s_))),(11,.d (.int .i64 (s_.length:Int))),(12,.d (.int .i64 v13))] [] f43.ntmps 0) (fun (m17,v12,v13)=>qe5 n s_ m17 v12 v13 = some r) (fun x=>x.1) (n,start_,(0:Int)) h (qa3 [] (l:=[(0,.d (.int .i64 start_)),(1,.d (.str (bstr s_))),(11,.d (.int .i64 (s_.length:Int))),(12,.d (.int .i64 (0:Int)))]) (objs:=[]) rfl (by simp) rfl (by trivial) ⟨rfl,trivial,rfl,trivial,rfl,trivial,rfl,trivial,trivial⟩) ?_
    rintro ⟨m17,v12,v13⟩ h
    replace h:qe5 n s_ m17 v12 v13 = some r:=h
    rcases m17 with _ | m17
    · rw [qe5] at h;cases h
    rw [qe5] at h
    refine qa5 ?_
    refine qa2 ?_
    refine qa0 hτ rfl rfl rfl ?_
    refine qa4 ?_
    refine qa5 ?_
    refine qau rfl (fun hc19=>?_) (fun hc19=>?_)
    · have h:=if_t h hc19
      refine qav ?_
      refine qa5 ?_
      refine qb6 ?_
      refine qa5 ?_
      refine qa2 ?_
      refine qa0 hτ rfl rfl rfl ?_
      refine qa0 hτ rfl rfl rfl ?_
      refine qa4 ?_
      refine qa2 ?_
      refine qa0 hτ rfl rfl rfl ?_
      refine qa0 hτ rfl rfl rfl ?_
      refine qa0 hτ rfl rfl rfl ?_
      refine qa0 hτ rfl rfl rfl ?_
      refine qab h fun x20 hx20 h=>?_
      refine qbd hτ (v:=.d (.int .u8 (x20.toNat:Int))) rfl rfl (Eq.trans rfl (qpi hx20)) (qls hx20) ?_
      refine qa0 hτ rfl rfl rfl ?_
      refine qa0 hτ rfl rfl rfl ?_
      refine qa0 hτ rfl rfl rfl ?_
      refine qbd hτ rfl rfl rfl (by decide) ?_
      refine qbn (qa3 [] (l:=[(0,.d (.int .i64 v12)),(1,.d (.str (bstr s_))),(11,.d (.int .i64 (s_.length:Int))),(12,.d (.int .i64 v13)),(23,.d (.int .i64 ((w64 ((w64 ((w64 ((691:Int) * v12)) + (w64 ((x20.toNat:Int))))) + (43:Int))).tmod (65003:Int))))]) (objs:=[]) rfl (by simp) rfl (by trivial) ⟨rfl,trivial,rfl,trivial,rfl,trivial,rfl,trivial,rfl,trivial,trivial⟩) ?_
      refine qa0 hτ rfl rfl rfl ?_
      refine qa4 ?_
      refine qa2 ?_
      refine qa0 hτ rfl rfl rfl ?_
      refine qa0 hτ rfl rfl rfl ?_
      refine qa4 ?_
      exact ⟨(m17,((w64 ((w64 ((w64 ((691:Int) * v12)) + (w64 ((x20.toNat:Int))))) + (43:Int))).tmod (65003:Int)),(w64 (v13 + (1:Int)))),h,Nat.lt_succ_self m17,(qa3 [] (l:=[(0,.d (.int .i64 ((w64 ((w64 ((w64 ((691:Int) * v12)) + (w64 ((x20.toNat:Int))))) + (43:Int))).tmod (65003:Int)))),(1,.d (.str (bstr s_))),(11,.d (.int .i64 (s_.length:Int))),(12,.d (.int .i64 (w64 (v13 + (1:Int)))))]) (objs:=[]) rfl (by simp) rfl (by trivial) ⟨rfl,trivial,rfl,trivial,rfl,trivial,rfl,trivial,trivial⟩)⟩
    · have h:=if_f h hc19
      refine qdv ?_
      refine qa5 ?_
      refine qa2 ?_
      refine qa0 hτ rfl rfl rfl ?_
      refine qa0 hτ rfl rfl rfl ?_
      refine qa0 hτ rfl rfl rfl ?_
      refine qa4 ?_
      refine qa9 (qa3 [] (l:=[(4,.d (.int .i64 v12)),(5,.d (.bool true))]) (objs:=[]) rfl (by simp) rfl (by trivial) ⟨rfl,trivial,rfl,trivial,trivial⟩) ?_
      refine qas ?_
      have hr:=Option.some.inj h
      subst hr
      exact qaf (.inr rfl) [] (objs':=[]) (new:=[]) rfl (by simp) (by simp) rfl (by trivial) rfl rfl (by trivial) (fun _=>⟨by simp [V.flat,V.qb2,V.qay,D.flat],qai⟩) ⟨rfl,rfl,rfl⟩
theorem impl_CheckOf_ok (n:Nat) (start_:Int) (s_:Str) {r:Int × Bool} (h:qgj n start_ s_ = some r):qb5 prog false 43 [.d (.int .i64 start_),.d (.str (bstr s_))] [] (fun v o new=>v = .tup [.d (.int .i64 r.1),.d (.bool r.2)]∧o = []∧new = []):=impl_CheckOf_ok_fr0 false n start_ s_ h
def qfz (n:Nat) (a_:Nat) (b_:Nat):Option Bool :=
  some (fcmp .eql .f64 a_ b_)
def qev (n:Nat) (a_:Nat) (b_:Nat) (v16:Bool):Option Bool :=
  if v16 = true then
    some ((fcmp .gtr .f64 (qig .quo .f64 (4607182418800017408:Nat) a_) (0:Nat)) == (fcmp .gtr .f64 (qig .quo .f64 (4607182418800017408:Nat) b_) (0:Nat)))
  else
    qfz n a_ b_
def qfy (n:Nat) (a_:Nat) (b_:Nat):Option Bool :=
  if (fcmp .eql .f64 a_ (0:Nat)) = true then
    qev n a_ b_ (fcmp .eql .f64 b_ (0:Nat))
  else
    qev n a_ b_ false
def qew (n:Nat) (a_:Nat) (b_:Nat) (v23:Bool):Option Bool :=
  if v23 = true then
    if (fcmp .neq .f64 a_ a_) = true then
      some (fcmp .neq .f64 b_ b_)
    else
      some false
  else
    qfy n a_ b_
def qfc (n:Nat) (a_:Nat) (b_:Nat):Option Bool :=
  if (fcmp .neq .f64 a_ a_) = true then
    qew n a_ b_ true
  else
    qew n a_ b_ (fcmp .neq .f64 b_ b_)
theorem laws_sameFloat_ok_fr0 (fr:Bool) (n:Nat) (a_:Nat) (b_:Nat) {r:Bool} (h:qfc n a_ b_ = some r):qb5 prog fr 159 [.d (.fl .f64 a_),.d (.fl .f64 b_)] [] (fun v o new=>v = .d (.bool r)∧o = []∧new = []):=by
  refine qar hτ func159 rfl (by simp) (by simp) ?_
  unfold qfc at h
  refine qa5 ?_
  refine qa2 ?_
  refine qa0 hτ rfl rfl rfl ?_
  refine qa4 ?_
  refine qd1 (ι:=Unit) (fun _=>St.of [(0,.d (.fl .f64 a_)),(1,.d (.fl .f64 b_))] [] f159.ntmps 0) (fun _=>qfy n a_ b_ = some r) ?_ (fun hk20=>?_)
  · rintro ⟨⟩ h
    replace h:qfy n a_ b_ = some r:=h
    unfold qfy at h
    refine qd1 (ι:=Unit) (fun _=>St.of [(0,.d (.fl .f64 a_)),(1,.d (.fl .f64 b_))] [] f159.ntmps 0) (fun _=>qfz n a_ b_ = some r) ?_ (fun hk13=>?_)
    · rintro ⟨⟩ h
      replace h:qfz n a_ b_ = some r:=h
      unfold qfz at h
      refine qa5 ?_
      refine qa2 ?_
      refine qa0 hτ rfl rfl rfl ?_
      refine qa0 hτ rfl rfl rfl ?_
      refine qa0 hτ rfl rfl rfl ?_
      refine qa0 hτ rfl rfl rfl ?_
      refine qa4 ?_
      refine qa9 (qa3 [] (l:=[(4,.d (.bool (fcmp .eql .f64 a_ b_)))]) (objs:=[]) rfl (by simp) rfl (by trivial) ⟨rfl,trivial,trivial⟩) ?_
      refine qas ?_
      have hr:=Option.some.inj h
      subst hr
      exact qaf (.inr rfl) [] (objs':=[]) (new:=[]) rfl (by simp) (by simp) rfl (by trivial) rfl rfl (by trivial) (fun _=>⟨by simp [V.flat,V.qb2,V.qay,D.flat],qai⟩) ⟨rfl,rfl,rfl⟩
    · refine qa5 ?_
      refine qd1 (ι:=Bool) (fun v16=>St.of [(0,.d (.fl .f64 a_)),(1,.d (.fl .f64 b_)),(26,.d (.bool v16))] [] f159.ntmps 0) (fun v16=>qev n a_ b_ v16 = some r) ?_ (fun hk18=>?_)
      · rintro v16 h
        replace h:qev n a_ b_ v16 = some r:=h
        unfold qev at h
        refine qau rfl (fun hc17=>?_) (fun hc17=>?_)
        · have h:=qci h hc17
          refine qa5 ?_
          refine qa2 ?_
          refine qa0 hτ rfl rfl rfl ?_
          refine qa0 hτ rfl rfl rfl ?_
          refine qa0 hτ rfl rfl rfl ?_
          refine qa0 hτ rfl rfl rfl ?_
          refine qa0 hτ rfl rfl rfl ?_
          refine qa0 hτ rfl rfl rfl ?_
          refine qa0 hτ rfl rfl rfl ?_
          refine qa0 hτ rfl rfl rfl ?_
          refine qa4 ?_
          refine qa9 (qa3 [] (l:=[(4,.d (.bool ((fcmp .gtr .f64 (qig .quo .f64 (4607182418800017408:Nat) a_) (0:Nat)) == (fcmp .gtr .f64 (qig .quo .f64 (4607182418800017408:Nat) b_) (0:Nat)))))]) (objs:=[]) rfl (by simp) rfl (by trivial) ⟨rfl,trivial,trivial⟩) ?_
          refine qas ?_
          have hr:=Option.some.inj h
          subst hr
          exact qaf (.inr rfl) [] (objs':=[]) (new:=[]) rfl (by simp) (by simp) rfl (by trivial) rfl rfl (by trivial) (fun _=>⟨by simp [V.flat,V.qb2,V.qay,D.flat],qai⟩) ⟨rfl,rfl,rfl⟩
        · have h:=qch h hc17
          refine qav ?_
          refine qa9 (qa3 [] (l:=[(0,.d (.fl .f64 a_)),(1,.d (.fl .f64 b_))]) (objs:=[]) rfl (by simp) rfl (by trivial) ⟨rfl,trivial,rfl,trivial,trivial⟩) ?_
          exact hk13 () h
      · refine qa5 ?_
        refine qa2 ?_
        refine qa0 hτ rfl rfl rfl ?_
        refine qa0 hτ rfl rfl rfl ?_
        refine qa0 hτ rfl rfl rfl ?_
        refine qcm 23 rfl (fun hb19=>?_) (fun hb19=>?_)
        · have h:=qci h hb19
          refine qa0 hτ rfl rfl rfl ?_
          refine qa0 hτ rfl rfl rfl ?_
          refine qa0 hτ rfl rfl rfl ?_
          refine qa4 ?_
          refine qa9 (qa3 [] (l:=[(0,.d (.fl .f64 a_)),(1,.d (.fl .f64 b_)),(26,.d (.bool (fcmp .eql .f64 b_ (0:Nat))))]) (objs:=[]) rfl (by simp) rfl (by trivial) ⟨rfl,trivial,rfl,trivial,rfl,trivial,trivial⟩) ?_
          exact hk18 (fcmp .eql .f64 b_ (0:Nat)) h
        · have h:=qch h hb19
          refine qao rfl rfl ?_
          refine qao rfl rfl ?_
          refine qa0 hτ rfl rfl rfl ?_
          refine qa4 ?_
          refine qa9 (qa3 [] (l:=[(0,.d (.fl .f64 a_)),(1,.d (.fl .f64 b_)),(26,.d (.bool false))]) (objs:=[]) rfl (by simp) rfl (by trivial) ⟨rfl,trivial,rfl,trivial,rfl,trivial,trivial⟩) ?_
          exact hk18 false h
  · refine qa5 ?_
    refine qd1 (ι:=Bool) (fun v23=>St.of [(0,.d (.fl .f64 a_)),(1,.d (.fl .f64 b_)),(12,.d (.bool v23))] [] f159.ntmps 0) (fun v23=>qew n a_ b_ v23 = some r) ?_ (fun hk26=>?_)
    · rintro v23 h
      replace h:qew n a_ b_ v23 = some r:=h
      unfold qew at h
      refine qau rfl (fun hc24=>?_) (fun hc24=>?_)
      · have h:=qci h hc24
        refine qa5 ?_
        refine qa2 ?_
        refine qa0 hτ rfl rfl rfl ?_
        refine qa0 hτ rfl rfl rfl ?_
        refine qa0 hτ rfl rfl rfl ?_
        refine qa0 hτ rfl rfl rfl ?_
        refine qcm 16 rfl (fun hb25=>?_) (fun hb25=>?_)
        · have h:=qci h hb25
          refine qa0 hτ rfl rfl rfl ?_
          refine qa0 hτ rfl rfl rfl ?_
          refine qa0 hτ rfl rfl rfl ?_
          refine qa0 hτ rfl rfl rfl ?_
          refine qa0 hτ rfl rfl rfl ?_
          refine qa4 ?_
          refine qa9 (qa3 [] (l:=[(4,.d (.bool (fcmp .neq .f64 b_ b_)))]) (objs:=[]) rfl (by simp) rfl (by trivial) ⟨rfl,trivial,trivial⟩) ?_
          refine qas ?_
          have hr:=Option.some.inj h
          subst hr
          exact qaf (.inr rfl) [] (objs':=[]) (new:=[]) rfl (by simp) (by simp) rfl (by trivial) rfl rfl (by trivial) (fun _=>⟨by simp [V.flat,V.qb2,V.qay,D.flat],qai⟩) ⟨rfl,rfl,rfl⟩
        · have h:=qch h hb25
          refine qao rfl rfl ?_
          refine qao rfl rfl ?_
          refine qao rfl rfl ?_
          refine qa0 hτ rfl rfl rfl ?_
          refine qa0 hτ rfl rfl rfl ?_
          refine qa4 ?_
          refine qa9 (qa3 [] (l:=[(4,.d (.bool false))]) (objs:=[]) rfl (by simp) rfl (by trivial) ⟨rfl,trivial,trivial⟩) ?_
          refine qas ?_
          have hr:=Option.some.inj h
          subst hr
          exact qaf (.inr rfl) [] (objs':=[]) (new:=[]) rfl (by simp) (by simp) rfl (by trivial) rfl rfl (by trivial) (fun _=>⟨by simp [V.flat,V.qb2,V.qay,D.flat],qai⟩) ⟨rfl,rfl,rfl⟩
      · have h:=qch h hc24
        refine qav ?_
        refine qa9 (qa3 [] (l:=[(0,.d (.fl .f64 a_)),(1,.d (.fl .f64 b_))]) (objs:=[]) rfl (by simp) rfl (by trivial) ⟨rfl,trivial,rfl,trivial,trivial⟩) ?_
        exact hk20 () h
    · refine qa5 ?_
      refine qa2 ?_
      refine qa0 hτ rfl rfl rfl ?_
      refine qa0 hτ rfl rfl rfl ?_
      refine qa0 hτ rfl rfl rfl ?_
      refine qa0 hτ rfl rfl rfl ?_
      refine qcm 8 rfl (fun hb27=>?_) (fun hb27=>?_)
      · have h:=qci h hb27
        refine qao rfl rfl ?_
        refine qao rfl rfl ?_
        refine qao rfl rfl ?_
        refine qa0 hτ rfl rfl rfl ?_
        refine qa4 ?_
        refine qa9 (qa3 [] (l:=[(0,.d (.fl .f64 a_)),(1,.d (.fl .f64 b_)),(12,.d (.bool true))]) (objs:=[]) rfl (by simp) rfl (by trivial) ⟨rfl,trivial,rfl,trivial,rfl,trivial,trivial⟩) ?_
        exact hk26 true h
      · have h:=qch h hb27
        refine qa0 hτ rfl rfl rfl ?_
        refine qa0 hτ rfl rfl rfl ?_
        refine qa0 hτ rfl rfl rfl ?_
        refine qa0 hτ rfl rfl rfl ?_
        refine qa4 ?_
        refine qa9 (qa3 [] (l:=[(0,.d (.fl .f64 a_)),(1,.d (.fl .f64 b_)),(12,.d (.bool (fcmp .neq .f64 b_ b_)))]) (objs:=[]) rfl (by simp) rfl (by trivial) ⟨rfl,trivial,rfl,trivial,rfl,trivial,trivial⟩) ?_
        exact hk26 (fcmp .neq .f64 b_ b_) h
theorem qjy (n:Nat) (a_:Nat) (b_:Nat) {r:Bool} (h:qfc n a_ b_ = some r):qb5 prog false 159 [.d (.fl .f64 a_),.d (.fl .f64 b_)] [] (fun v o new=>v = .d (.bool r)∧o = []∧new = []):=laws_sameFloat_ok_fr0 false n a_ b_ h
def qbz (n:Nat) (a_:Cx) (b_:Cx):Option Bool :=
  (qfc n a_.re b_.re).bind fun x5 =>
  if x5 = true then
    (qfc n a_.im b_.im).bind fun x7 =>
    some x7
  else
    some false
theorem laws_sameComplex_ok_fr0 (fr:Bool) (n:Nat) (a_:Cx) (b_:Cx) {r:Bool} (h:qbz n a_ b_ = some r):qb5 prog fr 131 [.d (.cx .f64 a_.re a_.im),.d (.cx .f64 b_.re b_.im)] [] (fun v o new=>v = .d (.bool r)∧o = []∧new = []):=by
  refine qar hτ func131 rfl (by simp) (by simp) ?_
  unfold qbz at h
  refine qa5 ?_
  refine qa2 ?_
  refine qa0 hτ rfl rfl rfl ?_
  refine qa4 ?_
  refine qa5 ?_
  refine qa2 ?_
  refine qa0 hτ rfl rfl rfl ?_
  refine qa0 hτ rfl rfl rfl ?_
  refine qa0 hτ rfl rfl rfl ?_
  refine qa0 hτ rfl rfl rfl ?_
  refine qab h fun x5 hx5 h=>?_
  refine qam hτ false [] rfl rfl rfl (qap func159 rfl rfl) rfl rfl (by simp) ⟨trivial,trivial,trivial⟩ (by trivial) (qjy n a_.re b_.re hx5) ?_
  rintro r0 o0 n0 ⟨rfl,rfl,rfl⟩ -
  refine qa0 hτ rfl rfl rfl ?_
  refine qcm 10 rfl (fun hb6=>?_) (fun hb6=>?_)
  · have h:=qci h hb6
    refine qa0 hτ rfl rfl rfl ?_
    refine qa0 hτ rfl rfl rfl ?_
    refine qa0 hτ rfl rfl rfl ?_
    refine qa0 hτ rfl rfl rfl ?_
    refine qab h fun x7 hx7 h=>?_
    refine qam hτ false [] rfl rfl rfl (qap func159 rfl rfl) rfl rfl (by simp) ⟨trivial,trivial,trivial⟩ (by trivial) (qjy n a_.im b_.im hx7) ?_
    rintro r0 o0 n0 ⟨rfl,rfl,rfl⟩ -
    refine qbn (qa3 [] (l:=[(4,.d (.bool false)),(10,.d (.bool true)),(15,.d (.bool x7))]) (objs:=[]) rfl (by simp) rfl (by trivial) ⟨rfl,trivial,rfl,trivial,rfl,trivial,trivial⟩) ?_
    refine qa0 hτ rfl rfl rfl ?_
    refine qa0 hτ rfl rfl rfl ?_
    refine qa4 ?_
    refine qa9 (qa3 [] (l:=[(4,.d (.bool x7))]) (objs:=[]) rfl (by simp) rfl (by trivial) ⟨rfl,trivial,trivial⟩) ?_
    refine qas ?_
    have hr:=Option.some.inj h
    subst hr
    exact qaf (.inr rfl) [] (objs':=[]) (new:=[]) rfl (by simp) (by simp) rfl (by trivial) rfl rfl (by trivial) (fun _=>⟨by simp [V.flat,V.qb2,V.qay,D.flat],qai⟩) ⟨rfl,rfl,rfl⟩
  · have h:=qch h hb6
    refine qao rfl rfl ?_
    refine qao rfl rfl ?_
    refine qao rfl rfl ?_
    refine qao rfl rfl ?_
    refine qao rfl rfl ?_
    refine qbn (qa3 [] (l:=[(4,.d (.bool false)),(10,.d (.bool false)),(15,.und)]) (objs:=[]) rfl (by simp) rfl (by trivial) ⟨rfl,trivial,rfl,trivial,rfl,trivial,trivial⟩) ?_
    refine qa0 hτ rfl rfl rfl ?_
    refine qa0 hτ rfl rfl rfl ?_
    refine qa4 ?_
    refine qa9 (qa3 [] (l:=[(4,.d (.bool false))]) (objs:=[]) rfl (by simp) rfl (by trivial) ⟨rfl,trivial,trivial⟩) ?_
    refine qas ?_
    have hr:=Option.some.inj h
    subst hr
    exact qaf (.inr rfl) [] (objs':=[]) (new:=[]) rfl (by simp) (by simp) rfl (by trivial) rfl rfl (by trivial) (fun _=>⟨by simp [V.flat,V.qb2,V.qay,D.flat],qai⟩) ⟨rfl,rfl,rfl⟩
theorem qe3 (n:Nat) (a_:Cx) (b_:Cx) {r:Bool} (h:qbz n a_ b_ = some r):qb5 prog false 131 [.d (.cx .f64 a_.re a_.im),.d (.cx .f64 b_.re b_.im)] [] (fun v o new=>v = .d (.bool r)∧o = []∧new = []):=laws_sameComplex_ok_fr0 false n a_ b_ h
def qf5 (n:Nat) (a_:qaa) (b_:qaa):Option Bool :=
  (qcf .f32 .f64 a_.A.re).bind fun x21 =>
  (qcf .f32 .f64 a_.A.im).bind fun x22 =>
  (qcf .f32 .f64 b_.A.re).bind fun x23 =>
  (qcf .f32 .f64 b_.A.im).bind fun x24 =>
  (qbz n (Cx.mk x21 x22) (Cx.mk x23 x24)).bind fun x25 =>
  if x25 = true then
    (qcf .f32 .f64 a_.B.re).bind fun x32 =>
    (qcf .f32 .f64 a_.B.im).bind fun x33 =>
    (qcf .f32 .f64 b_.B.re).bind fun x34 =>
    (qcf .f32 .f64 b_.B.im).bind fun x35 =>
    (qbz n (Cx.mk x32 x33) (Cx.mk x34 x35)).bind fun x36 =>
    if x36 = true then
      (qcf .f32 .f64 a_.C.re).bind fun x38 =>
      (qcf .f32 .f64 a_.C.im).bind fun x39 =>
      (qcf .f32 .f64 b_.C.re).bind fun x40 =>
      (qcf .f32 .f64 b_.C.im).bind fun x41 =>
      (qbz n (Cx.mk x38 x39) (Cx.mk x40 x41)).bind fun x42 =>
      if x42 = true then
        some true
      else
        some false
    else
      some false
  else
    some false
theorem laws_eqPhases_ok_fr0 (fr:Bool) (n:Nat) (a_:qaa) (b_:qaa) {r:Bool} (h:qf5 n a_ b_ = some r):qb5 prog fr 85 [.agg [.d (.cx .f32 a_.A.re a_.A.im),.d (.cx .f32 a_.B.re a_.B.im),.d (.cx .f32 a_.C.re a_.C.im)],.agg [.d (.cx .f32 b_.A.re b_.A.im),.d (.cx .f32 b_.B.re b_.B.im),.d (.cx .f32 b_.C.re b_.C.im)]] [] (fun v o new=>v = .d (.bool r)∧o = []∧new = []):=by
  refine qar hτ func85 rfl (by simp) (by simp) ?_
  unfold qf5 at h
  refine qa5 ?_
  refine qa2 ?_
  refine qaq hτ rfl rfl rfl ?_
  refine qaq hτ rfl rfl rfl ?_
  refine qa0 hτ rfl rfl rfl ?_
  refine qa4 ?_
  refine qa5 ?_
  refine qa5 ?_
  refine qa2 ?_
  refine qa0 hτ rfl rfl rfl ?_
  refine qa0 hτ rfl rfl rfl ?_
  refine qab h fun x21 hx21 h=>?_
  refine qab h fun x22 hx22 h=>?_
  refine qha rfl rfl (qhw hτ rfl rfl rfl rfl rfl rfl hx21 hx22) ?_
  refine qa0 hτ rfl rfl rfl ?_
  refine qa0 hτ rfl rfl rfl ?_
  refine qab h fun x23 hx23 h=>?_
  refine qab h fun x24 hx24 h=>?_
  refine qha rfl rfl (qhw hτ rfl rfl rfl rfl rfl rfl hx23 hx24) ?_
  refine qab h fun x25 hx25 h=>?_
  refine qam hτ false [] rfl rfl rfl (qap func131 rfl rfl) rfl rfl (by simp) ⟨trivial,trivial,trivial⟩ (by trivial) (qe3 n (Cx.mk x21 x22) (Cx.mk x23 x24) hx25) ?_
  rintro r0 o0 n0 ⟨rfl,rfl,rfl⟩ -
  refine qa0 hτ rfl rfl rfl ?_
  refine qa4 ?_
  refine qa9 (qa3 [0,1] (l:=[(2,.ptr 0 0),(3,.ptr 1 0),(12,.d (.bool (!x25)))]) (objs:=[.box [.d (.cx .f32 a_.A.re a_.A.im),.d (.cx .f32 a_.B.re a_.B.im),.d (.cx .f32 a_.C.re a_.C.im)],.box [.d (.cx .f32 b_.A.re b_.A.im),.d (.cx .f32 b_.B.re b_.B.im),.d (.cx .f32 b_.C.re b_.C.im)]]) rfl (by simp) rfl (by trivial) ⟨rfl,trivial,rfl,trivial,rfl,trivial,trivial⟩) ?_
  refine qau rfl (fun hc26=>?_) (fun hc26=>?_)
  · have hc26:=qdd hc26
    have h:=qch h hc26
    refine qa5 ?_
    refine qa2 ?_
    refine qa0 hτ rfl rfl rfl ?_
    refine qa4 ?_
    refine qa9 (qa3 [] (l:=[(4,.d (.bool false))]) (objs:=[]) rfl (by simp) rfl (by trivial) ⟨rfl,trivial,trivial⟩) ?_
    refine qas ?_
    have hr:=Option.some.inj h
    subst hr
    exact qaf (.inr rfl) [] (objs':=[]) (new:=[]) rfl (by simp) (by simp) rfl (by trivial) rfl rfl (by trivial) (fun _=>⟨by simp [V.flat,V.qb2,V.qay,D.flat],qai⟩) ⟨rfl,rfl,rfl⟩
  · have hc26:=qdc hc26
    have h:=qci h hc26
    refine qav ?_
    refine qa5 ?_
    refine qa5 ?_
    refine qa2 ?_
    refine qa0 hτ rfl rfl rfl ?_
    refine qa0 hτ rfl rfl rfl ?_
    refine qab h fun x32 hx32 h=>?_
    refine qab h fun x33 hx33 h=>?_
    refine qha rfl rfl (qhw hτ rfl rfl rfl rfl rfl rfl hx32 hx33) ?_
    refine qa0 hτ rfl rfl rfl ?_
    refine qa0 hτ rfl rfl rfl ?_
    refine qab h fun x34 hx34 h=>?_
    refine qab h fun x35 hx35 h=>?_
    refine qha rfl rfl (qhw hτ rfl rfl rfl rfl rfl rfl hx34 hx35) ?_
    refine qab h fun x36 hx36 h=>?_
    refine qam hτ false [] rfl rfl rfl (qap func131 rfl rfl) rfl rfl (by simp) ⟨trivial,trivial,trivial⟩ (by trivial) (qe3 n (Cx.mk x32 x33) (Cx.mk x34 x35) hx36) ?_
    rintro r0 o0 n0 ⟨rfl,rfl,rfl⟩ -
    refine qa0 hτ rfl rfl rfl ?_
    refine qa4 ?_
    refine qa9 (qa3 [0,1] (l:=[(2,.ptr 0 0),(3,.ptr 1 0),(20,.d (.bool (!x36)))]) (objs:=[.box [.d (.cx .f32 a_.A.re a_.A.im),.d (.cx .f32 a_.B.re a_.B.im),.d (.cx .f32 a_.C.re a_.C.im)],.box [.d (.cx .f32 b_.A.re b_.A.im),.d (.cx .f32 b_.B.re b_.B.im),.d (.cx .f32 b_.C.re b_.C.im)]]) rfl (by simp) rfl (by trivial) ⟨rfl,trivial,rfl,trivial,rfl,trivial,trivial⟩) ?_
    refine qau rfl (fun hc37=>?_) (fun hc37=>?_)
    · have hc37:=qdd hc37
      have h:=qch h hc37
      refine qa5 ?_
      refine qa2 ?_
      refine qa0 hτ rfl rfl rfl ?_
      refine qa4 ?_
      refine qa9 (qa3 [] (l:=[(4,.d (.bool false))]) (objs:=[]) rfl (by simp) rfl (by trivial) ⟨rfl,trivial,trivial⟩) ?_
      refine qas ?_
      have hr:=Option.some.inj h
      subst hr
      exact qaf (.inr rfl) [] (objs':=[]) (new:=[]) rfl (by simp) (by simp) rfl (by trivial) rfl rfl (by trivial) (fun _=>⟨by simp [V.flat,V.qb2,V.qay,D.flat],qai⟩) ⟨rfl,rfl,rfl⟩
    · have hc37:=qdc hc37
      have h:=qci h hc37
      refine qav ?_
      refine qa5 ?_
      refine qa5 ?_
      refine qa2 ?_
      refine qa0 hτ rfl rfl rfl ?_
      refine qa0 hτ rfl rfl rfl ?_
      refine qab h fun x38 hx38 h=>?_
      refine qab h fun x39 hx39 h=>?_
      refine qha rfl rfl (qhw hτ rfl rfl rfl rfl rfl rfl hx38 hx39) ?_
      refine qa0 hτ rfl rfl rfl ?_
      refine qa0 hτ rfl rfl rfl ?_
      refine qab h fun x40 hx40 h=>?_
      refine qab h fun x41 hx41 h=>?_
      refine qha rfl rfl (qhw hτ rfl rfl rfl rfl rfl rfl hx40 hx41) ?_
      refine qab h fun x42 hx42 h=>?_
      refine qam hτ false [] rfl rfl rfl (qap func131 rfl rfl) rfl rfl (by simp) ⟨trivial,trivial,trivial⟩ (by trivial) (qe3 n (Cx.mk x38 x39) (Cx.mk x40 x41) hx42) ?_
      rintro r0 o0 n0 ⟨rfl,rfl,rfl⟩ -
      refine qa0 hτ rfl rfl rfl ?_
      refine qa4 ?_
      refine qa9 (qa3 [] (l:=[(28,.d (.bool (!x42)))]) (objs:=[]) rfl (by simp) rfl (by trivial) ⟨rfl,trivial,trivial⟩) ?_
      refine qau rfl (fun hc43=>?_) (fun hc43=>?_)
      · have hc43:=qdd hc43
        have h:=qch h hc43
        refine qa5 ?_
        refine qa2 ?_
        refine qa0 hτ rfl rfl rfl ?_
        refine qa4 ?_
        refine qa9 (qa3 [] (l:=[(4,.d (.bool false))]) (objs:=[]) rfl (by simp) rfl (by trivial) ⟨rfl,trivial,trivial⟩) ?_
        refine qas ?_
        have hr:=Option.some.inj h
        subst hr
        exact qaf (.inr rfl) [] (objs':=[]) (new:=[]) rfl (by simp) (by simp) rfl (by trivial) rfl rfl (by trivial) (fun _=>⟨by simp [V.flat,V.qb2,V.qay,D.flat],qai⟩) ⟨rfl,rfl,rfl⟩
      · have hc43:=qdc hc43
        have h:=qci h hc43
        refine qav ?_
        refine qa5 ?_
        refine qa2 ?_
        refine qa0 hτ rfl rfl rfl ?_
        refine qa4 ?_
        refine qa9 (qa3 [] (l:=[(4,.d (.bool true))]) (objs:=[]) rfl (by simp) rfl (by trivial) ⟨rfl,trivial,trivial⟩) ?_
        refine qas ?_
        have hr:=Option.some.inj h
        subst hr
        exact qaf (.inr rfl) [] (objs':=[]) (new:=[]) rfl (by simp) (by simp) rfl (by trivial) rfl rfl (by trivial) (fun _=>⟨by simp [V.flat,V.qb2,V.qay,D.flat],qai⟩) ⟨rfl,rfl,rfl⟩
theorem qj7 (n:Nat) (a_:qaa) (b_:qaa) {r:Bool} (h:qf5 n a_ b_ = some r):qb5 prog false 85 [.agg [.d (.cx .f32 a_.A.re a_.A.im),.d (.cx .f32 a_.B.re a_.B.im),.d (.cx .f32 a_.C.re a_.C.im)],.agg [.d (.cx .f32 b_.A.re b_.A.im),.d (.cx .f32 b_.B.re b_.B.im),.d (.cx .f32 b_.C.re b_.C.im)]] [] (fun v o new=>v = .d (.bool r)∧o = []∧new = []):=laws_eqPhases_ok_fr0 false n a_ b_ h
def qi8 (n:Nat) (a_:SBus) (b_:SBus):Option Bool :=
  if a_.qag = b_.qag then
    (qcf .f32 .f64 a_.Own.re).bind fun x18 =>
    (qcf .f32 .f64 a_.Own.im).bind fun x19 =>
    (qcf .f32 .f64 b_.Own.re).bind fun x20 =>
    (qcf .f32 .f64 b_.Own.im).bind fun x21 =>
    (qbz n (Cx.mk x18 x19) (Cx.mk x20 x21)).bind fun x22 =>
    if x22 = true then
      (qcf .f32 .f64 a_.Shared.re).bind fun x29 =>
      (qcf .f32 .f64 a_.Shared.im).bind fun x30 =>
      (qcf .f32 .f64 b_.Shared.re).bind fun x31 =>
      (qcf .f32 .f64 b_.Shared.im).bind fun x32 =>
      (qbz n (Cx.mk x29 x30) (Cx.mk x31 x32)).bind fun x33 =>
      if x33 = true then
        if a_.Kind = b_.Kind then
          (qf5 n a_.Load b_.Load).bind fun x37 =>
          if x37 = true then
            if a_.qa6 = b_.qa6 then
              some true
            else
              some false
          else
            some false
        else
          some false
      else
        some false
    else
      some false
  else
    some false
theorem laws_eqBus_ok_fr0 (fr:Bool) (n:Nat) (a_:SBus) (b_:SBus) {r:Bool} (h:qi8 n a_ b_ = some r):qb5 prog fr 132 [.agg [.d (.int .i64 a_.qag),.d (.cx .f32 a_.Own.re a_.Own.im),.d (.cx .f32 a_.Shared.re a_.Shared.im),.d (.int .i64 a_.Kind),.d (.cx .f32 a_.Load.A.re a_.Load.A.im),.d (.cx .f32 a_.Load.B.re a_.Load.B.im),.d (.cx .f32 a_.Load.C.re a_.Load.C.im),.d (.int .i64 a_.qa6)],.agg [.d (.int .i64 b_.qag),.d (.cx .f32 b_.Own.re b_.Own.im),.d (.cx .f32 b_.Shared.re b_.Shared.im),.d (.int .i64 b_.Kind),.d (.cx .f32 b_.Load.A.re b_.Load.A.im),.d (.cx .f32 b_.Load.B.re b_.Load.B.im),.d (.cx .f32 b_.Load.C.re b_.Load.C.im),.d (.int .i64 b_.qa6)]] [] (fun v o new=>v = .d (.bool r)∧o = []∧new = []):=by
  refine qar hτ func132 rfl (by simp) (by simp) ?_
  unfold qi8 at h
  refine qa5 ?_
  refine qa2 ?_
  refine qaq hτ rfl rfl rfl ?_
  refine qaq hτ rfl rfl rfl ?_
  refine qa0 hτ rfl rfl rfl ?_
  refine qa4 ?_
  refine qa5 ?_
  refine qa5 ?_
  refine qa2 ?_
  refine qa0 hτ rfl rfl rfl ?_
  refine qa0 hτ rfl rfl rfl ?_
  refine qa0 hτ rfl rfl rfl ?_
  refine qa0 hτ rfl rfl rfl ?_
  refine qa0 hτ (v:=.d (.bool (!(decide (a_.qag = b_.qag))))) rfl rfl (qhx _ _) ?_
  refine qa4 ?_
  refine qa9 (qa3 [0,1] (l:=[(2,.ptr 0 0),(3,.ptr 1 0),(9,.d (.bool (!(decide (a_.qag = b_.qag)))))]) (objs:=[.box [.d (.int .i64 a_.qag),.d (.cx .f32 a_.Own.re a_.Own.im),.d (.cx .f32 a_.Shared.re a_.Shared.im),.d (.int .i64 a_.Kind),.d (.cx .f32 a_.Load.A.re a_.Load.A.im),.d (.cx .f32 a_.Load.B.re a_.Load.B.im),.d (.cx .f32 a_.Load.C.re a_.Load.C.im),.d (.int .i64 a_.qa6)],.box [.d (.int .i64 b_.qag),.d (.cx .f32 b_.Own.re b_.Own.im),.d (.cx .f32 b_.Shared.re b_.Shared.im),.d (.int .i64 b_.Kind),.d (.cx .f32 b_.Load.A.re b_.Load.A.im),.d (.cx .f32 b_.Load.B.re b_.Load.B.im),.d (.cx .f32 b_.Load.C.re b_.Load.C.im),.d (.int .i64 b_.qa6)]]) rfl (by simp) rfl (by trivial) ⟨rfl,trivial,rfl,trivial,rfl,trivial,trivial⟩) ?_
  refine qau rfl (fun hc12=>?_) (fun hc12=>?_)
  · have hc12:=qdd hc12
    have h:=if_f h hc12
    refine qa5 ?_
    refine qa2 ?_
    refine qa0 hτ rfl rfl rfl ?_
    refine qa4 ?_
    refine qa9 (qa3 [] (l:=[(4,.d (.bool false))]) (objs:=[]) rfl (by simp) rfl (by trivial) ⟨rfl,trivial,trivial⟩) ?_
    refine qas ?_
    have hr:=Option.some.inj h
    subst hr
    exact qaf (.inr rfl) [] (objs':=[]) (new:=[]) rfl (by simp) (by simp) rfl (by trivial) rfl rfl (by trivial) (fun _=>⟨by simp [V.flat,V.qb2,V.qay,D.flat],qai⟩) ⟨rfl,rfl,rfl⟩
  · have hc12:=qdc hc12
    have h:=if_t h hc12
    refine qav ?_
    refine qa5 ?_
    refine qa5 ?_
    refine qa2 ?_
    refine qa0 hτ rfl rfl rfl ?_
    refine qa0 hτ rfl rfl rfl ?_
    refine qab h fun x18 hx18 h=>?_
    refine qab h fun x19 hx19 h=>?_
    refine qha rfl rfl (qhw hτ rfl rfl rfl rfl rfl rfl hx18 hx19) ?_
    refine qa0 hτ rfl rfl rfl ?_
    refine qa0 hτ rfl rfl rfl ?_
    refine qab h fun x20 hx20 h=>?_
    refine qab h fun x21 hx21 h=>?_
    refine qha rfl rfl (qhw hτ rfl rfl rfl rfl rfl rfl hx20 hx21) ?_
    refine qab h fun x22 hx22 h=>?_
    refine qam hτ false [] rfl rfl rfl (qap func131 rfl rfl) rfl rfl (by simp) ⟨trivial,trivial,trivial⟩ (by trivial) (qe3 n (Cx.mk x18 x19) (Cx.mk x20 x21) hx22) ?_
    rintro r0 o0 n0 ⟨rfl,rfl,rfl⟩ -
    refine qa0 hτ rfl rfl rfl ?_
    refine qa4 ?_
    refine qa9 (qa3 [0,1] (l:=[(2,.ptr 0 0),(3,.ptr 1 0),(17,.d (.bool (!x22)))]) (objs:=[.box [.d (.int .i64 a_.qag),.d (.cx .f32 a_.Own.re a_.Own.im),.d (.cx .f32 a_.Shared.re a_.Shared.im),.d (.int .i64 a_.Kind),.d (.cx .f32 a_.Load.A.re a_.Load.A.im),.d (.cx .f32 a_.Load.B.re a_.Load.B.im),.d (.cx .f32 a_.Load.C.re a_.Load.C.im),.d (.int .i64 a_.qa6)],.box [.d (.int .i64 b_.qag),.d (.cx .f32 b_.Own.re b_.Own.im),.d (.cx .f32 b_.Shared.re b_.Shared.im),.d (.int .i64 b_.Kind),.d (.cx .f32 b_.Load.A.re b_.Load.A.im),.d (.cx .f32 b_.Load.B.re b_.Load.B.im),.d (.cx .f32 b_.Load.C.re b_.Load.C.im),.d (.int .i64 b_.qa6)]]) rfl (by simp) rfl (by trivial) ⟨rfl,trivial,rfl,trivial,rfl,trivial,trivial⟩) ?_
    refine qau rfl (fun hc23=>?_) (fun hc23=>?_)
    · have hc23:=qdd hc23
      have h:=qch h hc23
      refine qa5 ?_
      refine qa2 ?_
      refine qa0 hτ rfl rfl rfl ?_
      refine qa4 ?_
      refine qa9 (qa3 [] (l:=[(4,.d (.bool false))]) (objs:=[]) rfl (by simp) rfl (by trivial) ⟨rfl,trivial,trivial⟩) ?_
      refine qas ?_
      have hr:=Option.some.inj h
      subst hr
      exact qaf (.inr rfl) [] (objs':=[]) (new:=[]) rfl (by simp) (by simp) rfl (by trivial) rfl rfl (by trivial) (fun _=>⟨by simp [V.flat,V.qb2,V.qay,D.flat],qai⟩) ⟨rfl,rfl,rfl⟩
    · have hc23:=qdc hc23
      have h:=qci h hc23
      refine qav ?_
      refine qa5 ?_
      refine qa5 ?_
      refine qa2 ?_
      refine qa0 hτ rfl rfl rfl ?_
      refine qa0 hτ rfl rfl rfl ?_
      refine qab h fun x29 hx29 h=>?_
      refine qab h fun x30 hx30 h=>?_
      refine qha rfl rfl (qhw hτ rfl rfl rfl rfl rfl rfl hx29 hx30) ?_
      refine qa0 hτ rfl rfl rfl ?_
      refine qa0 hτ rfl rfl rfl ?_
      refine qab h fun x31 hx31 h=>?_
      refine qab h fun x32 hx32 h=>?_
      refine qha rfl rfl (qhw hτ rfl rfl rfl rfl rfl rfl hx31 hx32) ?_
      refine qab h fun x33 hx33 h=>?_
      refine qam hτ false [] rfl rfl rfl (qap func131 rfl rfl) rfl rfl (by simp) ⟨trivial,trivial,trivial⟩ (by trivial) (qe3 n (Cx.mk x29 x30) (Cx.mk x31 x32) hx33) ?_
      rintro r0 o0 n0 ⟨rfl,rfl,rfl⟩ -
      refine qa0 hτ rfl rfl rfl ?_
      refine qa4 ?_
      refine qa9 (qa3 [0,1] (l:=[(2,.ptr 0 0),(3,.ptr 1 0),(25,.d (.bool (!x33)))]) (objs:=[.box [.d (.int .i64 a_.qag),.d (.cx .f32 a_.Own.re a_.Own.im),.d (.cx .f32 a_.Shared.re a_.Shared.im),.d (.int .i64 a_.Kind),.d (.cx .f32 a_.Load.A.re a_.Load.A.im),.d (.cx .f32 a_.Load.B.re a_.Load.B.im),.d (.cx .f32 a_.Load.C.re a_.Load.C.im),.d (.int .i64 a_.qa6)],.box [.d (.int .i64 b_.qag),.d (.cx .f32 b_.Own.re b_.Own.im),.d (.cx .f32 b_.Shared.re b_.Shared.im),.d (.int .i64 b_.Kind),.d (.cx .f32 b_.Load.A.re b_.Load.A.im),.d (.cx .f32 b_.Load.B.re b_.Load.B.im),.d (.cx .f32 b_.Load.C.re b_.Load.C.im),.d (.int .i64 b_.qa6)]]) rfl (by simp) rfl (by trivial) ⟨rfl,trivial,rfl,trivial,rfl,trivial,trivial⟩) ?_
      refine qau rfl (fun hc34=>?_) (fun hc34=>?_)
      · have hc34:=qdd hc34
        have h:=qch h hc34
        refine qa5 ?_
        refine qa2 ?_
        refine qa0 hτ rfl rfl rfl ?_
        refine qa4 ?_
        refine qa9 (qa3 [] (l:=[(4,.d (.bool false))]) (objs:=[]) rfl (by simp) rfl (by trivial) ⟨rfl,trivial,trivial⟩) ?_
        refine qas ?_
        have hr:=Option.some.inj h
        subst hr
        exact qaf (.inr rfl) [] (objs':=[]) (new:=[]) rfl (by simp) (by simp) rfl (by trivial) rfl rfl (by trivial) (fun _=>⟨by simp [V.flat,V.qb2,V.qay,D.flat],qai⟩) ⟨rfl,rfl,rfl⟩
      · have hc34:=qdc hc34
        have h:=qci h hc34
        refine qav ?_
        refine qa5 ?_
        refine qa5 ?_
        refine qa2 ?_
        refine qa0 hτ rfl rfl rfl ?_
        refine qa0 hτ rfl rfl rfl ?_
        refine qa0 hτ rfl rfl rfl ?_
        refine qa0 hτ rfl rfl rfl ?_
        refine qa0 hτ (v:=.d (.bool (!(decide (a_.Kind = b_.Kind))))) rfl rfl (qhx _ _) ?_
        refine qa4 ?_
        refine qau rfl (fun hc35=>?_) (fun hc35=>?_)
        · have hc35:=qdd hc35
          have h:=if_f h hc35
          refine qa5 ?_
          refine qa2 ?_
          refine qa0 hτ rfl rfl rfl ?_
          refine qa4 ?_
          refine qa9 (qa3 [] (l:=[(4,.d (.bool false))]) (objs:=[]) rfl (by simp) rfl (by trivial) ⟨rfl,trivial,trivial⟩) ?_
          refine qas ?_
          have hr:=Option.some.inj h
          subst hr
          exact qaf (.inr rfl) [] (objs':=[]) (new:=[]) rfl (by simp) (by simp) rfl (by trivial) rfl rfl (by trivial) (fun _=>⟨by simp [V.flat,V.qb2,V.qay,D.flat],qai⟩) ⟨rfl,rfl,rfl⟩
        · have hc35:=qdc hc35
          have h:=if_t h hc35
          refine qav ?_
          refine qa5 ?_
          refine qa5 ?_
          refine qa2 ?_
          refine qa0 hτ rfl rfl rfl ?_
          refine qa0 hτ rfl rfl rfl ?_
          refine qa0 hτ rfl rfl rfl ?_
          refine qa0 hτ rfl rfl rfl ?_
          refine qab h fun x37 hx37 h=>?_
          refine qam hτ false [] rfl rfl rfl (qap func85 rfl rfl) rfl rfl (by simp) ⟨(by trivial),(by trivial),trivial⟩ (by trivial) (qj7 n a_.Load b_.Load hx37) ?_
          rintro r0 o0 n0 ⟨rfl,rfl,rfl⟩ -
          refine qa0 hτ rfl rfl rfl ?_
          refine qa4 ?_
          refine qa9 (qa3 [0,1] (l:=[(2,.ptr 0 0),(3,.ptr 1 0),(36,.d (.bool (!x37)))]) (objs:=[.box [.d (.int .i64 a_.qag),.d (.cx .f32 a_.Own.re a_.Own.im),.d (.cx .f32 a_.Shared.re a_.Shared.im),.d (.int .i64 a_.Kind),.d (.cx .f32 a_.Load.A.re a_.Load.A.im),.d (.cx .f32 a_.Load.B.re a_.Load.B.im),.d (.cx .f32 a_.Load.C.re a_.Load.C.im),.d (.int .i64 a_.qa6)],.box [.d (.int .i64 b_.qag),.d (.cx .f32 b_.Own.re b_.Own.im),.d (.cx .f32 b_.Shared.re b_.Shared.im),.d (.int .i64 b_.Kind),.d (.cx .f32 b_.Load.A.re b_.Load.A.im),.d (.cx .f32 b_.Load.B.re b_.Load.B.im),.d (.cx .f32 b_.Load.C.re b_.Load.C.im),.d (.int .i64 b_.qa6)]]) rfl (by simp) rfl (by trivial) ⟨rfl,trivial,rfl,trivial,rfl,trivial,trivial⟩) ?_
          refine qau rfl (fun hc38=>?_) (fun hc38=>?_)
          · have hc38:=qdd hc38
            have h:=qch h hc38
            refine qa5 ?_
            refine qa2 ?_
            refine qa0 hτ rfl rfl rfl ?_
            refine qa4 ?_
            refine qa9 (qa3 [] (l:=[(4,.d (.bool false))]) (objs:=[]) rfl (by simp) rfl (by trivial) ⟨rfl,trivial,trivial⟩) ?_
            refine qas ?_
            have hr:=Option.some.inj h
            subst hr
            exact qaf (.inr rfl) [] (objs':=[]) (new:=[]) rfl (by simp) (by simp) rfl (by trivial) rfl rfl (by trivial) (fun _=>⟨by simp [V.flat,V.qb2,V.qay,D.flat],qai⟩) ⟨rfl,rfl,rfl⟩
          · have hc38:=qdc hc38
            have h:=qci h hc38
            refine qav ?_
            refine qa5 ?_
            refine qa5 ?_
            refine qa2 ?_
            refine qa0 hτ rfl rfl rfl ?_
            refine qa0 hτ rfl rfl rfl ?_
            refine qa0 hτ rfl rfl rfl ?_
            refine qa0 hτ rfl rfl rfl ?_
            refine qa0 hτ (v:=.d (.bool (!(decide (a_.qa6 = b_.qa6))))) rfl rfl (qhx _ _) ?_
            refine qa4 ?_
            refine qau rfl (fun hc39=>?_) (fun hc39=>?_)
            · have hc39:=qdd hc39
              have h:=if_f h hc39
              refine qa5 ?_
              refine qa2 ?_
              refine qa0 hτ rfl rfl rfl ?_
              refine qa4 ?_
              refine qa9 (qa3 [] (l:=[(4,.d (.bool false))]) (objs:=[]) rfl (by simp) rfl (by trivial) ⟨rfl,trivial,trivial⟩) ?_
              refine qas ?_
              have hr:=Option.some.inj h
              subst hr
              exact qaf (.inr rfl) [] (objs':=[]) (new:=[]) rfl (by simp) (by simp) rfl (by trivial) rfl rfl (by trivial) (fun _=>⟨by simp [V.flat,V.qb2,V.qay,D.flat],qai⟩) ⟨rfl,rfl,rfl⟩
            · have hc39:=qdc hc39
              have h:=if_t h hc39
              refine qav ?_
              refine qa5 ?_
              refine qa2 ?_
              refine qa0 hτ rfl rfl rfl ?_
              refine qa4 ?_
              refine qa9 (qa3 [] (l:=[(4,.d (.bool true))]) (objs:=[]) rfl (by simp) rfl (by trivial) ⟨rfl,trivial,trivial⟩) ?_
              refine qas ?_
              have hr:=Option.some.inj h
              subst hr
              exact qaf (.inr rfl) [] (objs':=[]) (new:=[]) rfl (by simp) (by simp) rfl (by trivial) rfl rfl (by trivial) (fun _=>⟨by simp [V.flat,V.qb2,V.qay,D.flat],qai⟩) ⟨rfl,rfl,rfl⟩
theorem laws_eqBus_ok (n:Nat) (a_:SBus) (b_:SBus) {r:Bool} (h:qi8 n a_ b_ = some r):qb5 prog false 132 [.agg [.d (.int .i64 a_.qag),.d (.cx .f32 a_.Own.re a_.Own.im),.d (.cx .f32 a_.Shared.re a_.Shared.im),.d (.int .i64 a_.Kind),.d (.cx .f32 a_.Load.A.re a_.Load.A.im),.d (.cx .f32 a_.Load.B.re a_.Load.B.im),.d (.cx .f32 a_.Load.C.re a_.Load.C.im),.d (.int .i64 a_.qa6)],.agg [.d (.int .i64 b_.qag),.d (.cx .f32 b_.Own.re b_.Own.im),.d (.cx .f32 b_.Shared.re b_.Shared.im),.d (.int .i64 b_.Kind),.d (.cx .f32 b_.Load.A.re b_.Load.A.im),.d (.cx .f32 b_.Load.B.re b_.Load.B.im),.d (.cx .f32 b_.Load.C.re b_.Load.C.im),.d (.int .i64 b_.qa6)]] [] (fun v o new=>v = .d (.bool r)∧o = []∧new = []):=laws_eqBus_ok_fr0 false n a_ b_ h
def qdx (n:Nat) (a_:List SBus) (b_:List SBus):Nat→Int→Option Bool
  | 0,_=>none
  | m18 + 1,v13 =>
    if v13 < (a_.length:Int) then
      (getI a_ v13).bind fun x24 =>
      (getI b_ v13).bind fun x25 =>
      (qi8 n x24 x25).bind fun x26 =>
      if x26 = true then
        (qdx n a_ b_ m18) (w64 (v13 + (1:Int)))
      else
        some false
    else
      some true
def qij (n:Nat) (a_:List SBus) (b_:List SBus):Option Bool :=
  if (a_.length:Int) = (b_.length:Int) then
    qdx n a_ b_ n (0:Int)
  else
    some false
theorem laws_eqBusS_ok_fr0 (fr:Bool) (n:Nat) (a_:List SBus) (b_:List SBus) {r:Bool} (h:qij n a_ b_ = some r):qb5 prog fr 86 [.d (.sl false (a_.map qah)),.d (.sl false (b_.map qah))] [] (fun v o new=>v = .d (.bool r)∧o = []∧new = []):=by
  refine qar hτ func86 rfl (by simp) (by simp) ?_
  unfold qij at h
  refine qa5 ?_
  refine qa2 ?_
  refine qa0 hτ rfl rfl rfl ?_
  refine qa4 ?_
  refine qa5 ?_
  refine qa5 ?_
  refine qa2 ?_
  refine qa0 hτ rfl rfl rfl ?_
  refine qa0 hτ (v:=.d (.int .i64 (a_.length:Int))) rfl rfl (Eq.trans rfl (qfo (f:=qah) a_)) ?_
  refine qa0 hτ rfl rfl rfl ?_
  refine qa0 hτ (v:=.d (.int .i64 (b_.length:Int))) rfl rfl (Eq.trans rfl (qfo (f:=qah) b_)) ?_
  refine qa0 hτ (v:=.d (.bool (!(decide ((a_.length:Int) = (b_.length:Int)))))) rfl rfl (qhx _ _) ?_
  refine qa4 ?_
  refine qa9 (qa3 [] (l:=[(0,.d (.sl false (a_.map qah))),(1,.d (.sl false (b_.map qah))),(10,.d (.bool (!(decide ((a_.length:Int) = (b_.length:Int))))))]) (objs:=[]) rfl (by simp) rfl (by trivial) ⟨rfl,trivial,rfl,trivial,rfl,trivial,trivial⟩) ?_
  refine qau rfl (fun hc9=>?_) (fun hc9=>?_)
  · have hc9:=qdd hc9
    have h:=if_f h hc9
    refine qa5 ?_
    refine qa2 ?_
    refine qa0 hτ rfl rfl rfl ?_
    refine qa4 ?_
    refine qa9 (qa3 [] (l:=[(4,.d (.bool false))]) (objs:=[]) rfl (by simp) rfl (by trivial) ⟨rfl,trivial,trivial⟩) ?_
    refine qas ?_
    have hr:=Option.some.inj h
    subst hr
    exact qaf (.inr rfl) [] (objs':=[]) (new:=[]) rfl (by simp) (by simp) rfl (by trivial) rfl rfl (by trivial) (fun _=>⟨by simp [V.flat,V.qb2,V.qay,D.flat],qai⟩) ⟨rfl,rfl,rfl⟩
  · have hc9:=qdc hc9
    have h:=if_t h hc9
    refine qav ?_
    refine qa5 ?_
    refine qa5 ?_
    refine qa2 ?_
    refine qa0 hτ rfl rfl rfl ?_
    refine qa4 ?_
    refine qb6 ?_
    refine qe1 (ι:=Nat × Int) (fun (m18,v13)=>St.of [(0,.d (.sl false (a_.map qah))),(1,.d (.sl false (b_.map qah))),(5,.d (.int .i64 v13))] [] f86.ntmps 0) (fun (m18,v13)=>qdx n a_ b_ m18 v13 = some r) (fun x=>x.1) (n,(0:Int)) h (qa3 [] (l:=[(0,.d (.sl false (a_.map qah))),(1,.d (.sl false (b_.map qah))),(5,.d (.int .i64 (0:Int)))]) (objs:=[]) rfl (by simp) rfl (by trivial) ⟨rfl,trivial,rfl,trivial,rfl,trivial,trivial⟩) ?_
    rintro ⟨m18,v13⟩ h
    replace h:qdx n a_ b_ m18 v13 = some r:=h
    rcases m18 with _ | m18
    · rw [qdx] at h;cases h
    rw [qdx] at h
    refine qa5 ?_
    refine qa5 ?_
    refine qa2 ?_
    refine qa0 hτ rfl rfl rfl ?_
    refine qa0 hτ rfl rfl rfl ?_
    refine qa0 hτ (v:=.d (.int .i64 (a_.length:Int))) rfl rfl (Eq.trans rfl (qfo (f:=qah) a_)) ?_
    refine qa0 hτ rfl rfl rfl ?_
    refine qa4 ?_
    refine qau rfl (fun hc20=>?_) (fun hc20=>?_)
    · have h:=if_t h hc20
      refine qav ?_
      refine qa5 ?_
      refine qb6 ?_
      refine qa5 ?_
      refine qc9 ?_
      refine qa7 hτ [] 0 rfl rfl rfl rfl rfl ?_
      refine qa7 hτ [] 1 rfl rfl rfl rfl rfl ?_
      refine qab h fun x24 hx24 h=>?_
      refine qic hτ [] 2 rfl rfl rfl rfl rfl (qbo hx24).1 (qcd hx24) rfl ?_
      refine qa7 hτ [] 3 rfl rfl rfl rfl rfl ?_
      refine qa7 hτ [] 4 rfl rfl rfl rfl rfl ?_
      refine qa7 hτ [] 5 rfl rfl rfl rfl rfl ?_
      refine qab h fun x25 hx25 h=>?_
      refine qic hτ [] 6 rfl rfl rfl rfl rfl (qbo hx25).1 (qcd hx25) rfl ?_
      refine qa7 hτ [] 7 rfl rfl rfl rfl rfl ?_
      refine qab h fun x26 hx26 h=>?_
      refine qbf hτ false [] [] 8 rfl rfl rfl rfl (qap func132 rfl rfl) rfl rfl (by simp) ⟨(by trivial),(by trivial),trivial⟩ (by trivial) (laws_eqBus_ok n x24 x25 hx26) trivial ?_
      refine qa7 hτ [] 9 rfl rfl rfl rfl rfl ?_
      refine qbp mixed (by kernel_rfl) ?_
      refine qa9 (qa3 [] (l:=[(0,.d (.sl false (a_.map qah))),(1,.d (.sl false (b_.map qah))),(5,.d (.int .i64 v13)),(26,.d (.bool (!x26)))]) (objs:=[]) rfl (by simp) rfl (by trivial) ⟨rfl,trivial,rfl,trivial,rfl,trivial,rfl,trivial,trivial⟩) ?_
      refine qau rfl (fun hc27=>?_) (fun hc27=>?_)
      · have hc27:=qdd hc27
        have h:=qch h hc27
        refine qa5 ?_
        refine qa2 ?_
        refine qa0 hτ rfl rfl rfl ?_
        refine qa4 ?_
        refine qa9 (qa3 [] (l:=[(4,.d (.bool false))]) (objs:=[]) rfl (by simp) rfl (by trivial) ⟨rfl,trivial,trivial⟩) ?_
        refine qas ?_
        have hr:=Option.some.inj h
        subst hr
        exact qaf (.inr rfl) [] (objs':=[]) (new:=[]) rfl (by simp) (by simp) rfl (by trivial) rfl rfl (by trivial) (fun _=>⟨by simp [V.flat,V.qb2,V.qay,D.flat],qai⟩) ⟨rfl,rfl,rfl⟩
      · have hc27:=qdc hc27
        have h:=qci h hc27
        refine qav ?_
        refine qa2 ?_
        refine qa0 hτ rfl rfl rfl ?_
        refine qa0 hτ rfl rfl rfl ?_
        refine qa0 hτ rfl rfl rfl ?_
        refine qa4 ?_
        exact ⟨(m18,(w64 (v13 + (1:Int)))),h,Nat.lt_succ_self m18,(qa3 [] (l:=[(0,.d (.sl false (a_.map qah))),(1,.d (.sl false (b_.map qah))),(5,.d (.int .i64 (w64 (v13 + (1:Int)))))]) (objs:=[]) rfl (by simp) rfl (by trivial) ⟨rfl,trivial,rfl,trivial,rfl,trivial,trivial⟩)⟩
    · have h:=if_f h hc20
      refine qdv ?_
      refine qa5 ?_
      refine qa2 ?_
      refine qa0 hτ rfl rfl rfl ?_
      refine qa4 ?_
      refine qa9 (qa3 [] (l:=[(4,.d (.bool true))]) (objs:=[]) rfl (by simp) rfl (by trivial) ⟨rfl,trivial,trivial⟩) ?_
      refine qas ?_
      have hr:=Option.some.inj h
      subst hr
      exact qaf (.inr rfl) [] (objs':=[]) (new:=[]) rfl (by simp) (by simp) rfl (by trivial) rfl rfl (by trivial) (fun _=>⟨by simp [V.flat,V.qb2,V.qay,D.flat],qai⟩) ⟨rfl,rfl,rfl⟩
theorem laws_eqBusS_ok (n:Nat) (a_:List SBus) (b_:List SBus) {r:Bool} (h:qij n a_ b_ = some r):qb5 prog false 86 [.d (.sl false (a_.map qah)),.d (.sl false (b_.map qah))] [] (fun v o new=>v = .d (.bool r)∧o = []∧new = []):=laws_eqBusS_ok_fr0 false n a_ b_ h
def qhe (n:Nat) (a_:qck) (b_:qck):Option Bool :=
  (qf5 n a_.Source b_.Source).bind fun x4 =>
  if x4 = true then
    (qij n a_.qac b_.qac).bind fun x6 =>
    if x6 = true then
      some true
    else
      some false
  else
    some false
theorem laws_eqFeeder_ok_fr0 (fr:Bool) (n:Nat) (a_:qck) (b_:qck) {r:Bool} (h:qhe n a_ b_ = some r):qb5 prog fr 35 [.agg [.d (.cx .f32 a_.Source.A.re a_.Source.A.im),.d (.cx .f32 a_.Source.B.re a_.Source.B.im),.d (.cx .f32 a_.Source.C.re a_.Source.C.im),.d (.sl false (a_.qac.map qah))],.agg [.d (.cx .f32 b_.Source.A.re b_.Source.A.im),.d (.cx .f32 b_.Source.B.re b_.Source.B.im),.d (.cx .f32 b_.Source.C.re b_.Source.C.im),.d (.sl false (b_.qac.map qah))]] [] (fun v o new=>v = .d (.bool r)∧o = []∧new = []):=by
  refine qar hτ func35 rfl (by simp) (by simp) ?_
  unfold qhe at h
  refine qa5 ?_
  refine qa2 ?_
  refine qaq hτ rfl rfl rfl ?_
  refine qaq hτ rfl rfl rfl ?_
  refine qa0 hτ rfl rfl rfl ?_
  refine qa4 ?_
  refine qa5 ?_
  refine qa5 ?_
  refine qa2 ?_
  refine qa0 hτ rfl rfl rfl ?_
  refine qa0 hτ rfl rfl rfl ?_
  refine qa0 hτ rfl rfl rfl ?_
  refine qa0 hτ rfl rfl rfl ?_
  refine qab h fun x4 hx4 h=>?_
  refine qam hτ false [] rfl rfl rfl (qap func85 rfl rfl) rfl rfl (by simp) ⟨(by trivial),(by trivial),trivial⟩ (by trivial) (qj7 n a_.Source b_.Source hx4) ?_
  rintro r0 o0 n0 ⟨rfl,rfl,rfl⟩ -
  refine qa0 hτ rfl rfl rfl ?_
  refine qa4 ?_
  refine qa9 (qa3 [0,1] (l:=[(2,.ptr 0 0),(3,.ptr 1 0),(10,.d (.bool (!x4)))]) (objs:=[.box [.d (.cx .f32 a_.Source.A.re a_.Source.A.im),.d (.cx .f32 a_.Source.B.re a_.Source.B.im),.d (.cx .f32 a_.Source.C.re a_.Source.C.im),.d (.sl false (a_.qac.map qah))],.box [.d (.cx .f32 b_.Source.A.re b_.Source.A.im),.d (.cx .f32 b_.Source.B.re b_.Source.B.im),.d (.cx .f32 b_.Source.C.re b_.Source.C.im),.d (.sl false (b_.qac.map qah))]]) rfl (by simp) rfl (by trivial) ⟨rfl,trivial,rfl,trivial,rfl,trivial,trivial⟩) ?_
  refine qau rfl (fun hc5=>?_) (fun hc5=>?_)
  · have hc5:=qdd hc5
    have h:=qch h hc5
    refine qa5 ?_
    refine qa2 ?_
    refine qa0 hτ rfl rfl rfl ?_
    refine qa4 ?_
    refine qa9 (qa3 [] (l:=[(4,.d (.bool false))]) (objs:=[]) rfl (by simp) rfl (by trivial) ⟨rfl,trivial,trivial⟩) ?_
    refine qas ?_
    have hr:=Option.some.inj h
    subst hr
    exact qaf (.inr rfl) [] (objs':=[]) (new:=[]) rfl (by simp) (by simp) rfl (by trivial) rfl rfl (by trivial) (fun _=>⟨by simp [V.flat,V.qb2,V.qay,D.flat],qai⟩) ⟨rfl,rfl,rfl⟩
  · have hc5:=qdc hc5
    have h:=qci h hc5
    refine qav ?_
    refine qa5 ?_
    refine qa5 ?_
    refine qa2 ?_
    refine qa0 hτ rfl rfl rfl ?_
    refine qa0 hτ rfl rfl rfl ?_
    refine qa0 hτ rfl rfl rfl ?_
    refine qa0 hτ rfl rfl rfl ?_
    refine qab h fun x6 hx6 h=>?_
    refine qam hτ false [] rfl rfl rfl (qap func86 rfl rfl) rfl rfl (by simp) ⟨trivial,trivial,trivial⟩ (by trivial) (laws_eqBusS_ok n a_.qac b_.qac hx6) ?_
    rintro r0 o0 n0 ⟨rfl,rfl,rfl⟩ -
    refine qa0 hτ rfl rfl rfl ?_
    refine qa4 ?_
    refine qa9 (qa3 [] (l:=[(16,.d (.bool (!x6)))]) (objs:=[]) rfl (by simp) rfl (by trivial) ⟨rfl,trivial,trivial⟩) ?_
    refine qau rfl (fun hc7=>?_) (fun hc7=>?_)
    · have hc7:=qdd hc7
      have h:=qch h hc7
      refine qa5 ?_
      refine qa2 ?_
      refine qa0 hτ rfl rfl rfl ?_
      refine qa4 ?_
      refine qa9 (qa3 [] (l:=[(4,.d (.bool false))]) (objs:=[]) rfl (by simp) rfl (by trivial) ⟨rfl,trivial,trivial⟩) ?_
      refine qas ?_
      have hr:=Option.some.inj h
      subst hr
      exact qaf (.inr rfl) [] (objs':=[]) (new:=[]) rfl (by simp) (by simp) rfl (by trivial) rfl rfl (by trivial) (fun _=>⟨by simp [V.flat,V.qb2,V.qay,D.flat],qai⟩) ⟨rfl,rfl,rfl⟩
    · have hc7:=qdc hc7
      have h:=qci h hc7
      refine qav ?_
      refine qa5 ?_
      refine qa2 ?_
      refine qa0 hτ rfl rfl rfl ?_
      refine qa4 ?_
      refine qa9 (qa3 [] (l:=[(4,.d (.bool true))]) (objs:=[]) rfl (by simp) rfl (by trivial) ⟨rfl,trivial,trivial⟩) ?_
      refine qas ?_
      have hr:=Option.some.inj h
      subst hr
      exact qaf (.inr rfl) [] (objs':=[]) (new:=[]) rfl (by simp) (by simp) rfl (by trivial) rfl rfl (by trivial) (fun _=>⟨by simp [V.flat,V.qb2,V.qay,D.flat],qai⟩) ⟨rfl,rfl,rfl⟩
theorem laws_eqFeeder_ok (n:Nat) (a_:qck) (b_:qck) {r:Bool} (h:qhe n a_ b_ = some r):qb5 prog false 35 [.agg [.d (.cx .f32 a_.Source.A.re a_.Source.A.im),.d (.cx .f32 a_.Source.B.re a_.Source.B.im),.d (.cx .f32 a_.Source.C.re a_.Source.C.im),.d (.sl false (a_.qac.map qah))],.agg [.d (.cx .f32 b_.Source.A.re b_.Source.A.im),.d (.cx .f32 b_.Source.B.re b_.Source.B.im),.d (.cx .f32 b_.Source.C.re b_.Source.C.im),.d (.sl false (b_.qac.map qah))]] [] (fun v o new=>v = .d (.bool r)∧o = []∧new = []):=laws_eqFeeder_ok_fr0 false n a_ b_ h
def qi9 (n:Nat) (a_:STie) (b_:STie):Option Bool :=
  if a_.A = b_.A then
    if a_.B = b_.B then
      (qcf .f32 .f64 a_.Own.re).bind fun x18 =>
      (qcf .f32 .f64 a_.Own.im).bind fun x19 =>
      (qcf .f32 .f64 b_.Own.re).bind fun x20 =>
      (qcf .f32 .f64 b_.Own.im).bind fun x21 =>
      (qbz n (Cx.mk x18 x19) (Cx.mk x20 x21)).bind fun x22 =>
      if x22 = true then
        (qcf .f32 .f64 a_.Shared.re).bind fun x29 =>
        (qcf .f32 .f64 a_.Shared.im).bind fun x30 =>
        (qcf .f32 .f64 b_.Shared.re).bind fun x31 =>
        (qcf .f32 .f64 b_.Shared.im).bind fun x32 =>
        (qbz n (Cx.mk x29 x30) (Cx.mk x31 x32)).bind fun x33 =>
        if x33 = true then
          if a_.Most = b_.Most then
            some true
          else
            some false
        else
          some false
      else
        some false
    else
      some false
  else
    some false
theorem laws_eqTie_ok_fr0 (fr:Bool) (n:Nat) (a_:STie) (b_:STie) {r:Bool} (h:qi9 n a_ b_ = some r):qb5 prog fr 87 [.agg [.d (.int .i64 a_.A),.d (.int .i64 a_.B),.d (.cx .f32 a_.Own.re a_.Own.im),.d (.cx .f32 a_.Shared.re a_.Shared.im),.d (.int .i64 a_.Most)],.agg [.d (.int .i64 b_.A),.d (.int .i64 b_.B),.d (.cx .f32 b_.Own.re b_.Own.im),.d (.cx .f32 b_.Shared.re b_.Shared.im),.d (.int .i64 b_.Most)]] [] (fun v o new=>v = .d (.bool r)∧o = []∧new = []):=by
  refine qar hτ func87 rfl (by simp) (by simp) ?_
  unfold qi9 at h
  refine qa5 ?_
  refine qa2 ?_
  refine qaq hτ rfl rfl rfl ?_
  refine qaq hτ rfl rfl rfl ?_
  refine qa0 hτ rfl rfl rfl ?_
  refine qa4 ?_
  refine qa5 ?_
  refine qa5 ?_
  refine qa2 ?_
  refine qa0 hτ rfl rfl rfl ?_
  refine qa0 hτ rfl rfl rfl ?_
  refine qa0 hτ rfl rfl rfl ?_
  refine qa0 hτ rfl rfl rfl ?_
  refine qa0 hτ (v:=.d (.bool (!(decide (a_.A = b_.A))))) rfl rfl (qhx _ _) ?_
  refine qa4 ?_
  refine qa9 (qa3 [0,1] (l:=[(2,.ptr 0 0),(3,.ptr 1 0),(9,.d (.bool (!(decide (a_.A = b_.A)))))]) (objs:=[.box [.d (.int .i64 a_.A),.d (.int .i64 a_.B),.d (.cx .f32 a_.Own.re a_.Own.im),.d (.cx .f32 a_.Shared.re a_.Shared.im),.d (.int .i64 a_.Most)],.box [.d (.int .i64 b_.A),.d (.int .i64 b_.B),.d (.cx .f32 b_.Own.re b_.Own.im),.d (.cx .f32 b_.Shared.re b_.Shared.im),.d (.int .i64 b_.Most)]]) rfl (by simp) rfl (by trivial) ⟨rfl,trivial,rfl,trivial,rfl,trivial,trivial⟩) ?_
  refine qau rfl (fun hc11=>?_) (fun hc11=>?_)
  · have hc11:=qdd hc11
    have h:=if_f h hc11
    refine qa5 ?_
    refine qa2 ?_
    refine qa0 hτ rfl rfl rfl ?_
    refine qa4 ?_
    refine qa9 (qa3 [] (l:=[(4,.d (.bool false))]) (objs:=[]) rfl (by simp) rfl (by trivial) ⟨rfl,trivial,trivial⟩) ?_
    refine qas ?_
    have hr:=Option.some.inj h
    subst hr
    exact qaf (.inr rfl) [] (objs':=[]) (new:=[]) rfl (by simp) (by simp) rfl (by trivial) rfl rfl (by trivial) (fun _=>⟨by simp [V.flat,V.qb2,V.qay,D.flat],qai⟩) ⟨rfl,rfl,rfl⟩
  · have hc11:=qdc hc11
    have h:=if_t h hc11
    refine qav ?_
    refine qa5 ?_
    refine qa5 ?_
    refine qa2 ?_
    refine qa0 hτ rfl rfl rfl ?_
    refine qa0 hτ rfl rfl rfl ?_
    refine qa0 hτ rfl rfl rfl ?_
    refine qa0 hτ rfl rfl rfl ?_
    refine qa0 hτ (v:=.d (.bool (!(decide (a_.B = b_.B))))) rfl rfl (qhx _ _) ?_
    refine qa4 ?_
    refine qau rfl (fun hc12=>?_) (fun hc12=>?_)
    · have hc12:=qdd hc12
      have h:=if_f h hc12
      refine qa5 ?_
      refine qa2 ?_
      refine qa0 hτ rfl rfl rfl ?_
      refine qa4 ?_
      refine qa9 (qa3 [] (l:=[(4,.d (.bool false))]) (objs:=[]) rfl (by simp) rfl (by trivial) ⟨rfl,trivial,trivial⟩) ?_
      refine qas ?_
      have hr:=Option.some.inj h
      subst hr
      exact qaf (.inr rfl) [] (objs':=[]) (new:=[]) rfl (by simp) (by simp) rfl (by trivial) rfl rfl (by trivial) (fun _=>⟨by simp [V.flat,V.qb2,V.qay,D.flat],qai⟩) ⟨rfl,rfl,rfl⟩
    · have hc12:=qdc hc12
      have h:=if_t h hc12
      refine qav ?_
      refine qa5 ?_
      refine qa5 ?_
      refine qa2 ?_
      refine qa0 hτ rfl rfl rfl ?_
      refine qa0 hτ rfl rfl rfl ?_
      refine qab h fun x18 hx18 h=>?_
      refine qab h fun x19 hx19 h=>?_
      refine qha rfl rfl (qhw hτ rfl rfl rfl rfl rfl rfl hx18 hx19) ?_
      refine qa0 hτ rfl rfl rfl ?_
      refine qa0 hτ rfl rfl rfl ?_
      refine qab h fun x20 hx20 h=>?_
      refine qab h fun x21 hx21 h=>?_
      refine qha rfl rfl (qhw hτ rfl rfl rfl rfl rfl rfl hx20 hx21) ?_
      refine qab h fun x22 hx22 h=>?_
      refine qam hτ false [] rfl rfl rfl (qap func131 rfl rfl) rfl rfl (by simp) ⟨trivial,trivial,trivial⟩ (by trivial) (qe3 n (Cx.mk x18 x19) (Cx.mk x20 x21) hx22) ?_
      rintro r0 o0 n0 ⟨rfl,rfl,rfl⟩ -
      refine qbn (qa3 [0,1] (l:=[(2,.ptr 0 0),(3,.ptr 1 0),(21,.d (.bool x22))]) (objs:=[.box [.d (.int .i64 a_.A),.d (.int .i64 a_.B),.d (.cx .f32 a_.Own.re a_.Own.im),.d (.cx .f32 a_.Shared.re a_.Shared.im),.d (.int .i64 a_.Most)],.box [.d (.int .i64 b_.A),.d (.int .i64 b_.B),.d (.cx .f32 b_.Own.re b_.Own.im),.d (.cx .f32 b_.Shared.re b_.Shared.im),.d (.int .i64 b_.Most)]]) rfl (by simp) rfl (by trivial) ⟨rfl,trivial,rfl,trivial,rfl,trivial,trivial⟩) ?_
      refine qa0 hτ rfl rfl rfl ?_
      refine qa4 ?_
      refine qau rfl (fun hc23=>?_) (fun hc23=>?_)
      · have hc23:=qdd hc23
        have h:=qch h hc23
        refine qa5 ?_
        refine qa2 ?_
        refine qa0 hτ rfl rfl rfl ?_
        refine qa4 ?_
        refine qa9 (qa3 [] (l:=[(4,.d (.bool false))]) (objs:=[]) rfl (by simp) rfl (by trivial) ⟨rfl,trivial,trivial⟩) ?_
        refine qas ?_
        have hr:=Option.some.inj h
        subst hr
        exact qaf (.inr rfl) [] (objs':=[]) (new:=[]) rfl (by simp) (by simp) rfl (by trivial) rfl rfl (by trivial) (fun _=>⟨by simp [V.flat,V.qb2,V.qay,D.flat],qai⟩) ⟨rfl,rfl,rfl⟩
      · have hc23:=qdc hc23
        have h:=qci h hc23
        refine qav ?_
        refine qa5 ?_
        refine qa5 ?_
        refine qa2 ?_
        refine qa0 hτ rfl rfl rfl ?_
        refine qa0 hτ rfl rfl rfl ?_
        refine qab h fun x29 hx29 h=>?_
        refine qab h fun x30 hx30 h=>?_
        refine qha rfl rfl (qhw hτ rfl rfl rfl rfl rfl rfl hx29 hx30) ?_
        refine qa0 hτ rfl rfl rfl ?_
        refine qa0 hτ rfl rfl rfl ?_
        refine qab h fun x31 hx31 h=>?_
        refine qab h fun x32 hx32 h=>?_
        refine qha rfl rfl (qhw hτ rfl rfl rfl rfl rfl rfl hx31 hx32) ?_
        refine qab h fun x33 hx33 h=>?_
        refine qam hτ false [] rfl rfl rfl (qap func131 rfl rfl) rfl rfl (by simp) ⟨trivial,trivial,trivial⟩ (by trivial) (qe3 n (Cx.mk x29 x30) (Cx.mk x31 x32) hx33) ?_
        rintro r0 o0 n0 ⟨rfl,rfl,rfl⟩ -
        refine qa0 hτ rfl rfl rfl ?_
        refine qa4 ?_
        refine qa9 (qa3 [0,1] (l:=[(2,.ptr 0 0),(3,.ptr 1 0),(30,.d (.bool (!x33)))]) (objs:=[.box [.d (.int .i64 a_.A),.d (.int .i64 a_.B),.d (.cx .f32 a_.Own.re a_.Own.im),.d (.cx .f32 a_.Shared.re a_.Shared.im),.d (.int .i64 a_.Most)],.box [.d (.int .i64 b_.A),.d (.int .i64 b_.B),.d (.cx .f32 b_.Own.re b_.Own.im),.d (.cx .f32 b_.Shared.re b_.Shared.im),.d (.int .i64 b_.Most)]]) rfl (by simp) rfl (by trivial) ⟨rfl,trivial,rfl,trivial,rfl,trivial,trivial⟩) ?_
        refine qau rfl (fun hc34=>?_) (fun hc34=>?_)
        · have hc34:=qdd hc34
          have h:=qch h hc34
          refine qa5 ?_
          refine qa2 ?_
          refine qa0 hτ rfl rfl rfl ?_
          refine qa4 ?_
          refine qa9 (qa3 [] (l:=[(4,.d (.bool false))]) (objs:=[]) rfl (by simp) rfl (by trivial) ⟨rfl,trivial,trivial⟩) ?_
          refine qas ?_
          have hr:=Option.some.inj h
          subst hr
          exact qaf (.inr rfl) [] (objs':=[]) (new:=[]) rfl (by simp) (by simp) rfl (by trivial) rfl rfl (by trivial) (fun _=>⟨by simp [V.flat,V.qb2,V.qay,D.flat],qai⟩) ⟨rfl,rfl,rfl⟩
        · have hc34:=qdc hc34
          have h:=qci h hc34
          refine qav ?_
          refine qa5 ?_
          refine qa5 ?_
          refine qa2 ?_
          refine qa0 hτ rfl rfl rfl ?_
          refine qa0 hτ rfl rfl rfl ?_
          refine qa0 hτ rfl rfl rfl ?_
          refine qa0 hτ rfl rfl rfl ?_
          refine qa0 hτ (v:=.d (.bool (!(decide (a_.Most = b_.Most))))) rfl rfl (qhx _ _) ?_
          refine qa4 ?_
          refine qau rfl (fun hc35=>?_) (fun hc35=>?_)
          · have hc35:=qdd hc35
            have h:=if_f h hc35
            refine qa5 ?_
            refine qa2 ?_
            refine qa0 hτ rfl rfl rfl ?_
            refine qa4 ?_
            refine qa9 (qa3 [] (l:=[(4,.d (.bool false))]) (objs:=[]) rfl (by simp) rfl (by trivial) ⟨rfl,trivial,trivial⟩) ?_
            refine qas ?_
            have hr:=Option.some.inj h
            subst hr
            exact qaf (.inr rfl) [] (objs':=[]) (new:=[]) rfl (by simp) (by simp) rfl (by trivial) rfl rfl (by trivial) (fun _=>⟨by simp [V.flat,V.qb2,V.qay,D.flat],qai⟩) ⟨rfl,rfl,rfl⟩
          · have hc35:=qdc hc35
            have h:=if_t h hc35
            refine qav ?_
            refine qa5 ?_
            refine qa2 ?_
            refine qa0 hτ rfl rfl rfl ?_
            refine qa4 ?_
            refine qa9 (qa3 [] (l:=[(4,.d (.bool true))]) (objs:=[]) rfl (by simp) rfl (by trivial) ⟨rfl,trivial,trivial⟩) ?_
            refine qas ?_
            have hr:=Option.some.inj h
            subst hr
            exact qaf (.inr rfl) [] (objs':=[]) (new:=[]) rfl (by simp) (by simp) rfl (by trivial) rfl rfl (by trivial) (fun _=>⟨by simp [V.flat,V.qb2,V.qay,D.flat],qai⟩) ⟨rfl,rfl,rfl⟩
theorem laws_eqTie_ok (n:Nat) (a_:STie) (b_:STie) {r:Bool} (h:qi9 n a_ b_ = some r):qb5 prog false 87 [.agg [.d (.int .i64 a_.A),.d (.int .i64 a_.B),.d (.cx .f32 a_.Own.re a_.Own.im),.d (.cx .f32 a_.Shared.re a_.Shared.im),.d (.int .i64 a_.Most)],.agg [.d (.int .i64 b_.A),.d (.int .i64 b_.B),.d (.cx .f32 b_.Own.re b_.Own.im),.d (.cx .f32 b_.Shared.re b_.Shared.im),.d (.int .i64 b_.Most)]] [] (fun v o new=>v = .d (.bool r)∧o = []∧new = []):=laws_eqTie_ok_fr0 false n a_ b_ h
def qdy (n:Nat) (a_:List STie) (b_:List STie):Nat→Int→Option Bool
  | 0,_=>none
  | m18 + 1,v13 =>
    if v13 < (a_.length:Int) then
      (getI a_ v13).bind fun x24 =>
      (getI b_ v13).bind fun x25 =>
      (qi9 n x24 x25).bind fun x26 =>
      if x26 = true then
        (qdy n a_ b_ m18) (w64 (v13 + (1:Int)))
      else
        some false
    else
      some true
def qik (n:Nat) (a_:List STie) (b_:List STie):Option Bool :=
  if (a_.length:Int) = (b_.length:Int) then
    qdy n a_ b_ n (0:Int)
  else
    some false
theorem laws_eqTieS_ok_fr0 (fr:Bool) (n:Nat) (a_:List STie) (b_:List STie) {r:Bool} (h:qik n a_ b_ = some r):qb5 prog fr 36 [.d (.sl false (a_.map qan)),.d (.sl false (b_.map qan))] [] (fun v o new=>v = .d (.bool r)∧o = []∧new = []):=by
  refine qar hτ func36 rfl (by simp) (by simp) ?_
  unfold qik at h
  refine qa5 ?_
  refine qa2 ?_
  refine qa0 hτ rfl rfl rfl ?_
  refine qa4 ?_
  refine qa5 ?_
  refine qa5 ?_
  refine qa2 ?_
  refine qa0 hτ rfl rfl rfl ?_
  refine qa0 hτ (v:=.d (.int .i64 (a_.length:Int))) rfl rfl (Eq.trans rfl (qfo (f:=qan) a_)) ?_
  refine qa0 hτ rfl rfl rfl ?_
  refine qa0 hτ (v:=.d (.int .i64 (b_.length:Int))) rfl rfl (Eq.trans rfl (qfo (f:=qan) b_)) ?_
  refine qa0 hτ (v:=.d (.bool (!(decide ((a_.length:Int) = (b_.length:Int)))))) rfl rfl (qhx _ _) ?_
  refine qa4 ?_
  refine qa9 (qa3 [] (l:=[(0,.d (.sl false (a_.map qan))),(1,.d (.sl false (b_.map qan))),(10,.d (.bool (!(decide ((a_.length:Int) = (b_.length:Int))))))]) (objs:=[]) rfl (by simp) rfl (by trivial) ⟨rfl,trivial,rfl,trivial,rfl,trivial,trivial⟩) ?_
  refine qau rfl (fun hc9=>?_) (fun hc9=>?_)
  · have hc9:=qdd hc9
    have h:=if_f h hc9
    refine qa5 ?_
    refine qa2 ?_
    refine qa0 hτ rfl rfl rfl ?_
    refine qa4 ?_
    refine qa9 (qa3 [] (l:=[(4,.d (.bool false))]) (objs:=[]) rfl (by simp) rfl (by trivial) ⟨rfl,trivial,trivial⟩) ?_
    refine qas ?_
    have hr:=Option.some.inj h
    subst hr
    exact qaf (.inr rfl) [] (objs':=[]) (new:=[]) rfl (by simp) (by simp) rfl (by trivial) rfl rfl (by trivial) (fun _=>⟨by simp [V.flat,V.qb2,V.qay,D.flat],qai⟩) ⟨rfl,rfl,rfl⟩
  · have hc9:=qdc hc9
    have h:=if_t h hc9
    refine qav ?_
    refine qa5 ?_
    refine qa5 ?_
    refine qa2 ?_
    refine qa0 hτ rfl rfl rfl ?_
    refine qa4 ?_
    refine qb6 ?_
    refine qe1 (ι:=Nat × Int) (fun (m18,v13)=>St.of [(0,.d (.sl false (a_.map qan))),(1,.d (.sl false (b_.map qan))),(5,.d (.int .i64 v13))] [] f36.ntmps 0) (fun (m18,v13)=>qdy n a_ b_ m18 v13 = some r) (fun x=>x.1) (n,(0:Int)) h (qa3 [] (l:=[(0,.d (.sl false (a_.map qan))),(1,.d (.sl false (b_.map qan))),(5,.d (.int .i64 (0:Int)))]) (objs:=[]) rfl (by simp) rfl (by trivial) ⟨rfl,trivial,rfl,trivial,rfl,trivial,trivial⟩) ?_
    rintro ⟨m18,v13⟩ h
    replace h:qdy n a_ b_ m18 v13 = some r:=h
    rcases m18 with _ | m18
    · rw [qdy] at h;cases h
    rw [qdy] at h
    refine qa5 ?_
    refine qa5 ?_
    refine qa2 ?_
    refine qa0 hτ rfl rfl rfl ?_
    refine qa0 hτ rfl rfl rfl ?_
    refine qa0 hτ (v:=.d (.int .i64 (a_.length:Int))) rfl rfl (Eq.trans rfl (qfo (f:=qan) a_)) ?_
    refine qa0 hτ rfl rfl rfl ?_
    refine qa4 ?_
    refine qau rfl (fun hc20=>?_) (fun hc20=>?_)
    · have h:=if_t h hc20
      refine qav ?_
      refine qa5 ?_
      refine qb6 ?_
      refine qa5 ?_
      refine qc9 ?_
      refine qa7 hτ [] 0 rfl rfl rfl rfl rfl ?_
      refine qa7 hτ [] 1 rfl rfl rfl rfl rfl ?_
      refine qab h fun x24 hx24 h=>?_
      refine qic hτ [] 2 rfl rfl rfl rfl rfl (qbo hx24).1 (qcd hx24) rfl ?_
      refine qa7 hτ [] 3 rfl rfl rfl rfl rfl ?_
      refine qa7 hτ [] 4 rfl rfl rfl rfl rfl ?_
      refine qa7 hτ [] 5 rfl rfl rfl rfl rfl ?_
      refine qab h fun x25 hx25 h=>?_
      refine qic hτ [] 6 rfl rfl rfl rfl rfl (qbo hx25).1 (qcd hx25) rfl ?_
      refine qa7 hτ [] 7 rfl rfl rfl rfl rfl ?_
      refine qab h fun x26 hx26 h=>?_
      refine qbf hτ false [] [] 8 rfl rfl rfl rfl (qap func87 rfl rfl) rfl rfl (by simp) ⟨(by trivial),(by trivial),trivial⟩ (by trivial) (laws_eqTie_ok n x24 x25 hx26) trivial ?_
      refine qa7 hτ [] 9 rfl rfl rfl rfl rfl ?_
      refine qbp mixed (by kernel_rfl) ?_
      refine qa9 (qa3 [] (l:=[(0,.d (.sl false (a_.map qan))),(1,.d (.sl false (b_.map qan))),(5,.d (.int .i64 v13)),(26,.d (.bool (!x26)))]) (objs:=[]) rfl (by simp) rfl (by trivial) ⟨rfl,trivial,rfl,trivial,rfl,trivial,rfl,trivial,trivial⟩) ?_
      refine qau rfl (fun hc27=>?_) (fun hc27=>?_)
      · have hc27:=qdd hc27
        have h:=qch h hc27
        refine qa5 ?_
        refine qa2 ?_
        refine qa0 hτ rfl rfl rfl ?_
        refine qa4 ?_
        refine qa9 (qa3 [] (l:=[(4,.d (.bool false))]) (objs:=[]) rfl (by simp) rfl (by trivial) ⟨rfl,trivial,trivial⟩) ?_
        refine qas ?_
        have hr:=Option.some.inj h
        subst hr
        exact qaf (.inr rfl) [] (objs':=[]) (new:=[]) rfl (by simp) (by simp) rfl (by trivial) rfl rfl (by trivial) (fun _=>⟨by simp [V.flat,V.qb2,V.qay,D.flat],qai⟩) ⟨rfl,rfl,rfl⟩
      · have hc27:=qdc hc27
        have h:=qci h hc27
        refine qav ?_
        refine qa2 ?_
        refine qa0 hτ rfl rfl rfl ?_
        refine qa0 hτ rfl rfl rfl ?_
        refine qa0 hτ rfl rfl rfl ?_
        refine qa4 ?_
        exact ⟨(m18,(w64 (v13 + (1:Int)))),h,Nat.lt_succ_self m18,(qa3 [] (l:=[(0,.d (.sl false (a_.map qan))),(1,.d (.sl false (b_.map qan))),(5,.d (.int .i64 (w64 (v13 + (1:Int)))))]) (objs:=[]) rfl (by simp) rfl (by trivial) ⟨rfl,trivial,rfl,trivial,rfl,trivial,trivial⟩)⟩
    · have h:=if_f h hc20
      refine qdv ?_
      refine qa5 ?_
      refine qa2 ?_
      refine qa0 hτ rfl rfl rfl ?_
      refine qa4 ?_
      refine qa9 (qa3 [] (l:=[(4,.d (.bool true))]) (objs:=[]) rfl (by simp) rfl (by trivial) ⟨rfl,trivial,trivial⟩) ?_
      refine qas ?_
      have hr:=Option.some.inj h
      subst hr
      exact qaf (.inr rfl) [] (objs':=[]) (new:=[]) rfl (by simp) (by simp) rfl (by trivial) rfl rfl (by trivial) (fun _=>⟨by simp [V.flat,V.qb2,V.qay,D.flat],qai⟩) ⟨rfl,rfl,rfl⟩
theorem laws_eqTieS_ok (n:Nat) (a_:List STie) (b_:List STie) {r:Bool} (h:qik n a_ b_ = some r):qb5 prog false 36 [.d (.sl false (a_.map qan)),.d (.sl false (b_.map qan))] [] (fun v o new=>v = .d (.bool r)∧o = []∧new = []):=laws_eqTieS_ok_fr0 false n a_ b_ h
def qho (n:Nat) (a_:qbi) (b_:qbi):Option Bool :=
  (qhe n a_.qa1 b_.qa1).bind fun x4 =>
  if x4 = true then
    (qik n a_.Ties b_.Ties).bind fun x6 =>
    if x6 = true then
      some true
    else
      some false
  else
    some false
theorem laws_eqGrid_ok_fr0 (fr:Bool) (n:Nat) (a_:qbi) (b_:qbi) {r:Bool} (h:qho n a_ b_ = some r):qb5 prog fr 9 [.agg [.d (.cx .f32 a_.qa1.Source.A.re a_.qa1.Source.A.im),.d (.cx .f32 a_.qa1.Source.B.re a_.qa1.Source.B.im),.d (.cx .f32 a_.qa1.Source.C.re a_.qa1.Source.C.im),.d (.sl false (a_.qa1.qac.map qah)),.d (.sl false (a_.Ties.map qan))],.agg [.d (.cx .f32 b_.qa1.Source.A.re b_.qa1.Source.A.im),.d (.cx .f32 b_.qa1.Source.B.re b_.qa1.Source.B.im),.d (.cx .f32 b_.qa1.Source.C.re b_.qa1.Source.C.im),.d (.sl false (b_.qa1.qac.map qah)),.d (.sl false (b_.Ties.map qan))]] [] (fun v o new=>v = .d (.bool r)∧o = []∧new = []):=by
  refine qar hτ func9 rfl (by simp) (by simp) ?_
  unfold qho at h
  refine qa5 ?_
  refine qa2 ?_
  refine qaq hτ rfl rfl rfl ?_
  refine qaq hτ rfl rfl rfl ?_
  refine qa0 hτ rfl rfl rfl ?_
  refine qa4 ?_
  refine qa5 ?_
  refine qa5 ?_
  refine qa2 ?_
  refine qa0 hτ rfl rfl rfl ?_
  refine qa0 hτ rfl rfl rfl ?_
  refine qa0 hτ rfl rfl rfl ?_
  refine qa0 hτ rfl rfl rfl ?_
  refine qab h fun x4 hx4 h=>?_
  refine qam hτ false [] rfl rfl rfl (qap func35 rfl rfl) rfl rfl (by simp) ⟨(by trivial),(by trivial),trivial⟩ (by trivial) (laws_eqFeeder_ok n a_.qa1 b_.qa1 hx4) ?_
  rintro r0 o0 n0 ⟨rfl,rfl,rfl⟩ -
  refine qa0 hτ rfl rfl rfl ?_
  refine qa4 ?_
  refine qa9 (qa3 [0,1] (l:=[(2,.ptr 0 0),(3,.ptr 1 0),(10,.d (.bool (!x4)))]) (objs:=[.box [.d (.cx .f32 a_.qa1.Source.A.re a_.qa1.Source.A.im),.d (.cx .f32 a_.qa1.Source.B.re a_.qa1.Source.B.im),.d (.cx .f32 a_.qa1.Source.C.re a_.qa1.Source.C.im),.d (.sl false (a_.qa1.qac.map qah)),.d (.sl false (a_.Ties.map qan))],.box [.d (.cx .f32 b_.qa1.Source.A.re b_.qa1.Source.A.im),.d (.cx .f32 b_.qa1.Source.B.re b_.qa1.Source.B.im),.d (.cx .f32 b_.qa1.Source.C.re b_.qa1.Source.C.im),.d (.sl false (b_.qa1.qac.map qah)),.d (.sl false (b_.Ties.map qan))]]) rfl (by simp) rfl (by trivial) ⟨rfl,trivial,rfl,trivial,rfl,trivial,trivial⟩) ?_
  refine qau rfl (fun hc5=>?_) (fun hc5=>?_)
  · have hc5:=qdd hc5
    have h:=qch h hc5
    refine qa5 ?_
    refine qa2 ?_
    refine qa0 hτ rfl rfl rfl ?_
    refine qa4 ?_
    refine qa9 (qa3 [] (l:=[(4,.d (.bool false))]) (objs:=[]) rfl (by simp) rfl (by trivial) ⟨rfl,trivial,trivial⟩) ?_
    refine qas ?_
    have hr:=Option.some.inj h
    subst hr
    exact qaf (.inr rfl) [] (objs':=[]) (new:=[]) rfl (by simp) (by simp) rfl (by trivial) rfl rfl (by trivial) (fun _=>⟨by simp [V.flat,V.qb2,V.qay,D.flat],qai⟩) ⟨rfl,rfl,rfl⟩
  · have hc5:=qdc hc5
    have h:=qci h hc5
    refine qav ?_
    refine qa5 ?_
    refine qa5 ?_
    refine qa2 ?_
    refine qa0 hτ rfl rfl rfl ?_
    refine qa0 hτ rfl rfl rfl ?_
    refine qa0 hτ rfl rfl rfl ?_
    refine qa0 hτ rfl rfl rfl ?_
    refine qab h fun x6 hx6 h=>?_
    refine qam hτ false [] rfl rfl rfl (qap func36 rfl rfl) rfl rfl (by simp) ⟨trivial,trivial,trivial⟩ (by trivial) (laws_eqTieS_ok n a_.Ties b_.Ties hx6) ?_
    rintro r0 o0 n0 ⟨rfl,rfl,rfl⟩ -
    refine qa0 hτ rfl rfl rfl ?_
    refine qa4 ?_
    refine qa9 (qa3 [] (l:=[(16,.d (.bool (!x6)))]) (objs:=[]) rfl (by simp) rfl (by trivial) ⟨rfl,trivial,trivial⟩) ?_
    refine qau rfl (fun hc7=>?_) (fun hc7=>?_)
    · have hc7:=qdd hc7
      have h:=qch h hc7
      refine qa5 ?_
      refine qa2 ?_
      refine qa0 hτ rfl rfl rfl ?_
      refine qa4 ?_
      refine qa9 (qa3 [] (l:=[(4,.d (.bool false))]) (objs:=[]) rfl (by simp) rfl (by trivial) ⟨rfl,trivial,trivial⟩) ?_
      refine qas ?_
      have hr:=Option.some.inj h
      subst hr
      exact qaf (.inr rfl) [] (objs':=[]) (new:=[]) rfl (by simp) (by simp) rfl (by trivial) rfl rfl (by trivial) (fun _=>⟨by simp [V.flat,V.qb2,V.qay,D.flat],qai⟩) ⟨rfl,rfl,rfl⟩
    · have hc7:=qdc hc7
      have h:=qci h hc7
      refine qav ?_
      refine qa5 ?_
      refine qa2 ?_
      refine qa0 hτ rfl rfl rfl ?_
      refine qa4 ?_
      refine qa9 (qa3 [] (l:=[(4,.d (.bool true))]) (objs:=[]) rfl (by simp) rfl (by trivial) ⟨rfl,trivial,trivial⟩) ?_
      refine qas ?_
      have hr:=Option.some.inj h
      subst hr
      exact qaf (.inr rfl) [] (objs':=[]) (new:=[]) rfl (by simp) (by simp) rfl (by trivial) rfl rfl (by trivial) (fun _=>⟨by simp [V.flat,V.qb2,V.qay,D.flat],qai⟩) ⟨rfl,rfl,rfl⟩
theorem laws_eqGrid_ok (n:Nat) (a_:qbi) (b_:qbi) {r:Bool} (h:qho n a_ b_ = some r):qb5 prog false 9 [.agg [.d (.cx .f32 a_.qa1.Source.A.re a_.qa1.Source.A.im),.d (.cx .f32 a_.qa1.Source.B.re a_.qa1.Source.B.im),.d (.cx .f32 a_.qa1.Source.C.re a_.qa1.Source.C.im),.d (.sl false (a_.qa1.qac.map qah)),.d (.sl false (a_.Ties.map qan))],.agg [.d (.cx .f32 b_.qa1.Source.A.re b_.qa1.Source.A.im),.d (.cx .f32 b_.qa1.Source.B.re b_.qa1.Source.B.im),.d (.cx .f32 b_.qa1.Source.C.re b_.qa1.Source.C.im),.d (.sl false (b_.qa1.qac.map qah)),.d (.sl false (b_.Ties.map qan))]] [] (fun v o new=>v = .d (.bool r)∧o = []∧new = []):=laws_eqGrid_ok_fr0 false n a_ b_ h
def qd6 (n:Nat) (a_:List qaa) (b_:List qaa):Nat→Int→Option Bool
  | 0,_=>none
  | m18 + 1,v13 =>
    if v13 < (a_.length:Int) then
      (getI a_ v13).bind fun x24 =>
      (getI b_ v13).bind fun x25 =>
      (qf5 n x24 x25).bind fun x26 =>
      if x26 = true then
        (qd6 n a_ b_ m18) (w64 (v13 + (1:Int)))
      else
        some false
    else
      some true
def qfb (n:Nat) (a_:List qaa) (b_:List qaa):Option Bool :=
  if (a_.length:Int) = (b_.length:Int) then
    qd6 n a_ b_ n (0:Int)
  else
    some false
theorem laws_eqPhasesS_ok_fr0 (fr:Bool) (n:Nat) (a_:List qaa) (b_:List qaa) {r:Bool} (h:qfb n a_ b_ = some r):qb5 prog fr 135 [.d (.sl false (a_.map qa8)),.d (.sl false (b_.map qa8))] [] (fun v o new=>v = .d (.bool r)∧o = []∧new = []):=by
  refine qar hτ func135 rfl (by simp) (by simp) ?_
  unfold qfb at h
  refine qa5 ?_
  refine qa2 ?_
  refine qa0 hτ rfl rfl rfl ?_
  refine qa4 ?_
  refine qa5 ?_
  refine qa5 ?_
  refine qa2 ?_
  refine qa0 hτ rfl rfl rfl ?_
  refine qa0 hτ (v:=.d (.int .i64 (a_.length:Int))) rfl rfl (Eq.trans rfl (qfo (f:=qa8) a_)) ?_
  refine qa0 hτ rfl rfl rfl ?_
  refine qa0 hτ (v:=.d (.int .i64 (b_.length:Int))) rfl rfl (Eq.trans rfl (qfo (f:=qa8) b_)) ?_
  refine qa0 hτ (v:=.d (.bool (!(decide ((a_.length:Int) = (b_.length:Int)))))) rfl rfl (qhx _ _) ?_
  refine qa4 ?_
  refine qa9 (qa3 [] (l:=[(0,.d (.sl false (a_.map qa8))),(1,.d (.sl false (b_.map qa8))),(10,.d (.bool (!(decide ((a_.length:Int) = (b_.length:Int))))))]) (objs:=[]) rfl (by simp) rfl (by trivial) ⟨rfl,trivial,rfl,trivial,rfl,trivial,trivial⟩) ?_
  refine qau rfl (fun hc9=>?_) (fun hc9=>?_)
  · have hc9:=qdd hc9
    have h:=if_f h hc9
    refine qa5 ?_
    refine qa2 ?_
    refine qa0 hτ rfl rfl rfl ?_
    refine qa4 ?_
    refine qa9 (qa3 [] (l:=[(4,.d (.bool false))]) (objs:=[]) rfl (by simp) rfl (by trivial) ⟨rfl,trivial,trivial⟩) ?_
    refine qas ?_
    have hr:=Option.some.inj h
    subst hr
    exact qaf (.inr rfl) [] (objs':=[]) (new:=[]) rfl (by simp) (by simp) rfl (by trivial) rfl rfl (by trivial) (fun _=>⟨by simp [V.flat,V.qb2,V.qay,D.flat],qai⟩) ⟨rfl,rfl,rfl⟩
  · have hc9:=qdc hc9
    have h:=if_t h hc9
    refine qav ?_
    refine qa5 ?_
    refine qa5 ?_
    refine qa2 ?_
    refine qa0 hτ rfl rfl rfl ?_
    refine qa4 ?_
    refine qb6 ?_
    refine qe1 (ι:=Nat × Int) (fun (m18,v13)=>St.of [(0,.d (.sl false (a_.map qa8))),(1,.d (.sl false (b_.map qa8))),(5,.d (.int .i64 v13))] [] f135.ntmps 0) (fun (m18,v13)=>qd6 n a_ b_ m18 v13 = some r) (fun x=>x.1) (n,(0:Int)) h (qa3 [] (l:=[(0,.d (.sl false (a_.map qa8))),(1,.d (.sl false (b_.map qa8))),(5,.d (.int .i64 (0:Int)))]) (objs:=[]) rfl (by simp) rfl (by trivial) ⟨rfl,trivial,rfl,trivial,rfl,trivial,trivial⟩) ?_
    rintro ⟨m18,v13⟩ h
    replace h:qd6 n a_ b_ m18 v13 = some r:=h
    rcases m18 with _ | m18
    · rw [qd6] at h;cases h
    rw [qd6] at h
    refine qa5 ?_
    refine qa5 ?_
    refine qa2 ?_
    refine qa0 hτ rfl rfl rfl ?_
    refine qa0 hτ rfl rfl rfl ?_
    refine qa0 hτ (v:=.d (.int .i64 (a_.length:Int))) rfl rfl (Eq.trans rfl (qfo (f:=qa8) a_)) ?_
    refine qa0 hτ rfl rfl rfl ?_
    refine qa4 ?_
    refine qau rfl (fun hc20=>?_) (fun hc20=>?_)
    · have h:=if_t h hc20
      refine qav ?_
      refine qa5 ?_
      refine qb6 ?_
      refine qa5 ?_
      refine qc9 ?_
      refine qa7 hτ [] 0 rfl rfl rfl rfl rfl ?_
      refine qa7 hτ [] 1 rfl rfl rfl rfl rfl ?_
      refine qab h fun x24 hx24 h=>?_
      refine qic hτ [] 2 rfl rfl rfl rfl rfl (qbo hx24).1 (qcd hx24) rfl ?_
      refine qa7 hτ [] 3 rfl rfl rfl rfl rfl ?_
      refine qa7 hτ [] 4 rfl rfl rfl rfl rfl ?_
      refine qa7 hτ [] 5 rfl rfl rfl rfl rfl ?_
      refine qab h fun x25 hx25 h=>?_
      refine qic hτ [] 6 rfl rfl rfl rfl rfl (qbo hx25).1 (qcd hx25) rfl ?_
      refine qa7 hτ [] 7 rfl rfl rfl rfl rfl ?_
      refine qab h fun x26 hx26 h=>?_
      refine qbf hτ false [] [] 8 rfl rfl rfl rfl (qap func85 rfl rfl) rfl rfl (by simp) ⟨(by trivial),(by trivial),trivial⟩ (by trivial) (qj7 n x24 x25 hx26) trivial ?_
      refine qa7 hτ [] 9 rfl rfl rfl rfl rfl ?_
      refine qbp mixed (by kernel_rfl) ?_
      refine qa9 (qa3 [] (l:=[(0,.d (.sl false (a_.map qa8))),(1,.d (.sl false (b_.map qa8))),(5,.d (.int .i64 v13)),(26,.d (.bool (!x26)))]) (objs:=[]) rfl (by simp) rfl (by trivial) ⟨rfl,trivial,rfl,trivial,rfl,trivial,rfl,trivial,trivial⟩) ?_
      refine qau rfl (fun hc27=>?_) (fun hc27=>?_)
      · have hc27:=qdd hc27
        have h:=qch h hc27
        refine qa5 ?_
        refine qa2 ?_
        refine qa0 hτ rfl rfl rfl ?_
        refine qa4 ?_
        refine qa9 (qa3 [] (l:=[(4,.d (.bool false))]) (objs:=[]) rfl (by simp) rfl (by trivial) ⟨rfl,trivial,trivial⟩) ?_
        refine qas ?_
        have hr:=Option.some.inj h
        subst hr
        exact qaf (.inr rfl) [] (objs':=[]) (new:=[]) rfl (by simp) (by simp) rfl (by trivial) rfl rfl (by trivial) (fun _=>⟨by simp [V.flat,V.qb2,V.qay,D.flat],qai⟩) ⟨rfl,rfl,rfl⟩
      · have hc27:=qdc hc27
        have h:=qci h hc27
        refine qav ?_
        refine qa2 ?_
        refine qa0 hτ rfl rfl rfl ?_
        refine qa0 hτ rfl rfl rfl ?_
        refine qa0 hτ rfl rfl rfl ?_
        refine qa4 ?_
        exact ⟨(m18,(w64 (v13 + (1:Int)))),h,Nat.lt_succ_self m18,(qa3 [] (l:=[(0,.d (.sl false (a_.map qa8))),(1,.d (.sl false (b_.map qa8))),(5,.d (.int .i64 (w64 (v13 + (1:Int)))))]) (objs:=[]) rfl (by simp) rfl (by trivial) ⟨rfl,trivial,rfl,trivial,rfl,trivial,trivial⟩)⟩
    · have h:=if_f h hc20
      refine qdv ?_
      refine qa5 ?_
      refine qa2 ?_
      refine qa0 hτ rfl rfl rfl ?_
      refine qa4 ?_
      refine qa9 (qa3 [] (l:=[(4,.d (.bool true))]) (objs:=[]) rfl (by simp) rfl (by trivial) ⟨rfl,trivial,trivial⟩) ?_
      refine qas ?_
      have hr:=Option.some.inj h
      subst hr
      exact qaf (.inr rfl) [] (objs':=[]) (new:=[]) rfl (by simp) (by simp) rfl (by trivial) rfl rfl (by trivial) (fun _=>⟨by simp [V.flat,V.qb2,V.qay,D.flat],qai⟩) ⟨rfl,rfl,rfl⟩
theorem qjx (n:Nat) (a_:List qaa) (b_:List qaa) {r:Bool} (h:qfb n a_ b_ = some r):qb5 prog false 135 [.d (.sl false (a_.map qa8)),.d (.sl false (b_.map qa8))] [] (fun v o new=>v = .d (.bool r)∧o = []∧new = []):=laws_eqPhasesS_ok_fr0 false n a_ b_ h
def qhn (n:Nat) (a_:qbb) (b_:qbb):Option Bool :=
  (qfb n a_.qad b_.qad).bind fun x4 =>
  if x4 = true then
    (qfb n a_.qae b_.qae).bind fun x7 =>
    if x7 = true then
      if a_.Rounds = b_.Rounds then
        if (a_.qcj == b_.qcj) = true then
          some true
        else
          some false
      else
        some false
    else
      some false
  else
    some false
theorem laws_eqFlow_ok_fr0 (fr:Bool) (n:Nat) (a_:qbb) (b_:qbb) {r:Bool} (h:qhn n a_ b_ = some r):qb5 prog fr 93 [.agg [.d (.sl false (a_.qad.map qa8)),.d (.sl false (a_.qae.map qa8)),.d (.int .i64 a_.Rounds),.d (.bool a_.qcj)],.agg [.d (.sl false (b_.qad.map qa8)),.d (.sl false (b_.qae.map qa8)),.d (.int .i64 b_.Rounds),.d (.bool b_.qcj)]] [] (fun v o new=>v = .d (.bool r)∧o = []∧new = []):=by
  refine qar hτ func93 rfl (by simp) (by simp) ?_
  unfold qhn at h
  refine qa5 ?_
  refine qa2 ?_
  refine qaq hτ rfl rfl rfl ?_
  refine qaq hτ rfl rfl rfl ?_
  refine qa0 hτ rfl rfl rfl ?_
  refine qa4 ?_
  refine qa5 ?_
  refine qa5 ?_
  refine qa2 ?_
  refine qa0 hτ rfl rfl rfl ?_
  refine qa0 hτ rfl rfl rfl ?_
  refine qa0 hτ rfl rfl rfl ?_
  refine qa0 hτ rfl rfl rfl ?_
  refine qab h fun x4 hx4 h=>?_
  refine qam hτ false [] rfl rfl rfl (qap func135 rfl rfl) rfl rfl (by simp) ⟨trivial,trivial,trivial⟩ (by trivial) (qjx n a_.qad b_.qad hx4) ?_
  rintro r0 o0 n0 ⟨rfl,rfl,rfl⟩ -
  refine qa0 hτ rfl rfl rfl ?_
  refine qa4 ?_
  refine qa9 (qa3 [0,1] (l:=[(2,.ptr 0 0),(3,.ptr 1 0),(10,.d (.bool (!x4)))]) (objs:=[.box [.d (.sl false (a_.qad.map qa8)),.d (.sl false (a_.qae.map qa8)),.d (.int .i64 a_.Rounds),.d (.bool a_.qcj)],.box [.d (.sl false (b_.qad.map qa8)),.d (.sl false (b_.qae.map qa8)),.d (.int .i64 b_.Rounds),.d (.bool b_.qcj)]]) rfl (by simp) rfl (by trivial) ⟨rfl,trivial,rfl,trivial,rfl,trivial,trivial⟩) ?_
  refine qau rfl (fun hc5=>?_) (fun hc5=>?_)
  · have hc5:=qdd hc5
    have h:=qch h hc5
    refine qa5 ?_
    refine qa2 ?_
    refine qa0 hτ rfl rfl rfl ?_
    refine qa4 ?_
    refine qa9 (qa3 [] (l:=[(4,.d (.bool false))]) (objs:=[]) rfl (by simp) rfl (by trivial) ⟨rfl,trivial,trivial⟩) ?_
    refine qas ?_
    have hr:=Option.some.inj h
    subst hr
    exact qaf (.inr rfl) [] (objs':=[]) (new:=[]) rfl (by simp) (by simp) rfl (by trivial) rfl rfl (by trivial) (fun _=>⟨by simp [V.flat,V.qb2,V.qay,D.flat],qai⟩) ⟨rfl,rfl,rfl⟩
  · have hc5:=qdc hc5
    have h:=qci h hc5
    refine qav ?_
    refine qa5 ?_
    refine qa5 ?_
    refine qa2 ?_
    refine qa0 hτ rfl rfl rfl ?_
    refine qa0 hτ rfl rfl rfl ?_
    refine qa0 hτ rfl rfl rfl ?_
    refine qa0 hτ rfl rfl rfl ?_
    refine qab h fun x7 hx7 h=>?_
    refine qam hτ false [] rfl rfl rfl (qap func135 rfl rfl) rfl rfl (by simp) ⟨trivial,trivial,trivial⟩ (by trivial) (qjx n a_.qae b_.qae hx7) ?_
    rintro r0 o0 n0 ⟨rfl,rfl,rfl⟩ -
    refine qa0 hτ rfl rfl rfl ?_
    refine qa4 ?_
    refine qa9 (qa3 [0,1] (l:=[(2,.ptr 0 0),(3,.ptr 1 0),(16,.d (.bool (!x7)))]) (objs:=[.box [.d (.sl false (a_.qad.map qa8)),.d (.sl false (a_.qae.map qa8)),.d (.int .i64 a_.Rounds),.d (.bool a_.qcj)],.box [.d (.sl false (b_.qad.map qa8)),.d (.sl false (b_.qae.map qa8)),.d (.int .i64 b_.Rounds),.d (.bool b_.qcj)]]) rfl (by simp) rfl (by trivial) ⟨rfl,trivial,rfl,trivial,rfl,trivial,trivial⟩) ?_
    refine qau rfl (fun hc8=>?_) (fun hc8=>?_)
    · have hc8:=qdd hc8
      have h:=qch h hc8
      refine qa5 ?_
      refine qa2 ?_
      refine qa0 hτ rfl rfl rfl ?_
      refine qa4 ?_
      refine qa9 (qa3 [] (l:=[(4,.d (.bool false))]) (objs:=[]) rfl (by simp) rfl (by trivial) ⟨rfl,trivial,trivial⟩) ?_
      refine qas ?_
      have hr:=Option.some.inj h
      subst hr
      exact qaf (.inr rfl) [] (objs':=[]) (new:=[]) rfl (by simp) (by simp) rfl (by trivial) rfl rfl (by trivial) (fun _=>⟨by simp [V.flat,V.qb2,V.qay,D.flat],qai⟩) ⟨rfl,rfl,rfl⟩
    · have hc8:=qdc hc8
      have h:=qci h hc8
      refine qav ?_
      refine qa5 ?_
      refine qa5 ?_
      refine qa2 ?_
      refine qa0 hτ rfl rfl rfl ?_
      refine qa0 hτ rfl rfl rfl ?_
      refine qa0 hτ rfl rfl rfl ?_
      refine qa0 hτ rfl rfl rfl ?_
      refine qa0 hτ (v:=.d (.bool (!(decide (a_.Rounds = b_.Rounds))))) rfl rfl (qhx _ _) ?_
      refine qa4 ?_
      refine qau rfl (fun hc9=>?_) (fun hc9=>?_)
      · have hc9:=qdd hc9
        have h:=if_f h hc9
        refine qa5 ?_
        refine qa2 ?_
        refine qa0 hτ rfl rfl rfl ?_
        refine qa4 ?_
        refine qa9 (qa3 [] (l:=[(4,.d (.bool false))]) (objs:=[]) rfl (by simp) rfl (by trivial) ⟨rfl,trivial,trivial⟩) ?_
        refine qas ?_
        have hr:=Option.some.inj h
        subst hr
        exact qaf (.inr rfl) [] (objs':=[]) (new:=[]) rfl (by simp) (by simp) rfl (by trivial) rfl rfl (by trivial) (fun _=>⟨by simp [V.flat,V.qb2,V.qay,D.flat],qai⟩) ⟨rfl,rfl,rfl⟩
      · have hc9:=qdc hc9
        have h:=if_t h hc9
        refine qav ?_
        refine qa5 ?_
        refine qa5 ?_
        refine qa2 ?_
        refine qa0 hτ rfl rfl rfl ?_
        refine qa0 hτ rfl rfl rfl ?_
        refine qa0 hτ rfl rfl rfl ?_
        refine qa0 hτ rfl rfl rfl ?_
        refine qa0 hτ rfl rfl rfl ?_
        refine qa4 ?_
        refine qa9 (qa3 [] (l:=[(26,.d (.bool (!(a_.qcj == b_.qcj))))]) (objs:=[]) rfl (by simp) rfl (by trivial) ⟨rfl,trivial,trivial⟩) ?_
        refine qau rfl (fun hc10=>?_) (fun hc10=>?_)
        · have hc10:=qdd hc10
          have h:=qch h hc10
          refine qa5 ?_
          refine qa2 ?_
          refine qa0 hτ rfl rfl rfl ?_
          refine qa4 ?_
          refine qa9 (qa3 [] (l:=[(4,.d (.bool false))]) (objs:=[]) rfl (by simp) rfl (by trivial) ⟨rfl,trivial,trivial⟩) ?_
          refine qas ?_
          have hr:=Option.some.inj h
          subst hr
          exact qaf (.inr rfl) [] (objs':=[]) (new:=[]) rfl (by simp) (by simp) rfl (by trivial) rfl rfl (by trivial) (fun _=>⟨by simp [V.flat,V.qb2,V.qay,D.flat],qai⟩) ⟨rfl,rfl,rfl⟩
        · have hc10:=qdc hc10
          have h:=qci h hc10
          refine qav ?_
          refine qa5 ?_
          refine qa2 ?_
          refine qa0 hτ rfl rfl rfl ?_
          refine qa4 ?_
          refine qa9 (qa3 [] (l:=[(4,.d (.bool true))]) (objs:=[]) rfl (by simp) rfl (by trivial) ⟨rfl,trivial,trivial⟩) ?_
          refine qas ?_
          have hr:=Option.some.inj h
          subst hr
          exact qaf (.inr rfl) [] (objs':=[]) (new:=[]) rfl (by simp) (by simp) rfl (by trivial) rfl rfl (by trivial) (fun _=>⟨by simp [V.flat,V.qb2,V.qay,D.flat],qai⟩) ⟨rfl,rfl,rfl⟩
theorem laws_eqFlow_ok (n:Nat) (a_:qbb) (b_:qbb) {r:Bool} (h:qhn n a_ b_ = some r):qb5 prog false 93 [.agg [.d (.sl false (a_.qad.map qa8)),.d (.sl false (a_.qae.map qa8)),.d (.int .i64 a_.Rounds),.d (.bool a_.qcj)],.agg [.d (.sl false (b_.qad.map qa8)),.d (.sl false (b_.qae.map qa8)),.d (.int .i64 b_.Rounds),.d (.bool b_.qcj)]] [] (fun v o new=>v = .d (.bool r)∧o = []∧new = []):=laws_eqFlow_ok_fr0 false n a_ b_ h
def qda (n:Nat) (a_:List qbb) (b_:List qbb):Nat→Int→Option Bool
  | 0,_=>none
  | m18 + 1,v13 =>
    if v13 < (a_.length:Int) then
      (getI a_ v13).bind fun x24 =>
      (getI b_ v13).bind fun x25 =>
      (qhn n x24 x25).bind fun x26 =>
      if x26 = true then
        (qda n a_ b_ m18) (w64 (v13 + (1:Int)))
      else
        some false
    else
      some true
def qi1 (n:Nat) (a_:List qbb) (b_:List qbb):Option Bool :=
  if (a_.length:Int) = (b_.length:Int) then
    qda n a_ b_ n (0:Int)
  else
    some false
theorem laws_eqFlowS_ok_fr0 (fr:Bool) (n:Nat) (a_:List qbb) (b_:List qbb) {r:Bool} (h:qi1 n a_ b_ = some r):qb5 prog fr 45 [.d (.sl false (a_.map qbm)),.d (.sl false (b_.map qbm))] [] (fun v o new=>v = .d (.bool r)∧o = []∧new = []):=by
  refine qar hτ func45 rfl (by simp) (by simp) ?_
  unfold qi1 at h
  refine qa5 ?_
  refine qa2 ?_
  refine qa0 hτ rfl rfl rfl ?_
  refine qa4 ?_
  refine qa5 ?_
  refine qa5 ?_
  refine qa2 ?_
  refine qa0 hτ rfl rfl rfl ?_
  refine qa0 hτ (v:=.d (.int .i64 (a_.length:Int))) rfl rfl (Eq.trans rfl (qfo (f:=qbm) a_)) ?_
  refine qa0 hτ rfl rfl rfl ?_
  refine qa0 hτ (v:=.d (.int .i64 (b_.length:Int))) rfl rfl (Eq.trans rfl (qfo (f:=qbm) b_)) ?_
  refine qa0 hτ (v:=.d (.bool (!(decide ((a_.length:Int) = (b_.length:Int)))))) rfl rfl (qhx _ _) ?_
  refine qa4 ?_
  refine qa9 (qa3 [] (l:=[(0,.d (.sl false (a_.map qbm))),(1,.d (.sl false (b_.map qbm))),(10,.d (.bool (!(decide ((a_.length:Int) = (b_.length:Int))))))]) (objs:=[]) rfl (by simp) rfl (by trivial) ⟨rfl,trivial,rfl,trivial,rfl,trivial,trivial⟩) ?_
  refine qau rfl (fun hc9=>?_) (fun hc9=>?_)
  · have hc9:=qdd hc9
    have h:=if_f h hc9
    refine qa5 ?_
    refine qa2 ?_
    refine qa0 hτ rfl rfl rfl ?_
    refine qa4 ?_
    refine qa9 (qa3 [] (l:=[(4,.d (.bool false))]) (objs:=[]) rfl (by simp) rfl (by trivial) ⟨rfl,trivial,trivial⟩) ?_
    refine qas ?_
    have hr:=Option.some.inj h
    subst hr
    exact qaf (.inr rfl) [] (objs':=[]) (new:=[]) rfl (by simp) (by simp) rfl (by trivial) rfl rfl (by trivial) (fun _=>⟨by simp [V.flat,V.qb2,V.qay,D.flat],qai⟩) ⟨rfl,rfl,rfl⟩
  · have hc9:=qdc hc9
    have h:=if_t h hc9
    refine qav ?_
    refine qa5 ?_
    refine qa5 ?_
    refine qa2 ?_
    refine qa0 hτ rfl rfl rfl ?_
    refine qa4 ?_
    refine qb6 ?_
    refine qe1 (ι:=Nat × Int) (fun (m18,v13)=>St.of [(0,.d (.sl false (a_.map qbm))),(1,.d (.sl false (b_.map qbm))),(5,.d (.int .i64 v13))] [] f45.ntmps 0) (fun (m18,v13)=>qda n a_ b_ m18 v13 = some r) (fun x=>x.1) (n,(0:Int)) h (qa3 [] (l:=[(0,.d (.sl false (a_.map qbm))),(1,.d (.sl false (b_.map qbm))),(5,.d (.int .i64 (0:Int)))]) (objs:=[]) rfl (by simp) rfl (by trivial) ⟨rfl,trivial,rfl,trivial,rfl,trivial,trivial⟩) ?_
    rintro ⟨m18,v13⟩ h
    replace h:qda n a_ b_ m18 v13 = some r:=h
    rcases m18 with _ | m18
    · rw [qda] at h;cases h
    rw [qda] at h
    refine qa5 ?_
    refine qa5 ?_
    refine qa2 ?_
    refine qa0 hτ rfl rfl rfl ?_
    refine qa0 hτ rfl rfl rfl ?_
    refine qa0 hτ (v:=.d (.int .i64 (a_.length:Int))) rfl rfl (Eq.trans rfl (qfo (f:=qbm) a_)) ?_
    refine qa0 hτ rfl rfl rfl ?_
    refine qa4 ?_
    refine qau rfl (fun hc20=>?_) (fun hc20=>?_)
    · have h:=if_t h hc20
      refine qav ?_
      refine qa5 ?_
      refine qb6 ?_
      refine qa5 ?_
      refine qc9 ?_
      refine qa7 hτ [] 0 rfl rfl rfl rfl rfl ?_
      refine qa7 hτ [] 1 rfl rfl rfl rfl rfl ?_
      refine qab h fun x24 hx24 h=>?_
      refine qic hτ [] 2 rfl rfl rfl rfl rfl (qbo hx24).1 (qcd hx24) rfl ?_
      refine qa7 hτ [] 3 rfl rfl rfl rfl rfl ?_
      refine qa7 hτ [] 4 rfl rfl rfl rfl rfl ?_
      refine qa7 hτ [] 5 rfl rfl rfl rfl rfl ?_
      refine qab h fun x25 hx25 h=>?_
      refine qic hτ [] 6 rfl rfl rfl rfl rfl (qbo hx25).1 (qcd hx25) rfl ?_
      refine qa7 hτ [] 7 rfl rfl rfl rfl rfl ?_
      refine qab h fun x26 hx26 h=>?_
      refine qbf hτ false [] [] 8 rfl rfl rfl rfl (qap func93 rfl rfl) rfl rfl (by simp) ⟨(by trivial),(by trivial),trivial⟩ (by trivial) (laws_eqFlow_ok n x24 x25 hx26) trivial ?_
      refine qa7 hτ [] 9 rfl rfl rfl rfl rfl ?_
      refine qbp mixed (by kernel_rfl) ?_
      refine qa9 (qa3 [] (l:=[(0,.d (.sl false (a_.map qbm))),(1,.d (.sl false (b_.map qbm))),(5,.d (.int .i64 v13)),(26,.d (.bool (!x26)))]) (objs:=[]) rfl (by simp) rfl (by trivial) ⟨rfl,trivial,rfl,trivial,rfl,trivial,rfl,trivial,trivial⟩) ?_
      refine qau rfl (fun hc27=>?_) (fun hc27=>?_)
      · have hc27:=qdd hc27
        have h:=qch h hc27
        refine qa5 ?_
        refine qa2 ?_
        refine qa0 hτ rfl rfl rfl ?_
        refine qa4 ?_
        refine qa9 (qa3 [] (l:=[(4,.d (.bool false))]) (objs:=[]) rfl (by simp) rfl (by trivial) ⟨rfl,trivial,trivial⟩) ?_
        refine qas ?_
        have hr:=Option.some.inj h
        subst hr
        exact qaf (.inr rfl) [] (objs':=[]) (new:=[]) rfl (by simp) (by simp) rfl (by trivial) rfl rfl (by trivial) (fun _=>⟨by simp [V.flat,V.qb2,V.qay,D.flat],qai⟩) ⟨rfl,rfl,rfl⟩
      · have hc27:=qdc hc27
        have h:=qci h hc27
        refine qav ?_
        refine qa2 ?_
        refine qa0 hτ rfl rfl rfl ?_
        refine qa0 hτ rfl rfl rfl ?_
        refine qa0 hτ rfl rfl rfl ?_
        refine qa4 ?_
        exact ⟨(m18,(w64 (v13 + (1:Int)))),h,Nat.lt_succ_self m18,(qa3 [] (l:=[(0,.d (.sl false (a_.map qbm))),(1,.d (.sl false (b_.map qbm))),(5,.d (.int .i64 (w64 (v13 + (1:Int)))))]) (objs:=[]) rfl (by simp) rfl (by trivial) ⟨rfl,trivial,rfl,trivial,rfl,trivial,trivial⟩)⟩
    · have h:=if_f h hc20
      refine qdv ?_
      refine qa5 ?_
      refine qa2 ?_
      refine qa0 hτ rfl rfl rfl ?_
      refine qa4 ?_
      refine qa9 (qa3 [] (l:=[(4,.d (.bool true))]) (objs:=[]) rfl (by simp) rfl (by trivial) ⟨rfl,trivial,trivial⟩) ?_
      refine qas ?_
      have hr:=Option.some.inj h
      subst hr
      exact qaf (.inr rfl) [] (objs':=[]) (new:=[]) rfl (by simp) (by simp) rfl (by trivial) rfl rfl (by trivial) (fun _=>⟨by simp [V.flat,V.qb2,V.qay,D.flat],qai⟩) ⟨rfl,rfl,rfl⟩
theorem laws_eqFlowS_ok (n:Nat) (a_:List qbb) (b_:List qbb) {r:Bool} (h:qi1 n a_ b_ = some r):qb5 prog false 45 [.d (.sl false (a_.map qbm)),.d (.sl false (b_.map qbm))] [] (fun v o new=>v = .d (.bool r)∧o = []∧new = []):=laws_eqFlowS_ok_fr0 false n a_ b_ h
def qfv (n:Nat) (a_:qc7) (b_:qc7):Option Bool :=
  (qho n a_.Grid b_.Grid).bind fun x4 =>
  if x4 = true then
    (qi1 n a_.qce b_.qce).bind fun x6 =>
    if x6 = true then
      some true
    else
      some false
  else
    some false
theorem laws_eqRecord_ok_fr0 (fr:Bool) (n:Nat) (a_:qc7) (b_:qc7) {r:Bool} (h:qfv n a_ b_ = some r):qb5 prog fr 14 [.agg [.d (.cx .f32 a_.Grid.qa1.Source.A.re a_.Grid.qa1.Source.A.im),.d (.cx .f32 a_.Grid.qa1.Source.B.re a_.Grid.qa1.Source.B.im),.d (.cx .f32 a_.Grid.qa1.Source.C.re a_.Grid.qa1.Source.C.im),.d (.sl false (a_.Grid.qa1.qac.map qah)),.d (.sl false (a_.Grid.Ties.map qan)),.d (.sl false (a_.qce.map qbm))],.agg [.d (.cx .f32 b_.Grid.qa1.Source.A.re b_.Grid.qa1.Source.A.im),.d (.cx .f32 b_.Grid.qa1.Source.B.re b_.Grid.qa1.Source.B.im),.d (.cx .f32 b_.Grid.qa1.Source.C.re b_.Grid.qa1.Source.C.im),.d (.sl false (b_.Grid.qa1.qac.map qah)),.d (.sl false (b_.Grid.Ties.map qan)),.d (.sl false (b_.qce.map qbm))]] [] (fun v o new=>v = .d (.bool r)∧o = []∧new = []):=by
  refine qar hτ func14 rfl (by simp) (by simp) ?_
  unfold qfv at h
  refine qa5 ?_
  refine qa2 ?_
  refine qaq hτ rfl rfl rfl ?_
  refine qaq hτ rfl rfl rfl ?_
  refine qa0 hτ rfl rfl rfl ?_
  refine qa4 ?_
  refine qa5 ?_
  refine qa5 ?_
  refine qa2 ?_
  refine qa0 hτ rfl rfl rfl ?_
  refine qa0 hτ rfl rfl rfl ?_
  refine qa0 hτ rfl rfl rfl ?_
  refine qa0 hτ rfl rfl rfl ?_
  refine qab h fun x4 hx4 h=>?_
  refine qam hτ false [] rfl rfl rfl (qap func9 rfl rfl) rfl rfl (by simp) ⟨(by trivial),(by trivial),trivial⟩ (by trivial) (laws_eqGrid_ok n a_.Grid b_.Grid hx4) ?_
  rintro r0 o0 n0 ⟨rfl,rfl,rfl⟩ -
  refine qa0 hτ rfl rfl rfl ?_
  refine qa4 ?_
  refine qa9 (qa3 [0,1] (l:=[(2,.ptr 0 0),(3,.ptr 1 0),(10,.d (.bool (!x4)))]) (objs:=[.box [.d (.cx .f32 a_.Grid.qa1.Source.A.re a_.Grid.qa1.Source.A.im),.d (.cx .f32 a_.Grid.qa1.Source.B.re a_.Grid.qa1.Source.B.im),.d (.cx .f32 a_.Grid.qa1.Source.C.re a_.Grid.qa1.Source.C.im),.d (.sl false (a_.Grid.qa1.qac.map qah)),.d (.sl false (a_.Grid.Ties.map qan)),.d (.sl false (a_.qce.map qbm))],.box [.d (.cx .f32 b_.Grid.qa1.Source.A.re b_.Grid.qa1.Source.A.im),.d (.cx .f32 b_.Grid.qa1.Source.B.re b_.Grid.qa1.Source.B.im),.d (.cx .f32 b_.Grid.qa1.Source.C.re b_.Grid.qa1.Source.C.im),.d (.sl false (b_.Grid.qa1.qac.map qah)),.d (.sl false (b_.Grid.Ties.map qan)),.d (.sl false (b_.qce.map qbm))]]) rfl (by simp) rfl (by trivial) ⟨rfl,trivial,rfl,trivial,rfl,trivial,trivial⟩) ?_
  refine qau rfl (fun hc5=>?_) (fun hc5=>?_)
  · have hc5:=qdd hc5
    have h:=qch h hc5
    refine qa5 ?_
    refine qa2 ?_
    refine qa0 hτ rfl rfl rfl ?_
    refine qa4 ?_
    refine qa9 (qa3 [] (l:=[(4,.d (.bool false))]) (objs:=[]) rfl (by simp) rfl (by trivial) ⟨rfl,trivial,trivial⟩) ?_
    refine qas ?_
    have hr:=Option.some.inj h
    subst hr
    exact qaf (.inr rfl) [] (objs':=[]) (new:=[]) rfl (by simp) (by simp) rfl (by trivial) rfl rfl (by trivial) (fun _=>⟨by simp [V.flat,V.qb2,V.qay,D.flat],qai⟩) ⟨rfl,rfl,rfl⟩
  · have hc5:=qdc hc5
    have h:=qci h hc5
    refine qav ?_
    refine qa5 ?_
    refine qa5 ?_
    refine qa2 ?_
    refine qa0 hτ rfl rfl rfl ?_
    refine qa0 hτ rfl rfl rfl ?_
    refine qa0 hτ rfl rfl rfl ?_
    refine qa0 hτ rfl rfl rfl ?_
    refine qab h fun x6 hx6 h=>?_
    refine qam hτ false [] rfl rfl rfl (qap func45 rfl rfl) rfl rfl (by simp) ⟨trivial,trivial,trivial⟩ (by trivial) (laws_eqFlowS_ok n a_.qce b_.qce hx6) ?_
    rintro r0 o0 n0 ⟨rfl,rfl,rfl⟩ -
    refine qa0 hτ rfl rfl rfl ?_
    refine qa4 ?_
    refine qa9 (qa3 [] (l:=[(16,.d (.bool (!x6)))]) (objs:=[]) rfl (by simp) rfl (by trivial) ⟨rfl,trivial,trivial⟩) ?_
    refine qau rfl (fun hc7=>?_) (fun hc7=>?_)
    · have hc7:=qdd hc7
      have h:=qch h hc7
      refine qa5 ?_
      refine qa2 ?_
      refine qa0 hτ rfl rfl rfl ?_
      refine qa4 ?_
      refine qa9 (qa3 [] (l:=[(4,.d (.bool false))]) (objs:=[]) rfl (by simp) rfl (by trivial) ⟨rfl,trivial,trivial⟩) ?_
      refine qas ?_
      have hr:=Option.some.inj h
      subst hr
      exact qaf (.inr rfl) [] (objs':=[]) (new:=[]) rfl (by simp) (by simp) rfl (by trivial) rfl rfl (by trivial) (fun _=>⟨by simp [V.flat,V.qb2,V.qay,D.flat],qai⟩) ⟨rfl,rfl,rfl⟩
    · have hc7:=qdc hc7
      have h:=qci h hc7
      refine qav ?_
      refine qa5 ?_
      refine qa2 ?_
      refine qa0 hτ rfl rfl rfl ?_
      refine qa4 ?_
      refine qa9 (qa3 [] (l:=[(4,.d (.bool true))]) (objs:=[]) rfl (by simp) rfl (by trivial) ⟨rfl,trivial,trivial⟩) ?_
      refine qas ?_
      have hr:=Option.some.inj h
      subst hr
      exact qaf (.inr rfl) [] (objs':=[]) (new:=[]) rfl (by simp) (by simp) rfl (by trivial) rfl rfl (by trivial) (fun _=>⟨by simp [V.flat,V.qb2,V.qay,D.flat],qai⟩) ⟨rfl,rfl,rfl⟩
theorem laws_eqRecord_ok (n:Nat) (a_:qc7) (b_:qc7) {r:Bool} (h:qfv n a_ b_ = some r):qb5 prog false 14 [.agg [.d (.cx .f32 a_.Grid.qa1.Source.A.re a_.Grid.qa1.Source.A.im),.d (.cx .f32 a_.Grid.qa1.Source.B.re a_.Grid.qa1.Source.B.im),.d (.cx .f32 a_.Grid.qa1.Source.C.re a_.Grid.qa1.Source.C.im),.d (.sl false (a_.Grid.qa1.qac.map qah)),.d (.sl false (a_.Grid.Ties.map qan)),.d (.sl false (a_.qce.map qbm))],.agg [.d (.cx .f32 b_.Grid.qa1.Source.A.re b_.Grid.qa1.Source.A.im),.d (.cx .f32 b_.Grid.qa1.Source.B.re b_.Grid.qa1.Source.B.im),.d (.cx .f32 b_.Grid.qa1.Source.C.re b_.Grid.qa1.Source.C.im),.d (.sl false (b_.Grid.qa1.qac.map qah)),.d (.sl false (b_.Grid.Ties.map qan)),.d (.sl false (b_.qce.map qbm))]] [] (fun v o new=>v = .d (.bool r)∧o = []∧new = []):=laws_eqRecord_ok_fr0 false n a_ b_ h
def qdk (n:Nat) (a_:List SBus):Nat→Int→Int→Option Int
  | 0,_,_=>none
  | m53 + 1,v38,v39 =>
    if v39 < (a_.length:Int) then
      (getI a_ v39).bind fun x68 =>
      if x68.qag = v38 then
        (qcf .f64 .f32 (FloatKind.nearest .f64 (w64 (v38 + (1:Int))))).bind fun x72 =>
        (qcf .f64 .f32 (4607182418800017408:Nat)).bind fun x73 =>
        if (fcmp .eql .f32 x68.Own.re x72 && fcmp .eql .f32 x68.Own.im x73) = true then
          (qcf .f64 .f32 (FloatKind.nearest .f64 (w64 ((w64 (v38 + (1:Int))) + (1:Int))))).bind fun x77 =>
          (qcf .f64 .f32 (4607182418800017408:Nat)).bind fun x78 =>
          if (fcmp .eql .f32 x68.Shared.re x77 && fcmp .eql .f32 x68.Shared.im x78) = true then
            if x68.Kind = (w64 ((w64 ((w64 (v38 + (1:Int))) + (1:Int))) + (1:Int))) then
              (qcf .f64 .f32 (FloatKind.nearest .f64 (w64 ((w64 ((w64 ((w64 (v38 + (1:Int))) + (1:Int))) + (1:Int))) + (1:Int))))).bind fun x83 =>
              (qcf .f64 .f32 (4607182418800017408:Nat)).bind fun x84 =>
              if (fcmp .eql .f32 x68.Load.A.re x83 && fcmp .eql .f32 x68.Load.A.im x84) = true then
                (qcf .f64 .f32 (FloatKind.nearest .f64 (w64 ((w64 ((w64 ((w64 ((w64 (v38 + (1:Int))) + (1:Int))) + (1:Int))) + (1:Int))) + (1:Int))))).bind fun x88 =>
                (qcf .f64 .f32 (4607182418800017408:Nat)).bind fun x89 =>
                if (fcmp .eql .f32 x68.Load.B.re x88 && fcmp .eql .f32 x68.Load.B.im x89) = true then
                  (qcf .f64 .f32 (FloatKind.nearest .f64 (w64 ((w64 ((w64 ((w64 ((w64 ((w64 (v38 + (1:Int))) + (1:Int))) + (1:Int))) + (1:Int))) + (1:Int))) + (1:Int))))).bind fun x93 =>
                  (qcf .f64 .f32 (4607182418800017408:Nat)).bind fun x94 =>
                  if (fcmp .eql .f32 x68.Load.C.re x93 && fcmp .eql .f32 x68.Load.C.im x94) = true then
                    if x68.qa6 = (w64 ((w64 ((w64 ((w64 ((w64 ((w64 ((w64 (v38 + (1:Int))) + (1:Int))) + (1:Int))) + (1:Int))) + (1:Int))) + (1:Int))) + (1:Int))) then
                      (qdk n a_ m53) (w64 ((w64 ((w64 ((w64 ((w64 ((w64 ((w64 ((w64 (v38 + (1:Int))) + (1:Int))) + (1:Int))) + (1:Int))) + (1:Int))) + (1:Int))) + (1:Int))) + (1:Int))) (w64 (v39 + (1:Int)))
                    else
                      some (-1:Int)
                  else
                    some (-1:Int)
                else
                  some (-1:Int)
              else
                some (-1:Int)
            else
              some (-1:Int)
          else
            some (-1:Int)
        else
          some (-1:Int)
      else
        some (-1:Int)
    else
      some v38
def qfw (n:Nat) (a_:List SBus) (k_:Int):Option Int :=
  qdk n a_ n k_ (0:Int)
theorem laws_heldBusS_ok_fr0 (fr:Bool) (n:Nat) (a_:List SBus) (k_:Int) {r:Int} (h:qfw n a_ k_ = some r):qb5 prog fr 89 [.d (.sl false (a_.map qah)),.d (.int .i64 k_)] [] (fun v o new=>v = .d (.int .i64 r)∧o = []∧new = []):=by
  refine qar hτ func89 rfl (by simp) (by simp) ?_
  unfold qfw at h
  refine qa5 ?_
  refine qa2 ?_
  refine qa0 hτ rfl rfl rfl ?_
  refine qa4 ?_
  refine qa5 ?_
  refine qa5 ?_
  refine qa2 ?_
  refine qa0 hτ rfl rfl rfl ?_
  refine qa4 ?_
  refine qb6 ?_
  refine qe1 (ι:=Nat × Int × Int) (fun (m53,v38,v39)=>St.of [(0,.d (.sl false (a_.map qah))),(1,.d (.int .i64 v38)),(5,.d (.int .i64 v39))] [] f89.ntmps 0) (fun (m53,v38,v39)=>qdk n a_ m53 v38 v39 = some r) (fun x=>x.1) (n,k_,(0:Int)) h (qa3 [] (l:=[(0,.d (.sl false (a_.map qah))),(1,.d (.int .i64 k_)),(5,.d (.int .i64 (0:Int)))]) (objs:=[]) rfl (by simp) rfl (by trivial) ⟨rfl,trivial,rfl,trivial,rfl,trivial,trivial⟩) ?_
  rintro ⟨m53,v38,v39⟩ h
  replace h:qdk n a_ m53 v38 v39 = some r:=h
  rcases m53 with _ | m53
  · rw [qdk] at h;cases h
  rw [qdk] at h
  refine qa5 ?_
  refine qa5 ?_
  refine qa2 ?_
  refine qa0 hτ rfl rfl rfl ?_
  refine qa0 hτ rfl rfl rfl ?_
  refine qa0 hτ (v:=.d (.int .i64 (a_.length:Int))) rfl rfl (Eq.trans rfl (qfo (f:=qah) a_)) ?_
  refine qa0 hτ rfl rfl rfl ?_
  refine qa4 ?_
  refine qau rfl (fun hc55=>?_) (fun hc55=>?_)
  · have h:=if_t h hc55
    refine qav ?_
    refine qa5 ?_
    refine qb6 ?_
    refine qa5 ?_
    refine qa5 ?_
    refine qa2 ?_
    refine qa0 hτ rfl rfl rfl ?_
    refine qa0 hτ rfl rfl rfl ?_
    refine qab h fun x68 hx68 h=>?_
    refine qdw hτ rfl rfl rfl (qbo hx68).1 (qcd hx68) rfl ?_
    refine qa0 hτ rfl rfl rfl ?_
    refine qa0 hτ rfl rfl rfl ?_
    refine qa0 hτ rfl rfl rfl ?_
    refine qa0 hτ (v:=.d (.bool (!(decide (x68.qag = v38))))) rfl rfl (qhx _ _) ?_
    refine qa4 ?_
    refine qa9 (qa3 [] (l:=[(0,.d (.sl false (a_.map qah))),(1,.d (.int .i64 v38)),(5,.d (.int .i64 v39)),(18,.d (.bool (!(decide (x68.qag = v38)))))]) (objs:=[]) rfl (by simp) rfl (by trivial) ⟨rfl,trivial,rfl,trivial,rfl,trivial,rfl,trivial,trivial⟩) ?_
    refine qau rfl (fun hc69=>?_) (fun hc69=>?_)
    · have hc69:=qdd hc69
      have h:=if_f h hc69
      refine qa5 ?_
      refine qa2 ?_
      refine qa0 hτ rfl rfl rfl ?_
      refine qa4 ?_
      refine qa9 (qa3 [] (l:=[(4,.d (.int .i64 (-1:Int)))]) (objs:=[]) rfl (by simp) rfl (by trivial) ⟨rfl,trivial,trivial⟩) ?_
      refine qas ?_
      have hr:=Option.some.inj h
      subst hr
      exact qaf (.inr rfl) [] (objs':=[]) (new:=[]) rfl (by simp) (by simp) rfl (by trivial) rfl rfl (by trivial) (fun _=>⟨by simp [V.flat,V.qb2,V.qay,D.flat],qai⟩) ⟨rfl,rfl,rfl⟩
    · have hc69:=qdc hc69
      have h:=if_t h hc69
      refine qav ?_
      refine qa5 ?_
      refine qa2 ?_
      refine qa0 hτ rfl rfl rfl ?_
      refine qa0 hτ rfl rfl rfl ?_
      refine qa0 hτ rfl rfl rfl ?_
      refine qa4 ?_
      refine qa5 ?_
      refine qa5 ?_
      refine qa2 ?_
      refine qa0 hτ rfl rfl rfl ?_
      refine qa0 hτ rfl rfl rfl ?_
      refine qdw hτ rfl rfl rfl (qbo hx68).1 (qcd hx68) rfl ?_
      refine qa0 hτ rfl rfl rfl ?_
      refine qa0 hτ rfl rfl rfl ?_
      refine qa0 hτ rfl rfl rfl ?_
      refine qa0 hτ rfl rfl rfl ?_
      refine qa0 hτ rfl rfl rfl ?_
      refine qab h fun x72 hx72 h=>?_
      refine qab h fun x73 hx73 h=>?_
      refine qha rfl rfl (qhw hτ rfl rfl rfl rfl rfl rfl hx72 hx73) ?_
      refine qbn (qa3 [] (l:=[(0,.d (.sl false (a_.map qah))),(1,.d (.int .i64 (w64 (v38 + (1:Int))))),(5,.d (.int .i64 v39)),(25,.d (.cx .f32 x68.Own.re x68.Own.im)),(29,.d (.cx .f32 x72 x73))]) (objs:=[]) rfl (by simp) rfl (by trivial) ⟨rfl,trivial,rfl,trivial,rfl,trivial,rfl,trivial,rfl,trivial,trivial⟩) ?_
      refine qa0 hτ rfl rfl rfl ?_
      refine qa4 ?_
      refine qau rfl (fun hc74=>?_) (fun hc74=>?_)
      · have hc74:=qdd hc74
        have h:=qch h hc74
        refine qa5 ?_
        refine qa2 ?_
        refine qa0 hτ rfl rfl rfl ?_
        refine qa4 ?_
        refine qa9 (qa3 [] (l:=[(4,.d (.int .i64 (-1:Int)))]) (objs:=[]) rfl (by simp) rfl (by trivial) ⟨rfl,trivial,trivial⟩) ?_
        refine qas ?_
        have hr:=Option.some.inj h
        subst hr
        exact qaf (.inr rfl) [] (objs':=[]) (new:=[]) rfl (by simp) (by simp) rfl (by trivial) rfl rfl (by trivial) (fun _=>⟨by simp [V.flat,V.qb2,V.qay,D.flat],qai⟩) ⟨rfl,rfl,rfl⟩
      · have hc74:=qdc hc74
        have h:=qci h hc74
        refine qav ?_
        refine qa5 ?_
        refine qa2 ?_
        refine qa0 hτ rfl rfl rfl ?_
        refine qa0 hτ rfl rfl rfl ?_
        refine qa0 hτ rfl rfl rfl ?_
        refine qa4 ?_
        refine qa5 ?_
        refine qa5 ?_
        refine qa2 ?_
        refine qa0 hτ rfl rfl rfl ?_
        refine qa0 hτ rfl rfl rfl ?_
        refine qdw hτ rfl rfl rfl (qbo hx68).1 (qcd hx68) rfl ?_
        refine qa0 hτ rfl rfl rfl ?_
        refine qa0 hτ rfl rfl rfl ?_
        refine qa0 hτ rfl rfl rfl ?_
        refine qa0 hτ rfl rfl rfl ?_
        refine qa0 hτ rfl rfl rfl ?_
        refine qbn (qa3 [] (l:=[(0,.d (.sl false (a_.map qah))),(1,.d (.int .i64 (w64 ((w64 (v38 + (1:Int))) + (1:Int))))),(5,.d (.int .i64 v39)),(37,.d (.cx .f32 x68.Shared.re x68.Shared.im)),(40,.d (.cx .f64 (FloatKind.nearest .f64 (w64 ((w64 (v38 + (1:Int))) + (1:Int)))) (4607182418800017408:Nat)))]) (objs:=[]) rfl (by simp) rfl (by trivial) ⟨rfl,trivial,rfl,trivial,rfl,trivial,rfl,trivial,rfl,trivial,trivial⟩) ?_
        refine qab h fun x77 hx77 h=>?_
        refine qab h fun x78 hx78 h=>?_
        refine qha rfl rfl (qhw hτ rfl rfl rfl rfl rfl rfl hx77 hx78) ?_
        refine qa0 hτ rfl rfl rfl ?_
        refine qa4 ?_
        refine qau rfl (fun hc79=>?_) (fun hc79=>?_)
        · have hc79:=qdd hc79
          have h:=qch h hc79
          refine qa5 ?_
          refine qa2 ?_
          refine qa0 hτ rfl rfl rfl ?_
          refine qa4 ?_
          refine qa9 (qa3 [] (l:=[(4,.d (.int .i64 (-1:Int)))]) (objs:=[]) rfl (by simp) rfl (by trivial) ⟨rfl,trivial,trivial⟩) ?_
          refine qas ?_
          have hr:=Option.some.inj h
          subst hr
          exact qaf (.inr rfl) [] (objs':=[]) (new:=[]) rfl (by simp) (by simp) rfl (by trivial) rfl rfl (by trivial) (fun _=>⟨by simp [V.flat,V.qb2,V.qay,D.flat],qai⟩) ⟨rfl,rfl,rfl⟩
        · have hc79:=qdc hc79
          have h:=qci h hc79
          refine qav ?_
          refine qa5 ?_
          refine qa2 ?_
          refine qa0 hτ rfl rfl rfl ?_
          refine qa0 hτ rfl rfl rfl ?_
          refine qa0 hτ rfl rfl rfl ?_
          refine qa4 ?_
          refine qa5 ?_
          refine qa5 ?_
          refine qa2 ?_
          refine qa0 hτ rfl rfl rfl ?_
          refine qa0 hτ rfl rfl rfl ?_
          refine qdw hτ rfl rfl rfl (qbo hx68).1 (qcd hx68) rfl ?_
          refine qa0 hτ rfl rfl rfl ?_
          refine qa0 hτ rfl rfl rfl ?_
          refine qa0 hτ rfl rfl rfl ?_
          refine qa0 hτ (v:=.d (.bool (!(decide (x68.Kind = (w64 ((w64 ((w64 (v38 + (1:Int))) + (1:Int))) + (1:Int)))))))) rfl rfl (qhx _ _) ?_
          refine qa4 ?_
          refine qa9 (qa3 [] (l:=[(0,.d (.sl false (a_.map qah))),(1,.d (.int .i64 (w64 ((w64 ((w64 (v38 + (1:Int))) + (1:Int))) + (1:Int))))),(5,.d (.int .i64 v39)),(51,.d (.bool (!(decide (x68.Kind = (w64 ((w64 ((w64 (v38 + (1:Int))) + (1:Int))) + (1:Int))))))))]) (objs:=[]) rfl (by simp) rfl (by trivial) ⟨rfl,trivial,rfl,trivial,rfl,trivial,rfl,trivial,trivial⟩) ?_
          refine qau rfl (fun hc80=>?_) (fun hc80=>?_)
          · have hc80:=qdd hc80
            have h:=if_f h hc80
            refine qa5 ?_
            refine qa2 ?_
            refine qa0 hτ rfl rfl rfl ?_
            refine qa4 ?_
            refine qa9 (qa3 [] (l:=[(4,.d (.int .i64 (-1:Int)))]) (objs:=[]) rfl (by simp) rfl (by trivial) ⟨rfl,trivial,trivial⟩) ?_
            refine qas ?_
            have hr:=Option.some.inj h
            subst hr
            exact qaf (.inr rfl) [] (objs':=[]) (new:=[]) rfl (by simp) (by simp) rfl (by trivial) rfl rfl (by trivial) (fun _=>⟨by simp [V.flat,V.qb2,V.qay,D.flat],qai⟩) ⟨rfl,rfl,rfl⟩
          · have hc80:=qdc hc80
            have h:=if_t h hc80
            refine qav ?_
            refine qa5 ?_
            refine qa2 ?_
            refine qa0 hτ rfl rfl rfl ?_
            refine qa0 hτ rfl rfl rfl ?_
            refine qa0 hτ rfl rfl rfl ?_
            refine qa4 ?_
            refine qa5 ?_
            refine qa5 ?_
            refine qa2 ?_
            refine qa0 hτ rfl rfl rfl ?_
            refine qa0 hτ rfl rfl rfl ?_
            refine qdw hτ rfl rfl rfl (qbo hx68).1 (qcd hx68) rfl ?_
            refine qa0 hτ rfl rfl rfl ?_
            refine qa0 hτ rfl rfl rfl ?_
            refine qa0 hτ rfl rfl rfl ?_
            refine qa0 hτ rfl rfl rfl ?_
            refine qa0 hτ rfl rfl rfl ?_
            refine qa0 hτ rfl rfl rfl ?_
            refine qbn (qa3 [] (l:=[(0,.d (.sl false (a_.map qah))),(1,.d (.int .i64 (w64 ((w64 ((w64 ((w64 (v38 + (1:Int))) + (1:Int))) + (1:Int))) + (1:Int))))),(5,.d (.int .i64 v39)),(59,.d (.cx .f32 x68.Load.A.re x68.Load.A.im)),(62,.d (.cx .f64 (FloatKind.nearest .f64 (w64 ((w64 ((w64 ((w64 (v38 + (1:Int))) + (1:Int))) + (1:Int))) + (1:Int)))) (4607182418800017408:Nat)))]) (objs:=[]) rfl (by simp) rfl (by trivial) ⟨rfl,trivial,rfl,trivial,rfl,trivial,rfl,trivial,rfl,trivial,trivial⟩) ?_
            refine qab h fun x83 hx83 h=>?_
            refine qab h fun x84 hx84 h=>?_
            refine qha rfl rfl (qhw hτ rfl rfl rfl rfl rfl rfl hx83 hx84) ?_
            refine qa0 hτ rfl rfl rfl ?_
            refine qa4 ?_
            refine qau rfl (fun hc85=>?_) (fun hc85=>?_)
            · have hc85:=qdd hc85
              have h:=qch h hc85
              refine qa5 ?_
              refine qa2 ?_
              refine qa0 hτ rfl rfl rfl ?_
              refine qa4 ?_
              refine qa9 (qa3 [] (l:=[(4,.d (.int .i64 (-1:Int)))]) (objs:=[]) rfl (by simp) rfl (by trivial) ⟨rfl,trivial,trivial⟩) ?_
              refine qas ?_
              have hr:=Option.some.inj h
              subst hr
              exact qaf (.inr rfl) [] (objs':=[]) (new:=[]) rfl (by simp) (by simp) rfl (by trivial) rfl rfl (by trivial) (fun _=>⟨by simp [V.flat,V.qb2,V.qay,D.flat],qai⟩) ⟨rfl,rfl,rfl⟩
            · have hc85:=qdc hc85
              have h:=qci h hc85
              refine qav ?_
              refine qa5 ?_
              refine qa2 ?_
              refine qa0 hτ rfl rfl rfl ?_
              refine qa0 hτ rfl rfl rfl ?_
              refine qa0 hτ rfl rfl rfl ?_
              refine qa4 ?_
              refine qa5 ?_
              refine qa5 ?_
              refine qa2 ?_
              refine qa0 hτ rfl rfl rfl ?_
              refine qa0 hτ rfl rfl rfl ?_
              refine qdw hτ rfl rfl rfl (qbo hx68).1 (qcd hx68) rfl ?_
              refine qa0 hτ rfl rfl rfl ?_
              refine qa0 hτ rfl rfl rfl ?_
              refine qa0 hτ rfl rfl rfl ?_
              refine qa0 hτ rfl rfl rfl ?_
              refine qbn (qa3 [] (l:=[(0,.d (.sl false (a_.map qah))),(1,.d (.int .i64 (w64 ((w64 ((w64 ((w64 ((w64 (v38 + (1:Int))) + (1:Int))) + (1:Int))) + (1:Int))) + (1:Int))))),(5,.d (.int .i64 v39)),(72,.d (.cx .f32 x68.Load.B.re x68.Load.B.im)),(73,.d (.int .i64 (w64 ((w64 ((w64 ((w64 ((w64 (v38 + (1:Int))) + (1:Int))) + (1:Int))) + (1:Int))) + (1:Int)))))]) (objs:=[]) rfl (by simp) rfl (by trivial) ⟨rfl,trivial,rfl,trivial,rfl,trivial,rfl,trivial,rfl,trivial,trivial⟩) ?_
              refine qa0 hτ rfl rfl rfl ?_
              refine qa0 hτ rfl rfl rfl ?_
              refine qab h fun x88 hx88 h=>?_
              refine qab h fun x89 hx89 h=>?_
              refine qha rfl rfl (qhw hτ rfl rfl rfl rfl rfl rfl hx88 hx89) ?_
              refine qa0 hτ rfl rfl rfl ?_
              refine qa4 ?_
              refine qau rfl (fun hc90=>?_) (fun hc90=>?_)
              · have hc90:=qdd hc90
                have h:=qch h hc90
                refine qa5 ?_
                refine qa2 ?_
                refine qa0 hτ rfl rfl rfl ?_
                refine qa4 ?_
                refine qa9 (qa3 [] (l:=[(4,.d (.int .i64 (-1:Int)))]) (objs:=[]) rfl (by simp) rfl (by trivial) ⟨rfl,trivial,trivial⟩) ?_
                refine qas ?_
                have hr:=Option.some.inj h
                subst hr
                exact qaf (.inr rfl) [] (objs':=[]) (new:=[]) rfl (by simp) (by simp) rfl (by trivial) rfl rfl (by trivial) (fun _=>⟨by simp [V.flat,V.qb2,V.qay,D.flat],qai⟩) ⟨rfl,rfl,rfl⟩
              · have hc90:=qdc hc90
                have h:=qci h hc90
                refine qav ?_
                refine qa5 ?_
                refine qa2 ?_
                refine qa0 hτ rfl rfl rfl ?_
                refine qa0 hτ rfl rfl rfl ?_
                refine qa0 hτ rfl rfl rfl ?_
                refine qa4 ?_
                refine qa5 ?_
                refine qa5 ?_
                refine qa9 (qa3 [] (l:=[(0,.d (.sl false (a_.map qah))),(1,.d (.int .i64 (w64 ((w64 ((w64 ((w64 ((w64 ((w64 (v38 + (1:Int))) + (1:Int))) + (1:Int))) + (1:Int))) + (1:Int))) + (1:Int))))),(5,.d (.int .i64 v39))]) (objs:=[]) rfl (by simp) rfl (by trivial) ⟨rfl,trivial,rfl,trivial,rfl,trivial,trivial⟩) ?_
                refine qa2 ?_
                refine qa0 hτ rfl rfl rfl ?_
                refine qa0 hτ rfl rfl rfl ?_
                refine qdw hτ rfl rfl rfl (qbo hx68).1 (qcd hx68) rfl ?_
                refine qa0 hτ rfl rfl rfl ?_
                refine qa0 hτ rfl rfl rfl ?_
                refine qa0 hτ rfl rfl rfl ?_
                refine qa0 hτ rfl rfl rfl ?_
                refine qa0 hτ rfl rfl rfl ?_
                refine qa0 hτ rfl rfl rfl ?_
                refine qab h fun x93 hx93 h=>?_
                refine qab h fun x94 hx94 h=>?_
                refine qha rfl rfl (qhw hτ rfl rfl rfl rfl rfl rfl hx93 hx94) ?_
                refine qa0 hτ rfl rfl rfl ?_
                refine qa4 ?_
                refine qa9 (qa3 [] (l:=[(0,.d (.sl false (a_.map qah))),(1,.d (.int .i64 (w64 ((w64 ((w64 ((w64 ((w64 ((w64 (v38 + (1:Int))) + (1:Int))) + (1:Int))) + (1:Int))) + (1:Int))) + (1:Int))))),(5,.d (.int .i64 v39)),(90,.d (.bool (!(fcmp .eql .f32 x68.Load.C.re x93 && fcmp .eql .f32 x68.Load.C.im x94))))]) (objs:=[]) rfl (by simp) rfl (by trivial) ⟨rfl,trivial,rfl,trivial,rfl,trivial,rfl,trivial,trivial⟩) ?_
                refine qau rfl (fun hc95=>?_) (fun hc95=>?_)
                · have hc95:=qdd hc95
                  have h:=qch h hc95
                  refine qa5 ?_
                  refine qa2 ?_
                  refine qa0 hτ rfl rfl rfl ?_
                  refine qa4 ?_
                  refine qa9 (qa3 [] (l:=[(4,.d (.int .i64 (-1:Int)))]) (objs:=[]) rfl (by simp) rfl (by trivial) ⟨rfl,trivial,trivial⟩) ?_
                  refine qas ?_
                  have hr:=Option.some.inj h
                  subst hr
                  exact qaf (.inr rfl) [] (objs':=[]) (new:=[]) rfl (by simp) (by simp) rfl (by trivial) rfl rfl (by trivial) (fun _=>⟨by simp [V.flat,V.qb2,V.qay,D.flat],qai⟩) ⟨rfl,rfl,rfl⟩
                · have hc95:=qdc hc95
                  have h:=qci h hc95
                  refine qav ?_
                  refine qa5 ?_
                  refine qa2 ?_
                  refine qa0 hτ rfl rfl rfl ?_
                  refine qa0 hτ rfl rfl rfl ?_
                  refine qa0 hτ rfl rfl rfl ?_
                  refine qa4 ?_
                  refine qa5 ?_
                  refine qa5 ?_
                  refine qa2 ?_
                  refine qa0 hτ rfl rfl rfl ?_
                  refine qa0 hτ rfl rfl rfl ?_
                  refine qdw hτ rfl rfl rfl (qbo hx68).1 (qcd hx68) rfl ?_
                  refine qa0 hτ rfl rfl rfl ?_
                  refine qa0 hτ rfl rfl rfl ?_
                  refine qa0 hτ rfl rfl rfl ?_
                  refine qa0 hτ (v:=.d (.bool (!(decide (x68.qa6 = (w64 ((w64 ((w64 ((w64 ((w64 ((w64 ((w64 (v38 + (1:Int))) + (1:Int))) + (1:Int))) + (1:Int))) + (1:Int))) + (1:Int))) + (1:Int)))))))) rfl rfl (qhx _ _) ?_
                  refine qa4 ?_
                  refine qa9 (qa3 [] (l:=[(0,.d (.sl false (a_.map qah))),(1,.d (.int .i64 (w64 ((w64 ((w64 ((w64 ((w64 ((w64 ((w64 (v38 + (1:Int))) + (1:Int))) + (1:Int))) + (1:Int))) + (1:Int))) + (1:Int))) + (1:Int))))),(5,.d (.int .i64 v39)),(99,.d (.bool (!(decide (x68.qa6 = (w64 ((w64 ((w64 ((w64 ((w64 ((w64 ((w64 (v38 + (1:Int))) + (1:Int))) + (1:Int))) + (1:Int))) + (1:Int))) + (1:Int))) + (1:Int))))))))]) (objs:=[]) rfl (by simp) rfl (by trivial) ⟨rfl,trivial,rfl,trivial,rfl,trivial,rfl,trivial,trivial⟩) ?_
                  refine qau rfl (fun hc96=>?_) (fun hc96=>?_)
                  · have hc96:=qdd hc96
                    have h:=if_f h hc96
                    refine qa5 ?_
                    refine qa2 ?_
                    refine qa0 hτ rfl rfl rfl ?_
                    refine qa4 ?_
                    refine qa9 (qa3 [] (l:=[(4,.d (.int .i64 (-1:Int)))]) (objs:=[]) rfl (by simp) rfl (by trivial) ⟨rfl,trivial,trivial⟩) ?_
                    refine qas ?_
                    have hr:=Option.some.inj h
                    subst hr
                    exact qaf (.inr rfl) [] (objs':=[]) (new:=[]) rfl (by simp) (by simp) rfl (by trivial) rfl rfl (by trivial) (fun _=>⟨by simp [V.flat,V.qb2,V.qay,D.flat],qai⟩) ⟨rfl,rfl,rfl⟩
                  · have hc96:=qdc hc96
                    have h:=if_t h hc96
                    refine qav ?_
                    refine qa2 ?_
                    refine qa0 hτ rfl rfl rfl ?_
                    refine qa0 hτ rfl rfl rfl ?_
                    refine qa0 hτ rfl rfl rfl ?_
                    refine qa4 ?_
                    refine qa2 ?_
                    refine qa0 hτ rfl rfl rfl ?_
                    refine qa0 hτ rfl rfl rfl ?_
                    refine qa0 hτ rfl rfl rfl ?_
                    refine qa4 ?_
                    exact ⟨(m53,(w64 ((w64 ((w64 ((w64 ((w64 ((w64 ((w64 ((w64 (v38 + (1:Int))) + (1:Int))) + (1:Int))) + (1:Int))) + (1:Int))) + (1:Int))) + (1:Int))) + (1:Int))),(w64 (v39 + (1:Int)))),h,Nat.lt_succ_self m53,(qa3 [] (l:=[(0,.d (.sl false (a_.map qah))),(1,.d (.int .i64 (w64 ((w64 ((w64 ((w64 ((w64 ((w64 ((w64 ((w64 (v38 + (1:Int))) + (1:Int))) + (1:Int))) + (1:Int))) + (1:Int))) + (1:Int))) + (1:Int))) + (1:Int))))),(5,.d (.int .i64 (w64 (v39 + (1:Int)))))]) (objs:=[]) rfl (by simp) rfl (by trivial) ⟨rfl,trivial,rfl,trivial,rfl,trivial,trivial⟩)⟩
  · have h:=if_f h hc55
    refine qdv ?_
    refine qa5 ?_
    refine qa2 ?_
    refine qa0 hτ rfl rfl rfl ?_
    refine qa0 hτ rfl rfl rfl ?_
    refine qa4 ?_
    refine qa9 (qa3 [] (l:=[(4,.d (.int .i64 v38))]) (objs:=[]) rfl (by simp) rfl (by trivial) ⟨rfl,trivial,trivial⟩) ?_
    refine qas ?_
    have hr:=Option.some.inj h
    subst hr
    exact qaf (.inr rfl) [] (objs':=[]) (new:=[]) rfl (by simp) (by simp) rfl (by trivial) rfl rfl (by trivial) (fun _=>⟨by simp [V.flat,V.qb2,V.qay,D.flat],qai⟩) ⟨rfl,rfl,rfl⟩
theorem laws_heldBusS_ok (n:Nat) (a_:List SBus) (k_:Int) {r:Int} (h:qfw n a_ k_ = some r):qb5 prog false 89 [.d (.sl false (a_.map qah)),.d (.int .i64 k_)] [] (fun v o new=>v = .d (.int .i64 r)∧o = []∧new = []):=laws_heldBusS_ok_fr0 false n a_ k_ h
def qfp (n:Nat) (a_:qck) (k_:Int):Option Int :=
  (qfw n a_.qac k_).bind fun x2 =>
  if x2 < (0:Int) then
    some (-1:Int)
  else
    some x2
theorem laws_heldFeeder_ok_fr0 (fr:Bool) (n:Nat) (a_:qck) (k_:Int) {r:Int} (h:qfp n a_ k_ = some r):qb5 prog fr 39 [.agg [.d (.cx .f32 a_.Source.A.re a_.Source.A.im),.d (.cx .f32 a_.Source.B.re a_.Source.B.im),.d (.cx .f32 a_.Source.C.re a_.Source.C.im),.d (.sl false (a_.qac.map qah))],.d (.int .i64 k_)] [] (fun v o new=>v = .d (.int .i64 r)∧o = []∧new = []):=by
  refine qar hτ func39 rfl (by simp) (by simp) ?_
  unfold qfp at h
  refine qa5 ?_
  refine qa2 ?_
  refine qaq hτ rfl rfl rfl ?_
  refine qa0 hτ rfl rfl rfl ?_
  refine qa4 ?_
  refine qa5 ?_
  refine qa2 ?_
  refine qa0 hτ rfl rfl rfl ?_
  refine qa0 hτ rfl rfl rfl ?_
  refine qa0 hτ rfl rfl rfl ?_
  refine qab h fun x2 hx2 h=>?_
  refine qam hτ false [] rfl rfl rfl (qap func89 rfl rfl) rfl rfl (by simp) ⟨trivial,trivial,trivial⟩ (by trivial) (laws_heldBusS_ok n a_.qac k_ hx2) ?_
  rintro r0 o0 n0 ⟨rfl,rfl,rfl⟩ -
  refine qa0 hτ rfl rfl rfl ?_
  refine qa4 ?_
  refine qa5 ?_
  refine qa5 ?_
  refine qa9 (qa3 [] (l:=[(1,.d (.int .i64 x2))]) (objs:=[]) rfl (by simp) rfl (by trivial) ⟨rfl,trivial,trivial⟩) ?_
  refine qa2 ?_
  refine qa0 hτ rfl rfl rfl ?_
  refine qa0 hτ rfl rfl rfl ?_
  refine qa4 ?_
  refine qau rfl (fun hc3=>?_) (fun hc3=>?_)
  · have h:=if_t h hc3
    refine qa5 ?_
    refine qa2 ?_
    refine qa0 hτ rfl rfl rfl ?_
    refine qa4 ?_
    refine qa9 (qa3 [] (l:=[(4,.d (.int .i64 (-1:Int)))]) (objs:=[]) rfl (by simp) rfl (by trivial) ⟨rfl,trivial,trivial⟩) ?_
    refine qas ?_
    have hr:=Option.some.inj h
    subst hr
    exact qaf (.inr rfl) [] (objs':=[]) (new:=[]) rfl (by simp) (by simp) rfl (by trivial) rfl rfl (by trivial) (fun _=>⟨by simp [V.flat,V.qb2,V.qay,D.flat],qai⟩) ⟨rfl,rfl,rfl⟩
  · have h:=if_f h hc3
    refine qav ?_
    refine qa5 ?_
    refine qa2 ?_
    refine qa0 hτ rfl rfl rfl ?_
    refine qa0 hτ rfl rfl rfl ?_
    refine qa4 ?_
    refine qa9 (qa3 [] (l:=[(4,.d (.int .i64 x2))]) (objs:=[]) rfl (by simp) rfl (by trivial) ⟨rfl,trivial,trivial⟩) ?_
    refine qas ?_
    have hr:=Option.some.inj h
    subst hr
    exact qaf (.inr rfl) [] (objs':=[]) (new:=[]) rfl (by simp) (by simp) rfl (by trivial) rfl rfl (by trivial) (fun _=>⟨by simp [V.flat,V.qb2,V.qay,D.flat],qai⟩) ⟨rfl,rfl,rfl⟩
theorem laws_heldFeeder_ok (n:Nat) (a_:qck) (k_:Int) {r:Int} (h:qfp n a_ k_ = some r):qb5 prog false 39 [.agg [.d (.cx .f32 a_.Source.A.re a_.Source.A.im),.d (.cx .f32 a_.Source.B.re a_.Source.B.im),.d (.cx .f32 a_.Source.C.re a_.Source.C.im),.d (.sl false (a_.qac.map qah))],.d (.int .i64 k_)] [] (fun v o new=>v = .d (.int .i64 r)∧o = []∧new = []):=laws_heldFeeder_ok_fr0 false n a_ k_ h
end Go.Proofs.Ytmllgpkgjniomaa.AWN
