/- Models and contracts, printed by program. -/
import Derived.Test.YtmllgpkgjniomaaTripsC
set_option linter.unusedVariables false
set_option linter.unusedSimpArgs false
set_option linter.unusedSectionVars false
set_option maxHeartbeats 2000000
namespace Go.Proofs.Ytmllgpkgjniomaa.AWN
open Go Go.Proofs.Try
def qf8 (n:Nat) (f_:qax):Option Bool :=
  (qg6 n (f_.qaf.length:Int) (1:Int) (16:Int)).bind fun x58 =>
  some x58
def qdz (n:Nat) (k89:Int→Option Bool) (v73:Int):Option Bool :=
  k89 (w64 (v73 + (1:Int)))
def qd6 (n:Nat) (k89:Int→Option Bool) (v73:Int) (v122:Bool):Option Bool :=
  if v122 = true then
    some false
  else
    qdz n k89 v73
def qci (n:Nat) (k89:Int→Option Bool) (v73:Int) (x105:SBus) (v117:Bool):Option Bool :=
  if v117 = true then
    some false
  else
    if v73 > (0:Int) then
      (qg6 n x105.qcx (0:Int) (w64 (v73 - (1:Int)))).bind fun x126 =>
      qd6 n k89 v73 (!x126)
    else
      qd6 n k89 v73 false
def qe0 (n:Nat) (k89:Int→Option Bool) (v73:Int) (x105:SBus) (v110:Bool):Option Bool :=
  if v110 = true then
    some false
  else
    if v73 = (0:Int) then
      if x105.qcx = (-1:Int) then
        if (fcmp .eql .f32 x105.Own.re (0:Nat) && fcmp .eql .f32 x105.Own.im (0:Nat)) = true then
          qci n k89 v73 x105 (!(fcmp .eql .f32 x105.Shared.re (0:Nat) && fcmp .eql .f32 x105.Shared.im (0:Nat)))
        else
          qci n k89 v73 x105 true
      else
        qci n k89 v73 x105 true
    else
      qci n k89 v73 x105 false
def qb7 (n:Nat) (f_:qax):Nat→Int→Option Bool
  | 0,_=>none
  | m88 + 1,v73 =>
    if v73 < (f_.qaf.length:Int) then
      (getI f_.qaf v73).bind fun x105 =>
      (qjw n x105.Kind).bind fun x132 =>
      if x132 = true then
        (qg6 n x105.qbl (0:Int) (1000000:Int)).bind fun x134 =>
        qe0 n (qb7 n f_ m88) v73 x105 (!x134)
      else
        qe0 n (qb7 n f_ m88) v73 x105 true
    else
      qf8 n f_
def qff (n:Nat) (f_:qax):Option Bool :=
  qb7 n f_ n (0:Int)
theorem impl_ValidFeeder_ok_fr0 (fr:Bool) (n:Nat) (f_:qax) {r:Bool} (h:qff n f_ = some r):qb9 prog fr 63 [.agg [.d (.cx .f32 f_.Source.A.re f_.Source.A.im),.d (.cx .f32 f_.Source.B.re f_.Source.B.im),.d (.cx .f32 f_.Source.C.re f_.Source.C.im),.d (.sl false (f_.qaf.map qai))]] [] (fun v o new=>v = .d (.bool r)∧o = []∧new = []):=by
  refine qak hτ func63 rfl (by simp) (by simp) ?_
  unfold qff at h
  refine qa5 ?_
  refine qa1 ?_
  refine qav hτ rfl rfl rfl ?_
  refine qa0 hτ rfl rfl rfl ?_
  refine qa3 ?_
  refine qb8 (ι:=Unit) (fun _=>St.of [(1,.ptr 0 0)] [.box [.d (.cx .f32 f_.Source.A.re f_.Source.A.im),.d (.cx .f32 f_.Source.B.re f_.Source.B.im),.d (.cx .f32 f_.Source.C.re f_.Source.C.im),.d (.sl false (f_.qaf.map qai))]] f63.ntmps 0) (fun _=>qf8 n f_ = some r) ?_ (fun hk59=>?_)
  · rintro ⟨⟩ h
    replace h:qf8 n f_ = some r:=h
    unfold qf8 at h
    refine qa5 ?_
    refine qa1 ?_
    refine qa0 hτ rfl rfl rfl ?_
    refine qa0 hτ rfl rfl rfl ?_
    refine qa0 hτ (v:=.d (.int .i64 (f_.qaf.length:Int))) rfl rfl (Eq.trans rfl (qdb (f:=qai) f_.qaf)) ?_
    refine qaa h fun x58 hx58 h=>?_
    refine qag hτ false [] rfl rfl rfl (qaj func62 rfl rfl) rfl rfl (by simp) ⟨trivial,trivial,trivial,trivial⟩ (by trivial) (qix n (f_.qaf.length:Int) (1:Int) (16:Int) hx58) ?_
    rintro r0 o0 n0 ⟨rfl,rfl,rfl⟩ -
    refine qa0 hτ rfl rfl rfl ?_
    refine qa3 ?_
    refine qa7 (qa2 [] (l:=[(2,.d (.bool x58))]) (objs:=[]) rfl (by simp) rfl (by trivial) ⟨rfl,trivial,trivial⟩) ?_
    refine qar ?_
    have hr:=Option.some.inj h
    subst hr
    exact qah (.inr rfl) [] (objs':=[]) (new:=[]) rfl (by simp) (by simp) rfl (by trivial) rfl rfl (by trivial) (fun _=>⟨by simp [V.flat,V.qbk,V.qbf,D.flat],qal⟩) ⟨rfl,rfl,rfl⟩
  · refine qa5 ?_
    refine qa5 ?_
    refine qa1 ?_
    refine qa0 hτ rfl rfl rfl ?_
    refine qa0 hτ rfl rfl rfl ?_
    refine qa0 hτ (v:=.d (.int .i64 (f_.qaf.length:Int))) rfl rfl (Eq.trans rfl (qdb (f:=qai) f_.qaf)) ?_
    refine qa0 hτ rfl rfl rfl ?_
    refine qa3 ?_
    refine qaz ?_
    refine qcs (ι:=Nat × Int) (fun (m88,v73)=>St.of [(1,.ptr 0 0),(6,.d (.sl false (f_.qaf.map qai))),(7,.d (.int .i64 (f_.qaf.length:Int))),(8,.d (.int .i64 v73))] [.box [.d (.cx .f32 f_.Source.A.re f_.Source.A.im),.d (.cx .f32 f_.Source.B.re f_.Source.B.im),.d (.cx .f32 f_.Source.C.re f_.Source.C.im),.d (.sl false (f_.qaf.map qai))]] f63.ntmps 0) (fun (m88,v73)=>qb7 n f_ m88 v73 = some r) (fun x=>x.1) (n,(0:Int)) h (qa2 [0] (l:=[(1,.ptr 0 0),(6,.d (.sl false (f_.qaf.map qai))),(7,.d (.int .i64 (f_.qaf.length:Int))),(8,.d (.int .i64 (0:Int)))]) (objs:=[.box [.d (.cx .f32 f_.Source.A.re f_.Source.A.im),.d (.cx .f32 f_.Source.B.re f_.Source.B.im),.d (.cx .f32 f_.Source.C.re f_.Source.C.im),.d (.sl false (f_.qaf.map qai))]]) rfl (by simp) rfl (by trivial) ⟨rfl,trivial,rfl,trivial,rfl,trivial,rfl,trivial,trivial⟩) ?_
    rintro ⟨m88,v73⟩ h
    replace h:qb7 n f_ m88 v73 = some r:=h
    rcases m88 with _ | m88
    · rw [qb7] at h;cases h
    rw [qb7] at h
    refine qa5 ?_
    refine qa1 ?_
    refine qa0 hτ rfl rfl rfl ?_
    refine qa3 ?_
    refine qa5 ?_
    refine qao rfl (fun hc90=>?_) (fun hc90=>?_)
    · have h:=if_t h hc90
      refine qap ?_
      refine qb8 (ι:=Unit) (fun _=>St.of [(1,.ptr 0 0),(6,.d (.sl false (f_.qaf.map qai))),(7,.d (.int .i64 (f_.qaf.length:Int))),(8,.d (.int .i64 v73))] [.box [.d (.cx .f32 f_.Source.A.re f_.Source.A.im),.d (.cx .f32 f_.Source.B.re f_.Source.B.im),.d (.cx .f32 f_.Source.C.re f_.Source.C.im),.d (.sl false (f_.qaf.map qai))]] f63.ntmps 0) (fun _=>qdz n (qb7 n f_ m88) v73 = some r) ?_ (fun hk104=>?_)
      · rintro ⟨⟩ h
        replace h:qdz n (qb7 n f_ m88) v73 = some r:=h
        unfold qdz at h
        refine qa1 ?_
        refine qa0 hτ rfl rfl rfl ?_
        refine qa0 hτ rfl rfl rfl ?_
        refine qa3 ?_
        exact ⟨(m88,(w64 (v73 + (1:Int)))),h,Nat.lt_succ_self m88,(qa2 [0] (l:=[(1,.ptr 0 0),(6,.d (.sl false (f_.qaf.map qai))),(7,.d (.int .i64 (f_.qaf.length:Int))),(8,.d (.int .i64 (w64 (v73 + (1:Int)))))]) (objs:=[.box [.d (.cx .f32 f_.Source.A.re f_.Source.A.im),.d (.cx .f32 f_.Source.B.re f_.Source.B.im),.d (.cx .f32 f_.Source.C.re f_.Source.C.im),.d (.sl false (f_.qaf.map qai))]]) rfl (by simp) rfl (by trivial) ⟨rfl,trivial,rfl,trivial,rfl,trivial,rfl,trivial,trivial⟩)⟩
      · refine qa5 ?_
        refine qaz ?_
        refine qa5 ?_
        refine qa1 ?_
        refine qa0 hτ rfl rfl rfl ?_
        refine qaa h fun x105 hx105 h=>?_
        refine qbe hτ rfl rfl rfl (qaw hx105).1 (qb5 hx105) rfl ?_
        refine qa0 hτ rfl rfl rfl ?_
        refine qav hτ rfl rfl rfl ?_
        refine qa0 hτ rfl rfl rfl ?_
        refine qav hτ rfl rfl rfl ?_
        refine qa3 ?_
        refine qaz ?_
        refine qb8 (ι:=Bool) (fun v110=>St.of [(1,.ptr 0 0),(3,.d (.int .i64 v73)),(4,.ptr 1 0),(6,.d (.sl false (f_.qaf.map qai))),(7,.d (.int .i64 (f_.qaf.length:Int))),(8,.d (.int .i64 v73)),(13,.d (.bool v110))] [.box [.d (.cx .f32 f_.Source.A.re f_.Source.A.im),.d (.cx .f32 f_.Source.B.re f_.Source.B.im),.d (.cx .f32 f_.Source.C.re f_.Source.C.im),.d (.sl false (f_.qaf.map qai))],.box [.d (.int .i64 x105.qcx),.d (.cx .f32 x105.Own.re x105.Own.im),.d (.cx .f32 x105.Shared.re x105.Shared.im),.d (.int .i64 x105.Kind),.d (.cx .f32 x105.Load.A.re x105.Load.A.im),.d (.cx .f32 x105.Load.B.re x105.Load.B.im),.d (.cx .f32 x105.Load.C.re x105.Load.C.im),.d (.int .i64 x105.qbl)]] f63.ntmps 0) (fun v110=>qe0 n (qb7 n f_ m88) v73 x105 v110 = some r) ?_ (fun hk131=>?_)
        · rintro v110 h
          replace h:qe0 n (qb7 n f_ m88) v73 x105 v110 = some r:=h
          unfold qe0 at h
          refine qao rfl (fun hc111=>?_) (fun hc111=>?_)
          · have h:=qbn h hc111
            refine qa5 ?_
            refine qa1 ?_
            refine qa0 hτ rfl rfl rfl ?_
            refine qa3 ?_
            refine qa7 (qa2 [] (l:=[(2,.d (.bool false))]) (objs:=[]) rfl (by simp) rfl (by trivial) ⟨rfl,trivial,trivial⟩) ?_
            refine qar ?_
            have hr:=Option.some.inj h
            subst hr
            exact qah (.inr rfl) [] (objs':=[]) (new:=[]) rfl (by simp) (by simp) rfl (by trivial) rfl rfl (by trivial) (fun _=>⟨by simp [V.flat,V.qbk,V.qbf,D.flat],qal⟩) ⟨rfl,rfl,rfl⟩
          · have h:=qbm h hc111
            refine qb8 (ι:=Bool) (fun v117=>St.of [(1,.ptr 0 0),(3,.d (.int .i64 v73)),(4,.ptr 1 0),(6,.d (.sl false (f_.qaf.map qai))),(7,.d (.int .i64 (f_.qaf.length:Int))),(8,.d (.int .i64 v73)),(24,.d (.bool v117))] [.box [.d (.cx .f32 f_.Source.A.re f_.Source.A.im),.d (.cx .f32 f_.Source.B.re f_.Source.B.im),.d (.cx .f32 f_.Source.C.re f_.Source.C.im),.d (.sl false (f_.qaf.map qai))],.box [.d (.int .i64 x105.qcx),.d (.cx .f32 x105.Own.re x105.Own.im),.d (.cx .f32 x105.Shared.re x105.Shared.im),.d (.int .i64 x105.Kind),.d (.cx .f32 x105.Load.A.re x105.Load.A.im),.d (.cx .f32 x105.Load.B.re x105.Load.B.im),.d (.cx .f32 x105.Load.C.re x105.Load.C.im),.d (.int .i64 x105.qbl)]] f63.ntmps 0) (fun v117=>qci n (qb7 n f_ m88) v73 x105 v117 = some r) ?_ (fun hk127=>?_)
            · rintro v117 h
              replace h:qci n (qb7 n f_ m88) v73 x105 v117 = some r:=h
              unfold qci at h
              refine qao rfl (fun hc118=>?_) (fun hc118=>?_)
              · have h:=qbn h hc118
                refine qa5 ?_
                refine qa1 ?_
                refine qa0 hτ rfl rfl rfl ?_
                refine qa3 ?_
                refine qa7 (qa2 [] (l:=[(2,.d (.bool false))]) (objs:=[]) rfl (by simp) rfl (by trivial) ⟨rfl,trivial,trivial⟩) ?_
                refine qar ?_
                have hr:=Option.some.inj h
                subst hr
                exact qah (.inr rfl) [] (objs':=[]) (new:=[]) rfl (by simp) (by simp) rfl (by trivial) rfl rfl (by trivial) (fun _=>⟨by simp [V.flat,V.qbk,V.qbf,D.flat],qal⟩) ⟨rfl,rfl,rfl⟩
              · have h:=qbm h hc118
                refine qb8 (ι:=Bool) (fun v122=>St.of [(1,.ptr 0 0),(6,.d (.sl false (f_.qaf.map qai))),(7,.d (.int .i64 (f_.qaf.length:Int))),(8,.d (.int .i64 v73)),(42,.d (.bool v122))] [.box [.d (.cx .f32 f_.Source.A.re f_.Source.A.im),.d (.cx .f32 f_.Source.B.re f_.Source.B.im),.d (.cx .f32 f_.Source.C.re f_.Source.C.im),.d (.sl false (f_.qaf.map qai))]] f63.ntmps 0) (fun v122=>qd6 n (qb7 n f_ m88) v73 v122 = some r) ?_ (fun hk124=>?_)
                · rintro v122 h
                  replace h:qd6 n (qb7 n f_ m88) v73 v122 = some r:=h
                  unfold qd6 at h
                  refine qao rfl (fun hc123=>?_) (fun hc123=>?_)
                  · have h:=qbn h hc123
                    refine qa5 ?_
                    refine qa1 ?_
                    refine qa0 hτ rfl rfl rfl ?_
                    refine qa3 ?_
                    refine qa7 (qa2 [] (l:=[(2,.d (.bool false))]) (objs:=[]) rfl (by simp) rfl (by trivial) ⟨rfl,trivial,trivial⟩) ?_
                    refine qar ?_
                    have hr:=Option.some.inj h
                    subst hr
                    exact qah (.inr rfl) [] (objs':=[]) (new:=[]) rfl (by simp) (by simp) rfl (by trivial) rfl rfl (by trivial) (fun _=>⟨by simp [V.flat,V.qbk,V.qbf,D.flat],qal⟩) ⟨rfl,rfl,rfl⟩
                  · have h:=qbm h hc123
                    refine qap ?_
                    refine qa7 (qa2 [0] (l:=[(1,.ptr 0 0),(6,.d (.sl false (f_.qaf.map qai))),(7,.d (.int .i64 (f_.qaf.length:Int))),(8,.d (.int .i64 v73))]) (objs:=[.box [.d (.cx .f32 f_.Source.A.re f_.Source.A.im),.d (.cx .f32 f_.Source.B.re f_.Source.B.im),.d (.cx .f32 f_.Source.C.re f_.Source.C.im),.d (.sl false (f_.qaf.map qai))]]) rfl (by simp) rfl (by trivial) ⟨rfl,trivial,rfl,trivial,rfl,trivial,rfl,trivial,trivial⟩) ?_
                    exact hk104 () h
                · refine qa5 ?_
                  refine qa1 ?_
                  refine qa0 hτ rfl rfl rfl ?_
                  refine qa0 hτ rfl rfl rfl ?_
                  refine qa0 hτ rfl rfl rfl ?_
                  refine qb4 45 rfl (fun hb125=>?_) (fun hb125=>?_)
                  · have h:=if_t h hb125
                    refine qa0 hτ rfl rfl rfl ?_
                    refine qa0 hτ rfl rfl rfl ?_
                    refine qa0 hτ rfl rfl rfl ?_
                    refine qa0 hτ rfl rfl rfl ?_
                    refine qaa h fun x126 hx126 h=>?_
                    refine qag hτ false [] rfl rfl rfl (qaj func62 rfl rfl) rfl rfl (by simp) ⟨trivial,trivial,trivial,trivial⟩ (by trivial) (qix n x105.qcx (0:Int) (w64 (v73 - (1:Int))) hx126) ?_
                    rintro r0 o0 n0 ⟨rfl,rfl,rfl⟩ -
                    refine qa0 hτ rfl rfl rfl ?_
                    refine qa0 hτ rfl rfl rfl ?_
                    refine qa0 hτ rfl rfl rfl ?_
                    refine qa3 ?_
                    refine qa7 (qa2 [0] (l:=[(1,.ptr 0 0),(6,.d (.sl false (f_.qaf.map qai))),(7,.d (.int .i64 (f_.qaf.length:Int))),(8,.d (.int .i64 v73)),(42,.d (.bool (!x126)))]) (objs:=[.box [.d (.cx .f32 f_.Source.A.re f_.Source.A.im),.d (.cx .f32 f_.Source.B.re f_.Source.B.im),.d (.cx .f32 f_.Source.C.re f_.Source.C.im),.d (.sl false (f_.qaf.map qai))]]) rfl (by simp) rfl (by trivial) ⟨rfl,trivial,rfl,trivial,rfl,trivial,rfl,trivial,rfl,trivial,trivial⟩) ?_
                    exact hk124 (!x126) h
                  · have h:=if_f h hb125
                    refine qa6 rfl rfl ?_
                    refine qa6 rfl rfl ?_
                    refine qa6 rfl rfl ?_
                    refine qa6 rfl rfl ?_
                    refine qa6 rfl rfl ?_
                    refine qa6 rfl rfl ?_
                    refine qa0 hτ rfl rfl rfl ?_
                    refine qa0 hτ rfl rfl rfl ?_
                    refine qa3 ?_
                    refine qa7 (qa2 [0] (l:=[(1,.ptr 0 0),(6,.d (.sl false (f_.qaf.map qai))),(7,.d (.int .i64 (f_.qaf.length:Int))),(8,.d (.int .i64 v73)),(42,.d (.bool false))]) (objs:=[.box [.d (.cx .f32 f_.Source.A.re f_.Source.A.im),.d (.cx .f32 f_.Source.B.re f_.Source.B.im),.d (.cx .f32 f_.Source.C.re f_.Source.C.im),.d (.sl false (f_.qaf.map qai))]]) rfl (by simp) rfl (by trivial) ⟨rfl,trivial,rfl,trivial,rfl,trivial,rfl,trivial,rfl,trivial,trivial⟩) ?_
                    exact hk124 false h
            · refine qa5 ?_
              refine qa1 ?_
              refine qa0 hτ rfl rfl rfl ?_
              refine qa0 hτ (v:=.d (.bool (decide (v73 = (0:Int))))) rfl rfl (ql2 _ _) ?_
              refine qa0 hτ rfl rfl rfl ?_
              refine qb4 27 rfl (fun hb128=>?_) (fun hb128=>?_)
              · have h:=if_t h hb128
                refine qa0 hτ rfl rfl rfl ?_
                refine qa0 hτ rfl rfl rfl ?_
                refine qa0 hτ (v:=.d (.bool (!(decide (x105.qcx = (-1:Int)))))) rfl rfl (qon _ _) ?_
                refine qa0 hτ rfl rfl rfl ?_
                refine qb4 31 rfl (fun hb129=>?_) (fun hb129=>?_)
                · have hb129:=qgh hb129
                  have h:=if_f h hb129
                  refine qa6 rfl rfl ?_
                  refine qa6 rfl rfl ?_
                  refine qa6 rfl rfl ?_
                  refine qa0 hτ rfl rfl rfl ?_
                  refine qa0 hτ rfl rfl rfl ?_
                  refine qat (qa2 [0,1] (l:=[(1,.ptr 0 0),(3,.d (.int .i64 v73)),(4,.ptr 1 0),(6,.d (.sl false (f_.qaf.map qai))),(7,.d (.int .i64 (f_.qaf.length:Int))),(8,.d (.int .i64 v73)),(27,.d (.bool true)),(36,.d (.bool true))]) (objs:=[.box [.d (.cx .f32 f_.Source.A.re f_.Source.A.im),.d (.cx .f32 f_.Source.B.re f_.Source.B.im),.d (.cx .f32 f_.Source.C.re f_.Source.C.im),.d (.sl false (f_.qaf.map qai))],.box [.d (.int .i64 x105.qcx),.d (.cx .f32 x105.Own.re x105.Own.im),.d (.cx .f32 x105.Shared.re x105.Shared.im),.d (.int .i64 x105.Kind),.d (.cx .f32 x105.Load.A.re x105.Load.A.im),.d (.cx .f32 x105.Load.B.re x105.Load.B.im),.d (.cx .f32 x105.Load.C.re x105.Load.C.im),.d (.int .i64 x105.qbl)]]) rfl (by simp) rfl (by trivial) ⟨rfl,trivial,rfl,trivial,rfl,trivial,rfl,trivial,rfl,trivial,rfl,trivial,rfl,trivial,rfl,trivial,trivial⟩) ?_
                  refine qa6 rfl rfl ?_
                  refine qa6 rfl rfl ?_
                  refine qa6 rfl rfl ?_
                  refine qa0 hτ rfl rfl rfl ?_
                  refine qa0 hτ rfl rfl rfl ?_
                  refine qa0 hτ rfl rfl rfl ?_
                  refine qa3 ?_
                  refine qa7 (qa2 [0,1] (l:=[(1,.ptr 0 0),(3,.d (.int .i64 v73)),(4,.ptr 1 0),(6,.d (.sl false (f_.qaf.map qai))),(7,.d (.int .i64 (f_.qaf.length:Int))),(8,.d (.int .i64 v73)),(24,.d (.bool true))]) (objs:=[.box [.d (.cx .f32 f_.Source.A.re f_.Source.A.im),.d (.cx .f32 f_.Source.B.re f_.Source.B.im),.d (.cx .f32 f_.Source.C.re f_.Source.C.im),.d (.sl false (f_.qaf.map qai))],.box [.d (.int .i64 x105.qcx),.d (.cx .f32 x105.Own.re x105.Own.im),.d (.cx .f32 x105.Shared.re x105.Shared.im),.d (.int .i64 x105.Kind),.d (.cx .f32 x105.Load.A.re x105.Load.A.im),.d (.cx .f32 x105.Load.B.re x105.Load.B.im),.d (.cx .f32 x105.Load.C.re x105.Load.C.im),.d (.int .i64 x105.qbl)]]) rfl (by simp) rfl (by trivial) ⟨rfl,trivial,rfl,trivial,rfl,trivial,rfl,trivial,rfl,trivial,rfl,trivial,rfl,trivial,trivial⟩) ?_
                  exact hk127 true h
                · have hb129:=qgg hb129
                  have h:=if_t h hb129
                  refine qa0 hτ rfl rfl rfl ?_
                  refine qa0 hτ rfl rfl rfl ?_
                  refine qa0 hτ rfl rfl rfl ?_
                  refine qa0 hτ rfl rfl rfl ?_
                  refine qa0 hτ rfl rfl rfl ?_
                  refine qat (qa2 [0,1] (l:=[(1,.ptr 0 0),(3,.d (.int .i64 v73)),(4,.ptr 1 0),(6,.d (.sl false (f_.qaf.map qai))),(7,.d (.int .i64 (f_.qaf.length:Int))),(8,.d (.int .i64 v73)),(27,.d (.bool true)),(36,.d (.bool (!(fcmp .eql .f32 x105.Own.re (0:Nat) && fcmp .eql .f32 x105.Own.im (0:Nat)))))]) (objs:=[.box [.d (.cx .f32 f_.Source.A.re f_.Source.A.im),.d (.cx .f32 f_.Source.B.re f_.Source.B.im),.d (.cx .f32 f_.Source.C.re f_.Source.C.im),.d (.sl false (f_.qaf.map qai))],.box [.d (.int .i64 x105.qcx),.d (.cx .f32 x105.Own.re x105.Own.im),.d (.cx .f32 x105.Shared.re x105.Shared.im),.d (.int .i64 x105.Kind),.d (.cx .f32 x105.Load.A.re x105.Load.A.im),.d (.cx .f32 x105.Load.B.re x105.Load.B.im),.d (.cx .f32 x105.Load.C.re x105.Load.C.im),.d (.int .i64 x105.qbl)]]) rfl (by simp) rfl (by trivial) ⟨rfl,trivial,rfl,trivial,rfl,trivial,rfl,trivial,rfl,trivial,rfl,trivial,rfl,trivial,rfl,trivial,trivial⟩) ?_
                  refine qb4 36 rfl (fun hb130=>?_) (fun hb130=>?_)
                  · have hb130:=qgh hb130
                    have h:=qbm h hb130
                    refine qa6 rfl rfl ?_
                    refine qa6 rfl rfl ?_
                    refine qa6 rfl rfl ?_
                    refine qa0 hτ rfl rfl rfl ?_
                    refine qa0 hτ rfl rfl rfl ?_
                    refine qa0 hτ rfl rfl rfl ?_
                    refine qa3 ?_
                    refine qa7 (qa2 [0,1] (l:=[(1,.ptr 0 0),(3,.d (.int .i64 v73)),(4,.ptr 1 0),(6,.d (.sl false (f_.qaf.map qai))),(7,.d (.int .i64 (f_.qaf.length:Int))),(8,.d (.int .i64 v73)),(24,.d (.bool true))]) (objs:=[.box [.d (.cx .f32 f_.Source.A.re f_.Source.A.im),.d (.cx .f32 f_.Source.B.re f_.Source.B.im),.d (.cx .f32 f_.Source.C.re f_.Source.C.im),.d (.sl false (f_.qaf.map qai))],.box [.d (.int .i64 x105.qcx),.d (.cx .f32 x105.Own.re x105.Own.im),.d (.cx .f32 x105.Shared.re x105.Shared.im),.d (.int .i64 x105.Kind),.d (.cx .f32 x105.Load.A.re x105.Load.A.im),.d (.cx .f32 x105.Load.B.re x105.Load.B.im),.d (.cx .f32 x105.Load.C.re x105.Load.C.im),.d (.int .i64 x105.qbl)]]) rfl (by simp) rfl (by trivial) ⟨rfl,trivial,rfl,trivial,rfl,trivial,rfl,trivial,rfl,trivial,rfl,trivial,rfl,trivial,trivial⟩) ?_
                    exact hk127 true h
                  · have hb130:=qgg hb130
                    have h:=qbn h hb130
                    refine qa0 hτ rfl rfl rfl ?_
                    refine qa0 hτ rfl rfl rfl ?_
                    refine qa0 hτ rfl rfl rfl ?_
                    refine qa0 hτ rfl rfl rfl ?_
                    refine qa0 hτ rfl rfl rfl ?_
                    refine qa0 hτ rfl rfl rfl ?_
                    refine qa3 ?_
                    refine qa7 (qa2 [0,1] (l:=[(1,.ptr 0 0),(3,.d (.int .i64 v73)),(4,.ptr 1 0),(6,.d (.sl false (f_.qaf.map qai))),(7,.d (.int .i64 (f_.qaf.length:Int))),(8,.d (.int .i64 v73)),(24,.d (.bool (!(fcmp .eql .f32 x105.Shared.re (0:Nat) && fcmp .eql .f32 x105.Shared.im (0:Nat)))))]) (objs:=[.box [.d (.cx .f32 f_.Source.A.re f_.Source.A.im),.d (.cx .f32 f_.Source.B.re f_.Source.B.im),.d (.cx .f32 f_.Source.C.re f_.Source.C.im),.d (.sl false (f_.qaf.map qai))],.box [.d (.int .i64 x105.qcx),.d (.cx .f32 x105.Own.re x105.Own.im),.d (.cx .f32 x105.Shared.re x105.Shared.im),.d (.int .i64 x105.Kind),.d (.cx .f32 x105.Load.A.re x105.Load.A.im),.d (.cx .f32 x105.Load.B.re x105.Load.B.im),.d (.cx .f32 x105.Load.C.re x105.Load.C.im),.d (.int .i64 x105.qbl)]]) rfl (by simp) rfl (by trivial) ⟨rfl,trivial,rfl,trivial,rfl,trivial,rfl,trivial,rfl,trivial,rfl,trivial,rfl,trivial,trivial⟩) ?_
                    exact hk127 (!(fcmp .eql .f32 x105.Shared.re (0:Nat) && fcmp .eql .f32 x105.Shared.im (0:Nat))) h
              · have h:=if_f h hb128
                refine qa6 rfl rfl ?_
                refine qa6 rfl rfl ?_
                refine qa6 rfl rfl ?_
                refine qa6 rfl rfl ?_
                refine qa6 rfl rfl ?_
                refine qa6 rfl rfl ?_
                refine qa6 rfl rfl ?_
                refine qa6 rfl rfl ?_
                refine qa6 rfl rfl ?_
                refine qat (qa2 [0,1] (l:=[(1,.ptr 0 0),(3,.d (.int .i64 v73)),(4,.ptr 1 0),(6,.d (.sl false (f_.qaf.map qai))),(7,.d (.int .i64 (f_.qaf.length:Int))),(8,.d (.int .i64 v73)),(27,.d (.bool false)),(36,.und)]) (objs:=[.box [.d (.cx .f32 f_.Source.A.re f_.Source.A.im),.d (.cx .f32 f_.Source.B.re f_.Source.B.im),.d (.cx .f32 f_.Source.C.re f_.Source.C.im),.d (.sl false (f_.qaf.map qai))],.box [.d (.int .i64 x105.qcx),.d (.cx .f32 x105.Own.re x105.Own.im),.d (.cx .f32 x105.Shared.re x105.Shared.im),.d (.int .i64 x105.Kind),.d (.cx .f32 x105.Load.A.re x105.Load.A.im),.d (.cx .f32 x105.Load.B.re x105.Load.B.im),.d (.cx .f32 x105.Load.C.re x105.Load.C.im),.d (.int .i64 x105.qbl)]]) rfl (by simp) rfl (by trivial) ⟨rfl,trivial,rfl,trivial,rfl,trivial,rfl,trivial,rfl,trivial,rfl,trivial,rfl,trivial,rfl,trivial,trivial⟩) ?_
                refine qa6 rfl rfl ?_
                refine qa6 rfl rfl ?_
                refine qa6 rfl rfl ?_
                refine qa6 rfl rfl ?_
                refine qa0 hτ rfl rfl rfl ?_
                refine qa0 hτ rfl rfl rfl ?_
                refine qa3 ?_
                refine qa7 (qa2 [0,1] (l:=[(1,.ptr 0 0),(3,.d (.int .i64 v73)),(4,.ptr 1 0),(6,.d (.sl false (f_.qaf.map qai))),(7,.d (.int .i64 (f_.qaf.length:Int))),(8,.d (.int .i64 v73)),(24,.d (.bool false))]) (objs:=[.box [.d (.cx .f32 f_.Source.A.re f_.Source.A.im),.d (.cx .f32 f_.Source.B.re f_.Source.B.im),.d (.cx .f32 f_.Source.C.re f_.Source.C.im),.d (.sl false (f_.qaf.map qai))],.box [.d (.int .i64 x105.qcx),.d (.cx .f32 x105.Own.re x105.Own.im),.d (.cx .f32 x105.Shared.re x105.Shared.im),.d (.int .i64 x105.Kind),.d (.cx .f32 x105.Load.A.re x105.Load.A.im),.d (.cx .f32 x105.Load.B.re x105.Load.B.im),.d (.cx .f32 x105.Load.C.re x105.Load.C.im),.d (.int .i64 x105.qbl)]]) rfl (by simp) rfl (by trivial) ⟨rfl,trivial,rfl,trivial,rfl,trivial,rfl,trivial,rfl,trivial,rfl,trivial,rfl,trivial,trivial⟩) ?_
                exact hk127 false h
        · refine qa5 ?_
          refine qa7 (qa2 [0,1] (l:=[(1,.ptr 0 0),(3,.d (.int .i64 v73)),(4,.ptr 1 0),(6,.d (.sl false (f_.qaf.map qai))),(7,.d (.int .i64 (f_.qaf.length:Int))),(8,.d (.int .i64 v73))]) (objs:=[.box [.d (.cx .f32 f_.Source.A.re f_.Source.A.im),.d (.cx .f32 f_.Source.B.re f_.Source.B.im),.d (.cx .f32 f_.Source.C.re f_.Source.C.im),.d (.sl false (f_.qaf.map qai))],.box [.d (.int .i64 x105.qcx),.d (.cx .f32 x105.Own.re x105.Own.im),.d (.cx .f32 x105.Shared.re x105.Shared.im),.d (.int .i64 x105.Kind),.d (.cx .f32 x105.Load.A.re x105.Load.A.im),.d (.cx .f32 x105.Load.B.re x105.Load.B.im),.d (.cx .f32 x105.Load.C.re x105.Load.C.im),.d (.int .i64 x105.qbl)]]) rfl (by simp) rfl (by trivial) ⟨rfl,trivial,rfl,trivial,rfl,trivial,rfl,trivial,rfl,trivial,rfl,trivial,trivial⟩) ?_
          refine qa1 ?_
          refine qa0 hτ rfl rfl rfl ?_
          refine qa0 hτ rfl rfl rfl ?_
          refine qaa h fun x132 hx132 h=>?_
          refine qag hτ false [] rfl rfl rfl (qaj func106 rfl rfl) rfl rfl (by simp) ⟨trivial,trivial⟩ (by trivial) (impl_kindOk_ok n x105.Kind hx132) ?_
          rintro r0 o0 n0 ⟨rfl,rfl,rfl⟩ -
          refine qa0 hτ rfl rfl rfl ?_
          refine qa0 hτ rfl rfl rfl ?_
          refine qb4 18 rfl (fun hb133=>?_) (fun hb133=>?_)
          · have hb133:=qgh hb133
            have h:=qbm h hb133
            refine qa6 rfl rfl ?_
            refine qa6 rfl rfl ?_
            refine qa6 rfl rfl ?_
            refine qa6 rfl rfl ?_
            refine qa0 hτ rfl rfl rfl ?_
            refine qa0 hτ rfl rfl rfl ?_
            refine qa3 ?_
            refine qa7 (qa2 [0,1] (l:=[(1,.ptr 0 0),(3,.d (.int .i64 v73)),(4,.ptr 1 0),(6,.d (.sl false (f_.qaf.map qai))),(7,.d (.int .i64 (f_.qaf.length:Int))),(8,.d (.int .i64 v73)),(13,.d (.bool true))]) (objs:=[.box [.d (.cx .f32 f_.Source.A.re f_.Source.A.im),.d (.cx .f32 f_.Source.B.re f_.Source.B.im),.d (.cx .f32 f_.Source.C.re f_.Source.C.im),.d (.sl false (f_.qaf.map qai))],.box [.d (.int .i64 x105.qcx),.d (.cx .f32 x105.Own.re x105.Own.im),.d (.cx .f32 x105.Shared.re x105.Shared.im),.d (.int .i64 x105.Kind),.d (.cx .f32 x105.Load.A.re x105.Load.A.im),.d (.cx .f32 x105.Load.B.re x105.Load.B.im),.d (.cx .f32 x105.Load.C.re x105.Load.C.im),.d (.int .i64 x105.qbl)]]) rfl (by simp) rfl (by trivial) ⟨rfl,trivial,rfl,trivial,rfl,trivial,rfl,trivial,rfl,trivial,rfl,trivial,rfl,trivial,trivial⟩) ?_
            exact hk131 true h
          · have hb133:=qgg hb133
            have h:=qbn h hb133
            refine qa0 hτ rfl rfl rfl ?_
            refine qa0 hτ rfl rfl rfl ?_
            refine qaa h fun x134 hx134 h=>?_
            refine qag hτ false [] rfl rfl rfl (qaj func62 rfl rfl) rfl rfl (by simp) ⟨trivial,trivial,trivial,trivial⟩ (by trivial) (qix n x105.qbl (0:Int) (1000000:Int) hx134) ?_
            rintro r0 o0 n0 ⟨rfl,rfl,rfl⟩ -
            refine qa0 hτ rfl rfl rfl ?_
            refine qa0 hτ rfl rfl rfl ?_
            refine qa0 hτ rfl rfl rfl ?_
            refine qa3 ?_
            refine qa7 (qa2 [0,1] (l:=[(1,.ptr 0 0),(3,.d (.int .i64 v73)),(4,.ptr 1 0),(6,.d (.sl false (f_.qaf.map qai))),(7,.d (.int .i64 (f_.qaf.length:Int))),(8,.d (.int .i64 v73)),(13,.d (.bool (!x134)))]) (objs:=[.box [.d (.cx .f32 f_.Source.A.re f_.Source.A.im),.d (.cx .f32 f_.Source.B.re f_.Source.B.im),.d (.cx .f32 f_.Source.C.re f_.Source.C.im),.d (.sl false (f_.qaf.map qai))],.box [.d (.int .i64 x105.qcx),.d (.cx .f32 x105.Own.re x105.Own.im),.d (.cx .f32 x105.Shared.re x105.Shared.im),.d (.int .i64 x105.Kind),.d (.cx .f32 x105.Load.A.re x105.Load.A.im),.d (.cx .f32 x105.Load.B.re x105.Load.B.im),.d (.cx .f32 x105.Load.C.re x105.Load.C.im),.d (.int .i64 x105.qbl)]]) rfl (by simp) rfl (by trivial) ⟨rfl,trivial,rfl,trivial,rfl,trivial,rfl,trivial,rfl,trivial,rfl,trivial,rfl,trivial,trivial⟩) ?_
            exact hk131 (!x134) h
    · have h:=if_f h hc90
      refine qcr ?_
      refine qa7 (qa2 [0] (l:=[(1,.ptr 0 0)]) (objs:=[.box [.d (.cx .f32 f_.Source.A.re f_.Source.A.im),.d (.cx .f32 f_.Source.B.re f_.Source.B.im),.d (.cx .f32 f_.Source.C.re f_.Source.C.im),.d (.sl false (f_.qaf.map qai))]]) rfl (by simp) rfl (by trivial) ⟨rfl,trivial,trivial⟩) ?_
      exact hk59 () h
theorem qkx (n:Nat) (f_:qax) {r:Bool} (h:qff n f_ = some r):qb9 prog false 63 [.agg [.d (.cx .f32 f_.Source.A.re f_.Source.A.im),.d (.cx .f32 f_.Source.B.re f_.Source.B.im),.d (.cx .f32 f_.Source.C.re f_.Source.C.im),.d (.sl false (f_.qaf.map qai))]] [] (fun v o new=>v = .d (.bool r)∧o = []∧new = []):=impl_ValidFeeder_ok_fr0 false n f_ h
def qfl (n:Nat) (f_:qax) (devices_:List qas):Option Bool :=
  (qff n f_).bind fun x36 =>
  if x36 = true then
    some (decide ((devices_.length:Int) ≤ (16:Int)))
  else
    some false
def qfm (n:Nat) (k56:Int→Int→Option Bool) (v46:Int) (v64:Int):Option Bool :=
  k56 v64 (w64 (v46 + (1:Int)))
def qfn (n:Nat) (k56:Int→Int→Option Bool) (v46:Int) (x66:qas):Option Bool :=
  qfm n k56 v46 x66.Bus
def qdh (n:Nat) (k56:Int→Int→Option Bool) (v46:Int) (x66:qas) (v78:Bool):Option Bool :=
  if v78 = true then
    some false
  else
    qfn n k56 v46 x66
def qbb (n:Nat) (f_:qax) (devices_:List qas):Nat→Int→Int→Option Bool
  | 0,_,_=>none
  | m55 + 1,v45,v46 =>
    if v46 < (devices_.length:Int) then
      (getI devices_ v46).bind fun x66 =>
      (qdd n x66.qcp).bind fun x81 =>
      if x81 = true then
        if x66.Bus ≤ v45 then
          qdh n (qbb n f_ devices_ m55) v46 x66 true
        else
          (qg6 n x66.Bus (0:Int) (w64 ((f_.qaf.length:Int) - (1:Int)))).bind fun x84 =>
          qdh n (qbb n f_ devices_ m55) v46 x66 (!x84)
      else
        qdh n (qbb n f_ devices_ m55) v46 x66 true
    else
      qfl n f_ devices_
def qdc (n:Nat) (f_:qax) (devices_:List qas):Option Bool :=
  qbb n f_ devices_ n (-1:Int) (0:Int)
theorem qk1 (fr:Bool) (n:Nat) (f_:qax) (devices_:List qas) {r:Bool} (h:qdc n f_ devices_ = some r):qb9 prog fr 27 [.agg [.d (.cx .f32 f_.Source.A.re f_.Source.A.im),.d (.cx .f32 f_.Source.B.re f_.Source.B.im),.d (.cx .f32 f_.Source.C.re f_.Source.C.im),.d (.sl false (f_.qaf.map qai))],.d (.sl false (devices_.map qa9))] [] (fun v o new=>v = .d (.bool r)∧o = []∧new = []):=by
  refine qak hτ func27 rfl (by simp) (by simp) ?_
  unfold qdc at h
  refine qa5 ?_
  refine qa1 ?_
  refine qav hτ rfl rfl rfl ?_
  refine qa0 hτ rfl rfl rfl ?_
  refine qa3 ?_
  refine qa5 ?_
  refine qa1 ?_
  refine qa0 hτ rfl rfl rfl ?_
  refine qa3 ?_
  refine qb8 (ι:=Unit) (fun _=>St.of [(1,.d (.sl false (devices_.map qa9))),(2,.ptr 0 0)] [.box [.d (.cx .f32 f_.Source.A.re f_.Source.A.im),.d (.cx .f32 f_.Source.B.re f_.Source.B.im),.d (.cx .f32 f_.Source.C.re f_.Source.C.im),.d (.sl false (f_.qaf.map qai))]] f27.ntmps 0) (fun _=>qfl n f_ devices_ = some r) ?_ (fun hk38=>?_)
  · rintro ⟨⟩ h
    replace h:qfl n f_ devices_ = some r:=h
    unfold qfl at h
    refine qa5 ?_
    refine qa1 ?_
    refine qa0 hτ rfl rfl rfl ?_
    refine qaa h fun x36 hx36 h=>?_
    refine qag hτ false [] rfl rfl rfl (qaj func63 rfl rfl) rfl rfl (by simp) ⟨(by trivial),trivial⟩ (by trivial) (qkx n f_ hx36) ?_
    rintro r0 o0 n0 ⟨rfl,rfl,rfl⟩ -
    refine qa0 hτ rfl rfl rfl ?_
    refine qb4 39 rfl (fun hb37=>?_) (fun hb37=>?_)
    · have h:=qbn h hb37
      refine qa0 hτ rfl rfl rfl ?_
      refine qa0 hτ (v:=.d (.int .i64 (devices_.length:Int))) rfl rfl (Eq.trans rfl (qdb (f:=qa9) devices_)) ?_
      refine qa0 hτ rfl rfl rfl ?_
      refine qa0 hτ rfl rfl rfl ?_
      refine qa0 hτ rfl rfl rfl ?_
      refine qa3 ?_
      refine qa7 (qa2 [] (l:=[(4,.d (.bool (decide ((devices_.length:Int) ≤ (16:Int)))))]) (objs:=[]) rfl (by simp) rfl (by trivial) ⟨rfl,trivial,trivial⟩) ?_
      refine qar ?_
      have hr:=Option.some.inj h
      subst hr
      exact qah (.inr rfl) [] (objs':=[]) (new:=[]) rfl (by simp) (by simp) rfl (by trivial) rfl rfl (by trivial) (fun _=>⟨by simp [V.flat,V.qbk,V.qbf,D.flat],qal⟩) ⟨rfl,rfl,rfl⟩
    · have h:=qbm h hb37
      refine qa6 rfl rfl ?_
      refine qa6 rfl rfl ?_
      refine qa6 rfl rfl ?_
      refine qa0 hτ rfl rfl rfl ?_
      refine qa0 hτ rfl rfl rfl ?_
      refine qa3 ?_
      refine qa7 (qa2 [] (l:=[(4,.d (.bool false))]) (objs:=[]) rfl (by simp) rfl (by trivial) ⟨rfl,trivial,trivial⟩) ?_
      refine qar ?_
      have hr:=Option.some.inj h
      subst hr
      exact qah (.inr rfl) [] (objs':=[]) (new:=[]) rfl (by simp) (by simp) rfl (by trivial) rfl rfl (by trivial) (fun _=>⟨by simp [V.flat,V.qbk,V.qbf,D.flat],qal⟩) ⟨rfl,rfl,rfl⟩
  · refine qa5 ?_
    refine qa5 ?_
    refine qa1 ?_
    refine qa0 hτ rfl rfl rfl ?_
    refine qa0 hτ (v:=.d (.int .i64 (devices_.length:Int))) rfl rfl (Eq.trans rfl (qdb (f:=qa9) devices_)) ?_
    refine qa0 hτ rfl rfl rfl ?_
    refine qa3 ?_
    refine qaz ?_
    refine qcs (ι:=Nat × Int × Int) (fun (m55,v45,v46)=>St.of [(1,.d (.sl false (devices_.map qa9))),(2,.ptr 0 0),(5,.d (.int .i64 v45)),(8,.d (.sl false (devices_.map qa9))),(9,.d (.int .i64 (devices_.length:Int))),(10,.d (.int .i64 v46))] [.box [.d (.cx .f32 f_.Source.A.re f_.Source.A.im),.d (.cx .f32 f_.Source.B.re f_.Source.B.im),.d (.cx .f32 f_.Source.C.re f_.Source.C.im),.d (.sl false (f_.qaf.map qai))]] f27.ntmps 0) (fun (m55,v45,v46)=>qbb n f_ devices_ m55 v45 v46 = some r) (fun x=>x.1) (n,(-1:Int),(0:Int)) h (qa2 [0] (l:=[(1,.d (.sl false (devices_.map qa9))),(2,.ptr 0 0),(5,.d (.int .i64 (-1:Int))),(8,.d (.sl false (devices_.map qa9))),(9,.d (.int .i64 (devices_.length:Int))),(10,.d (.int .i64 (0:Int)))]) (objs:=[.box [.d (.cx .f32 f_.Source.A.re f_.Source.A.im),.d (.cx .f32 f_.Source.B.re f_.Source.B.im),.d (.cx .f32 f_.Source.C.re f_.Source.C.im),.d (.sl false (f_.qaf.map qai))]]) rfl (by simp) rfl (by trivial) ⟨rfl,trivial,rfl,trivial,rfl,trivial,rfl,trivial,rfl,trivial,rfl,trivial,trivial⟩) ?_
    rintro ⟨m55,v45,v46⟩ h
    replace h:qbb n f_ devices_ m55 v45 v46 = some r:=h
    rcases m55 with _ | m55
    · rw [qbb] at h;cases h
    rw [qbb] at h
    refine qa5 ?_
    refine qa1 ?_
    refine qa0 hτ rfl rfl rfl ?_
    refine qa3 ?_
    refine qa5 ?_
    refine qao rfl (fun hc57=>?_) (fun hc57=>?_)
    · have h:=if_t h hc57
      refine qap ?_
      refine qb8 (ι:=Int) (fun v64=>St.of [(1,.d (.sl false (devices_.map qa9))),(2,.ptr 0 0),(5,.d (.int .i64 v64)),(8,.d (.sl false (devices_.map qa9))),(9,.d (.int .i64 (devices_.length:Int))),(10,.d (.int .i64 v46))] [.box [.d (.cx .f32 f_.Source.A.re f_.Source.A.im),.d (.cx .f32 f_.Source.B.re f_.Source.B.im),.d (.cx .f32 f_.Source.C.re f_.Source.C.im),.d (.sl false (f_.qaf.map qai))]] f27.ntmps 0) (fun v64=>qfm n (qbb n f_ devices_ m55) v46 v64 = some r) ?_ (fun hk65=>?_)
      · rintro v64 h
        replace h:qfm n (qbb n f_ devices_ m55) v46 v64 = some r:=h
        unfold qfm at h
        refine qa1 ?_
        refine qa0 hτ rfl rfl rfl ?_
        refine qa0 hτ rfl rfl rfl ?_
        refine qa3 ?_
        exact ⟨(m55,v64,(w64 (v46 + (1:Int)))),h,Nat.lt_succ_self m55,(qa2 [0] (l:=[(1,.d (.sl false (devices_.map qa9))),(2,.ptr 0 0),(5,.d (.int .i64 v64)),(8,.d (.sl false (devices_.map qa9))),(9,.d (.int .i64 (devices_.length:Int))),(10,.d (.int .i64 (w64 (v46 + (1:Int)))))]) (objs:=[.box [.d (.cx .f32 f_.Source.A.re f_.Source.A.im),.d (.cx .f32 f_.Source.B.re f_.Source.B.im),.d (.cx .f32 f_.Source.C.re f_.Source.C.im),.d (.sl false (f_.qaf.map qai))]]) rfl (by simp) rfl (by trivial) ⟨rfl,trivial,rfl,trivial,rfl,trivial,rfl,trivial,rfl,trivial,rfl,trivial,trivial⟩)⟩
      · refine qa5 ?_
        refine qaz ?_
        refine qa5 ?_
        refine qa1 ?_
        refine qaa h fun x66 hx66 h=>?_
        refine qbe hτ rfl rfl rfl (qaw hx66).1 (qb5 hx66) rfl ?_
        refine qa0 hτ rfl rfl rfl ?_
        refine qav hτ rfl rfl rfl ?_
        refine qav hτ rfl rfl rfl ?_
        refine qa3 ?_
        refine qb8 (ι:=Unit) (fun _=>St.of [(1,.d (.sl false (devices_.map qa9))),(2,.ptr 0 0),(7,.ptr 1 0),(8,.d (.sl false (devices_.map qa9))),(9,.d (.int .i64 (devices_.length:Int))),(10,.d (.int .i64 v46))] [.box [.d (.cx .f32 f_.Source.A.re f_.Source.A.im),.d (.cx .f32 f_.Source.B.re f_.Source.B.im),.d (.cx .f32 f_.Source.C.re f_.Source.C.im),.d (.sl false (f_.qaf.map qai))],.box [.d (.int .i64 x66.Bus),.d (.sl false (x66.qcp.qa8.map qa4)),.d (.sl false (x66.qcp.Times.map qa4))]] f27.ntmps 0) (fun _=>qfn n (qbb n f_ devices_ m55) v46 x66 = some r) ?_ (fun hk72=>?_)
        · rintro ⟨⟩ h
          replace h:qfn n (qbb n f_ devices_ m55) v46 x66 = some r:=h
          unfold qfn at h
          refine qa1 ?_
          refine qa0 hτ rfl rfl rfl ?_
          refine qa0 hτ rfl rfl rfl ?_
          refine qa0 hτ rfl rfl rfl ?_
          refine qa3 ?_
          refine qa7 (qa2 [0] (l:=[(1,.d (.sl false (devices_.map qa9))),(2,.ptr 0 0),(5,.d (.int .i64 x66.Bus)),(8,.d (.sl false (devices_.map qa9))),(9,.d (.int .i64 (devices_.length:Int))),(10,.d (.int .i64 v46))]) (objs:=[.box [.d (.cx .f32 f_.Source.A.re f_.Source.A.im),.d (.cx .f32 f_.Source.B.re f_.Source.B.im),.d (.cx .f32 f_.Source.C.re f_.Source.C.im),.d (.sl false (f_.qaf.map qai))]]) rfl (by simp) rfl (by trivial) ⟨rfl,trivial,rfl,trivial,rfl,trivial,rfl,trivial,rfl,trivial,rfl,trivial,trivial⟩) ?_
          exact hk65 x66.Bus h
        · refine qa5 ?_
          refine qb8 (ι:=Bool) (fun v78=>St.of [(1,.d (.sl false (devices_.map qa9))),(2,.ptr 0 0),(7,.ptr 1 0),(8,.d (.sl false (devices_.map qa9))),(9,.d (.int .i64 (devices_.length:Int))),(10,.d (.int .i64 v46)),(33,.d (.bool v78))] [.box [.d (.cx .f32 f_.Source.A.re f_.Source.A.im),.d (.cx .f32 f_.Source.B.re f_.Source.B.im),.d (.cx .f32 f_.Source.C.re f_.Source.C.im),.d (.sl false (f_.qaf.map qai))],.box [.d (.int .i64 x66.Bus),.d (.sl false (x66.qcp.qa8.map qa4)),.d (.sl false (x66.qcp.Times.map qa4))]] f27.ntmps 0) (fun v78=>qdh n (qbb n f_ devices_ m55) v46 x66 v78 = some r) ?_ (fun hk80=>?_)
          · rintro v78 h
            replace h:qdh n (qbb n f_ devices_ m55) v46 x66 v78 = some r:=h
            unfold qdh at h
            refine qao rfl (fun hc79=>?_) (fun hc79=>?_)
            · have h:=qbn h hc79
              refine qa5 ?_
              refine qa1 ?_
              refine qa0 hτ rfl rfl rfl ?_
              refine qa3 ?_
              refine qa7 (qa2 [] (l:=[(4,.d (.bool false))]) (objs:=[]) rfl (by simp) rfl (by trivial) ⟨rfl,trivial,trivial⟩) ?_
              refine qar ?_
              have hr:=Option.some.inj h
              subst hr
              exact qah (.inr rfl) [] (objs':=[]) (new:=[]) rfl (by simp) (by simp) rfl (by trivial) rfl rfl (by trivial) (fun _=>⟨by simp [V.flat,V.qbk,V.qbf,D.flat],qal⟩) ⟨rfl,rfl,rfl⟩
            · have h:=qbm h hc79
              refine qap ?_
              refine qa7 (qa2 [0,1] (l:=[(1,.d (.sl false (devices_.map qa9))),(2,.ptr 0 0),(7,.ptr 1 0),(8,.d (.sl false (devices_.map qa9))),(9,.d (.int .i64 (devices_.length:Int))),(10,.d (.int .i64 v46))]) (objs:=[.box [.d (.cx .f32 f_.Source.A.re f_.Source.A.im),.d (.cx .f32 f_.Source.B.re f_.Source.B.im),.d (.cx .f32 f_.Source.C.re f_.Source.C.im),.d (.sl false (f_.qaf.map qai))],.box [.d (.int .i64 x66.Bus),.d (.sl false (x66.qcp.qa8.map qa4)),.d (.sl false (x66.qcp.Times.map qa4))]]) rfl (by simp) rfl (by trivial) ⟨rfl,trivial,rfl,trivial,rfl,trivial,rfl,trivial,rfl,trivial,rfl,trivial,trivial⟩) ?_
              exact hk72 () h
          · refine qa5 ?_
            refine qa1 ?_
            refine qa0 hτ rfl rfl rfl ?_
            refine qa0 hτ rfl rfl rfl ?_
            refine qaa h fun x81 hx81 h=>?_
            refine qag hτ false [] rfl rfl rfl (qaj func61 rfl rfl) rfl rfl (by simp) ⟨(by trivial),trivial⟩ (by trivial) (qib n x66.qcp hx81) ?_
            rintro r0 o0 n0 ⟨rfl,rfl,rfl⟩ -
            refine qa0 hτ rfl rfl rfl ?_
            refine qa0 hτ rfl rfl rfl ?_
            refine qb4 18 rfl (fun hb82=>?_) (fun hb82=>?_)
            · have hb82:=qgh hb82
              have h:=qbm h hb82
              refine qa6 rfl rfl ?_
              refine qa6 rfl rfl ?_
              refine qat (qa2 [0,1] (l:=[(1,.d (.sl false (devices_.map qa9))),(2,.ptr 0 0),(5,.d (.int .i64 v45)),(7,.ptr 1 0),(8,.d (.sl false (devices_.map qa9))),(9,.d (.int .i64 (devices_.length:Int))),(10,.d (.int .i64 v46)),(18,.d (.bool true)),(20,.und)]) (objs:=[.box [.d (.cx .f32 f_.Source.A.re f_.Source.A.im),.d (.cx .f32 f_.Source.B.re f_.Source.B.im),.d (.cx .f32 f_.Source.C.re f_.Source.C.im),.d (.sl false (f_.qaf.map qai))],.box [.d (.int .i64 x66.Bus),.d (.sl false (x66.qcp.qa8.map qa4)),.d (.sl false (x66.qcp.Times.map qa4))]]) rfl (by simp) rfl (by trivial) ⟨rfl,trivial,rfl,trivial,rfl,trivial,rfl,trivial,rfl,trivial,rfl,trivial,rfl,trivial,rfl,trivial,rfl,trivial,trivial⟩) ?_
              refine qa6 rfl rfl ?_
              refine qa6 rfl rfl ?_
              refine qa0 hτ rfl rfl rfl ?_
              refine qa0 hτ rfl rfl rfl ?_
              refine qa6 rfl rfl ?_
              refine qa6 rfl rfl ?_
              refine qa6 rfl rfl ?_
              refine qa6 rfl rfl ?_
              refine qa6 rfl rfl ?_
              refine qa6 rfl rfl ?_
              refine qa6 rfl rfl ?_
              refine qa6 rfl rfl ?_
              refine qat (qa2 [0,1] (l:=[(1,.d (.sl false (devices_.map qa9))),(2,.ptr 0 0),(7,.ptr 1 0),(8,.d (.sl false (devices_.map qa9))),(9,.d (.int .i64 (devices_.length:Int))),(10,.d (.int .i64 v46)),(24,.d (.bool true)),(32,.und)]) (objs:=[.box [.d (.cx .f32 f_.Source.A.re f_.Source.A.im),.d (.cx .f32 f_.Source.B.re f_.Source.B.im),.d (.cx .f32 f_.Source.C.re f_.Source.C.im),.d (.sl false (f_.qaf.map qai))],.box [.d (.int .i64 x66.Bus),.d (.sl false (x66.qcp.qa8.map qa4)),.d (.sl false (x66.qcp.Times.map qa4))]]) rfl (by simp) rfl (by trivial) ⟨rfl,trivial,rfl,trivial,rfl,trivial,rfl,trivial,rfl,trivial,rfl,trivial,rfl,trivial,rfl,trivial,trivial⟩) ?_
              refine qa0 hτ rfl rfl rfl ?_
              refine qa3 ?_
              refine qa7 (qa2 [0,1] (l:=[(1,.d (.sl false (devices_.map qa9))),(2,.ptr 0 0),(7,.ptr 1 0),(8,.d (.sl false (devices_.map qa9))),(9,.d (.int .i64 (devices_.length:Int))),(10,.d (.int .i64 v46)),(33,.d (.bool true))]) (objs:=[.box [.d (.cx .f32 f_.Source.A.re f_.Source.A.im),.d (.cx .f32 f_.Source.B.re f_.Source.B.im),.d (.cx .f32 f_.Source.C.re f_.Source.C.im),.d (.sl false (f_.qaf.map qai))],.box [.d (.int .i64 x66.Bus),.d (.sl false (x66.qcp.qa8.map qa4)),.d (.sl false (x66.qcp.Times.map qa4))]]) rfl (by simp) rfl (by trivial) ⟨rfl,trivial,rfl,trivial,rfl,trivial,rfl,trivial,rfl,trivial,rfl,trivial,rfl,trivial,trivial⟩) ?_
              exact hk80 true h
            · have hb82:=qgg hb82
              have h:=qbn h hb82
              refine qa0 hτ rfl rfl rfl ?_
              refine qa0 hτ rfl rfl rfl ?_
              refine qat (qa2 [0,1] (l:=[(1,.d (.sl false (devices_.map qa9))),(2,.ptr 0 0),(5,.d (.int .i64 v45)),(7,.ptr 1 0),(8,.d (.sl false (devices_.map qa9))),(9,.d (.int .i64 (devices_.length:Int))),(10,.d (.int .i64 v46)),(18,.d (.bool false)),(20,.d (.int .i64 x66.Bus))]) (objs:=[.box [.d (.cx .f32 f_.Source.A.re f_.Source.A.im),.d (.cx .f32 f_.Source.B.re f_.Source.B.im),.d (.cx .f32 f_.Source.C.re f_.Source.C.im),.d (.sl false (f_.qaf.map qai))],.box [.d (.int .i64 x66.Bus),.d (.sl false (x66.qcp.qa8.map qa4)),.d (.sl false (x66.qcp.Times.map qa4))]]) rfl (by simp) rfl (by trivial) ⟨rfl,trivial,rfl,trivial,rfl,trivial,rfl,trivial,rfl,trivial,rfl,trivial,rfl,trivial,rfl,trivial,rfl,trivial,trivial⟩) ?_
              refine qa0 hτ rfl rfl rfl ?_
              refine qa0 hτ rfl rfl rfl ?_
              refine qa0 hτ rfl rfl rfl ?_
              refine qa0 hτ rfl rfl rfl ?_
              refine qb4 24 rfl (fun hb83=>?_) (fun hb83=>?_)
              · have h:=if_t h hb83
                refine qa6 rfl rfl ?_
                refine qa6 rfl rfl ?_
                refine qa6 rfl rfl ?_
                refine qa6 rfl rfl ?_
                refine qa6 rfl rfl ?_
                refine qa6 rfl rfl ?_
                refine qa6 rfl rfl ?_
                refine qa6 rfl rfl ?_
                refine qat (qa2 [0,1] (l:=[(1,.d (.sl false (devices_.map qa9))),(2,.ptr 0 0),(7,.ptr 1 0),(8,.d (.sl false (devices_.map qa9))),(9,.d (.int .i64 (devices_.length:Int))),(10,.d (.int .i64 v46)),(24,.d (.bool true)),(32,.und)]) (objs:=[.box [.d (.cx .f32 f_.Source.A.re f_.Source.A.im),.d (.cx .f32 f_.Source.B.re f_.Source.B.im),.d (.cx .f32 f_.Source.C.re f_.Source.C.im),.d (.sl false (f_.qaf.map qai))],.box [.d (.int .i64 x66.Bus),.d (.sl false (x66.qcp.qa8.map qa4)),.d (.sl false (x66.qcp.Times.map qa4))]]) rfl (by simp) rfl (by trivial) ⟨rfl,trivial,rfl,trivial,rfl,trivial,rfl,trivial,rfl,trivial,rfl,trivial,rfl,trivial,rfl,trivial,trivial⟩) ?_
                refine qa0 hτ rfl rfl rfl ?_
                refine qa3 ?_
                refine qa7 (qa2 [0,1] (l:=[(1,.d (.sl false (devices_.map qa9))),(2,.ptr 0 0),(7,.ptr 1 0),(8,.d (.sl false (devices_.map qa9))),(9,.d (.int .i64 (devices_.length:Int))),(10,.d (.int .i64 v46)),(33,.d (.bool true))]) (objs:=[.box [.d (.cx .f32 f_.Source.A.re f_.Source.A.im),.d (.cx .f32 f_.Source.B.re f_.Source.B.im),.d (.cx .f32 f_.Source.C.re f_.Source.C.im),.d (.sl false (f_.qaf.map qai))],.box [.d (.int .i64 x66.Bus),.d (.sl false (x66.qcp.qa8.map qa4)),.d (.sl false (x66.qcp.Times.map qa4))]]) rfl (by simp) rfl (by trivial) ⟨rfl,trivial,rfl,trivial,rfl,trivial,rfl,trivial,rfl,trivial,rfl,trivial,rfl,trivial,trivial⟩) ?_
                exact hk80 true h
              · have h:=if_f h hb83
                refine qa0 hτ rfl rfl rfl ?_
                refine qa0 hτ rfl rfl rfl ?_
                refine qa0 hτ rfl rfl rfl ?_
                refine qa0 hτ rfl rfl rfl ?_
                refine qa0 hτ (v:=.d (.int .i64 (f_.qaf.length:Int))) rfl rfl (Eq.trans rfl (qdb (f:=qai) f_.qaf)) ?_
                refine qa0 hτ rfl rfl rfl ?_
                refine qaa h fun x84 hx84 h=>?_
                refine qag hτ false [] rfl rfl rfl (qaj func62 rfl rfl) rfl rfl (by simp) ⟨trivial,trivial,trivial,trivial⟩ (by trivial) (qix n x66.Bus (0:Int) (w64 ((f_.qaf.length:Int) - (1:Int))) hx84) ?_
                rintro r0 o0 n0 ⟨rfl,rfl,rfl⟩ -
                refine qa0 hτ rfl rfl rfl ?_
                refine qat (qa2 [0,1] (l:=[(1,.d (.sl false (devices_.map qa9))),(2,.ptr 0 0),(7,.ptr 1 0),(8,.d (.sl false (devices_.map qa9))),(9,.d (.int .i64 (devices_.length:Int))),(10,.d (.int .i64 v46)),(24,.d (.bool false)),(32,.d (.bool (!x84)))]) (objs:=[.box [.d (.cx .f32 f_.Source.A.re f_.Source.A.im),.d (.cx .f32 f_.Source.B.re f_.Source.B.im),.d (.cx .f32 f_.Source.C.re f_.Source.C.im),.d (.sl false (f_.qaf.map qai))],.box [.d (.int .i64 x66.Bus),.d (.sl false (x66.qcp.qa8.map qa4)),.d (.sl false (x66.qcp.Times.map qa4))]]) rfl (by simp) rfl (by trivial) ⟨rfl,trivial,rfl,trivial,rfl,trivial,rfl,trivial,rfl,trivial,rfl,trivial,rfl,trivial,rfl,trivial,trivial⟩) ?_
                refine qa0 hτ rfl rfl rfl ?_
                refine qa3 ?_
                refine qa7 (qa2 [0,1] (l:=[(1,.d (.sl false (devices_.map qa9))),(2,.ptr 0 0),(7,.ptr 1 0),(8,.d (.sl false (devices_.map qa9))),(9,.d (.int .i64 (devices_.length:Int))),(10,.d (.int .i64 v46)),(33,.d (.bool (!x84)))]) (objs:=[.box [.d (.cx .f32 f_.Source.A.re f_.Source.A.im),.d (.cx .f32 f_.Source.B.re f_.Source.B.im),.d (.cx .f32 f_.Source.C.re f_.Source.C.im),.d (.sl false (f_.qaf.map qai))],.box [.d (.int .i64 x66.Bus),.d (.sl false (x66.qcp.qa8.map qa4)),.d (.sl false (x66.qcp.Times.map qa4))]]) rfl (by simp) rfl (by trivial) ⟨rfl,trivial,rfl,trivial,rfl,trivial,rfl,trivial,rfl,trivial,rfl,trivial,rfl,trivial,trivial⟩) ?_
                exact hk80 (!x84) h
    · have h:=if_f h hc57
      refine qcr ?_
      refine qa7 (qa2 [0] (l:=[(1,.d (.sl false (devices_.map qa9))),(2,.ptr 0 0)]) (objs:=[.box [.d (.cx .f32 f_.Source.A.re f_.Source.A.im),.d (.cx .f32 f_.Source.B.re f_.Source.B.im),.d (.cx .f32 f_.Source.C.re f_.Source.C.im),.d (.sl false (f_.qaf.map qai))]]) rfl (by simp) rfl (by trivial) ⟨rfl,trivial,rfl,trivial,trivial⟩) ?_
      exact hk38 () h
theorem qjt (n:Nat) (f_:qax) (devices_:List qas) {r:Bool} (h:qdc n f_ devices_ = some r):qb9 prog false 27 [.agg [.d (.cx .f32 f_.Source.A.re f_.Source.A.im),.d (.cx .f32 f_.Source.B.re f_.Source.B.im),.d (.cx .f32 f_.Source.C.re f_.Source.C.im),.d (.sl false (f_.qaf.map qai))],.d (.sl false (devices_.map qa9))] [] (fun v o new=>v = .d (.bool r)∧o = []∧new = []):=qk1 false n f_ devices_ h
theorem impl_AreDevices_ok_fr (n:Nat) (f_:qax) (devices_:List qas) {r:Bool} (h:qdc n f_ devices_ = some r):qb9 prog true 27 [.agg [.d (.cx .f32 f_.Source.A.re f_.Source.A.im),.d (.cx .f32 f_.Source.B.re f_.Source.B.im),.d (.cx .f32 f_.Source.C.re f_.Source.C.im),.d (.sl false (f_.qaf.map qai))],.d (.sl false (devices_.map qa9))] [] (fun v o new=>v = .d (.bool r)∧o = []∧new = []):=qk1 true n f_ devices_ h
def qfv (n:Nat) (f_:qax) (bus_:Int):Option Bool :=
  (qff n f_).bind fun x5 =>
  if x5 = true then
    (qg6 n bus_ (0:Int) (w64 ((f_.qaf.length:Int) - (1:Int)))).bind fun x7 =>
    some x7
  else
    some false
theorem ql8 (n:Nat) (f_:qax) (bus_:Int) {r:Bool} (h:qfv n f_ bus_ = some r):qb9 prog false 52 [.ptr 0 0,.d (.int .i64 bus_)] [.box [.d (.cx .f32 f_.Source.A.re f_.Source.A.im),.d (.cx .f32 f_.Source.B.re f_.Source.B.im),.d (.cx .f32 f_.Source.C.re f_.Source.C.im),.d (.sl false (f_.qaf.map qai))]] (fun v o new=>v = .d (.bool r)∧o = [.box [.d (.cx .f32 f_.Source.A.re f_.Source.A.im),.d (.cx .f32 f_.Source.B.re f_.Source.B.im),.d (.cx .f32 f_.Source.C.re f_.Source.C.im),.d (.sl false (f_.qaf.map qai))]]∧new = []):=by
  refine qak hτ func52 rfl (by simp) (by simp) ?_
  unfold qfv at h
  refine qa5 ?_
  refine qa1 ?_
  refine qa0 hτ rfl rfl rfl ?_
  refine qa3 ?_
  refine qa5 ?_
  refine qa1 ?_
  refine qa0 hτ rfl rfl rfl ?_
  refine qa0 hτ rfl rfl rfl ?_
  refine qa0 hτ rfl rfl rfl ?_
  refine qaa h fun x5 hx5 h=>?_
  refine qag hτ false [] rfl rfl rfl (qaj func63 rfl rfl) rfl rfl (by simp) ⟨(by trivial),trivial⟩ (by trivial) (qkx n f_ hx5) ?_
  rintro r0 o0 n0 ⟨rfl,rfl,rfl⟩ -
  refine qa0 hτ rfl rfl rfl ?_
  refine qb4 9 rfl (fun hb6=>?_) (fun hb6=>?_)
  · have h:=qbn h hb6
    refine qa0 hτ rfl rfl rfl ?_
    refine qa0 hτ rfl rfl rfl ?_
    refine qa0 hτ rfl rfl rfl ?_
    refine qa0 hτ rfl rfl rfl ?_
    refine qa0 hτ rfl rfl rfl ?_
    refine qa0 hτ (v:=.d (.int .i64 (f_.qaf.length:Int))) rfl rfl (Eq.trans rfl (qdb (f:=qai) f_.qaf)) ?_
    refine qat (qa2 [0] (l:=[(9,.d (.bool true)),(10,.d (.int .i64 bus_)),(15,.d (.int .i64 (f_.qaf.length:Int)))]) (objs:=[.box [.d (.cx .f32 f_.Source.A.re f_.Source.A.im),.d (.cx .f32 f_.Source.B.re f_.Source.B.im),.d (.cx .f32 f_.Source.C.re f_.Source.C.im),.d (.sl false (f_.qaf.map qai))]]) rfl (by simp) rfl (by trivial) ⟨rfl,trivial,rfl,trivial,rfl,trivial,trivial⟩) ?_
    refine qa0 hτ rfl rfl rfl ?_
    refine qaa h fun x7 hx7 h=>?_
    refine qag hτ false [] rfl rfl rfl (qaj func62 rfl rfl) rfl rfl (by simp) ⟨trivial,trivial,trivial,trivial⟩ (by trivial) (qix n bus_ (0:Int) (w64 ((f_.qaf.length:Int) - (1:Int))) hx7) ?_
    rintro r0 o0 n0 ⟨rfl,rfl,rfl⟩ -
    refine qa0 hτ rfl rfl rfl ?_
    refine qa0 hτ rfl rfl rfl ?_
    refine qa3 ?_
    refine qa7 (qa2 [0] (l:=[(4,.d (.bool x7))]) (objs:=[.box [.d (.cx .f32 f_.Source.A.re f_.Source.A.im),.d (.cx .f32 f_.Source.B.re f_.Source.B.im),.d (.cx .f32 f_.Source.C.re f_.Source.C.im),.d (.sl false (f_.qaf.map qai))]]) rfl (by simp) rfl (by trivial) ⟨rfl,trivial,trivial⟩) ?_
    refine qar ?_
    have hr:=Option.some.inj h
    subst hr
    exact qah (.inr rfl) [] (objs':=[.box [.d (.cx .f32 f_.Source.A.re f_.Source.A.im),.d (.cx .f32 f_.Source.B.re f_.Source.B.im),.d (.cx .f32 f_.Source.C.re f_.Source.C.im),.d (.sl false (f_.qaf.map qai))]]) (new:=[]) rfl (by simp) (by simp) rfl (by trivial) rfl rfl (by trivial) (fun h=>nomatch h) ⟨rfl,rfl,rfl⟩
  · have h:=qbm h hb6
    refine qa6 rfl rfl ?_
    refine qa6 rfl rfl ?_
    refine qa6 rfl rfl ?_
    refine qa6 rfl rfl ?_
    refine qa6 rfl rfl ?_
    refine qa6 rfl rfl ?_
    refine qat (qa2 [0] (l:=[(9,.d (.bool false)),(10,.und),(15,.und)]) (objs:=[.box [.d (.cx .f32 f_.Source.A.re f_.Source.A.im),.d (.cx .f32 f_.Source.B.re f_.Source.B.im),.d (.cx .f32 f_.Source.C.re f_.Source.C.im),.d (.sl false (f_.qaf.map qai))]]) rfl (by simp) rfl (by trivial) ⟨rfl,trivial,rfl,trivial,rfl,trivial,trivial⟩) ?_
    refine qa6 rfl rfl ?_
    refine qa6 rfl rfl ?_
    refine qa0 hτ rfl rfl rfl ?_
    refine qa0 hτ rfl rfl rfl ?_
    refine qa3 ?_
    refine qa7 (qa2 [0] (l:=[(4,.d (.bool false))]) (objs:=[.box [.d (.cx .f32 f_.Source.A.re f_.Source.A.im),.d (.cx .f32 f_.Source.B.re f_.Source.B.im),.d (.cx .f32 f_.Source.C.re f_.Source.C.im),.d (.sl false (f_.qaf.map qai))]]) rfl (by simp) rfl (by trivial) ⟨rfl,trivial,trivial⟩) ?_
    refine qar ?_
    have hr:=Option.some.inj h
    subst hr
    exact qah (.inr rfl) [] (objs':=[.box [.d (.cx .f32 f_.Source.A.re f_.Source.A.im),.d (.cx .f32 f_.Source.B.re f_.Source.B.im),.d (.cx .f32 f_.Source.C.re f_.Source.C.im),.d (.sl false (f_.qaf.map qai))]]) (new:=[]) rfl (by simp) (by simp) rfl (by trivial) rfl rfl (by trivial) (fun h=>nomatch h) ⟨rfl,rfl,rfl⟩
def qd7 (n:Nat):Nat→List Int→Int→Int→Option (List Int)
  | 0,_,_,_=>none
  | m25 + 1,v16,v17,v18 =>
    if v17 < v18 then
      (getI v16 v18).bind fun x28 =>
      (getI v16 v17).bind fun x29 =>
      (getI (v16.set v17.toNat x28) v18).bind fun x30 =>
      (qd7 n m25) ((v16.set v17.toNat x28).set v18.toNat x29) (w64 (v17 + (1:Int))) (w64 (v18 - (1:Int)))
    else
      some v16
def qgl (n:Nat) (s_:List Int):Option (List Int) :=
  qd7 n n s_ (0:Int) (w64 ((s_.length:Int) - (1:Int)))
theorem slices_Reverse_ok_fr0 (fr:Bool) (n:Nat) (s_:List Int) {r:List Int} (h:qgl n s_ = some r):qb9 prog fr 104 [.row 0 s_.length 0 s_.length] [.row 1 (s_.map qac)] (fun v o new=>v = .tup []∧o = [.row 1 (r.map qac)]∧new = []):=by
  refine qak hτ func104 rfl (by simp) (by simp) ?_
  unfold qgl at h
  refine qa5 ?_
  refine qa1 ?_
  refine qa0 hτ rfl rfl rfl ?_
  refine qcl hτ rfl rfl rfl (qbx _) ?_
  refine qa0 hτ rfl rfl rfl ?_
  refine qa0 hτ rfl rfl rfl ?_
  refine qa0 hτ rfl rfl rfl ?_
  refine qa3 ?_
  refine qaz ?_
  refine qcs (ι:=Nat × List Int × Int × Int) (fun (m25,v16,v17,v18)=>St.of [(0,.row 0 v16.length 0 v16.length),(2,.d (.int .i64 v17)),(3,.d (.int .i64 v18))] [.row 1 (v16.map qac)] f104.ntmps 1) (fun (m25,v16,v17,v18)=>qd7 n m25 v16 v17 v18 = some r) (fun x=>x.1) (n,s_,(0:Int),(w64 ((s_.length:Int) - (1:Int)))) h (qa2 [0] (l:=[(0,.row 0 s_.length 0 s_.length),(2,.d (.int .i64 (0:Int))),(3,.d (.int .i64 (w64 ((s_.length:Int) - (1:Int)))))]) (objs:=[.row 1 (s_.map qac)]) rfl (by simp) rfl (by trivial) ⟨rfl,trivial,rfl,trivial,rfl,trivial,trivial⟩) ?_
  rintro ⟨m25,v16,v17,v18⟩ h
  replace h:qd7 n m25 v16 v17 v18 = some r:=h
  rcases m25 with _ | m25
  · rw [qd7] at h;cases h
  rw [qd7] at h
  refine qa5 ?_
  refine qa5 ?_
  refine qa1 ?_
  refine qa0 hτ rfl rfl rfl ?_
  refine qa0 hτ rfl rfl rfl ?_
  refine qa0 hτ rfl rfl rfl ?_
  refine qa3 ?_
  refine qao rfl (fun hc27=>?_) (fun hc27=>?_)
  · have h:=if_t h hc27
    refine qap ?_
    refine qa5 ?_
    refine qaz ?_
    refine qel ?_
    refine qab hτ [] 0 rfl rfl rfl rfl rfl ?_
    refine qab hτ [] 1 rfl rfl rfl rfl rfl ?_
    refine qab hτ [] 2 rfl rfl rfl rfl rfl ?_
    refine qab hτ [] 3 rfl rfl rfl rfl rfl ?_
    refine qab hτ [] 4 rfl rfl rfl rfl rfl ?_
    refine qab hτ [] 5 rfl rfl rfl rfl rfl ?_
    refine qaa h fun x28 hx28 h=>?_
    refine qiw hτ [0] 6 rfl rfl rfl rfl rfl (qd0 hx28) ?_
    refine qc8 hτ [0] 7 rfl rfl rfl rfl rfl (qbx _) (qek hx28) rfl ?_
    refine qab hτ [] 8 rfl rfl rfl rfl rfl ?_
    refine qab hτ [] 9 rfl rfl rfl rfl rfl ?_
    refine qaa h fun x29 hx29 h=>?_
    refine qiw hτ [0] 10 rfl rfl rfl rfl rfl (qd0 hx29) ?_
    refine qc8 hτ [0] 11 rfl rfl rfl rfl rfl (qbx _) (qek hx29) rfl ?_
    refine qiw hτ [0] 12 rfl rfl rfl rfl rfl (qd0 hx29) ?_
    refine qm5 hτ [] 13 rfl rfl rfl rfl (qbx _) (qek hx29) (qqm (f:=qac) (l:=v16) (i:=v17) (y:=x28) rfl) trivial ?_
    refine qaa h fun x30 hx30 h=>?_
    refine qiw hτ [0] 14 rfl rfl rfl rfl rfl (qro hx30 (by simp)) ?_
    refine qm5 hτ [] 15 rfl rfl rfl rfl (by simp) (qek hx30) (qqm (f:=qac) (l:=(v16.set v17.toNat x28)) (i:=v18) (y:=x29) rfl) trivial ?_
    refine qcy mixed (by kernel_rfl) ?_
    refine qa7 (qa2 [0] (l:=[(0,.row 0 (((v16.set v17.toNat x28).set v18.toNat x29).length) 0 (((v16.set v17.toNat x28).set v18.toNat x29).length)),(2,.d (.int .i64 v17)),(3,.d (.int .i64 v18))]) (objs:=[.row 1 (((v16.set v17.toNat x28).set v18.toNat x29).map qac)]) rfl (by simp) rfl (by trivial) ⟨(qo2 rfl (by simp)),trivial,rfl,trivial,rfl,trivial,trivial⟩) ?_
    refine qa1 ?_
    refine qa0 hτ rfl rfl rfl ?_
    refine qa0 hτ rfl rfl rfl ?_
    refine qa0 hτ rfl rfl rfl ?_
    refine qa0 hτ rfl rfl rfl ?_
    refine qa0 hτ rfl rfl rfl ?_
    refine qa0 hτ rfl rfl rfl ?_
    refine qa3 ?_
    exact ⟨(m25,((v16.set v17.toNat x28).set v18.toNat x29),(w64 (v17 + (1:Int))),(w64 (v18 - (1:Int)))),h,Nat.lt_succ_self m25,(qa2 [0] (l:=[(0,.row 0 (((v16.set v17.toNat x28).set v18.toNat x29).length) 0 (((v16.set v17.toNat x28).set v18.toNat x29).length)),(2,.d (.int .i64 (w64 (v17 + (1:Int))))),(3,.d (.int .i64 (w64 (v18 - (1:Int)))))]) (objs:=[.row 1 (((v16.set v17.toNat x28).set v18.toNat x29).map qac)]) rfl (by simp) rfl (by trivial) ⟨rfl,trivial,rfl,trivial,rfl,trivial,trivial⟩)⟩
  · have h:=if_f h hc27
    refine qcr ?_
    have hr:=Option.some.inj h
    subst hr
    exact qah (.inl rfl) [] (objs':=[.row 1 (v16.map qac)]) (new:=[]) rfl (by simp) (by simp) rfl (by trivial) rfl rfl (by trivial) (fun _=>⟨by simp [V.flat,V.qbk,V.qbf,D.flat],(qe6 (qjs qft _) qal)⟩) ⟨rfl,rfl,rfl⟩
theorem slices_Reverse_ok (n:Nat) (s_:List Int) {r:List Int} (h:qgl n s_ = some r):qb9 prog false 104 [.row 0 s_.length 0 s_.length] [.row 1 (s_.map qac)] (fun v o new=>v = .tup []∧o = [.row 1 (r.map qac)]∧new = []):=slices_Reverse_ok_fr0 false n s_ h
def qdx (n:Nat) (v19:List Int):Option (List Int) :=
  (qgl n v19).bind fun x20 =>
  grd (x20.length = v19.length) <|
  some x20
def qcg (n:Nat) (f_:qax):Nat→Int→List Int→Option (List Int)
  | 0,_,_=>none
  | m31 + 1,v25,v26 =>
    if v25 ≥ (0:Int) then
      grd (room (v26.length + 1) 8) <|
      (getI f_.qaf v25).bind fun x35 =>
      (qcg n f_ m31) x35.qcx (v26 ++ [v25])
    else
      qdx n v26
def qe7 (n:Nat) (f_:qax) (bus_:Int):Option (List Int) :=
  qcg n f_ n bus_ ([]:List Int)
theorem qjj (n:Nat) (f_:qax) (bus_:Int) {r:List Int} (h:qe7 n f_ bus_ = some r):qb9 prog false 60 [.ptr 0 0,.d (.int .i64 bus_)] [.box [.d (.cx .f32 f_.Source.A.re f_.Source.A.im),.d (.cx .f32 f_.Source.B.re f_.Source.B.im),.d (.cx .f32 f_.Source.C.re f_.Source.C.im),.d (.sl false (f_.qaf.map qai))]] (fun v o new=>v = .row 1 r.length 0 r.length∧o = [.box [.d (.cx .f32 f_.Source.A.re f_.Source.A.im),.d (.cx .f32 f_.Source.B.re f_.Source.B.im),.d (.cx .f32 f_.Source.C.re f_.Source.C.im),.d (.sl false (f_.qaf.map qai))]]∧new = [.row 1 (r.map qac)]):=by
  refine qak hτ func60 rfl (by simp) (by simp) ?_
  unfold qe7 at h
  refine qa5 ?_
  refine qa1 ?_
  refine qa0 hτ rfl rfl rfl ?_
  refine qa3 ?_
  refine qa5 ?_
  refine qa1 ?_
  refine qav hτ rfl rfl rfl ?_
  refine qa0 hτ rfl rfl rfl ?_
  refine qa3 ?_
  refine qb8 (ι:=List Int) (fun v19=>St.of [(5,.row 1 v19.length 0 v19.length)] [.box [.d (.cx .f32 f_.Source.A.re f_.Source.A.im),.d (.cx .f32 f_.Source.B.re f_.Source.B.im),.d (.cx .f32 f_.Source.C.re f_.Source.C.im),.d (.sl false (f_.qaf.map qai))],.row 1 (v19.map qac)] f60.ntmps 1) (fun v19=>qdx n v19 = some r) ?_ (fun hk22=>?_)
  · rintro v19 h
    replace h:qdx n v19 = some r:=h
    unfold qdx at h
    refine qa5 ?_
    refine qa1 ?_
    refine qa0 hτ rfl rfl rfl ?_
    refine qaa h fun x20 hx20 h=>?_
    refine qag hτ false [1] rfl rfl rfl (qaj func104 rfl rfl) rfl rfl (by simp) ⟨trivial,trivial⟩ (by trivial) (slices_Reverse_ok n v19 hx20) ?_
    rintro r0 o0 n0 ⟨rfl,rfl,rfl⟩ -
    refine qf2 h fun hg21 h=>?_
    refine qa3 ?_
    refine qa5 ?_
    refine qa1 ?_
    refine qa0 hτ rfl rfl rfl ?_
    refine qa0 hτ rfl rfl rfl ?_
    refine qa3 ?_
    refine qa7 (qa2 [0,1] (l:=[(4,.row 1 x20.length 0 x20.length)]) (objs:=[.box [.d (.cx .f32 f_.Source.A.re f_.Source.A.im),.d (.cx .f32 f_.Source.B.re f_.Source.B.im),.d (.cx .f32 f_.Source.C.re f_.Source.C.im),.d (.sl false (f_.qaf.map qai))],.row 1 (x20.map qac)]) rfl (by simp) rfl (by trivial) ⟨(qo2 rfl (by simp [hg21])),trivial,trivial⟩) ?_
    refine qar ?_
    have hr:=Option.some.inj h
    subst hr
    exact qah (.inr rfl) [1] (objs':=[.box [.d (.cx .f32 f_.Source.A.re f_.Source.A.im),.d (.cx .f32 f_.Source.B.re f_.Source.B.im),.d (.cx .f32 f_.Source.C.re f_.Source.C.im),.d (.sl false (f_.qaf.map qai))]]) (new:=[.row 1 (x20.map qac)]) rfl (by simp) (by simp) rfl (by trivial) rfl rfl (by trivial) (fun h=>nomatch h) ⟨rfl,rfl,rfl⟩
  · refine qa5 ?_
    refine qaz ?_
    refine qcs (ι:=Nat × Int × List Int) (fun (m31,v25,v26)=>St.of [(0,.ptr 0 0),(1,.d (.int .i64 v25)),(5,.row 1 v26.length 0 v26.length)] [.box [.d (.cx .f32 f_.Source.A.re f_.Source.A.im),.d (.cx .f32 f_.Source.B.re f_.Source.B.im),.d (.cx .f32 f_.Source.C.re f_.Source.C.im),.d (.sl false (f_.qaf.map qai))],.row 1 (v26.map qac)] f60.ntmps 1) (fun (m31,v25,v26)=>qcg n f_ m31 v25 v26 = some r) (fun x=>x.1) (n,bus_,([]:List Int)) h (qa2 [0,1] (l:=[(0,.ptr 0 0),(1,.d (.int .i64 bus_)),(5,.row 1 (([]:List Int).length) 0 (([]:List Int).length))]) (objs:=[.box [.d (.cx .f32 f_.Source.A.re f_.Source.A.im),.d (.cx .f32 f_.Source.B.re f_.Source.B.im),.d (.cx .f32 f_.Source.C.re f_.Source.C.im),.d (.sl false (f_.qaf.map qai))],.row 1 (([]:List Int).map qac)]) rfl (by simp) rfl (by trivial) ⟨rfl,trivial,rfl,trivial,rfl,trivial,trivial⟩) ?_
    rintro ⟨m31,v25,v26⟩ h
    replace h:qcg n f_ m31 v25 v26 = some r:=h
    rcases m31 with _ | m31
    · rw [qcg] at h;cases h
    rw [qcg] at h
    refine qa5 ?_
    refine qa5 ?_
    refine qa1 ?_
    refine qa0 hτ rfl rfl rfl ?_
    refine qa0 hτ rfl rfl rfl ?_
    refine qa3 ?_
    refine qao rfl (fun hc33=>?_) (fun hc33=>?_)
    · have h:=if_t h hc33
      refine qap ?_
      refine qa5 ?_
      refine qaz ?_
      refine qa1 ?_
      refine qa0 hτ rfl rfl rfl ?_
      refine qa0 hτ rfl rfl rfl ?_
      refine qav hτ rfl rfl rfl ?_
      refine qf2 h fun hg34 h=>?_
      refine qih hτ rfl rfl (Eq.trans rfl (or_append (f:=qac) v26 [v25] rfl)) ⟨⟨rfl,Nat.le_of_ble_eq_true rfl⟩,qbx _,rfl,rfl,hg34,by decide,(all1 rfl)⟩ ?_
      refine qa0 hτ rfl rfl rfl ?_
      refine qa3 ?_
      refine qa7 (qa2 [0,1] (l:=[(0,.ptr 0 0),(1,.d (.int .i64 v25)),(5,.row 1 ((v26 ++ [v25]).length) 0 ((v26 ++ [v25]).length))]) (objs:=[.box [.d (.cx .f32 f_.Source.A.re f_.Source.A.im),.d (.cx .f32 f_.Source.B.re f_.Source.B.im),.d (.cx .f32 f_.Source.C.re f_.Source.C.im),.d (.sl false (f_.qaf.map qai))],.row 1 ((v26 ++ [v25]).map qac)]) rfl (by simp) rfl (by trivial) ⟨rfl,trivial,rfl,trivial,rfl,trivial,trivial⟩) ?_
      refine qa1 ?_
      refine qa0 hτ rfl rfl rfl ?_
      refine qa0 hτ rfl rfl rfl ?_
      refine qa0 hτ rfl rfl rfl ?_
      refine qa0 hτ rfl rfl rfl ?_
      refine qa0 hτ rfl rfl rfl ?_
      refine qaa h fun x35 hx35 h=>?_
      refine qbe hτ rfl rfl rfl (qaw hx35).1 (qb5 hx35) rfl ?_
      refine qa0 hτ rfl rfl rfl ?_
      refine qa0 hτ rfl rfl rfl ?_
      refine qa0 hτ rfl rfl rfl ?_
      refine qa3 ?_
      exact ⟨(m31,x35.qcx,(v26 ++ [v25])),h,Nat.lt_succ_self m31,(qa2 [0,1] (l:=[(0,.ptr 0 0),(1,.d (.int .i64 x35.qcx)),(5,.row 1 ((v26 ++ [v25]).length) 0 ((v26 ++ [v25]).length))]) (objs:=[.box [.d (.cx .f32 f_.Source.A.re f_.Source.A.im),.d (.cx .f32 f_.Source.B.re f_.Source.B.im),.d (.cx .f32 f_.Source.C.re f_.Source.C.im),.d (.sl false (f_.qaf.map qai))],.row 1 ((v26 ++ [v25]).map qac)]) rfl (by simp) rfl (by trivial) ⟨rfl,trivial,rfl,trivial,rfl,trivial,trivial⟩)⟩
    · have h:=if_f h hc33
      refine qcr ?_
      refine qa7 (qa2 [0,1] (l:=[(5,.row 1 v26.length 0 v26.length)]) (objs:=[.box [.d (.cx .f32 f_.Source.A.re f_.Source.A.im),.d (.cx .f32 f_.Source.B.re f_.Source.B.im),.d (.cx .f32 f_.Source.C.re f_.Source.C.im),.d (.sl false (f_.qaf.map qai))],.row 1 (v26.map qac)]) rfl (by simp) rfl (by trivial) ⟨rfl,trivial,trivial⟩) ?_
      exact hk22 v26 h
def qde (n:Nat) (s_:List Int) (v_:Int):Nat→Int→Option Int
  | 0,_=>none
  | m9 + 1,v6 =>
    if v6 < (s_.length:Int) then
      (getI s_ v6).bind fun x13 =>
      if v_ = x13 then
        some v6
      else
        (qde n s_ v_ m9) (w64 (v6 + (1:Int)))
    else
      some (-1:Int)
def qjd (n:Nat) (s_:List Int) (v_:Int):Option Int :=
  qde n s_ v_ n (0:Int)
theorem slices_Index_ok_fr0 (fr:Bool) (n:Nat) (s_:List Int) (v_:Int) {r:Int} (h:qjd n s_ v_ = some r):qb9 prog fr 114 [.d (.sl false (s_.map qac)),.d (.int .i64 v_)] [] (fun v o new=>v = .d (.int .i64 r)∧o = []∧new = []):=by
  refine qak hτ func114 rfl (by simp) (by simp) ?_
  unfold qjd at h
  refine qa5 ?_
  refine qa1 ?_
  refine qa0 hτ rfl rfl rfl ?_
  refine qa3 ?_
  refine qa5 ?_
  refine qa5 ?_
  refine qa1 ?_
  refine qa0 hτ rfl rfl rfl ?_
  refine qa0 hτ (v:=.d (.int .i64 (s_.length:Int))) rfl rfl (Eq.trans rfl (qdb (f:=qac) s_)) ?_
  refine qa0 hτ rfl rfl rfl ?_
  refine qa3 ?_
  refine qaz ?_
  refine qcs (ι:=Nat × Int) (fun (m9,v6)=>St.of [(0,.d (.sl false (s_.map qac))),(1,.d (.int .i64 v_)),(7,.d (.int .i64 (s_.length:Int))),(8,.d (.int .i64 v6))] [] f114.ntmps 0) (fun (m9,v6)=>qde n s_ v_ m9 v6 = some r) (fun x=>x.1) (n,(0:Int)) h (qa2 [] (l:=[(0,.d (.sl false (s_.map qac))),(1,.d (.int .i64 v_)),(7,.d (.int .i64 (s_.length:Int))),(8,.d (.int .i64 (0:Int)))]) (objs:=[]) rfl (by simp) rfl (by trivial) ⟨rfl,trivial,rfl,trivial,rfl,trivial,rfl,trivial,trivial⟩) ?_
  rintro ⟨m9,v6⟩ h
  replace h:qde n s_ v_ m9 v6 = some r:=h
  rcases m9 with _ | m9
  · rw [qde] at h;cases h
  rw [qde] at h
  refine qa5 ?_
  refine qa1 ?_
  refine qa0 hτ rfl rfl rfl ?_
  refine qa3 ?_
  refine qa5 ?_
  refine qao rfl (fun hc11=>?_) (fun hc11=>?_)
  · have h:=if_t h hc11
    refine qap ?_
    refine qa5 ?_
    refine qaz ?_
    refine qa5 ?_
    refine qa1 ?_
    refine qa0 hτ rfl rfl rfl ?_
    refine qa0 hτ rfl rfl rfl ?_
    refine qa3 ?_
    refine qa5 ?_
    refine qa1 ?_
    refine qa0 hτ rfl rfl rfl ?_
    refine qa0 hτ rfl rfl rfl ?_
    refine qa0 hτ rfl rfl rfl ?_
    refine qaa h fun x13 hx13 h=>?_
    refine qbe hτ rfl rfl rfl (qaw hx13).1 (qb5 hx13) rfl ?_
    refine qa0 hτ rfl rfl rfl ?_
    refine qa0 hτ (v:=.d (.bool (decide (v_ = x13)))) rfl rfl (ql2 _ _) ?_
    refine qa3 ?_
    refine qa7 (qa2 [] (l:=[(0,.d (.sl false (s_.map qac))),(1,.d (.int .i64 v_)),(5,.d (.int .i64 v6)),(7,.d (.int .i64 (s_.length:Int))),(8,.d (.int .i64 v6)),(16,.d (.bool (decide (v_ = x13))))]) (objs:=[]) rfl (by simp) rfl (by trivial) ⟨rfl,trivial,rfl,trivial,rfl,trivial,rfl,trivial,rfl,trivial,rfl,trivial,trivial⟩) ?_
    refine qao rfl (fun hc14=>?_) (fun hc14=>?_)
    · have h:=if_t h hc14
      refine qa5 ?_
      refine qa1 ?_
      refine qa0 hτ rfl rfl rfl ?_
      refine qa0 hτ rfl rfl rfl ?_
      refine qa3 ?_
      refine qa7 (qa2 [] (l:=[(4,.d (.int .i64 v6))]) (objs:=[]) rfl (by simp) rfl (by trivial) ⟨rfl,trivial,trivial⟩) ?_
      refine qar ?_
      have hr:=Option.some.inj h
      subst hr
      exact qah (.inr rfl) [] (objs':=[]) (new:=[]) rfl (by simp) (by simp) rfl (by trivial) rfl rfl (by trivial) (fun _=>⟨by simp [V.flat,V.qbk,V.qbf,D.flat],qal⟩) ⟨rfl,rfl,rfl⟩
    · have h:=if_f h hc14
      refine qap ?_
      refine qa1 ?_
      refine qa0 hτ rfl rfl rfl ?_
      refine qa0 hτ rfl rfl rfl ?_
      refine qa3 ?_
      exact ⟨(m9,(w64 (v6 + (1:Int)))),h,Nat.lt_succ_self m9,(qa2 [] (l:=[(0,.d (.sl false (s_.map qac))),(1,.d (.int .i64 v_)),(7,.d (.int .i64 (s_.length:Int))),(8,.d (.int .i64 (w64 (v6 + (1:Int)))))]) (objs:=[]) rfl (by simp) rfl (by trivial) ⟨rfl,trivial,rfl,trivial,rfl,trivial,rfl,trivial,trivial⟩)⟩
  · have h:=if_f h hc11
    refine qcr ?_
    refine qa5 ?_
    refine qa1 ?_
    refine qa0 hτ rfl rfl rfl ?_
    refine qa3 ?_
    refine qa7 (qa2 [] (l:=[(4,.d (.int .i64 (-1:Int)))]) (objs:=[]) rfl (by simp) rfl (by trivial) ⟨rfl,trivial,trivial⟩) ?_
    refine qar ?_
    have hr:=Option.some.inj h
    subst hr
    exact qah (.inr rfl) [] (objs':=[]) (new:=[]) rfl (by simp) (by simp) rfl (by trivial) rfl rfl (by trivial) (fun _=>⟨by simp [V.flat,V.qbk,V.qbf,D.flat],qal⟩) ⟨rfl,rfl,rfl⟩
theorem slices_Index_ok (n:Nat) (s_:List Int) (v_:Int) {r:Int} (h:qjd n s_ v_ = some r):qb9 prog false 114 [.d (.sl false (s_.map qac)),.d (.int .i64 v_)] [] (fun v o new=>v = .d (.int .i64 r)∧o = []∧new = []):=slices_Index_ok_fr0 false n s_ v_ h
def qet (n:Nat) (s_:List Int) (v_:Int):Option Bool :=
  (qjd n s_ v_).bind fun x2 =>
  some (decide (x2 ≥ (0:Int)))
theorem slices_Contains_ok_fr0 (fr:Bool) (n:Nat) (s_:List Int) (v_:Int) {r:Bool} (h:qet n s_ v_ = some r):qb9 prog fr 70 [.d (.sl false (s_.map qac)),.d (.int .i64 v_)] [] (fun v o new=>v = .d (.bool r)∧o = []∧new = []):=by
  refine qak hτ func70 rfl (by simp) (by simp) ?_
  unfold qet at h
  refine qa5 ?_
  refine qa1 ?_
  refine qa0 hτ rfl rfl rfl ?_
  refine qa3 ?_
  refine qa5 ?_
  refine qa1 ?_
  refine qa0 hτ rfl rfl rfl ?_
  refine qa0 hτ rfl rfl rfl ?_
  refine qaa h fun x2 hx2 h=>?_
  refine qag hτ false [] rfl rfl rfl (qaj func114 rfl rfl) rfl rfl (by simp) ⟨trivial,trivial,trivial⟩ (by trivial) (slices_Index_ok n s_ v_ hx2) ?_
  rintro r0 o0 n0 ⟨rfl,rfl,rfl⟩ -
  refine qa0 hτ rfl rfl rfl ?_
  refine qa0 hτ rfl rfl rfl ?_
  refine qa3 ?_
  refine qa7 (qa2 [] (l:=[(4,.d (.bool (decide (x2 ≥ (0:Int)))))]) (objs:=[]) rfl (by simp) rfl (by trivial) ⟨rfl,trivial,trivial⟩) ?_
  refine qar ?_
  have hr:=Option.some.inj h
  subst hr
  exact qah (.inr rfl) [] (objs':=[]) (new:=[]) rfl (by simp) (by simp) rfl (by trivial) rfl rfl (by trivial) (fun _=>⟨by simp [V.flat,V.qbk,V.qbf,D.flat],qal⟩) ⟨rfl,rfl,rfl⟩
theorem qki (n:Nat) (s_:List Int) (v_:Int) {r:Bool} (h:qet n s_ v_ = some r):qb9 prog true 70 [.d (.sl false (s_.map qac)),.d (.int .i64 v_)] [] (fun v o new=>v = .d (.bool r)∧o = []∧new = []):=slices_Contains_ok_fr0 true n s_ v_ h
def qha (n:Nat) (k28:List Int→Int→Option (List Int)) (v20:Int) (v34:List Int):Option (List Int) :=
  k28 v34 (w64 (v20 + (1:Int)))
def qct (n:Nat) (devices_:List qas) (x14:List Int):Nat→List Int→Int→Option (List Int)
  | 0,_,_=>none
  | m27 + 1,v19,v20 =>
    if v20 < (devices_.length:Int) then
      (getI devices_ v20).bind fun x36 =>
      (qet n x14 x36.Bus).bind fun x37 =>
      if x37 = true then
        grd (room (v19.length + 1) 8) <|
        qha n (qct n devices_ x14 m27) v20 (v19 ++ [v20])
      else
        qha n (qct n devices_ x14 m27) v20 v19
    else
      some v19
def qlb (n:Nat) (f_:qax) (devices_:List qas) (bus_:Int):Option (List Int) :=
  (qe7 n f_ bus_).bind fun x14 =>
  qct n devices_ x14 n ([]:List Int) (0:Int)
theorem impl_above_ok (n:Nat) (f_:qax) (devices_:List qas) (bus_:Int) {r:List Int} (h:qlb n f_ devices_ bus_ = some r):qb9 prog false 53 [.ptr 0 0,.d (.sl false (devices_.map qa9)),.d (.int .i64 bus_)] [.box [.d (.cx .f32 f_.Source.A.re f_.Source.A.im),.d (.cx .f32 f_.Source.B.re f_.Source.B.im),.d (.cx .f32 f_.Source.C.re f_.Source.C.im),.d (.sl false (f_.qaf.map qai))]] (fun v o new=>v = .row 1 r.length 0 r.length∧o = [.box [.d (.cx .f32 f_.Source.A.re f_.Source.A.im),.d (.cx .f32 f_.Source.B.re f_.Source.B.im),.d (.cx .f32 f_.Source.C.re f_.Source.C.im),.d (.sl false (f_.qaf.map qai))]]∧new = [.row 1 (r.map qac)]):=by
  refine qak hτ func53 rfl (by simp) (by simp) ?_
  unfold qlb at h
  refine qa5 ?_
  refine qa1 ?_
  refine qa0 hτ rfl rfl rfl ?_
  refine qa3 ?_
  refine qa5 ?_
  refine qa1 ?_
  refine qav hτ rfl rfl rfl ?_
  refine qa0 hτ rfl rfl rfl ?_
  refine qa0 hτ rfl rfl rfl ?_
  refine qaa h fun x14 hx14 h=>?_
  refine qag hτ false [0] rfl rfl rfl (qaj func60 rfl rfl) rfl rfl (by simp) ⟨trivial,trivial,trivial⟩ (by trivial) (qjj n f_ bus_ hx14) ?_
  rintro r0 o0 n0 ⟨rfl,rfl,rfl⟩ -
  refine qa0 hτ rfl rfl rfl ?_
  refine qa0 hτ rfl rfl rfl ?_
  refine qa3 ?_
  refine qa5 ?_
  refine qa5 ?_
  refine qa7 (qa2 [0,1,2] (l:=[(1,.d (.sl false (devices_.map qa9))),(7,.row 1 (([]:List Int).length) 0 (([]:List Int).length)),(8,.row 2 x14.length 0 x14.length)]) (objs:=[.box [.d (.cx .f32 f_.Source.A.re f_.Source.A.im),.d (.cx .f32 f_.Source.B.re f_.Source.B.im),.d (.cx .f32 f_.Source.C.re f_.Source.C.im),.d (.sl false (f_.qaf.map qai))],.row 1 (([]:List Int).map qac),.row 1 (x14.map qac)]) rfl (by simp) rfl (by trivial) ⟨rfl,trivial,rfl,trivial,rfl,trivial,trivial⟩) ?_
  refine qa1 ?_
  refine qa0 hτ rfl rfl rfl ?_
  refine qa0 hτ (v:=.d (.int .i64 (devices_.length:Int))) rfl rfl (Eq.trans rfl (qdb (f:=qa9) devices_)) ?_
  refine qa0 hτ rfl rfl rfl ?_
  refine qa3 ?_
  refine qaz ?_
  refine qcs (ι:=Nat × List Int × Int) (fun (m27,v19,v20)=>St.of [(7,.row 1 v19.length 0 v19.length),(8,.row 2 x14.length 0 x14.length),(15,.d (.sl false (devices_.map qa9))),(16,.d (.int .i64 (devices_.length:Int))),(17,.d (.int .i64 v20))] [.box [.d (.cx .f32 f_.Source.A.re f_.Source.A.im),.d (.cx .f32 f_.Source.B.re f_.Source.B.im),.d (.cx .f32 f_.Source.C.re f_.Source.C.im),.d (.sl false (f_.qaf.map qai))],.row 1 (v19.map qac),.row 1 (x14.map qac)] f53.ntmps 1) (fun (m27,v19,v20)=>qct n devices_ x14 m27 v19 v20 = some r) (fun x=>x.1) (n,([]:List Int),(0:Int)) h (qa2 [0,1,2] (l:=[(7,.row 1 (([]:List Int).length) 0 (([]:List Int).length)),(8,.row 2 x14.length 0 x14.length),(15,.d (.sl false (devices_.map qa9))),(16,.d (.int .i64 (devices_.length:Int))),(17,.d (.int .i64 (0:Int)))]) (objs:=[.box [.d (.cx .f32 f_.Source.A.re f_.Source.A.im),.d (.cx .f32 f_.Source.B.re f_.Source.B.im),.d (.cx .f32 f_.Source.C.re f_.Source.C.im),.d (.sl false (f_.qaf.map qai))],.row 1 (([]:List Int).map qac),.row 1 (x14.map qac)]) rfl (by simp) rfl (by trivial) ⟨rfl,trivial,rfl,trivial,rfl,trivial,rfl,trivial,rfl,trivial,trivial⟩) ?_
  rintro ⟨m27,v19,v20⟩ h
  replace h:qct n devices_ x14 m27 v19 v20 = some r:=h
  rcases m27 with _ | m27
  · rw [qct] at h;cases h
  rw [qct] at h
  refine qa5 ?_
  refine qa1 ?_
  refine qa0 hτ rfl rfl rfl ?_
  refine qa3 ?_
  refine qa5 ?_
  refine qao rfl (fun hc29=>?_) (fun hc29=>?_)
  · have h:=if_t h hc29
    refine qap ?_
    refine qb8 (ι:=List Int) (fun v34=>St.of [(7,.row 1 v34.length 0 v34.length),(8,.row 2 x14.length 0 x14.length),(15,.d (.sl false (devices_.map qa9))),(16,.d (.int .i64 (devices_.length:Int))),(17,.d (.int .i64 v20))] [.box [.d (.cx .f32 f_.Source.A.re f_.Source.A.im),.d (.cx .f32 f_.Source.B.re f_.Source.B.im),.d (.cx .f32 f_.Source.C.re f_.Source.C.im),.d (.sl false (f_.qaf.map qai))],.row 1 (v34.map qac),.row 1 (x14.map qac)] f53.ntmps 1) (fun v34=>qha n (qct n devices_ x14 m27) v20 v34 = some r) ?_ (fun hk35=>?_)
    · rintro v34 h
      replace h:qha n (qct n devices_ x14 m27) v20 v34 = some r:=h
      unfold qha at h
      refine qa1 ?_
      refine qa0 hτ rfl rfl rfl ?_
      refine qa0 hτ rfl rfl rfl ?_
      refine qa3 ?_
      exact ⟨(m27,v34,(w64 (v20 + (1:Int)))),h,Nat.lt_succ_self m27,(qa2 [0,1,2] (l:=[(7,.row 1 v34.length 0 v34.length),(8,.row 2 x14.length 0 x14.length),(15,.d (.sl false (devices_.map qa9))),(16,.d (.int .i64 (devices_.length:Int))),(17,.d (.int .i64 (w64 (v20 + (1:Int)))))]) (objs:=[.box [.d (.cx .f32 f_.Source.A.re f_.Source.A.im),.d (.cx .f32 f_.Source.B.re f_.Source.B.im),.d (.cx .f32 f_.Source.C.re f_.Source.C.im),.d (.sl false (f_.qaf.map qai))],.row 1 (v34.map qac),.row 1 (x14.map qac)]) rfl (by simp) rfl (by trivial) ⟨rfl,trivial,rfl,trivial,rfl,trivial,rfl,trivial,rfl,trivial,trivial⟩)⟩
    · refine qa5 ?_
      refine qaz ?_
      refine qa5 ?_
      refine qa1 ?_
      refine qa0 hτ rfl rfl rfl ?_
      refine qaa h fun x36 hx36 h=>?_
      refine qbe hτ rfl rfl rfl (qaw hx36).1 (qb5 hx36) rfl ?_
      refine qa0 hτ rfl rfl rfl ?_
      refine qav hτ rfl rfl rfl ?_
      refine qa0 hτ rfl rfl rfl ?_
      refine qav hτ rfl rfl rfl ?_
      refine qa3 ?_
      refine qa5 ?_
      refine qa7 (qa2 [0,1,2,3] (l:=[(7,.row 1 v19.length 0 v19.length),(8,.row 2 x14.length 0 x14.length),(9,.d (.int .i64 v20)),(10,.ptr 3 0),(15,.d (.sl false (devices_.map qa9))),(16,.d (.int .i64 (devices_.length:Int))),(17,.d (.int .i64 v20))]) (objs:=[.box [.d (.cx .f32 f_.Source.A.re f_.Source.A.im),.d (.cx .f32 f_.Source.B.re f_.Source.B.im),.d (.cx .f32 f_.Source.C.re f_.Source.C.im),.d (.sl false (f_.qaf.map qai))],.row 1 (v19.map qac),.row 1 (x14.map qac),.box [.d (.int .i64 x36.Bus),.d (.sl false (x36.qcp.qa8.map qa4)),.d (.sl false (x36.qcp.Times.map qa4))]]) rfl (by simp) rfl (by trivial) ⟨rfl,trivial,rfl,trivial,rfl,trivial,rfl,trivial,rfl,trivial,rfl,trivial,rfl,trivial,trivial⟩) ?_
      refine qa1 ?_
      refine qa0 hτ rfl rfl rfl ?_
      refine qa0 hτ rfl rfl rfl ?_
      refine qa0 hτ rfl rfl rfl ?_
      refine qat (qa2 [0,1,2] (l:=[(7,.row 1 v19.length 0 v19.length),(8,.row 2 x14.length 0 x14.length),(9,.d (.int .i64 v20)),(15,.d (.sl false (devices_.map qa9))),(16,.d (.int .i64 (devices_.length:Int))),(17,.d (.int .i64 v20)),(22,.row 2 x14.length 0 x14.length),(24,.d (.int .i64 x36.Bus))]) (objs:=[.box [.d (.cx .f32 f_.Source.A.re f_.Source.A.im),.d (.cx .f32 f_.Source.B.re f_.Source.B.im),.d (.cx .f32 f_.Source.C.re f_.Source.C.im),.d (.sl false (f_.qaf.map qai))],.row 1 (v19.map qac),.row 1 (x14.map qac)]) rfl (by simp) rfl (by trivial) ⟨rfl,trivial,rfl,trivial,rfl,trivial,rfl,trivial,rfl,trivial,rfl,trivial,rfl,trivial,rfl,trivial,trivial⟩) ?_
      refine qaa h fun x37 hx37 h=>?_
      refine qag hτ true [] rfl rfl rfl (qaj func70 rfl rfl) (qbd (qf0 (f:=qac) x14 rfl rfl rfl) (qbd rfl qfs)) rfl (by simp) ⟨(qdo (f:=qac) x14 rfl rfl rfl),trivial,trivial⟩ (by trivial) (qki n x14 x36.Bus hx37) ?_
      rintro r0 o0 n0 ⟨rfl,rfl,rfl⟩ -
      refine qa3 ?_
      refine qao rfl (fun hc38=>?_) (fun hc38=>?_)
      · have h:=qbn h hc38
        refine qa1 ?_
        refine qa0 hτ rfl rfl rfl ?_
        refine qa0 hτ rfl rfl rfl ?_
        refine qav hτ rfl rfl rfl ?_
        refine qf2 h fun hg39 h=>?_
        refine qih hτ rfl rfl (Eq.trans rfl (or_append (f:=qac) v19 [v20] rfl)) ⟨⟨rfl,Nat.le_of_ble_eq_true rfl⟩,qbx _,rfl,rfl,hg39,by decide,(all1 rfl)⟩ ?_
        refine qa0 hτ rfl rfl rfl ?_
        refine qa3 ?_
        refine qa7 (qa2 [0,1,2] (l:=[(7,.row 1 ((v19 ++ [v20]).length) 0 ((v19 ++ [v20]).length)),(8,.row 2 x14.length 0 x14.length),(15,.d (.sl false (devices_.map qa9))),(16,.d (.int .i64 (devices_.length:Int))),(17,.d (.int .i64 v20))]) (objs:=[.box [.d (.cx .f32 f_.Source.A.re f_.Source.A.im),.d (.cx .f32 f_.Source.B.re f_.Source.B.im),.d (.cx .f32 f_.Source.C.re f_.Source.C.im),.d (.sl false (f_.qaf.map qai))],.row 1 ((v19 ++ [v20]).map qac),.row 1 (x14.map qac)]) rfl (by simp) rfl (by trivial) ⟨rfl,trivial,rfl,trivial,rfl,trivial,rfl,trivial,rfl,trivial,trivial⟩) ?_
        exact hk35 (v19 ++ [v20]) h
      · have h:=qbm h hc38
        refine qap ?_
        refine qa7 (qa2 [0,1,2] (l:=[(7,.row 1 v19.length 0 v19.length),(8,.row 2 x14.length 0 x14.length),(15,.d (.sl false (devices_.map qa9))),(16,.d (.int .i64 (devices_.length:Int))),(17,.d (.int .i64 v20))]) (objs:=[.box [.d (.cx .f32 f_.Source.A.re f_.Source.A.im),.d (.cx .f32 f_.Source.B.re f_.Source.B.im),.d (.cx .f32 f_.Source.C.re f_.Source.C.im),.d (.sl false (f_.qaf.map qai))],.row 1 (v19.map qac),.row 1 (x14.map qac)]) rfl (by simp) rfl (by trivial) ⟨rfl,trivial,rfl,trivial,rfl,trivial,rfl,trivial,rfl,trivial,trivial⟩) ?_
        exact hk35 v19 h
  · have h:=if_f h hc29
    refine qcr ?_
    refine qa5 ?_
    refine qa1 ?_
    refine qa0 hτ rfl rfl rfl ?_
    refine qa0 hτ rfl rfl rfl ?_
    refine qa3 ?_
    refine qa7 (qa2 [0,1] (l:=[(6,.row 1 v19.length 0 v19.length)]) (objs:=[.box [.d (.cx .f32 f_.Source.A.re f_.Source.A.im),.d (.cx .f32 f_.Source.B.re f_.Source.B.im),.d (.cx .f32 f_.Source.C.re f_.Source.C.im),.d (.sl false (f_.qaf.map qai))],.row 1 (v19.map qac)]) rfl (by simp) rfl (by trivial) ⟨rfl,trivial,trivial⟩) ?_
    refine qar ?_
    have hr:=Option.some.inj h
    subst hr
    exact qah (.inr rfl) [1] (objs':=[.box [.d (.cx .f32 f_.Source.A.re f_.Source.A.im),.d (.cx .f32 f_.Source.B.re f_.Source.B.im),.d (.cx .f32 f_.Source.C.re f_.Source.C.im),.d (.sl false (f_.qaf.map qai))]]) (new:=[.row 1 (v19.map qac)]) rfl (by simp) (by simp) rfl (by trivial) rfl rfl (by trivial) (fun h=>nomatch h) ⟨rfl,rfl,rfl⟩
def qem (n:Nat) (f_:qax) (devices_:List qas) (bus_:Int):Option (List Int × Bool) :=
  (qlb n f_ devices_ bus_).bind fun x10 =>
  some (x10,true)
def qdn (n:Nat) (f_:qax) (devices_:List qas) (bus_:Int) (v16:Bool):Option (List Int × Bool) :=
  if v16 = true then
    some (([]:List Int),false)
  else
    qem n f_ devices_ bus_
def qd2 (n:Nat) (f_:qax) (devices_:List qas) (bus_:Int):Option (List Int × Bool) :=
  (qdc n f_ devices_).bind fun x19 =>
  if x19 = true then
    (qfv n f_ bus_).bind fun x21 =>
    qdn n f_ devices_ bus_ (!x21)
  else
    qdn n f_ devices_ bus_ true
theorem qjm (fr:Bool) (n:Nat) (f_:qax) (devices_:List qas) (bus_:Int) {r:List Int × Bool} (h:qd2 n f_ devices_ bus_ = some r):qb9 prog fr 23 [.agg [.d (.cx .f32 f_.Source.A.re f_.Source.A.im),.d (.cx .f32 f_.Source.B.re f_.Source.B.im),.d (.cx .f32 f_.Source.C.re f_.Source.C.im),.d (.sl false (f_.qaf.map qai))],.d (.sl false (devices_.map qa9)),.d (.int .i64 bus_)] [] (fun v o new=>v = .tup [.row 0 r.1.length 0 r.1.length,.d (.bool r.2)]∧o = []∧new = [.row 1 (r.1.map qac)]):=by
  refine qak hτ func23 rfl (by simp) (by simp) ?_
  unfold qd2 at h
  refine qa5 ?_
  refine qa1 ?_
  refine qav hτ rfl rfl rfl ?_
  refine qa0 hτ rfl rfl rfl ?_
  refine qa0 hτ rfl rfl rfl ?_
  refine qa3 ?_
  refine qb8 (ι:=Unit) (fun _=>St.of [(1,.d (.sl false (devices_.map qa9))),(2,.d (.int .i64 bus_)),(3,.ptr 0 0)] [.box [.d (.cx .f32 f_.Source.A.re f_.Source.A.im),.d (.cx .f32 f_.Source.B.re f_.Source.B.im),.d (.cx .f32 f_.Source.C.re f_.Source.C.im),.d (.sl false (f_.qaf.map qai))]] f23.ntmps 0) (fun _=>qem n f_ devices_ bus_ = some r) ?_ (fun hk11=>?_)
  · rintro ⟨⟩ h
    replace h:qem n f_ devices_ bus_ = some r:=h
    unfold qem at h
    refine qa5 ?_
    refine qa1 ?_
    refine qa0 hτ rfl rfl rfl ?_
    refine qa0 hτ rfl rfl rfl ?_
    refine qaa h fun x10 hx10 h=>?_
    refine qag hτ false [0] rfl rfl rfl (qaj func53 rfl rfl) rfl rfl (by simp) ⟨trivial,trivial,trivial,trivial⟩ (by trivial) (impl_above_ok n f_ devices_ bus_ hx10) ?_
    rintro r0 o0 n0 ⟨rfl,rfl,rfl⟩ -
    refine qa0 hτ rfl rfl rfl ?_
    refine qa0 hτ rfl rfl rfl ?_
    refine qa3 ?_
    refine qa7 (qa2 [1] (l:=[(6,.row 0 x10.length 0 x10.length),(7,.d (.bool true))]) (objs:=[.row 1 (x10.map qac)]) rfl (by simp) rfl (by trivial) ⟨rfl,trivial,rfl,trivial,trivial⟩) ?_
    refine qar ?_
    have hr:=Option.some.inj h
    subst hr
    exact qah (.inr rfl) [0] (objs':=[]) (new:=[.row 1 (x10.map qac)]) rfl (by simp) (by simp) rfl (by trivial) rfl rfl (by trivial) (fun _=>⟨by simp [V.flat,V.qbk,V.qbf,D.flat],(qe6 (qjs qft _) qal)⟩) ⟨rfl,rfl,rfl⟩
  · refine qa5 ?_
    refine qb8 (ι:=Bool) (fun v16=>St.of [(1,.d (.sl false (devices_.map qa9))),(2,.d (.int .i64 bus_)),(3,.ptr 0 0),(16,.d (.bool v16))] [.box [.d (.cx .f32 f_.Source.A.re f_.Source.A.im),.d (.cx .f32 f_.Source.B.re f_.Source.B.im),.d (.cx .f32 f_.Source.C.re f_.Source.C.im),.d (.sl false (f_.qaf.map qai))]] f23.ntmps 0) (fun v16=>qdn n f_ devices_ bus_ v16 = some r) ?_ (fun hk18=>?_)
    · rintro v16 h
      replace h:qdn n f_ devices_ bus_ v16 = some r:=h
      unfold qdn at h
      refine qao rfl (fun hc17=>?_) (fun hc17=>?_)
      · have h:=qbn h hc17
        refine qa5 ?_
        refine qa1 ?_
        refine qa0 hτ rfl rfl rfl ?_
        refine qa0 hτ rfl rfl rfl ?_
        refine qa3 ?_
        refine qa7 (qa2 [] (l:=[(6,.d (.nils)),(7,.d (.bool false))]) (objs:=[]) rfl (by simp) rfl (by trivial) ⟨rfl,trivial,rfl,trivial,trivial⟩) ?_
        refine qa7 (qlo [1] (l':=[(6,.row 0 (([]:List Int).length) 0 (([]:List Int).length)),(7,.d (.bool false))]) (objs':=[]) (.cons (.c (.ghost ⟨Nat.le_of_ble_eq_true rfl,Nat.le_of_ble_eq_true rfl⟩)) (.cons (.c (.refl _)) .nil)) .nil) ?_
        refine qar ?_
        have hr:=Option.some.inj h
        subst hr
        exact qah (.inr rfl) [0] (objs':=[]) (new:=[.row 1 (([]:List Int).map qac)]) rfl (by simp) (by simp) rfl (by trivial) rfl rfl (by trivial) (fun _=>⟨by simp [V.flat,V.qbk,V.qbf,D.flat],(qe6 (qjs qft _) qal)⟩) ⟨rfl,rfl,rfl⟩
      · have h:=qbm h hc17
        refine qap ?_
        refine qa7 (qa2 [0] (l:=[(1,.d (.sl false (devices_.map qa9))),(2,.d (.int .i64 bus_)),(3,.ptr 0 0)]) (objs:=[.box [.d (.cx .f32 f_.Source.A.re f_.Source.A.im),.d (.cx .f32 f_.Source.B.re f_.Source.B.im),.d (.cx .f32 f_.Source.C.re f_.Source.C.im),.d (.sl false (f_.qaf.map qai))]]) rfl (by simp) rfl (by trivial) ⟨rfl,trivial,rfl,trivial,rfl,trivial,trivial⟩) ?_
        exact hk11 () h
    · refine qa5 ?_
      refine qa1 ?_
      refine qa0 hτ rfl rfl rfl ?_
      refine qa0 hτ rfl rfl rfl ?_
      refine qaa h fun x19 hx19 h=>?_
      refine qag hτ false [] rfl rfl rfl (qaj func27 rfl rfl) rfl rfl (by simp) ⟨(by trivial),trivial,trivial⟩ (by trivial) (qjt n f_ devices_ hx19) ?_
      rintro r0 o0 n0 ⟨rfl,rfl,rfl⟩ -
      refine qa0 hτ rfl rfl rfl ?_
      refine qa0 hτ rfl rfl rfl ?_
      refine qb4 12 rfl (fun hb20=>?_) (fun hb20=>?_)
      · have hb20:=qgh hb20
        have h:=qbm h hb20
        refine qa6 rfl rfl ?_
        refine qa6 rfl rfl ?_
        refine qa6 rfl rfl ?_
        refine qa0 hτ rfl rfl rfl ?_
        refine qa3 ?_
        refine qa7 (qa2 [0] (l:=[(1,.d (.sl false (devices_.map qa9))),(2,.d (.int .i64 bus_)),(3,.ptr 0 0),(16,.d (.bool true))]) (objs:=[.box [.d (.cx .f32 f_.Source.A.re f_.Source.A.im),.d (.cx .f32 f_.Source.B.re f_.Source.B.im),.d (.cx .f32 f_.Source.C.re f_.Source.C.im),.d (.sl false (f_.qaf.map qai))]]) rfl (by simp) rfl (by trivial) ⟨rfl,trivial,rfl,trivial,rfl,trivial,rfl,trivial,trivial⟩) ?_
        exact hk18 true h
      · have hb20:=qgg hb20
        have h:=qbn h hb20
        refine qa0 hτ rfl rfl rfl ?_
        refine qaa h fun x21 hx21 h=>?_
        refine qag hτ false [0] rfl rfl rfl (qaj func52 rfl rfl) rfl rfl (by simp) ⟨trivial,trivial,trivial⟩ (by trivial) (ql8 n f_ bus_ hx21) ?_
        rintro r0 o0 n0 ⟨rfl,rfl,rfl⟩ -
        refine qa0 hτ rfl rfl rfl ?_
        refine qa0 hτ rfl rfl rfl ?_
        refine qa3 ?_
        refine qa7 (qa2 [0] (l:=[(1,.d (.sl false (devices_.map qa9))),(2,.d (.int .i64 bus_)),(3,.ptr 0 0),(16,.d (.bool (!x21)))]) (objs:=[.box [.d (.cx .f32 f_.Source.A.re f_.Source.A.im),.d (.cx .f32 f_.Source.B.re f_.Source.B.im),.d (.cx .f32 f_.Source.C.re f_.Source.C.im),.d (.sl false (f_.qaf.map qai))]]) rfl (by simp) rfl (by trivial) ⟨rfl,trivial,rfl,trivial,rfl,trivial,rfl,trivial,trivial⟩) ?_
        exact hk18 (!x21) h
theorem impl_DevicesAbove_ok (n:Nat) (f_:qax) (devices_:List qas) (bus_:Int) {r:List Int × Bool} (h:qd2 n f_ devices_ bus_ = some r):qb9 prog false 23 [.agg [.d (.cx .f32 f_.Source.A.re f_.Source.A.im),.d (.cx .f32 f_.Source.B.re f_.Source.B.im),.d (.cx .f32 f_.Source.C.re f_.Source.C.im),.d (.sl false (f_.qaf.map qai))],.d (.sl false (devices_.map qa9)),.d (.int .i64 bus_)] [] (fun v o new=>v = .tup [.row 0 r.1.length 0 r.1.length,.d (.bool r.2)]∧o = []∧new = [.row 1 (r.1.map qac)]):=qjm false n f_ devices_ bus_ h
theorem impl_DevicesAbove_ok_fr (n:Nat) (f_:qax) (devices_:List qas) (bus_:Int) {r:List Int × Bool} (h:qd2 n f_ devices_ bus_ = some r):qb9 prog true 23 [.agg [.d (.cx .f32 f_.Source.A.re f_.Source.A.im),.d (.cx .f32 f_.Source.B.re f_.Source.B.im),.d (.cx .f32 f_.Source.C.re f_.Source.C.im),.d (.sl false (f_.qaf.map qai))],.d (.sl false (devices_.map qa9)),.d (.int .i64 bus_)] [] (fun v o new=>v = .tup [.row 0 r.1.length 0 r.1.length,.d (.bool r.2)]∧o = []∧new = [.row 1 (r.1.map qac)]):=qjm true n f_ devices_ bus_ h
def qfo (n:Nat) (c_:qbq) (current_:Nat) (v23:Int):Option (Nat × Bool) :=
  (getI c_.qa8 v23).bind fun x24 =>
  (getI c_.qa8 (w64 (v23 + (1:Int)))).bind fun x25 =>
  (getI c_.Times v23).bind fun x26 =>
  (getI c_.Times (w64 (v23 + (1:Int)))).bind fun x27 =>
  some ((qad .add .f32 x26 (qad .mul .f32 (qad .sub .f32 x27 x26) (qad .quo .f32 (qad .sub .f32 current_ x24) (qad .sub .f32 x25 x24)))),true)
def qcb (n:Nat) (c_:qbq) (current_:Nat):Nat→Int→Option (Nat × Bool)
  | 0,_=>none
  | m33 + 1,v30 =>
    (getI c_.qa8 (w64 (v30 + (1:Int)))).bind fun x36 =>
    if (fcmp .leq .f32 x36 current_) = true then
      (qcb n c_ current_ m33) (w64 (v30 + (1:Int)))
    else
      qfo n c_ current_ v30
def qc9 (n:Nat) (c_:qbq) (current_:Nat):Option (Nat × Bool) :=
  (getI c_.qa8 (0:Int)).bind fun x12 =>
  if (fcmp .geq .f32 current_ x12) = true then
    (getI c_.qa8 (w64 ((c_.qa8.length:Int) - (1:Int)))).bind fun x16 =>
    if (fcmp .geq .f32 current_ x16) = true then
      (getI c_.Times (w64 ((c_.qa8.length:Int) - (1:Int)))).bind fun x18 =>
      some (x18,true)
    else
      qcb n c_ current_ n (0:Int)
  else
    some ((0:Nat),false)
theorem impl_Curve_time_ok_fr0 (fr:Bool) (n:Nat) (d0_0:D) (c_:qbq) (current_:Nat) {r:Nat × Bool} (h:qc9 n c_ current_ = some r):qb9 prog fr 54 [.rop [d0_0,.sl false (c_.qa8.map qa4),.sl false (c_.Times.map qa4)] 1,.d (.fl .f32 current_)] [] (fun v o new=>v = .tup [.d (.fl .f32 r.1),.d (.bool r.2)]∧o = []∧new = []):=by
  refine qak hτ func54 rfl (by simp) (by simp) ?_
  unfold qc9 at h
  refine qa5 ?_
  refine qa1 ?_
  refine qa0 hτ rfl rfl rfl ?_
  refine qa0 hτ rfl rfl rfl ?_
  refine qa3 ?_
  refine qa5 ?_
  refine qa1 ?_
  refine qa0 hτ rfl rfl rfl ?_
  refine qa0 hτ rfl rfl rfl ?_
  refine qa0 hτ rfl rfl rfl ?_
  refine qa0 hτ rfl rfl rfl ?_
  refine qa0 hτ (v:=.d (.int .i64 (c_.qa8.length:Int))) rfl rfl (Eq.trans rfl (qdb (f:=qa4) c_.qa8)) ?_
  refine qa0 hτ rfl rfl rfl ?_
  refine qa0 hτ rfl rfl rfl ?_
  refine qa3 ?_
  refine qa5 ?_
  refine qa5 ?_
  refine qa7 (qa2 [] (l:=[(0,.rop [d0_0,.sl false (c_.qa8.map qa4),.sl false (c_.Times.map qa4)] 1),(1,.d (.fl .f32 current_)),(6,.d (.int .i64 (w64 ((c_.qa8.length:Int) - (1:Int)))))]) (objs:=[]) rfl (by simp) rfl (by trivial) ⟨rfl,trivial,rfl,trivial,rfl,trivial,trivial⟩) ?_
  refine qa1 ?_
  refine qa0 hτ rfl rfl rfl ?_
  refine qa0 hτ rfl rfl rfl ?_
  refine qa0 hτ rfl rfl rfl ?_
  refine qa0 hτ rfl rfl rfl ?_
  refine qa0 hτ rfl rfl rfl ?_
  refine qaa h fun x12 hx12 h=>?_
  refine qbe hτ rfl rfl rfl (qaw hx12).1 (qb5 hx12) rfl ?_
  refine qa0 hτ rfl rfl rfl ?_
  refine qa0 hτ rfl rfl rfl ?_
  refine qa0 hτ rfl rfl rfl ?_
  refine qa3 ?_
  refine qa7 (qa2 [] (l:=[(0,.rop [d0_0,.sl false (c_.qa8.map qa4),.sl false (c_.Times.map qa4)] 1),(1,.d (.fl .f32 current_)),(6,.d (.int .i64 (w64 ((c_.qa8.length:Int) - (1:Int))))),(27,.d (.bool (!(fcmp .geq .f32 current_ x12))))]) (objs:=[]) rfl (by simp) rfl (by trivial) ⟨rfl,trivial,rfl,trivial,rfl,trivial,rfl,trivial,trivial⟩) ?_
  refine qao rfl (fun hc13=>?_) (fun hc13=>?_)
  · have hc13:=qgh hc13
    have h:=qbm h hc13
    refine qa5 ?_
    refine qa1 ?_
    refine qa0 hτ rfl rfl rfl ?_
    refine qa0 hτ rfl rfl rfl ?_
    refine qa3 ?_
    refine qa7 (qa2 [] (l:=[(4,.d (.fl .f32 (0:Nat))),(5,.d (.bool false))]) (objs:=[]) rfl (by simp) rfl (by trivial) ⟨rfl,trivial,rfl,trivial,trivial⟩) ?_
    refine qar ?_
    have hr:=Option.some.inj h
    subst hr
    exact qah (.inr rfl) [] (objs':=[]) (new:=[]) rfl (by simp) (by simp) rfl (by trivial) rfl rfl (by trivial) (fun _=>⟨by simp [V.flat,V.qbk,V.qbf,D.flat],qal⟩) ⟨rfl,rfl,rfl⟩
  · have hc13:=qgg hc13
    have h:=qbn h hc13
    refine qap ?_
    refine qa5 ?_
    refine qa5 ?_
    refine qa1 ?_
    refine qa0 hτ rfl rfl rfl ?_
    refine qa0 hτ rfl rfl rfl ?_
    refine qa0 hτ rfl rfl rfl ?_
    refine qa0 hτ rfl rfl rfl ?_
    refine qa0 hτ rfl rfl rfl ?_
    refine qa0 hτ rfl rfl rfl ?_
    refine qaa h fun x16 hx16 h=>?_
    refine qbe hτ rfl rfl rfl (qaw hx16).1 (qb5 hx16) rfl ?_
    refine qa0 hτ rfl rfl rfl ?_
    refine qa0 hτ rfl rfl rfl ?_
    refine qa3 ?_
    refine qa7 (qa2 [] (l:=[(0,.rop [d0_0,.sl false (c_.qa8.map qa4),.sl false (c_.Times.map qa4)] 1),(1,.d (.fl .f32 current_)),(6,.d (.int .i64 (w64 ((c_.qa8.length:Int) - (1:Int))))),(36,.d (.bool (fcmp .geq .f32 current_ x16)))]) (objs:=[]) rfl (by simp) rfl (by trivial) ⟨rfl,trivial,rfl,trivial,rfl,trivial,rfl,trivial,trivial⟩) ?_
    refine qao rfl (fun hc17=>?_) (fun hc17=>?_)
    · have h:=qbn h hc17
      refine qa5 ?_
      refine qa1 ?_
      refine qa0 hτ rfl rfl rfl ?_
      refine qa0 hτ rfl rfl rfl ?_
      refine qa0 hτ rfl rfl rfl ?_
      refine qa0 hτ rfl rfl rfl ?_
      refine qa0 hτ rfl rfl rfl ?_
      refine qaa h fun x18 hx18 h=>?_
      refine qbe hτ rfl rfl rfl (qaw hx18).1 (qb5 hx18) rfl ?_
      refine qa0 hτ rfl rfl rfl ?_
      refine qa0 hτ rfl rfl rfl ?_
      refine qa0 hτ rfl rfl rfl ?_
      refine qa3 ?_
      refine qa7 (qa2 [] (l:=[(4,.d (.fl .f32 x18)),(5,.d (.bool true))]) (objs:=[]) rfl (by simp) rfl (by trivial) ⟨rfl,trivial,rfl,trivial,trivial⟩) ?_
      refine qar ?_
      have hr:=Option.some.inj h
      subst hr
      exact qah (.inr rfl) [] (objs':=[]) (new:=[]) rfl (by simp) (by simp) rfl (by trivial) rfl rfl (by trivial) (fun _=>⟨by simp [V.flat,V.qbk,V.qbf,D.flat],qal⟩) ⟨rfl,rfl,rfl⟩
    · have h:=qbm h hc17
      refine qap ?_
      refine qa5 ?_
      refine qa1 ?_
      refine qa0 hτ rfl rfl rfl ?_
      refine qa3 ?_
      refine qb8 (ι:=Int) (fun v23=>St.of [(0,.rop [d0_0,.sl false (c_.qa8.map qa4),.sl false (c_.Times.map qa4)] 1),(1,.d (.fl .f32 current_)),(7,.d (.int .i64 v23))] [] f54.ntmps 0) (fun v23=>qfo n c_ current_ v23 = some r) ?_ (fun hk28=>?_)
      · rintro v23 h
        replace h:qfo n c_ current_ v23 = some r:=h
        unfold qfo at h
        refine qa5 ?_
        refine qel ?_
        refine qab hτ [] 0 rfl rfl rfl rfl rfl ?_
        refine qab hτ [] 1 rfl rfl rfl rfl rfl ?_
        refine qab hτ [] 2 rfl rfl rfl rfl rfl ?_
        refine qab hτ [] 3 rfl rfl rfl rfl rfl ?_
        refine qab hτ [] 4 rfl rfl rfl rfl rfl ?_
        refine qaa h fun x24 hx24 h=>?_
        refine qc8 hτ [] 5 rfl rfl rfl rfl rfl (qaw hx24).1 (qb5 hx24) rfl ?_
        refine qab hτ [] 6 rfl rfl rfl rfl rfl ?_
        refine qab hτ [] 7 rfl rfl rfl rfl rfl ?_
        refine qab hτ [] 8 rfl rfl rfl rfl rfl ?_
        refine qab hτ [] 9 rfl rfl rfl rfl rfl ?_
        refine qab hτ [] 10 rfl rfl rfl rfl rfl ?_
        refine qab hτ [] 11 rfl rfl rfl rfl rfl ?_
        refine qab hτ [] 12 rfl rfl rfl rfl rfl ?_
        refine qaa h fun x25 hx25 h=>?_
        refine qc8 hτ [] 13 rfl rfl rfl rfl rfl (qaw hx25).1 (qb5 hx25) rfl ?_
        refine qab hτ [] 14 rfl rfl rfl rfl rfl ?_
        refine qab hτ [] 15 rfl rfl rfl rfl rfl ?_
        refine qab hτ [] 16 rfl rfl rfl rfl rfl ?_
        refine qab hτ [] 17 rfl rfl rfl rfl rfl ?_
        refine qab hτ [] 18 rfl rfl rfl rfl rfl ?_
        refine qab hτ [] 19 rfl rfl rfl rfl rfl ?_
        refine qaa h fun x26 hx26 h=>?_
        refine qc8 hτ [] 20 rfl rfl rfl rfl rfl (qaw hx26).1 (qb5 hx26) rfl ?_
        refine qab hτ [] 21 rfl rfl rfl rfl rfl ?_
        refine qab hτ [] 22 rfl rfl rfl rfl rfl ?_
        refine qab hτ [] 23 rfl rfl rfl rfl rfl ?_
        refine qab hτ [] 24 rfl rfl rfl rfl rfl ?_
        refine qab hτ [] 25 rfl rfl rfl rfl rfl ?_
        refine qab hτ [] 26 rfl rfl rfl rfl rfl ?_
        refine qab hτ [] 27 rfl rfl rfl rfl rfl ?_
        refine qaa h fun x27 hx27 h=>?_
        refine qc8 hτ [] 28 rfl rfl rfl rfl rfl (qaw hx27).1 (qb5 hx27) rfl ?_
        refine qab hτ [] 29 rfl rfl rfl rfl rfl ?_
        refine qab hτ [] 30 rfl rfl rfl rfl rfl ?_
        refine qab hτ [] 31 rfl rfl rfl rfl rfl ?_
        refine qab hτ [] 32 rfl rfl rfl rfl rfl ?_
        refine qab hτ [] 33 rfl rfl rfl rfl rfl ?_
        refine qcy mixed (by kernel_rfl) ?_
        refine qa5 ?_
        refine qa7 (qa2 [] (l:=[(1,.d (.fl .f32 current_)),(8,.d (.fl .f32 x24)),(9,.d (.fl .f32 x25)),(10,.d (.fl .f32 x26)),(11,.d (.fl .f32 x27))]) (objs:=[]) rfl (by simp) rfl (by trivial) ⟨rfl,trivial,rfl,trivial,rfl,trivial,rfl,trivial,rfl,trivial,trivial⟩) ?_
        refine qa1 ?_
        refine qa0 hτ rfl rfl rfl ?_
        refine qa0 hτ rfl rfl rfl ?_
        refine qa0 hτ rfl rfl rfl ?_
        refine qa0 hτ rfl rfl rfl ?_
        refine qa0 hτ rfl rfl rfl ?_
        refine qa0 hτ rfl rfl rfl ?_
        refine qa0 hτ rfl rfl rfl ?_
        refine qa0 hτ rfl rfl rfl ?_
        refine qa3 ?_
        refine qa5 ?_
        refine qa7 (qa2 [] (l:=[(10,.d (.fl .f32 x26)),(11,.d (.fl .f32 x27)),(12,.d (.fl .f32 (qad .quo .f32 (qad .sub .f32 current_ x24) (qad .sub .f32 x25 x24))))]) (objs:=[]) rfl (by simp) rfl (by trivial) ⟨rfl,trivial,rfl,trivial,rfl,trivial,trivial⟩) ?_
        refine qa1 ?_
        refine qa0 hτ rfl rfl rfl ?_
        refine qa0 hτ rfl rfl rfl ?_
        refine qa0 hτ rfl rfl rfl ?_
        refine qa0 hτ rfl rfl rfl ?_
        refine qa0 hτ rfl rfl rfl ?_
        refine qa0 hτ rfl rfl rfl ?_
        refine qa0 hτ rfl rfl rfl ?_
        refine qa0 hτ rfl rfl rfl ?_
        refine qa0 hτ rfl rfl rfl ?_
        refine qa3 ?_
        refine qa7 (qa2 [] (l:=[(4,.d (.fl .f32 (qad .add .f32 x26 (qad .mul .f32 (qad .sub .f32 x27 x26) (qad .quo .f32 (qad .sub .f32 current_ x24) (qad .sub .f32 x25 x24)))))),(5,.d (.bool true))]) (objs:=[]) rfl (by simp) rfl (by trivial) ⟨rfl,trivial,rfl,trivial,trivial⟩) ?_
        refine qar ?_
        have hr:=Option.some.inj h
        subst hr
        exact qah (.inr rfl) [] (objs':=[]) (new:=[]) rfl (by simp) (by simp) rfl (by trivial) rfl rfl (by trivial) (fun _=>⟨by simp [V.flat,V.qbk,V.qbf,D.flat],qal⟩) ⟨rfl,rfl,rfl⟩
      · refine qa5 ?_
        refine qaz ?_
        refine qcs (ι:=Nat × Int) (fun (m33,v30)=>St.of [(0,.rop [d0_0,.sl false (c_.qa8.map qa4),.sl false (c_.Times.map qa4)] 1),(1,.d (.fl .f32 current_)),(7,.d (.int .i64 v30))] [] f54.ntmps 0) (fun (m33,v30)=>qcb n c_ current_ m33 v30 = some r) (fun x=>x.1) (n,(0:Int)) h (qa2 [] (l:=[(0,.rop [d0_0,.sl false (c_.qa8.map qa4),.sl false (c_.Times.map qa4)] 1),(1,.d (.fl .f32 current_)),(7,.d (.int .i64 (0:Int)))]) (objs:=[]) rfl (by simp) rfl (by trivial) ⟨rfl,trivial,rfl,trivial,rfl,trivial,trivial⟩) ?_
        rintro ⟨m33,v30⟩ h
        replace h:qcb n c_ current_ m33 v30 = some r:=h
        rcases m33 with _ | m33
        · rw [qcb] at h;cases h
        rw [qcb] at h
        refine qa5 ?_
        refine qa5 ?_
        refine qa1 ?_
        refine qa0 hτ rfl rfl rfl ?_
        refine qa0 hτ rfl rfl rfl ?_
        refine qa0 hτ rfl rfl rfl ?_
        refine qa0 hτ rfl rfl rfl ?_
        refine qa0 hτ rfl rfl rfl ?_
        refine qa0 hτ rfl rfl rfl ?_
        refine qaa h fun x36 hx36 h=>?_
        refine qbe hτ rfl rfl rfl (qaw hx36).1 (qb5 hx36) rfl ?_
        refine qa0 hτ rfl rfl rfl ?_
        refine qa0 hτ rfl rfl rfl ?_
        refine qa0 hτ rfl rfl rfl ?_
        refine qa3 ?_
        refine qa7 (qa2 [] (l:=[(0,.rop [d0_0,.sl false (c_.qa8.map qa4),.sl false (c_.Times.map qa4)] 1),(1,.d (.fl .f32 current_)),(7,.d (.int .i64 v30)),(53,.d (.bool (fcmp .leq .f32 x36 current_)))]) (objs:=[]) rfl (by simp) rfl (by trivial) ⟨rfl,trivial,rfl,trivial,rfl,trivial,rfl,trivial,trivial⟩) ?_
        refine qao rfl (fun hc37=>?_) (fun hc37=>?_)
        · have h:=qbn h hc37
          refine qap ?_
          refine qaz ?_
          refine qa1 ?_
          refine qa0 hτ rfl rfl rfl ?_
          refine qa0 hτ rfl rfl rfl ?_
          refine qa0 hτ rfl rfl rfl ?_
          refine qa3 ?_
          exact ⟨(m33,(w64 (v30 + (1:Int)))),h,Nat.lt_succ_self m33,(qa2 [] (l:=[(0,.rop [d0_0,.sl false (c_.qa8.map qa4),.sl false (c_.Times.map qa4)] 1),(1,.d (.fl .f32 current_)),(7,.d (.int .i64 (w64 (v30 + (1:Int)))))]) (objs:=[]) rfl (by simp) rfl (by trivial) ⟨rfl,trivial,rfl,trivial,rfl,trivial,trivial⟩)⟩
        · have h:=qbm h hc37
          refine qcr ?_
          refine qa7 (qa2 [] (l:=[(0,.rop [d0_0,.sl false (c_.qa8.map qa4),.sl false (c_.Times.map qa4)] 1),(1,.d (.fl .f32 current_)),(7,.d (.int .i64 v30))]) (objs:=[]) rfl (by simp) rfl (by trivial) ⟨rfl,trivial,rfl,trivial,rfl,trivial,trivial⟩) ?_
          exact hk28 v30 h
theorem qia (n:Nat) (d0_0:D) (c_:qbq) (current_:Nat) {r:Nat × Bool} (h:qc9 n c_ current_ = some r):qb9 prog false 54 [.rop [d0_0,.sl false (c_.qa8.map qa4),.sl false (c_.Times.map qa4)] 1,.d (.fl .f32 current_)] [] (fun v o new=>v = .tup [.d (.fl .f32 r.1),.d (.bool r.2)]∧o = []∧new = []):=impl_Curve_time_ok_fr0 false n d0_0 c_ current_ h
def qg3 (n:Nat) (v52:Int) (v53:Nat):Option (Int × Nat × Bool) :=
  if v52 < (0:Int) then
    some ((0:Int),(0:Nat),false)
  else
    some (v52,v53,true)
def qdq (n:Nat) (k81:Int→Nat→Int→Option (Int × Nat × Bool)) (v67:Int) (v92:Int) (v93:Nat):Option (Int × Nat × Bool) :=
  k81 v92 v93 (w64 (v67 + (1:Int)))
def qd3 (n:Nat) (k81:Int→Nat→Int→Option (Int × Nat × Bool)) (v65:Int) (v66:Nat) (v67:Int) (x95:Int) (x97:Nat × Bool) (v102:Bool):Option (Int × Nat × Bool) :=
  if v102 = true then
    qdq n k81 v67 x95 x97.1
  else
    qdq n k81 v67 v65 v66
def qbh (n:Nat) (devices_:List qas) (current_:Nat) (x26:List Int × Bool):Nat→Int→Nat→Int→Option (Int × Nat × Bool)
  | 0,_,_,_=>none
  | m80 + 1,v65,v66,v67 =>
    if v67 < (x26.1.length:Int) then
      (getI x26.1 v67).bind fun x95 =>
      (getI devices_ x95).bind fun x96 =>
      (qc9 n x96.qcp current_).bind fun x97 =>
      if x97.2 = true then
        if v65 < (0:Int) then
          qd3 n (qbh n devices_ current_ x26 m80) v65 v66 v67 x95 x97 true
        else
          qd3 n (qbh n devices_ current_ x26 m80) v65 v66 v67 x95 x97 (fcmp .leq .f32 x97.1 v66)
      else
        qd3 n (qbh n devices_ current_ x26 m80) v65 v66 v67 x95 x97 false
    else
      qg3 n v65 v66
def qgi (n:Nat) (f_:qax) (devices_:List qas) (bus_:Int) (current_:Nat):Option (Int × Nat × Bool) :=
  (qd2 n f_ devices_ bus_).bind fun x26 =>
  if x26.2 = true then
    qbh n devices_ current_ x26 n (-1:Int) (0:Nat) (0:Int)
  else
    some ((0:Int),(0:Nat),false)
theorem impl_FirstTrip_ok_fr0 (fr:Bool) (n:Nat) (f_:qax) (devices_:List qas) (bus_:Int) (current_:Nat) {r:Int × Nat × Bool} (h:qgi n f_ devices_ bus_ current_ = some r):qb9 prog fr 24 [.agg [.d (.cx .f32 f_.Source.A.re f_.Source.A.im),.d (.cx .f32 f_.Source.B.re f_.Source.B.im),.d (.cx .f32 f_.Source.C.re f_.Source.C.im),.d (.sl false (f_.qaf.map qai))],.d (.sl false (devices_.map qa9)),.d (.int .i64 bus_),.d (.fl .f32 current_)] [] (fun v o new=>v = .tup [.d (.int .i64 r.1),.d (.fl .f32 r.2.1),.d (.bool r.2.2)]∧o = []∧new = []):=by
  refine qak hτ func24 rfl (by simp) (by simp) ?_
  unfold qgi at h
  refine qa5 ?_
  refine qa1 ?_
  refine qav hτ rfl rfl rfl ?_
  refine qa0 hτ rfl rfl rfl ?_
  refine qa0 hτ rfl rfl rfl ?_
  refine qa0 hτ rfl rfl rfl ?_
  refine qa3 ?_
  refine qa5 ?_
  refine qa1 ?_
  refine qa0 hτ rfl rfl rfl ?_
  refine qa0 hτ rfl rfl rfl ?_
  refine qa0 hτ rfl rfl rfl ?_
  refine qaa h fun x26 hx26 h=>?_
  refine qag hτ false [] rfl rfl rfl (qaj func23 rfl rfl) rfl rfl (by simp) ⟨(by trivial),trivial,trivial,trivial⟩ (by trivial) (impl_DevicesAbove_ok n f_ devices_ bus_ hx26) ?_
  rintro r0 o0 n0 ⟨rfl,rfl,rfl⟩ -
  refine qa0 hτ rfl rfl rfl ?_
  refine qa0 hτ rfl rfl rfl ?_
  refine qa0 hτ rfl rfl rfl ?_
  refine qa0 hτ rfl rfl rfl ?_
  refine qat (qa2 [1] (l:=[(1,.d (.sl false (devices_.map qa9))),(3,.d (.fl .f32 current_)),(11,.row 0 x26.1.length 0 x26.1.length),(25,.d (.bool x26.2))]) (objs:=[.row 1 (x26.1.map qac)]) rfl (by simp) rfl (by trivial) ⟨rfl,trivial,rfl,trivial,rfl,trivial,rfl,trivial,trivial⟩) ?_
  refine qa0 hτ rfl rfl rfl ?_
  refine qa3 ?_
  refine qa5 ?_
  refine qa5 ?_
  refine qa1 ?_
  refine qa0 hτ rfl rfl rfl ?_
  refine qa0 hτ rfl rfl rfl ?_
  refine qa3 ?_
  refine qao rfl (fun hc27=>?_) (fun hc27=>?_)
  · have hc27:=qgh hc27
    have h:=qbm h hc27
    refine qa5 ?_
    refine qa1 ?_
    refine qa0 hτ rfl rfl rfl ?_
    refine qa0 hτ rfl rfl rfl ?_
    refine qa0 hτ rfl rfl rfl ?_
    refine qa3 ?_
    refine qa7 (qa2 [] (l:=[(8,.d (.int .i64 (0:Int))),(9,.d (.fl .f32 (0:Nat))),(10,.d (.bool false))]) (objs:=[]) rfl (by simp) rfl (by trivial) ⟨rfl,trivial,rfl,trivial,rfl,trivial,trivial⟩) ?_
    refine qar ?_
    have hr:=Option.some.inj h
    subst hr
    exact qah (.inr rfl) [] (objs':=[]) (new:=[]) rfl (by simp) (by simp) rfl (by trivial) rfl rfl (by trivial) (fun _=>⟨by simp [V.flat,V.qbk,V.qbf,D.flat],qal⟩) ⟨rfl,rfl,rfl⟩
  · have hc27:=qgg hc27
    have h:=qbn h hc27
    refine qap ?_
    refine qa5 ?_
    refine qa1 ?_
    refine qa0 hτ rfl rfl rfl ?_
    refine qa0 hτ rfl rfl rfl ?_
    refine qa3 ?_
    refine qb8 (ι:=Int × Nat) (fun (v52,v53)=>St.of [(13,.d (.int .i64 v52)),(14,.d (.fl .f32 v53))] [] f24.ntmps 0) (fun (v52,v53)=>qg3 n v52 v53 = some r) ?_ (fun hk55=>?_)
    · rintro ⟨v52,v53⟩ h
      replace h:qg3 n v52 v53 = some r:=h
      unfold qg3 at h
      refine qa5 ?_
      refine qa5 ?_
      refine qa1 ?_
      refine qa0 hτ rfl rfl rfl ?_
      refine qa0 hτ rfl rfl rfl ?_
      refine qa3 ?_
      refine qao rfl (fun hc54=>?_) (fun hc54=>?_)
      · have h:=if_t h hc54
        refine qa5 ?_
        refine qa1 ?_
        refine qa0 hτ rfl rfl rfl ?_
        refine qa0 hτ rfl rfl rfl ?_
        refine qa0 hτ rfl rfl rfl ?_
        refine qa3 ?_
        refine qa7 (qa2 [] (l:=[(8,.d (.int .i64 (0:Int))),(9,.d (.fl .f32 (0:Nat))),(10,.d (.bool false))]) (objs:=[]) rfl (by simp) rfl (by trivial) ⟨rfl,trivial,rfl,trivial,rfl,trivial,trivial⟩) ?_
        refine qar ?_
        have hr:=Option.some.inj h
        subst hr
        exact qah (.inr rfl) [] (objs':=[]) (new:=[]) rfl (by simp) (by simp) rfl (by trivial) rfl rfl (by trivial) (fun _=>⟨by simp [V.flat,V.qbk,V.qbf,D.flat],qal⟩) ⟨rfl,rfl,rfl⟩
      · have h:=if_f h hc54
        refine qap ?_
        refine qa5 ?_
        refine qa1 ?_
        refine qa0 hτ rfl rfl rfl ?_
        refine qa0 hτ rfl rfl rfl ?_
        refine qa0 hτ rfl rfl rfl ?_
        refine qa0 hτ rfl rfl rfl ?_
        refine qa0 hτ rfl rfl rfl ?_
        refine qa3 ?_
        refine qa7 (qa2 [] (l:=[(8,.d (.int .i64 v52)),(9,.d (.fl .f32 v53)),(10,.d (.bool true))]) (objs:=[]) rfl (by simp) rfl (by trivial) ⟨rfl,trivial,rfl,trivial,rfl,trivial,trivial⟩) ?_
        refine qar ?_
        have hr:=Option.some.inj h
        subst hr
        exact qah (.inr rfl) [] (objs':=[]) (new:=[]) rfl (by simp) (by simp) rfl (by trivial) rfl rfl (by trivial) (fun _=>⟨by simp [V.flat,V.qbk,V.qbf,D.flat],qal⟩) ⟨rfl,rfl,rfl⟩
    · refine qa5 ?_
      refine qa5 ?_
      refine qa1 ?_
      refine qa0 hτ rfl rfl rfl ?_
      refine qcl hτ rfl rfl rfl (qbx _) ?_
      refine qa0 hτ rfl rfl rfl ?_
      refine qa3 ?_
      refine qaz ?_
      refine qcs (ι:=Nat × Int × Nat × Int) (fun (m80,v65,v66,v67)=>St.of [(1,.d (.sl false (devices_.map qa9))),(3,.d (.fl .f32 current_)),(13,.d (.int .i64 v65)),(14,.d (.fl .f32 v66)),(28,.row 0 x26.1.length 0 x26.1.length),(29,.d (.int .i64 (x26.1.length:Int))),(30,.d (.int .i64 v67))] [.row 1 (x26.1.map qac)] f24.ntmps 0) (fun (m80,v65,v66,v67)=>qbh n devices_ current_ x26 m80 v65 v66 v67 = some r) (fun x=>x.1) (n,(-1:Int),(0:Nat),(0:Int)) h (qa2 [0] (l:=[(1,.d (.sl false (devices_.map qa9))),(3,.d (.fl .f32 current_)),(13,.d (.int .i64 (-1:Int))),(14,.d (.fl .f32 (0:Nat))),(28,.row 0 x26.1.length 0 x26.1.length),(29,.d (.int .i64 (x26.1.length:Int))),(30,.d (.int .i64 (0:Int)))]) (objs:=[.row 1 (x26.1.map qac)]) rfl (by simp) rfl (by trivial) ⟨rfl,trivial,rfl,trivial,rfl,trivial,rfl,trivial,rfl,trivial,rfl,trivial,rfl,trivial,trivial⟩) ?_
      rintro ⟨m80,v65,v66,v67⟩ h
      replace h:qbh n devices_ current_ x26 m80 v65 v66 v67 = some r:=h
      rcases m80 with _ | m80
      · rw [qbh] at h;cases h
      rw [qbh] at h
      refine qa5 ?_
      refine qa1 ?_
      refine qa0 hτ rfl rfl rfl ?_
      refine qa3 ?_
      refine qa5 ?_
      refine qao rfl (fun hc82=>?_) (fun hc82=>?_)
      · have h:=if_t h hc82
        refine qap ?_
        refine qb8 (ι:=Int × Nat) (fun (v92,v93)=>St.of [(1,.d (.sl false (devices_.map qa9))),(3,.d (.fl .f32 current_)),(13,.d (.int .i64 v92)),(14,.d (.fl .f32 v93)),(28,.row 0 x26.1.length 0 x26.1.length),(29,.d (.int .i64 (x26.1.length:Int))),(30,.d (.int .i64 v67))] [.row 1 (x26.1.map qac)] f24.ntmps 0) (fun (v92,v93)=>qdq n (qbh n devices_ current_ x26 m80) v67 v92 v93 = some r) ?_ (fun hk94=>?_)
        · rintro ⟨v92,v93⟩ h
          replace h:qdq n (qbh n devices_ current_ x26 m80) v67 v92 v93 = some r:=h
          unfold qdq at h
          refine qa1 ?_
          refine qa0 hτ rfl rfl rfl ?_
          refine qa0 hτ rfl rfl rfl ?_
          refine qa3 ?_
          exact ⟨(m80,v92,v93,(w64 (v67 + (1:Int)))),h,Nat.lt_succ_self m80,(qa2 [0] (l:=[(1,.d (.sl false (devices_.map qa9))),(3,.d (.fl .f32 current_)),(13,.d (.int .i64 v92)),(14,.d (.fl .f32 v93)),(28,.row 0 x26.1.length 0 x26.1.length),(29,.d (.int .i64 (x26.1.length:Int))),(30,.d (.int .i64 (w64 (v67 + (1:Int)))))]) (objs:=[.row 1 (x26.1.map qac)]) rfl (by simp) rfl (by trivial) ⟨rfl,trivial,rfl,trivial,rfl,trivial,rfl,trivial,rfl,trivial,rfl,trivial,rfl,trivial,trivial⟩)⟩
        · refine qa5 ?_
          refine qaz ?_
          refine qa5 ?_
          refine qa1 ?_
          refine qaa h fun x95 hx95 h=>?_
          refine qcl hτ rfl rfl rfl (qd0 hx95) ?_
          refine qbe hτ rfl rfl rfl (qbx _) (qek hx95) rfl ?_
          refine qa0 hτ rfl rfl rfl ?_
          refine qa3 ?_
          refine qa5 ?_
          refine qa1 ?_
          refine qa0 hτ rfl rfl rfl ?_
          refine qa0 hτ rfl rfl rfl ?_
          refine qaa h fun x96 hx96 h=>?_
          refine qbe hτ rfl rfl rfl (qaw hx96).1 (qb5 hx96) rfl ?_
          refine qa0 hτ rfl rfl rfl ?_
          refine qa0 hτ rfl rfl rfl ?_
          refine qaa h fun x97 hx97 h=>?_
          refine qag hτ false [] rfl rfl rfl (qaj func54 rfl rfl) rfl rfl (by simp) ⟨trivial,trivial,trivial⟩ (by trivial) (qia n (.int .i64 x96.Bus) x96.qcp current_ hx97) ?_
          rintro r0 o0 n0 ⟨rfl,rfl,rfl⟩ -
          refine qa0 hτ rfl rfl rfl ?_
          refine qa0 hτ rfl rfl rfl ?_
          refine qat (qa2 [0] (l:=[(1,.d (.sl false (devices_.map qa9))),(3,.d (.fl .f32 current_)),(13,.d (.int .i64 v65)),(14,.d (.fl .f32 v66)),(16,.d (.int .i64 x95)),(28,.row 0 x26.1.length 0 x26.1.length),(29,.d (.int .i64 (x26.1.length:Int))),(30,.d (.int .i64 v67)),(34,.tup [.d (.fl .f32 x97.1),.d (.bool x97.2)]),(41,.d (.fl .f32 x97.1))]) (objs:=[.row 1 (x26.1.map qac)]) rfl (by simp) rfl (by trivial) ⟨rfl,trivial,rfl,trivial,rfl,trivial,rfl,trivial,rfl,trivial,rfl,trivial,rfl,trivial,rfl,trivial,rfl,(by trivial),rfl,trivial,trivial⟩) ?_
          refine qa0 hτ rfl rfl rfl ?_
          refine qa0 hτ rfl rfl rfl ?_
          refine qa0 hτ rfl rfl rfl ?_
          refine qa3 ?_
          refine qb8 (ι:=Bool) (fun v102=>St.of [(1,.d (.sl false (devices_.map qa9))),(3,.d (.fl .f32 current_)),(13,.d (.int .i64 v65)),(14,.d (.fl .f32 v66)),(16,.d (.int .i64 x95)),(17,.d (.fl .f32 x97.1)),(28,.row 0 x26.1.length 0 x26.1.length),(29,.d (.int .i64 (x26.1.length:Int))),(30,.d (.int .i64 v67)),(52,.d (.bool v102))] [.row 1 (x26.1.map qac)] f24.ntmps 0) (fun v102=>qd3 n (qbh n devices_ current_ x26 m80) v65 v66 v67 x95 x97 v102 = some r) ?_ (fun hk104=>?_)
          · rintro v102 h
            replace h:qd3 n (qbh n devices_ current_ x26 m80) v65 v66 v67 x95 x97 v102 = some r:=h
            unfold qd3 at h
            refine qao rfl (fun hc103=>?_) (fun hc103=>?_)
            · have h:=qbn h hc103
              refine qa1 ?_
              refine qa0 hτ rfl rfl rfl ?_
              refine qa0 hτ rfl rfl rfl ?_
              refine qa0 hτ rfl rfl rfl ?_
              refine qa0 hτ rfl rfl rfl ?_
              refine qa3 ?_
              refine qa7 (qa2 [0] (l:=[(1,.d (.sl false (devices_.map qa9))),(3,.d (.fl .f32 current_)),(13,.d (.int .i64 x95)),(14,.d (.fl .f32 x97.1)),(28,.row 0 x26.1.length 0 x26.1.length),(29,.d (.int .i64 (x26.1.length:Int))),(30,.d (.int .i64 v67))]) (objs:=[.row 1 (x26.1.map qac)]) rfl (by simp) rfl (by trivial) ⟨rfl,trivial,rfl,trivial,rfl,trivial,rfl,trivial,rfl,trivial,rfl,trivial,rfl,trivial,trivial⟩) ?_
              exact hk94 (x95,x97.1) h
            · have h:=qbm h hc103
              refine qap ?_
              refine qa7 (qa2 [0] (l:=[(1,.d (.sl false (devices_.map qa9))),(3,.d (.fl .f32 current_)),(13,.d (.int .i64 v65)),(14,.d (.fl .f32 v66)),(28,.row 0 x26.1.length 0 x26.1.length),(29,.d (.int .i64 (x26.1.length:Int))),(30,.d (.int .i64 v67))]) (objs:=[.row 1 (x26.1.map qac)]) rfl (by simp) rfl (by trivial) ⟨rfl,trivial,rfl,trivial,rfl,trivial,rfl,trivial,rfl,trivial,rfl,trivial,rfl,trivial,trivial⟩) ?_
              exact hk94 (v65,v66) h
          · refine qa5 ?_
            refine qa1 ?_
            refine qa0 hτ rfl rfl rfl ?_
            refine qa0 hτ rfl rfl rfl ?_
            refine qb4 44 rfl (fun hb105=>?_) (fun hb105=>?_)
            · have h:=qbn h hb105
              refine qa0 hτ rfl rfl rfl ?_
              refine qa0 hτ rfl rfl rfl ?_
              refine qa0 hτ rfl rfl rfl ?_
              refine qb4 47 rfl (fun hb106=>?_) (fun hb106=>?_)
              · have h:=if_t h hb106
                refine qa6 rfl rfl ?_
                refine qa6 rfl rfl ?_
                refine qa6 rfl rfl ?_
                refine qa0 hτ rfl rfl rfl ?_
                refine qat (qa2 [0] (l:=[(1,.d (.sl false (devices_.map qa9))),(3,.d (.fl .f32 current_)),(13,.d (.int .i64 v65)),(14,.d (.fl .f32 v66)),(16,.d (.int .i64 x95)),(17,.d (.fl .f32 x97.1)),(28,.row 0 x26.1.length 0 x26.1.length),(29,.d (.int .i64 (x26.1.length:Int))),(30,.d (.int .i64 v67)),(44,.d (.bool true)),(51,.d (.bool true))]) (objs:=[.row 1 (x26.1.map qac)]) rfl (by simp) rfl (by trivial) ⟨rfl,trivial,rfl,trivial,rfl,trivial,rfl,trivial,rfl,trivial,rfl,trivial,rfl,trivial,rfl,trivial,rfl,trivial,rfl,trivial,rfl,trivial,trivial⟩) ?_
                refine qa0 hτ rfl rfl rfl ?_
                refine qa3 ?_
                refine qa7 (qa2 [0] (l:=[(1,.d (.sl false (devices_.map qa9))),(3,.d (.fl .f32 current_)),(13,.d (.int .i64 v65)),(14,.d (.fl .f32 v66)),(16,.d (.int .i64 x95)),(17,.d (.fl .f32 x97.1)),(28,.row 0 x26.1.length 0 x26.1.length),(29,.d (.int .i64 (x26.1.length:Int))),(30,.d (.int .i64 v67)),(52,.d (.bool true))]) (objs:=[.row 1 (x26.1.map qac)]) rfl (by simp) rfl (by trivial) ⟨rfl,trivial,rfl,trivial,rfl,trivial,rfl,trivial,rfl,trivial,rfl,trivial,rfl,trivial,rfl,trivial,rfl,trivial,rfl,trivial,trivial⟩) ?_
                exact hk104 true h
              · have h:=if_f h hb106
                refine qa0 hτ rfl rfl rfl ?_
                refine qa0 hτ rfl rfl rfl ?_
                refine qa0 hτ rfl rfl rfl ?_
                refine qa0 hτ rfl rfl rfl ?_
                refine qat (qa2 [0] (l:=[(1,.d (.sl false (devices_.map qa9))),(3,.d (.fl .f32 current_)),(13,.d (.int .i64 v65)),(14,.d (.fl .f32 v66)),(16,.d (.int .i64 x95)),(17,.d (.fl .f32 x97.1)),(28,.row 0 x26.1.length 0 x26.1.length),(29,.d (.int .i64 (x26.1.length:Int))),(30,.d (.int .i64 v67)),(44,.d (.bool true)),(51,.d (.bool (fcmp .leq .f32 x97.1 v66)))]) (objs:=[.row 1 (x26.1.map qac)]) rfl (by simp) rfl (by trivial) ⟨rfl,trivial,rfl,trivial,rfl,trivial,rfl,trivial,rfl,trivial,rfl,trivial,rfl,trivial,rfl,trivial,rfl,trivial,rfl,trivial,rfl,trivial,trivial⟩) ?_
                refine qa0 hτ rfl rfl rfl ?_
                refine qa3 ?_
                refine qa7 (qa2 [0] (l:=[(1,.d (.sl false (devices_.map qa9))),(3,.d (.fl .f32 current_)),(13,.d (.int .i64 v65)),(14,.d (.fl .f32 v66)),(16,.d (.int .i64 x95)),(17,.d (.fl .f32 x97.1)),(28,.row 0 x26.1.length 0 x26.1.length),(29,.d (.int .i64 (x26.1.length:Int))),(30,.d (.int .i64 v67)),(52,.d (.bool (fcmp .leq .f32 x97.1 v66)))]) (objs:=[.row 1 (x26.1.map qac)]) rfl (by simp) rfl (by trivial) ⟨rfl,trivial,rfl,trivial,rfl,trivial,rfl,trivial,rfl,trivial,rfl,trivial,rfl,trivial,rfl,trivial,rfl,trivial,rfl,trivial,trivial⟩) ?_
                exact hk104 (fcmp .leq .f32 x97.1 v66) h
            · have h:=qbm h hb105
              refine qa6 rfl rfl ?_
              refine qa6 rfl rfl ?_
              refine qa6 rfl rfl ?_
              refine qa6 rfl rfl ?_
              refine qa6 rfl rfl ?_
              refine qa6 rfl rfl ?_
              refine qa6 rfl rfl ?_
              refine qat (qa2 [0] (l:=[(1,.d (.sl false (devices_.map qa9))),(3,.d (.fl .f32 current_)),(13,.d (.int .i64 v65)),(14,.d (.fl .f32 v66)),(16,.d (.int .i64 x95)),(17,.d (.fl .f32 x97.1)),(28,.row 0 x26.1.length 0 x26.1.length),(29,.d (.int .i64 (x26.1.length:Int))),(30,.d (.int .i64 v67)),(44,.d (.bool false)),(51,.und)]) (objs:=[.row 1 (x26.1.map qac)]) rfl (by simp) rfl (by trivial) ⟨rfl,trivial,rfl,trivial,rfl,trivial,rfl,trivial,rfl,trivial,rfl,trivial,rfl,trivial,rfl,trivial,rfl,trivial,rfl,trivial,rfl,trivial,trivial⟩) ?_
              refine qa0 hτ rfl rfl rfl ?_
              refine qa3 ?_
              refine qa7 (qa2 [0] (l:=[(1,.d (.sl false (devices_.map qa9))),(3,.d (.fl .f32 current_)),(13,.d (.int .i64 v65)),(14,.d (.fl .f32 v66)),(16,.d (.int .i64 x95)),(17,.d (.fl .f32 x97.1)),(28,.row 0 x26.1.length 0 x26.1.length),(29,.d (.int .i64 (x26.1.length:Int))),(30,.d (.int .i64 v67)),(52,.d (.bool false))]) (objs:=[.row 1 (x26.1.map qac)]) rfl (by simp) rfl (by trivial) ⟨rfl,trivial,rfl,trivial,rfl,trivial,rfl,trivial,rfl,trivial,rfl,trivial,rfl,trivial,rfl,trivial,rfl,trivial,rfl,trivial,trivial⟩) ?_
              exact hk104 false h
      · have h:=if_f h hc82
        refine qcr ?_
        refine qa7 (qa2 [] (l:=[(13,.d (.int .i64 v65)),(14,.d (.fl .f32 v66))]) (objs:=[]) rfl (by simp) rfl (by trivial) ⟨rfl,trivial,rfl,trivial,trivial⟩) ?_
        exact hk55 (v65,v66) h
theorem impl_FirstTrip_ok_fr (n:Nat) (f_:qax) (devices_:List qas) (bus_:Int) (current_:Nat) {r:Int × Nat × Bool} (h:qgi n f_ devices_ bus_ current_ = some r):qb9 prog true 24 [.agg [.d (.cx .f32 f_.Source.A.re f_.Source.A.im),.d (.cx .f32 f_.Source.B.re f_.Source.B.im),.d (.cx .f32 f_.Source.C.re f_.Source.C.im),.d (.sl false (f_.qaf.map qai))],.d (.sl false (devices_.map qa9)),.d (.int .i64 bus_),.d (.fl .f32 current_)] [] (fun v o new=>v = .tup [.d (.int .i64 r.1),.d (.fl .f32 r.2.1),.d (.bool r.2.2)]∧o = []∧new = []):=impl_FirstTrip_ok_fr0 true n f_ devices_ bus_ current_ h
def qf9 (n:Nat) (n_:Int) (low_:Int) (high_:Int):Option Bool :=
  if n_ ≥ low_ then
    some (decide (n_ ≤ high_))
  else
    some false
theorem spec_l00In_ok_fr0 (fr:Bool) (n:Nat) (n_:Int) (low_:Int) (high_:Int) {r:Bool} (h:qf9 n n_ low_ high_ = some r):qb9 prog fr 101 [.d (.int .i64 n_),.d (.int .i64 low_),.d (.int .i64 high_)] [] (fun v o new=>v = .d (.bool r)∧o = []∧new = []):=by
  refine qak hτ func101 rfl (by simp) (by simp) ?_
  unfold qf9 at h
  refine qa5 ?_
  refine qa1 ?_
  refine qa0 hτ rfl rfl rfl ?_
  refine qa3 ?_
  refine qa5 ?_
  refine qa1 ?_
  refine qa0 hτ rfl rfl rfl ?_
  refine qa0 hτ rfl rfl rfl ?_
  refine qa0 hτ rfl rfl rfl ?_
  refine qa0 hτ rfl rfl rfl ?_
  refine qb4 10 rfl (fun hb3=>?_) (fun hb3=>?_)
  · have h:=if_t h hb3
    refine qa0 hτ rfl rfl rfl ?_
    refine qa0 hτ rfl rfl rfl ?_
    refine qa0 hτ rfl rfl rfl ?_
    refine qa0 hτ rfl rfl rfl ?_
    refine qa0 hτ rfl rfl rfl ?_
    refine qa3 ?_
    refine qa7 (qa2 [] (l:=[(6,.d (.bool (decide (n_ ≤ high_))))]) (objs:=[]) rfl (by simp) rfl (by trivial) ⟨rfl,trivial,trivial⟩) ?_
    refine qar ?_
    have hr:=Option.some.inj h
    subst hr
    exact qah (.inr rfl) [] (objs':=[]) (new:=[]) rfl (by simp) (by simp) rfl (by trivial) rfl rfl (by trivial) (fun _=>⟨by simp [V.flat,V.qbk,V.qbf,D.flat],qal⟩) ⟨rfl,rfl,rfl⟩
  · have h:=if_f h hb3
    refine qa6 rfl rfl ?_
    refine qa6 rfl rfl ?_
    refine qa6 rfl rfl ?_
    refine qa0 hτ rfl rfl rfl ?_
    refine qa0 hτ rfl rfl rfl ?_
    refine qa3 ?_
    refine qa7 (qa2 [] (l:=[(6,.d (.bool false))]) (objs:=[]) rfl (by simp) rfl (by trivial) ⟨rfl,trivial,trivial⟩) ?_
    refine qar ?_
    have hr:=Option.some.inj h
    subst hr
    exact qah (.inr rfl) [] (objs':=[]) (new:=[]) rfl (by simp) (by simp) rfl (by trivial) rfl rfl (by trivial) (fun _=>⟨by simp [V.flat,V.qbk,V.qbf,D.flat],qal⟩) ⟨rfl,rfl,rfl⟩
theorem qks (n:Nat) (n_:Int) (low_:Int) (high_:Int) {r:Bool} (h:qf9 n n_ low_ high_ = some r):qb9 prog false 101 [.d (.int .i64 n_),.d (.int .i64 low_),.d (.int .i64 high_)] [] (fun v o new=>v = .d (.bool r)∧o = []∧new = []):=spec_l00In_ok_fr0 false n n_ low_ high_ h
def qi0 (n:Nat) (b_:SBus) (index_:Int):Option Bool :=
  if index_ = (0:Int) then
    if b_.qcx = (-1:Int) then
      if (fcmp .eql .f32 b_.Own.re (0:Nat) && fcmp .eql .f32 b_.Own.im (0:Nat)) = true then
        some (fcmp .eql .f32 b_.Shared.re (0:Nat) && fcmp .eql .f32 b_.Shared.im (0:Nat))
      else
        some false
    else
      some false
  else
    (qf9 n b_.qcx (0:Int) (w64 (index_ - (1:Int)))).bind fun x21 =>
    some x21
def qgo (n:Nat) (b_:SBus) (index_:Int) (v27:Bool):Option Bool :=
  if v27 = true then
    some false
  else
    qi0 n b_ index_
def qj2 (n:Nat) (b_:SBus) (index_:Int):Option Bool :=
  (qf9 n b_.Kind (0:Int) (2:Int)).bind fun x30 =>
  if x30 = true then
    (qf9 n b_.qbl (0:Int) (1000000:Int)).bind fun x32 =>
    qgo n b_ index_ (!x32)
  else
    qgo n b_ index_ true
theorem spec_l02Bus_ok_fr0 (fr:Bool) (n:Nat) (b_:SBus) (index_:Int) {r:Bool} (h:qj2 n b_ index_ = some r):qb9 prog fr 99 [.rop [.int .i64 b_.qcx,.cx .f32 b_.Own.re b_.Own.im,.cx .f32 b_.Shared.re b_.Shared.im,.int .i64 b_.Kind,.cx .f32 b_.Load.A.re b_.Load.A.im,.cx .f32 b_.Load.B.re b_.Load.B.im,.cx .f32 b_.Load.C.re b_.Load.C.im,.int .i64 b_.qbl] 0,.d (.int .i64 index_)] [] (fun v o new=>v = .d (.bool r)∧o = []∧new = []):=by
  refine qak hτ func99 rfl (by simp) (by simp) ?_
  unfold qj2 at h
  refine qa5 ?_
  refine qa1 ?_
  refine qa0 hτ rfl rfl rfl ?_
  refine qa3 ?_
  refine qb8 (ι:=Unit) (fun _=>St.of [(0,.rop [.int .i64 b_.qcx,.cx .f32 b_.Own.re b_.Own.im,.cx .f32 b_.Shared.re b_.Shared.im,.int .i64 b_.Kind,.cx .f32 b_.Load.A.re b_.Load.A.im,.cx .f32 b_.Load.B.re b_.Load.B.im,.cx .f32 b_.Load.C.re b_.Load.C.im,.int .i64 b_.qbl] 0),(1,.d (.int .i64 index_))] [] f99.ntmps 0) (fun _=>qi0 n b_ index_ = some r) ?_ (fun hk22=>?_)
  · rintro ⟨⟩ h
    replace h:qi0 n b_ index_ = some r:=h
    unfold qi0 at h
    refine qa5 ?_
    refine qa5 ?_
    refine qa1 ?_
    refine qa0 hτ rfl rfl rfl ?_
    refine qa0 hτ (v:=.d (.bool (decide (index_ = (0:Int))))) rfl rfl (ql2 _ _) ?_
    refine qa3 ?_
    refine qao rfl (fun hc18=>?_) (fun hc18=>?_)
    · have h:=if_t h hc18
      refine qa5 ?_
      refine qa1 ?_
      refine qa0 hτ rfl rfl rfl ?_
      refine qa0 hτ rfl rfl rfl ?_
      refine qa0 hτ rfl rfl rfl ?_
      refine qa0 hτ rfl rfl rfl ?_
      refine qa0 hτ (v:=.d (.bool (decide (b_.qcx = (-1:Int))))) rfl rfl (ql2 _ _) ?_
      refine qa0 hτ rfl rfl rfl ?_
      refine qb4 26 rfl (fun hb19=>?_) (fun hb19=>?_)
      · have h:=if_t h hb19
        refine qa0 hτ rfl rfl rfl ?_
        refine qa0 hτ rfl rfl rfl ?_
        refine qa0 hτ rfl rfl rfl ?_
        refine qa0 hτ rfl rfl rfl ?_
        refine qat (qa2 [] (l:=[(0,.rop [.int .i64 b_.qcx,.cx .f32 b_.Own.re b_.Own.im,.cx .f32 b_.Shared.re b_.Shared.im,.int .i64 b_.Kind,.cx .f32 b_.Load.A.re b_.Load.A.im,.cx .f32 b_.Load.B.re b_.Load.B.im,.cx .f32 b_.Load.C.re b_.Load.C.im,.int .i64 b_.qbl] 0),(26,.d (.bool true)),(30,.d (.cx .f32 b_.Own.re b_.Own.im))]) (objs:=[]) rfl (by simp) rfl (by trivial) ⟨rfl,trivial,rfl,trivial,rfl,trivial,trivial⟩) ?_
        refine qa0 hτ rfl rfl rfl ?_
        refine qa0 hτ rfl rfl rfl ?_
        refine qa0 hτ rfl rfl rfl ?_
        refine qb4 33 rfl (fun hb20=>?_) (fun hb20=>?_)
        · have h:=qbn h hb20
          refine qa0 hτ rfl rfl rfl ?_
          refine qa0 hτ rfl rfl rfl ?_
          refine qa0 hτ rfl rfl rfl ?_
          refine qa0 hτ rfl rfl rfl ?_
          refine qa0 hτ rfl rfl rfl ?_
          refine qa0 hτ rfl rfl rfl ?_
          refine qa0 hτ rfl rfl rfl ?_
          refine qa3 ?_
          refine qa7 (qa2 [] (l:=[(4,.d (.bool (fcmp .eql .f32 b_.Shared.re (0:Nat) && fcmp .eql .f32 b_.Shared.im (0:Nat))))]) (objs:=[]) rfl (by simp) rfl (by trivial) ⟨rfl,trivial,trivial⟩) ?_
          refine qar ?_
          have hr:=Option.some.inj h
          subst hr
          exact qah (.inr rfl) [] (objs':=[]) (new:=[]) rfl (by simp) (by simp) rfl (by trivial) rfl rfl (by trivial) (fun _=>⟨by simp [V.flat,V.qbk,V.qbf,D.flat],qal⟩) ⟨rfl,rfl,rfl⟩
        · have h:=qbm h hb20
          refine qa6 rfl rfl ?_
          refine qa6 rfl rfl ?_
          refine qa6 rfl rfl ?_
          refine qa6 rfl rfl ?_
          refine qa6 rfl rfl ?_
          refine qa0 hτ rfl rfl rfl ?_
          refine qa0 hτ rfl rfl rfl ?_
          refine qa3 ?_
          refine qa7 (qa2 [] (l:=[(4,.d (.bool false))]) (objs:=[]) rfl (by simp) rfl (by trivial) ⟨rfl,trivial,trivial⟩) ?_
          refine qar ?_
          have hr:=Option.some.inj h
          subst hr
          exact qah (.inr rfl) [] (objs':=[]) (new:=[]) rfl (by simp) (by simp) rfl (by trivial) rfl rfl (by trivial) (fun _=>⟨by simp [V.flat,V.qbk,V.qbf,D.flat],qal⟩) ⟨rfl,rfl,rfl⟩
      · have h:=if_f h hb19
        refine qa6 rfl rfl ?_
        refine qa6 rfl rfl ?_
        refine qa6 rfl rfl ?_
        refine qa6 rfl rfl ?_
        refine qat (qa2 [] (l:=[(0,.rop [.int .i64 b_.qcx,.cx .f32 b_.Own.re b_.Own.im,.cx .f32 b_.Shared.re b_.Shared.im,.int .i64 b_.Kind,.cx .f32 b_.Load.A.re b_.Load.A.im,.cx .f32 b_.Load.B.re b_.Load.B.im,.cx .f32 b_.Load.C.re b_.Load.C.im,.int .i64 b_.qbl] 0),(26,.d (.bool false)),(30,.und)]) (objs:=[]) rfl (by simp) rfl (by trivial) ⟨rfl,trivial,rfl,trivial,rfl,trivial,trivial⟩) ?_
        refine qa6 rfl rfl ?_
        refine qa0 hτ rfl rfl rfl ?_
        refine qa0 hτ rfl rfl rfl ?_
        refine qa6 rfl rfl ?_
        refine qa6 rfl rfl ?_
        refine qa6 rfl rfl ?_
        refine qa6 rfl rfl ?_
        refine qa6 rfl rfl ?_
        refine qa0 hτ rfl rfl rfl ?_
        refine qa0 hτ rfl rfl rfl ?_
        refine qa3 ?_
        refine qa7 (qa2 [] (l:=[(4,.d (.bool false))]) (objs:=[]) rfl (by simp) rfl (by trivial) ⟨rfl,trivial,trivial⟩) ?_
        refine qar ?_
        have hr:=Option.some.inj h
        subst hr
        exact qah (.inr rfl) [] (objs':=[]) (new:=[]) rfl (by simp) (by simp) rfl (by trivial) rfl rfl (by trivial) (fun _=>⟨by simp [V.flat,V.qbk,V.qbf,D.flat],qal⟩) ⟨rfl,rfl,rfl⟩
    · have h:=if_f h hc18
      refine qap ?_
      refine qa5 ?_
      refine qa1 ?_
      refine qa0 hτ rfl rfl rfl ?_
      refine qa0 hτ rfl rfl rfl ?_
      refine qa0 hτ rfl rfl rfl ?_
      refine qa0 hτ rfl rfl rfl ?_
      refine qa0 hτ rfl rfl rfl ?_
      refine qa0 hτ rfl rfl rfl ?_
      refine qaa h fun x21 hx21 h=>?_
      refine qag hτ false [] rfl rfl rfl (qaj func101 rfl rfl) rfl rfl (by simp) ⟨trivial,trivial,trivial,trivial⟩ (by trivial) (qks n b_.qcx (0:Int) (w64 (index_ - (1:Int))) hx21) ?_
      rintro r0 o0 n0 ⟨rfl,rfl,rfl⟩ -
      refine qa0 hτ rfl rfl rfl ?_
      refine qa3 ?_
      refine qa7 (qa2 [] (l:=[(4,.d (.bool x21))]) (objs:=[]) rfl (by simp) rfl (by trivial) ⟨rfl,trivial,trivial⟩) ?_
      refine qar ?_
      have hr:=Option.some.inj h
      subst hr
      exact qah (.inr rfl) [] (objs':=[]) (new:=[]) rfl (by simp) (by simp) rfl (by trivial) rfl rfl (by trivial) (fun _=>⟨by simp [V.flat,V.qbk,V.qbf,D.flat],qal⟩) ⟨rfl,rfl,rfl⟩
  · refine qa5 ?_
    refine qb8 (ι:=Bool) (fun v27=>St.of [(0,.rop [.int .i64 b_.qcx,.cx .f32 b_.Own.re b_.Own.im,.cx .f32 b_.Shared.re b_.Shared.im,.int .i64 b_.Kind,.cx .f32 b_.Load.A.re b_.Load.A.im,.cx .f32 b_.Load.B.re b_.Load.B.im,.cx .f32 b_.Load.C.re b_.Load.C.im,.int .i64 b_.qbl] 0),(1,.d (.int .i64 index_)),(18,.d (.bool v27))] [] f99.ntmps 0) (fun v27=>qgo n b_ index_ v27 = some r) ?_ (fun hk29=>?_)
    · rintro v27 h
      replace h:qgo n b_ index_ v27 = some r:=h
      unfold qgo at h
      refine qao rfl (fun hc28=>?_) (fun hc28=>?_)
      · have h:=qbn h hc28
        refine qa5 ?_
        refine qa1 ?_
        refine qa0 hτ rfl rfl rfl ?_
        refine qa3 ?_
        refine qa7 (qa2 [] (l:=[(4,.d (.bool false))]) (objs:=[]) rfl (by simp) rfl (by trivial) ⟨rfl,trivial,trivial⟩) ?_
        refine qar ?_
        have hr:=Option.some.inj h
        subst hr
        exact qah (.inr rfl) [] (objs':=[]) (new:=[]) rfl (by simp) (by simp) rfl (by trivial) rfl rfl (by trivial) (fun _=>⟨by simp [V.flat,V.qbk,V.qbf,D.flat],qal⟩) ⟨rfl,rfl,rfl⟩
      · have h:=qbm h hc28
        refine qap ?_
        refine qa7 (qa2 [] (l:=[(0,.rop [.int .i64 b_.qcx,.cx .f32 b_.Own.re b_.Own.im,.cx .f32 b_.Shared.re b_.Shared.im,.int .i64 b_.Kind,.cx .f32 b_.Load.A.re b_.Load.A.im,.cx .f32 b_.Load.B.re b_.Load.B.im,.cx .f32 b_.Load.C.re b_.Load.C.im,.int .i64 b_.qbl] 0),(1,.d (.int .i64 index_))]) (objs:=[]) rfl (by simp) rfl (by trivial) ⟨rfl,trivial,rfl,trivial,trivial⟩) ?_
        exact hk22 () h
    · refine qa5 ?_
      refine qa1 ?_
      refine qa0 hτ rfl rfl rfl ?_
      refine qa0 hτ rfl rfl rfl ?_
      refine qa0 hτ rfl rfl rfl ?_
      refine qa0 hτ rfl rfl rfl ?_
      refine qaa h fun x30 hx30 h=>?_
      refine qag hτ false [] rfl rfl rfl (qaj func101 rfl rfl) rfl rfl (by simp) ⟨trivial,trivial,trivial,trivial⟩ (by trivial) (qks n b_.Kind (0:Int) (2:Int) hx30) ?_
      rintro r0 o0 n0 ⟨rfl,rfl,rfl⟩ -
      refine qa0 hτ rfl rfl rfl ?_
      refine qa0 hτ rfl rfl rfl ?_
      refine qb4 11 rfl (fun hb31=>?_) (fun hb31=>?_)
      · have hb31:=qgh hb31
        have h:=qbm h hb31
        refine qa6 rfl rfl ?_
        refine qa6 rfl rfl ?_
        refine qa6 rfl rfl ?_
        refine qa6 rfl rfl ?_
        refine qat (qa2 [] (l:=[(0,.rop [.int .i64 b_.qcx,.cx .f32 b_.Own.re b_.Own.im,.cx .f32 b_.Shared.re b_.Shared.im,.int .i64 b_.Kind,.cx .f32 b_.Load.A.re b_.Load.A.im,.cx .f32 b_.Load.B.re b_.Load.B.im,.cx .f32 b_.Load.C.re b_.Load.C.im,.int .i64 b_.qbl] 0),(1,.d (.int .i64 index_)),(11,.d (.bool true)),(15,.und)]) (objs:=[]) rfl (by simp) rfl (by trivial) ⟨rfl,trivial,rfl,trivial,rfl,trivial,rfl,trivial,trivial⟩) ?_
        refine qa6 rfl rfl ?_
        refine qa6 rfl rfl ?_
        refine qa0 hτ rfl rfl rfl ?_
        refine qa3 ?_
        refine qa7 (qa2 [] (l:=[(0,.rop [.int .i64 b_.qcx,.cx .f32 b_.Own.re b_.Own.im,.cx .f32 b_.Shared.re b_.Shared.im,.int .i64 b_.Kind,.cx .f32 b_.Load.A.re b_.Load.A.im,.cx .f32 b_.Load.B.re b_.Load.B.im,.cx .f32 b_.Load.C.re b_.Load.C.im,.int .i64 b_.qbl] 0),(1,.d (.int .i64 index_)),(18,.d (.bool true))]) (objs:=[]) rfl (by simp) rfl (by trivial) ⟨rfl,trivial,rfl,trivial,rfl,trivial,trivial⟩) ?_
        exact hk29 true h
      · have hb31:=qgg hb31
        have h:=qbn h hb31
        refine qa0 hτ rfl rfl rfl ?_
        refine qa0 hτ rfl rfl rfl ?_
        refine qa0 hτ rfl rfl rfl ?_
        refine qa0 hτ rfl rfl rfl ?_
        refine qat (qa2 [] (l:=[(0,.rop [.int .i64 b_.qcx,.cx .f32 b_.Own.re b_.Own.im,.cx .f32 b_.Shared.re b_.Shared.im,.int .i64 b_.Kind,.cx .f32 b_.Load.A.re b_.Load.A.im,.cx .f32 b_.Load.B.re b_.Load.B.im,.cx .f32 b_.Load.C.re b_.Load.C.im,.int .i64 b_.qbl] 0),(1,.d (.int .i64 index_)),(11,.d (.bool false)),(15,.d (.int .i64 b_.qbl))]) (objs:=[]) rfl (by simp) rfl (by trivial) ⟨rfl,trivial,rfl,trivial,rfl,trivial,rfl,trivial,trivial⟩) ?_
        refine qaa h fun x32 hx32 h=>?_
        refine qag hτ false [] rfl rfl rfl (qaj func101 rfl rfl) rfl rfl (by simp) ⟨trivial,trivial,trivial,trivial⟩ (by trivial) (qks n b_.qbl (0:Int) (1000000:Int) hx32) ?_
        rintro r0 o0 n0 ⟨rfl,rfl,rfl⟩ -
        refine qa0 hτ rfl rfl rfl ?_
        refine qa0 hτ rfl rfl rfl ?_
        refine qa3 ?_
        refine qa7 (qa2 [] (l:=[(0,.rop [.int .i64 b_.qcx,.cx .f32 b_.Own.re b_.Own.im,.cx .f32 b_.Shared.re b_.Shared.im,.int .i64 b_.Kind,.cx .f32 b_.Load.A.re b_.Load.A.im,.cx .f32 b_.Load.B.re b_.Load.B.im,.cx .f32 b_.Load.C.re b_.Load.C.im,.int .i64 b_.qbl] 0),(1,.d (.int .i64 index_)),(18,.d (.bool (!x32)))]) (objs:=[]) rfl (by simp) rfl (by trivial) ⟨rfl,trivial,rfl,trivial,rfl,trivial,trivial⟩) ?_
        exact hk29 (!x32) h
theorem spec_l02Bus_ok (n:Nat) (b_:SBus) (index_:Int) {r:Bool} (h:qj2 n b_ index_ = some r):qb9 prog false 99 [.rop [.int .i64 b_.qcx,.cx .f32 b_.Own.re b_.Own.im,.cx .f32 b_.Shared.re b_.Shared.im,.int .i64 b_.Kind,.cx .f32 b_.Load.A.re b_.Load.A.im,.cx .f32 b_.Load.B.re b_.Load.B.im,.cx .f32 b_.Load.C.re b_.Load.C.im,.int .i64 b_.qbl] 0,.d (.int .i64 index_)] [] (fun v o new=>v = .d (.bool r)∧o = []∧new = []):=spec_l02Bus_ok_fr0 false n b_ index_ h
def qfe (n:Nat) (f_:qax):Nat→Int→Option Bool
  | 0,_=>none
  | m17 + 1,v13 =>
    if v13 < (f_.qaf.length:Int) then
      (getI f_.qaf v13).bind fun x22 =>
      (qj2 n x22 v13).bind fun x23 =>
      if x23 = true then
        (qfe n f_ m17) (w64 (v13 + (1:Int)))
      else
        some false
    else
      some true
def qim (n:Nat) (f_:qax):Option Bool :=
  qfe n f_ n (0:Int)
def qhi (n:Nat) (f_:qax) (v28:Bool):Option Bool :=
  if v28 = true then
    some false
  else
    qim n f_
def qke (n:Nat) (f_:qax):Option Bool :=
  if (f_.qaf.length:Int) < (1:Int) then
    qhi n f_ true
  else
    qhi n f_ (decide ((f_.qaf.length:Int) > (16:Int)))
theorem spec_l02Is_ok (n:Nat) (f_:qax) {r:Bool} (h:qke n f_ = some r):qb9 prog false 55 [.ptr 0 0] [.box [.d (.cx .f32 f_.Source.A.re f_.Source.A.im),.d (.cx .f32 f_.Source.B.re f_.Source.B.im),.d (.cx .f32 f_.Source.C.re f_.Source.C.im),.d (.sl false (f_.qaf.map qai))]] (fun v o new=>v = .d (.bool r)∧o = [.box [.d (.cx .f32 f_.Source.A.re f_.Source.A.im),.d (.cx .f32 f_.Source.B.re f_.Source.B.im),.d (.cx .f32 f_.Source.C.re f_.Source.C.im),.d (.sl false (f_.qaf.map qai))]]∧new = []):=by
  refine qak hτ func55 rfl (by simp) (by simp) ?_
  unfold qke at h
  refine qa5 ?_
  refine qa1 ?_
  refine qa0 hτ rfl rfl rfl ?_
  refine qa3 ?_
  refine qb8 (ι:=Unit) (fun _=>St.of [(0,.ptr 0 0)] [.box [.d (.cx .f32 f_.Source.A.re f_.Source.A.im),.d (.cx .f32 f_.Source.B.re f_.Source.B.im),.d (.cx .f32 f_.Source.C.re f_.Source.C.im),.d (.sl false (f_.qaf.map qai))]] f55.ntmps 1) (fun _=>qim n f_ = some r) ?_ (fun hk25=>?_)
  · rintro ⟨⟩ h
    replace h:qim n f_ = some r:=h
    unfold qim at h
    refine qa5 ?_
    refine qa5 ?_
    refine qa1 ?_
    refine qa0 hτ rfl rfl rfl ?_
    refine qa3 ?_
    refine qaz ?_
    refine qcs (ι:=Nat × Int) (fun (m17,v13)=>St.of [(0,.ptr 0 0),(3,.d (.int .i64 v13))] [.box [.d (.cx .f32 f_.Source.A.re f_.Source.A.im),.d (.cx .f32 f_.Source.B.re f_.Source.B.im),.d (.cx .f32 f_.Source.C.re f_.Source.C.im),.d (.sl false (f_.qaf.map qai))]] f55.ntmps 1) (fun (m17,v13)=>qfe n f_ m17 v13 = some r) (fun x=>x.1) (n,(0:Int)) h (qa2 [0] (l:=[(0,.ptr 0 0),(3,.d (.int .i64 (0:Int)))]) (objs:=[.box [.d (.cx .f32 f_.Source.A.re f_.Source.A.im),.d (.cx .f32 f_.Source.B.re f_.Source.B.im),.d (.cx .f32 f_.Source.C.re f_.Source.C.im),.d (.sl false (f_.qaf.map qai))]]) rfl (by simp) rfl (by trivial) ⟨rfl,trivial,rfl,trivial,trivial⟩) ?_
    rintro ⟨m17,v13⟩ h
    replace h:qfe n f_ m17 v13 = some r:=h
    rcases m17 with _ | m17
    · rw [qfe] at h;cases h
    rw [qfe] at h
    refine qa5 ?_
    refine qa5 ?_
    refine qa1 ?_
    refine qa0 hτ rfl rfl rfl ?_
    refine qa0 hτ rfl rfl rfl ?_
    refine qa0 hτ rfl rfl rfl ?_
    refine qa0 hτ rfl rfl rfl ?_
    refine qa0 hτ rfl rfl rfl ?_
    refine qa0 hτ (v:=.d (.int .i64 (f_.qaf.length:Int))) rfl rfl (Eq.trans rfl (qdb (f:=qai) f_.qaf)) ?_
    refine qa0 hτ rfl rfl rfl ?_
    refine qa3 ?_
    refine qa7 (qa2 [0] (l:=[(0,.ptr 0 0),(3,.d (.int .i64 v13)),(24,.d (.bool (decide (v13 < (f_.qaf.length:Int)))))]) (objs:=[.box [.d (.cx .f32 f_.Source.A.re f_.Source.A.im),.d (.cx .f32 f_.Source.B.re f_.Source.B.im),.d (.cx .f32 f_.Source.C.re f_.Source.C.im),.d (.sl false (f_.qaf.map qai))]]) rfl (by simp) rfl (by trivial) ⟨rfl,trivial,rfl,trivial,rfl,trivial,trivial⟩) ?_
    refine qao rfl (fun hc19=>?_) (fun hc19=>?_)
    · have h:=if_t h hc19
      refine qap ?_
      refine qa5 ?_
      refine qaz ?_
      refine qa5 ?_
      refine qa1 ?_
      refine qa0 hτ rfl rfl rfl ?_
      refine qa0 hτ rfl rfl rfl ?_
      refine qa0 hτ rfl rfl rfl ?_
      refine qa0 hτ rfl rfl rfl ?_
      refine qa0 hτ rfl rfl rfl ?_
      refine qaa h fun x22 hx22 h=>?_
      refine qbe hτ rfl rfl rfl (qaw hx22).1 (qb5 hx22) rfl ?_
      refine qa0 hτ rfl rfl rfl ?_
      refine qaa h fun x23 hx23 h=>?_
      refine qag hτ false [] rfl rfl rfl (qaj func99 rfl rfl) rfl rfl (by simp) ⟨trivial,trivial,trivial⟩ (by trivial) (spec_l02Bus_ok n x22 v13 hx23) ?_
      rintro r0 o0 n0 ⟨rfl,rfl,rfl⟩ -
      refine qa0 hτ rfl rfl rfl ?_
      refine qa3 ?_
      refine qa7 (qa2 [0] (l:=[(0,.ptr 0 0),(3,.d (.int .i64 v13)),(35,.d (.bool (!x23)))]) (objs:=[.box [.d (.cx .f32 f_.Source.A.re f_.Source.A.im),.d (.cx .f32 f_.Source.B.re f_.Source.B.im),.d (.cx .f32 f_.Source.C.re f_.Source.C.im),.d (.sl false (f_.qaf.map qai))]]) rfl (by simp) rfl (by trivial) ⟨rfl,trivial,rfl,trivial,rfl,trivial,trivial⟩) ?_
      refine qao rfl (fun hc24=>?_) (fun hc24=>?_)
      · have hc24:=qgh hc24
        have h:=qbm h hc24
        refine qa5 ?_
        refine qa1 ?_
        refine qa0 hτ rfl rfl rfl ?_
        refine qa3 ?_
        refine qa7 (qa2 [0] (l:=[(2,.d (.bool false))]) (objs:=[.box [.d (.cx .f32 f_.Source.A.re f_.Source.A.im),.d (.cx .f32 f_.Source.B.re f_.Source.B.im),.d (.cx .f32 f_.Source.C.re f_.Source.C.im),.d (.sl false (f_.qaf.map qai))]]) rfl (by simp) rfl (by trivial) ⟨rfl,trivial,trivial⟩) ?_
        refine qar ?_
        have hr:=Option.some.inj h
        subst hr
        exact qah (.inr rfl) [] (objs':=[.box [.d (.cx .f32 f_.Source.A.re f_.Source.A.im),.d (.cx .f32 f_.Source.B.re f_.Source.B.im),.d (.cx .f32 f_.Source.C.re f_.Source.C.im),.d (.sl false (f_.qaf.map qai))]]) (new:=[]) rfl (by simp) (by simp) rfl (by trivial) rfl rfl (by trivial) (fun h=>nomatch h) ⟨rfl,rfl,rfl⟩
      · have hc24:=qgg hc24
        have h:=qbn h hc24
        refine qap ?_
        refine qa1 ?_
        refine qa0 hτ rfl rfl rfl ?_
        refine qa0 hτ rfl rfl rfl ?_
        refine qa0 hτ rfl rfl rfl ?_
        refine qa3 ?_
        exact ⟨(m17,(w64 (v13 + (1:Int)))),h,Nat.lt_succ_self m17,(qa2 [0] (l:=[(0,.ptr 0 0),(3,.d (.int .i64 (w64 (v13 + (1:Int)))))]) (objs:=[.box [.d (.cx .f32 f_.Source.A.re f_.Source.A.im),.d (.cx .f32 f_.Source.B.re f_.Source.B.im),.d (.cx .f32 f_.Source.C.re f_.Source.C.im),.d (.sl false (f_.qaf.map qai))]]) rfl (by simp) rfl (by trivial) ⟨rfl,trivial,rfl,trivial,trivial⟩)⟩
    · have h:=if_f h hc19
      refine qcr ?_
      refine qa5 ?_
      refine qa1 ?_
      refine qa0 hτ rfl rfl rfl ?_
      refine qa3 ?_
      refine qa7 (qa2 [0] (l:=[(2,.d (.bool true))]) (objs:=[.box [.d (.cx .f32 f_.Source.A.re f_.Source.A.im),.d (.cx .f32 f_.Source.B.re f_.Source.B.im),.d (.cx .f32 f_.Source.C.re f_.Source.C.im),.d (.sl false (f_.qaf.map qai))]]) rfl (by simp) rfl (by trivial) ⟨rfl,trivial,trivial⟩) ?_
      refine qar ?_
      have hr:=Option.some.inj h
      subst hr
      exact qah (.inr rfl) [] (objs':=[.box [.d (.cx .f32 f_.Source.A.re f_.Source.A.im),.d (.cx .f32 f_.Source.B.re f_.Source.B.im),.d (.cx .f32 f_.Source.C.re f_.Source.C.im),.d (.sl false (f_.qaf.map qai))]]) (new:=[]) rfl (by simp) (by simp) rfl (by trivial) rfl rfl (by trivial) (fun h=>nomatch h) ⟨rfl,rfl,rfl⟩
  · refine qa5 ?_
    refine qb8 (ι:=Bool) (fun v28=>St.of [(0,.ptr 0 0),(17,.d (.bool v28))] [.box [.d (.cx .f32 f_.Source.A.re f_.Source.A.im),.d (.cx .f32 f_.Source.B.re f_.Source.B.im),.d (.cx .f32 f_.Source.C.re f_.Source.C.im),.d (.sl false (f_.qaf.map qai))]] f55.ntmps 1) (fun v28=>qhi n f_ v28 = some r) ?_ (fun hk30=>?_)
    · rintro v28 h
      replace h:qhi n f_ v28 = some r:=h
      unfold qhi at h
      refine qao rfl (fun hc29=>?_) (fun hc29=>?_)
      · have h:=qbn h hc29
        refine qa5 ?_
        refine qa1 ?_
        refine qa0 hτ rfl rfl rfl ?_
        refine qa3 ?_
        refine qa7 (qa2 [0] (l:=[(2,.d (.bool false))]) (objs:=[.box [.d (.cx .f32 f_.Source.A.re f_.Source.A.im),.d (.cx .f32 f_.Source.B.re f_.Source.B.im),.d (.cx .f32 f_.Source.C.re f_.Source.C.im),.d (.sl false (f_.qaf.map qai))]]) rfl (by simp) rfl (by trivial) ⟨rfl,trivial,trivial⟩) ?_
        refine qar ?_
        have hr:=Option.some.inj h
        subst hr
        exact qah (.inr rfl) [] (objs':=[.box [.d (.cx .f32 f_.Source.A.re f_.Source.A.im),.d (.cx .f32 f_.Source.B.re f_.Source.B.im),.d (.cx .f32 f_.Source.C.re f_.Source.C.im),.d (.sl false (f_.qaf.map qai))]]) (new:=[]) rfl (by simp) (by simp) rfl (by trivial) rfl rfl (by trivial) (fun h=>nomatch h) ⟨rfl,rfl,rfl⟩
      · have h:=qbm h hc29
        refine qap ?_
        refine qa7 (qa2 [0] (l:=[(0,.ptr 0 0)]) (objs:=[.box [.d (.cx .f32 f_.Source.A.re f_.Source.A.im),.d (.cx .f32 f_.Source.B.re f_.Source.B.im),.d (.cx .f32 f_.Source.C.re f_.Source.C.im),.d (.sl false (f_.qaf.map qai))]]) rfl (by simp) rfl (by trivial) ⟨rfl,trivial,trivial⟩) ?_
        exact hk25 () h
    · refine qa5 ?_
      refine qa1 ?_
      refine qa0 hτ rfl rfl rfl ?_
      refine qa0 hτ rfl rfl rfl ?_
      refine qa0 hτ rfl rfl rfl ?_
      refine qa0 hτ rfl rfl rfl ?_
      refine qa0 hτ (v:=.d (.int .i64 (f_.qaf.length:Int))) rfl rfl (Eq.trans rfl (qdb (f:=qai) f_.qaf)) ?_
      refine qa0 hτ rfl rfl rfl ?_
      refine qa0 hτ rfl rfl rfl ?_
      refine qb4 10 rfl (fun hb31=>?_) (fun hb31=>?_)
      · have h:=if_t h hb31
        refine qa6 rfl rfl ?_
        refine qa6 rfl rfl ?_
        refine qa6 rfl rfl ?_
        refine qa6 rfl rfl ?_
        refine qat (qa2 [0] (l:=[(0,.ptr 0 0),(10,.d (.bool true)),(14,.und)]) (objs:=[.box [.d (.cx .f32 f_.Source.A.re f_.Source.A.im),.d (.cx .f32 f_.Source.B.re f_.Source.B.im),.d (.cx .f32 f_.Source.C.re f_.Source.C.im),.d (.sl false (f_.qaf.map qai))]]) rfl (by simp) rfl (by trivial) ⟨rfl,trivial,rfl,trivial,rfl,trivial,trivial⟩) ?_
        refine qa6 rfl rfl ?_
        refine qa6 rfl rfl ?_
        refine qa0 hτ rfl rfl rfl ?_
        refine qa3 ?_
        refine qa7 (qa2 [0] (l:=[(0,.ptr 0 0),(17,.d (.bool true))]) (objs:=[.box [.d (.cx .f32 f_.Source.A.re f_.Source.A.im),.d (.cx .f32 f_.Source.B.re f_.Source.B.im),.d (.cx .f32 f_.Source.C.re f_.Source.C.im),.d (.sl false (f_.qaf.map qai))]]) rfl (by simp) rfl (by trivial) ⟨rfl,trivial,rfl,trivial,trivial⟩) ?_
        exact hk30 true h
      · have h:=if_f h hb31
        refine qa0 hτ rfl rfl rfl ?_
        refine qa0 hτ rfl rfl rfl ?_
        refine qa0 hτ rfl rfl rfl ?_
        refine qa0 hτ rfl rfl rfl ?_
        refine qat (qa2 [0] (l:=[(0,.ptr 0 0),(10,.d (.bool false)),(14,.d (.sl false (f_.qaf.map qai)))]) (objs:=[.box [.d (.cx .f32 f_.Source.A.re f_.Source.A.im),.d (.cx .f32 f_.Source.B.re f_.Source.B.im),.d (.cx .f32 f_.Source.C.re f_.Source.C.im),.d (.sl false (f_.qaf.map qai))]]) rfl (by simp) rfl (by trivial) ⟨rfl,trivial,rfl,trivial,rfl,trivial,trivial⟩) ?_
        refine qa0 hτ (v:=.d (.int .i64 (f_.qaf.length:Int))) rfl rfl (Eq.trans rfl (qdb (f:=qai) f_.qaf)) ?_
        refine qa0 hτ rfl rfl rfl ?_
        refine qa0 hτ rfl rfl rfl ?_
        refine qa3 ?_
        refine qa7 (qa2 [0] (l:=[(0,.ptr 0 0),(17,.d (.bool (decide ((f_.qaf.length:Int) > (16:Int)))))]) (objs:=[.box [.d (.cx .f32 f_.Source.A.re f_.Source.A.im),.d (.cx .f32 f_.Source.B.re f_.Source.B.im),.d (.cx .f32 f_.Source.C.re f_.Source.C.im),.d (.sl false (f_.qaf.map qai))]]) rfl (by simp) rfl (by trivial) ⟨rfl,trivial,rfl,trivial,trivial⟩) ?_
        exact hk30 (decide ((f_.qaf.length:Int) > (16:Int))) h
def qhy (n:Nat) (x_:Nat):Option Bool :=
  some (fcmp .eql .f32 (qad .sub .f32 x_ x_) (0:Nat))
theorem spec_l01Finite_ok_fr0 (fr:Bool) (n:Nat) (x_:Nat) {r:Bool} (h:qhy n x_ = some r):qb9 prog fr 166 [.d (.fl .f32 x_)] [] (fun v o new=>v = .d (.bool r)∧o = []∧new = []):=by
  refine qak hτ func166 rfl (by simp) (by simp) ?_
  unfold qhy at h
  refine qa5 ?_
  refine qa1 ?_
  refine qa0 hτ rfl rfl rfl ?_
  refine qa3 ?_
  refine qa5 ?_
  refine qa1 ?_
  refine qa0 hτ rfl rfl rfl ?_
  refine qa0 hτ rfl rfl rfl ?_
  refine qa0 hτ rfl rfl rfl ?_
  refine qa0 hτ rfl rfl rfl ?_
  refine qa0 hτ rfl rfl rfl ?_
  refine qa3 ?_
  refine qa7 (qa2 [] (l:=[(2,.d (.bool (fcmp .eql .f32 (qad .sub .f32 x_ x_) (0:Nat))))]) (objs:=[]) rfl (by simp) rfl (by trivial) ⟨rfl,trivial,trivial⟩) ?_
  refine qar ?_
  have hr:=Option.some.inj h
  subst hr
  exact qah (.inr rfl) [] (objs':=[]) (new:=[]) rfl (by simp) (by simp) rfl (by trivial) rfl rfl (by trivial) (fun _=>⟨by simp [V.flat,V.qbk,V.qbf,D.flat],qal⟩) ⟨rfl,rfl,rfl⟩
theorem spec_l01Finite_ok (n:Nat) (x_:Nat) {r:Bool} (h:qhy n x_ = some r):qb9 prog false 166 [.d (.fl .f32 x_)] [] (fun v o new=>v = .d (.bool r)∧o = []∧new = []):=spec_l01Finite_ok_fr0 false n x_ h
def qeb (n:Nat) (x_:Nat):Option Bool :=
  (qhy n x_).bind fun x4 =>
  if x4 = true then
    some (fcmp .gtr .f32 x_ (0:Nat))
  else
    some false
theorem spec_l07Positive_ok_fr0 (fr:Bool) (n:Nat) (x_:Nat) {r:Bool} (h:qeb n x_ = some r):qb9 prog fr 140 [.d (.fl .f32 x_)] [] (fun v o new=>v = .d (.bool r)∧o = []∧new = []):=by
  refine qak hτ func140 rfl (by simp) (by simp) ?_
  unfold qeb at h
  refine qa5 ?_
  refine qa1 ?_
  refine qa0 hτ rfl rfl rfl ?_
  refine qa3 ?_
  refine qa5 ?_
  refine qa1 ?_
  refine qa0 hτ rfl rfl rfl ?_
  refine qaa h fun x4 hx4 h=>?_
  refine qag hτ false [] rfl rfl rfl (qaj func166 rfl rfl) rfl rfl (by simp) ⟨trivial,trivial⟩ (by trivial) (spec_l01Finite_ok n x_ hx4) ?_
  rintro r0 o0 n0 ⟨rfl,rfl,rfl⟩ -
  refine qa0 hτ rfl rfl rfl ?_
  refine qb4 5 rfl (fun hb5=>?_) (fun hb5=>?_)
  · have h:=qbn h hb5
    refine qa0 hτ rfl rfl rfl ?_
    refine qa0 hτ rfl rfl rfl ?_
    refine qa0 hτ rfl rfl rfl ?_
    refine qa0 hτ rfl rfl rfl ?_
    refine qa3 ?_
    refine qa7 (qa2 [] (l:=[(2,.d (.bool (fcmp .gtr .f32 x_ (0:Nat))))]) (objs:=[]) rfl (by simp) rfl (by trivial) ⟨rfl,trivial,trivial⟩) ?_
    refine qar ?_
    have hr:=Option.some.inj h
    subst hr
    exact qah (.inr rfl) [] (objs':=[]) (new:=[]) rfl (by simp) (by simp) rfl (by trivial) rfl rfl (by trivial) (fun _=>⟨by simp [V.flat,V.qbk,V.qbf,D.flat],qal⟩) ⟨rfl,rfl,rfl⟩
  · have h:=qbm h hb5
    refine qa6 rfl rfl ?_
    refine qa6 rfl rfl ?_
    refine qa0 hτ rfl rfl rfl ?_
    refine qa0 hτ rfl rfl rfl ?_
    refine qa3 ?_
    refine qa7 (qa2 [] (l:=[(2,.d (.bool false))]) (objs:=[]) rfl (by simp) rfl (by trivial) ⟨rfl,trivial,trivial⟩) ?_
    refine qar ?_
    have hr:=Option.some.inj h
    subst hr
    exact qah (.inr rfl) [] (objs':=[]) (new:=[]) rfl (by simp) (by simp) rfl (by trivial) rfl rfl (by trivial) (fun _=>⟨by simp [V.flat,V.qbk,V.qbf,D.flat],qal⟩) ⟨rfl,rfl,rfl⟩
theorem ql6 (n:Nat) (x_:Nat) {r:Bool} (h:qeb n x_ = some r):qb9 prog false 140 [.d (.fl .f32 x_)] [] (fun v o new=>v = .d (.bool r)∧o = []∧new = []):=spec_l07Positive_ok_fr0 false n x_ h
def qip (n:Nat) (k68:Int→Option Bool) (v51:Int):Option Bool :=
  k68 (w64 (v51 + (1:Int)))
def qgc (n:Nat) (k68:Int→Option Bool) (v51:Int) (v99:Bool):Option Bool :=
  if v99 = true then
    some false
  else
    qip n k68 v51
def qiq (n:Nat) (c_:qbq) (k68:Int→Option Bool) (v51:Int):Option Bool :=
  if v51 > (0:Int) then
    (getI c_.qa8 (w64 (v51 - (1:Int)))).bind fun x103 =>
    (getI c_.qa8 v51).bind fun x104 =>
    if (fcmp .geq .f32 x103 x104) = true then
      qgc n k68 v51 true
    else
      (getI c_.Times (w64 (v51 - (1:Int)))).bind fun x106 =>
      (getI c_.Times v51).bind fun x107 =>
      qgc n k68 v51 (fcmp .lss .f32 x106 x107)
  else
    qgc n k68 v51 false
def qhj (n:Nat) (c_:qbq) (k68:Int→Option Bool) (v51:Int) (v115:Bool):Option Bool :=
  if v115 = true then
    some false
  else
    qiq n c_ k68 v51
def qbw (n:Nat) (c_:qbq):Nat→Int→Option Bool
  | 0,_=>none
  | m67 + 1,v51 =>
    if v51 < (c_.qa8.length:Int) then
      (getI c_.qa8 v51).bind fun x118 =>
      (qeb n x118).bind fun x119 =>
      if x119 = true then
        (getI c_.Times v51).bind fun x121 =>
        (qeb n x121).bind fun x122 =>
        qhj n c_ (qbw n c_ m67) v51 (!x122)
      else
        qhj n c_ (qbw n c_ m67) v51 true
    else
      some true
def qio (n:Nat) (c_:qbq):Option Bool :=
  qbw n c_ n (0:Int)
def qgd (n:Nat) (c_:qbq) (v127:Bool):Option Bool :=
  if v127 = true then
    some false
  else
    qio n c_
def qjo (n:Nat) (c_:qbq):Option Bool :=
  if (c_.qa8.length:Int) < (2:Int) then
    qgd n c_ true
  else
    if (c_.qa8.length:Int) > (16:Int) then
      qgd n c_ true
    else
      qgd n c_ (!(decide ((c_.Times.length:Int) = (c_.qa8.length:Int))))
theorem spec_l07Is_ok_fr0 (fr:Bool) (n:Nat) (d0_0:D) (c_:qbq) {r:Bool} (h:qjo n c_ = some r):qb9 prog fr 100 [.rop [d0_0,.sl false (c_.qa8.map qa4),.sl false (c_.Times.map qa4)] 1] [] (fun v o new=>v = .d (.bool r)∧o = []∧new = []):=by
  refine qak hτ func100 rfl (by simp) (by simp) ?_
  unfold qjo at h
  refine qa5 ?_
  refine qa1 ?_
  refine qa0 hτ rfl rfl rfl ?_
  refine qa3 ?_
  refine qa5 ?_
  refine qa1 ?_
  refine qa0 hτ rfl rfl rfl ?_
  refine qa0 hτ rfl rfl rfl ?_
  refine qa0 hτ rfl rfl rfl ?_
  refine qa0 hτ rfl rfl rfl ?_
  refine qa0 hτ (v:=.d (.int .i64 (c_.qa8.length:Int))) rfl rfl (Eq.trans rfl (qdb (f:=qa4) c_.qa8)) ?_
  refine qa0 hτ rfl rfl rfl ?_
  refine qa3 ?_
  refine qb8 (ι:=Unit) (fun _=>St.of [(0,.rop [d0_0,.sl false (c_.qa8.map qa4),.sl false (c_.Times.map qa4)] 1)] [] f100.ntmps 0) (fun _=>qio n c_ = some r) ?_ (fun hk123=>?_)
  · rintro ⟨⟩ h
    replace h:qio n c_ = some r:=h
    unfold qio at h
    refine qa5 ?_
    refine qa5 ?_
    refine qa1 ?_
    refine qa0 hτ rfl rfl rfl ?_
    refine qa0 hτ rfl rfl rfl ?_
    refine qa0 hτ rfl rfl rfl ?_
    refine qa0 hτ rfl rfl rfl ?_
    refine qa0 hτ (v:=.d (.int .i64 (c_.qa8.length:Int))) rfl rfl (Eq.trans rfl (qdb (f:=qa4) c_.qa8)) ?_
    refine qa0 hτ rfl rfl rfl ?_
    refine qa3 ?_
    refine qaz ?_
    refine qcs (ι:=Nat × Int) (fun (m67,v51)=>St.of [(0,.rop [d0_0,.sl false (c_.qa8.map qa4),.sl false (c_.Times.map qa4)] 1),(29,.d (.int .i64 (c_.qa8.length:Int))),(30,.d (.int .i64 v51))] [] f100.ntmps 0) (fun (m67,v51)=>qbw n c_ m67 v51 = some r) (fun x=>x.1) (n,(0:Int)) h (qa2 [] (l:=[(0,.rop [d0_0,.sl false (c_.qa8.map qa4),.sl false (c_.Times.map qa4)] 1),(29,.d (.int .i64 (c_.qa8.length:Int))),(30,.d (.int .i64 (0:Int)))]) (objs:=[]) rfl (by simp) rfl (by trivial) ⟨rfl,trivial,rfl,trivial,rfl,trivial,trivial⟩) ?_
    rintro ⟨m67,v51⟩ h
    replace h:qbw n c_ m67 v51 = some r:=h
    rcases m67 with _ | m67
    · rw [qbw] at h;cases h
    rw [qbw] at h
    refine qa5 ?_
    refine qa1 ?_
    refine qa0 hτ rfl rfl rfl ?_
    refine qa3 ?_
    refine qa5 ?_
    refine qao rfl (fun hc69=>?_) (fun hc69=>?_)
    · have h:=if_t h hc69
      refine qap ?_
      refine qb8 (ι:=Unit) (fun _=>St.of [(0,.rop [d0_0,.sl false (c_.qa8.map qa4),.sl false (c_.Times.map qa4)] 1),(29,.d (.int .i64 (c_.qa8.length:Int))),(30,.d (.int .i64 v51))] [] f100.ntmps 0) (fun _=>qip n (qbw n c_ m67) v51 = some r) ?_ (fun hk84=>?_)
      · rintro ⟨⟩ h
        replace h:qip n (qbw n c_ m67) v51 = some r:=h
        unfold qip at h
        refine qa1 ?_
        refine qa0 hτ rfl rfl rfl ?_
        refine qa0 hτ rfl rfl rfl ?_
        refine qa3 ?_
        exact ⟨(m67,(w64 (v51 + (1:Int)))),h,Nat.lt_succ_self m67,(qa2 [] (l:=[(0,.rop [d0_0,.sl false (c_.qa8.map qa4),.sl false (c_.Times.map qa4)] 1),(29,.d (.int .i64 (c_.qa8.length:Int))),(30,.d (.int .i64 (w64 (v51 + (1:Int)))))]) (objs:=[]) rfl (by simp) rfl (by trivial) ⟨rfl,trivial,rfl,trivial,rfl,trivial,trivial⟩)⟩
      · refine qa5 ?_
        refine qaz ?_
        refine qa5 ?_
        refine qa1 ?_
        refine qa0 hτ rfl rfl rfl ?_
        refine qa0 hτ rfl rfl rfl ?_
        refine qa3 ?_
        refine qb8 (ι:=Unit) (fun _=>St.of [(0,.rop [d0_0,.sl false (c_.qa8.map qa4),.sl false (c_.Times.map qa4)] 1),(4,.d (.int .i64 v51)),(29,.d (.int .i64 (c_.qa8.length:Int))),(30,.d (.int .i64 v51))] [] f100.ntmps 0) (fun _=>qiq n c_ (qbw n c_ m67) v51 = some r) ?_ (fun hk108=>?_)
        · rintro ⟨⟩ h
          replace h:qiq n c_ (qbw n c_ m67) v51 = some r:=h
          unfold qiq at h
          refine qb8 (ι:=Bool) (fun v99=>St.of [(0,.rop [d0_0,.sl false (c_.qa8.map qa4),.sl false (c_.Times.map qa4)] 1),(29,.d (.int .i64 (c_.qa8.length:Int))),(30,.d (.int .i64 v51)),(90,.d (.bool v99))] [] f100.ntmps 0) (fun v99=>qgc n (qbw n c_ m67) v51 v99 = some r) ?_ (fun hk101=>?_)
          · rintro v99 h
            replace h:qgc n (qbw n c_ m67) v51 v99 = some r:=h
            unfold qgc at h
            refine qao rfl (fun hc100=>?_) (fun hc100=>?_)
            · have h:=qbn h hc100
              refine qa5 ?_
              refine qa1 ?_
              refine qa0 hτ rfl rfl rfl ?_
              refine qa3 ?_
              refine qa7 (qa2 [] (l:=[(2,.d (.bool false))]) (objs:=[]) rfl (by simp) rfl (by trivial) ⟨rfl,trivial,trivial⟩) ?_
              refine qar ?_
              have hr:=Option.some.inj h
              subst hr
              exact qah (.inr rfl) [] (objs':=[]) (new:=[]) rfl (by simp) (by simp) rfl (by trivial) rfl rfl (by trivial) (fun _=>⟨by simp [V.flat,V.qbk,V.qbf,D.flat],qal⟩) ⟨rfl,rfl,rfl⟩
            · have h:=qbm h hc100
              refine qap ?_
              refine qa7 (qa2 [] (l:=[(0,.rop [d0_0,.sl false (c_.qa8.map qa4),.sl false (c_.Times.map qa4)] 1),(29,.d (.int .i64 (c_.qa8.length:Int))),(30,.d (.int .i64 v51))]) (objs:=[]) rfl (by simp) rfl (by trivial) ⟨rfl,trivial,rfl,trivial,rfl,trivial,trivial⟩) ?_
              exact hk84 () h
          · refine qa5 ?_
            refine qel ?_
            refine qab hτ [] 0 rfl rfl rfl rfl rfl ?_
            refine qab hτ [] 1 rfl rfl rfl rfl rfl ?_
            refine qab hτ [] 2 rfl rfl rfl rfl rfl ?_
            refine qig 55 rfl (fun hb102=>?_) (fun hb102=>?_)
            · have h:=if_t h hb102
              refine qab hτ [] 3 rfl rfl rfl rfl rfl ?_
              refine qab hτ [] 4 rfl rfl rfl rfl rfl ?_
              refine qab hτ [] 5 rfl rfl rfl rfl rfl ?_
              refine qab hτ [] 6 rfl rfl rfl rfl rfl ?_
              refine qab hτ [] 7 rfl rfl rfl rfl rfl ?_
              refine qab hτ [] 8 rfl rfl rfl rfl rfl ?_
              refine qaa h fun x103 hx103 h=>?_
              refine qc8 hτ [] 9 rfl rfl rfl rfl rfl (qaw hx103).1 (qb5 hx103) rfl ?_
              refine qab hτ [] 10 rfl rfl rfl rfl rfl ?_
              refine qab hτ [] 11 rfl rfl rfl rfl rfl ?_
              refine qab hτ [] 12 rfl rfl rfl rfl rfl ?_
              refine qab hτ [] 13 rfl rfl rfl rfl rfl ?_
              refine qab hτ [] 14 rfl rfl rfl rfl rfl ?_
              refine qab hτ [] 15 rfl rfl rfl rfl rfl ?_
              refine qaa h fun x104 hx104 h=>?_
              refine qc8 hτ [] 16 rfl rfl rfl rfl rfl (qaw hx104).1 (qb5 hx104) rfl ?_
              refine qab hτ [] 17 rfl rfl rfl rfl rfl ?_
              refine qab hτ [] 18 rfl rfl rfl rfl rfl ?_
              refine qab hτ [] 19 rfl rfl rfl rfl rfl ?_
              refine qig 72 rfl (fun hb105=>?_) (fun hb105=>?_)
              · have h:=qbn h hb105
                refine qae 20 rfl rfl rfl ?_
                refine qae 21 rfl rfl rfl ?_
                refine qae 22 rfl rfl rfl ?_
                refine qae 23 rfl rfl rfl ?_
                refine qae 24 rfl rfl rfl ?_
                refine qae 25 rfl rfl rfl ?_
                refine qae 26 rfl rfl rfl ?_
                refine qae 27 rfl rfl rfl ?_
                refine qae 28 rfl rfl rfl ?_
                refine qae 29 rfl rfl rfl ?_
                refine qae 30 rfl rfl rfl ?_
                refine qae 31 rfl rfl rfl ?_
                refine qae 32 rfl rfl rfl ?_
                refine qae 33 rfl rfl rfl ?_
                refine qae 34 rfl rfl rfl ?_
                refine qae 35 rfl rfl rfl ?_
                refine qab hτ [] 36 rfl rfl rfl rfl rfl ?_
                refine qab hτ [] 37 rfl rfl rfl rfl rfl ?_
                refine qcy mixed (by kernel_rfl) ?_
                refine qa7 (qa2 [] (l:=[(0,.rop [d0_0,.sl false (c_.qa8.map qa4),.sl false (c_.Times.map qa4)] 1),(29,.d (.int .i64 (c_.qa8.length:Int))),(30,.d (.int .i64 v51)),(90,.d (.bool true))]) (objs:=[]) rfl (by simp) rfl (by trivial) ⟨rfl,trivial,rfl,trivial,rfl,trivial,rfl,trivial,trivial⟩) ?_
                exact hk101 true h
              · have h:=qbm h hb105
                refine qab hτ [] 20 rfl rfl rfl rfl rfl ?_
                refine qab hτ [] 21 rfl rfl rfl rfl rfl ?_
                refine qab hτ [] 22 rfl rfl rfl rfl rfl ?_
                refine qab hτ [] 23 rfl rfl rfl rfl rfl ?_
                refine qab hτ [] 24 rfl rfl rfl rfl rfl ?_
                refine qab hτ [] 25 rfl rfl rfl rfl rfl ?_
                refine qaa h fun x106 hx106 h=>?_
                refine qc8 hτ [] 26 rfl rfl rfl rfl rfl (qaw hx106).1 (qb5 hx106) rfl ?_
                refine qab hτ [] 27 rfl rfl rfl rfl rfl ?_
                refine qab hτ [] 28 rfl rfl rfl rfl rfl ?_
                refine qab hτ [] 29 rfl rfl rfl rfl rfl ?_
                refine qab hτ [] 30 rfl rfl rfl rfl rfl ?_
                refine qab hτ [] 31 rfl rfl rfl rfl rfl ?_
                refine qab hτ [] 32 rfl rfl rfl rfl rfl ?_
                refine qaa h fun x107 hx107 h=>?_
                refine qc8 hτ [] 33 rfl rfl rfl rfl rfl (qaw hx107).1 (qb5 hx107) rfl ?_
                refine qab hτ [] 34 rfl rfl rfl rfl rfl ?_
                refine qab hτ [] 35 rfl rfl rfl rfl rfl ?_
                refine qab hτ [] 36 rfl rfl rfl rfl rfl ?_
                refine qab hτ [] 37 rfl rfl rfl rfl rfl ?_
                refine qcy mixed (by kernel_rfl) ?_
                refine qa7 (qa2 [] (l:=[(0,.rop [d0_0,.sl false (c_.qa8.map qa4),.sl false (c_.Times.map qa4)] 1),(29,.d (.int .i64 (c_.qa8.length:Int))),(30,.d (.int .i64 v51)),(90,.d (.bool (fcmp .lss .f32 x106 x107)))]) (objs:=[]) rfl (by simp) rfl (by trivial) ⟨rfl,trivial,rfl,trivial,rfl,trivial,rfl,trivial,trivial⟩) ?_
                exact hk101 (fcmp .lss .f32 x106 x107) h
            · have h:=if_f h hb102
              refine qae 3 rfl rfl rfl ?_
              refine qae 4 rfl rfl rfl ?_
              refine qae 5 rfl rfl rfl ?_
              refine qae 6 rfl rfl rfl ?_
              refine qae 7 rfl rfl rfl ?_
              refine qae 8 rfl rfl rfl ?_
              refine qae 9 rfl rfl rfl ?_
              refine qae 10 rfl rfl rfl ?_
              refine qae 11 rfl rfl rfl ?_
              refine qae 12 rfl rfl rfl ?_
              refine qae 13 rfl rfl rfl ?_
              refine qae 14 rfl rfl rfl ?_
              refine qae 15 rfl rfl rfl ?_
              refine qae 16 rfl rfl rfl ?_
              refine qae 17 rfl rfl rfl ?_
              refine qae 18 rfl rfl rfl ?_
              refine qae 19 rfl rfl rfl ?_
              refine qae 20 rfl rfl rfl ?_
              refine qae 21 rfl rfl rfl ?_
              refine qae 22 rfl rfl rfl ?_
              refine qae 23 rfl rfl rfl ?_
              refine qae 24 rfl rfl rfl ?_
              refine qae 25 rfl rfl rfl ?_
              refine qae 26 rfl rfl rfl ?_
              refine qae 27 rfl rfl rfl ?_
              refine qae 28 rfl rfl rfl ?_
              refine qae 29 rfl rfl rfl ?_
              refine qae 30 rfl rfl rfl ?_
              refine qae 31 rfl rfl rfl ?_
              refine qae 32 rfl rfl rfl ?_
              refine qae 33 rfl rfl rfl ?_
              refine qae 34 rfl rfl rfl ?_
              refine qae 35 rfl rfl rfl ?_
              refine qae 36 rfl rfl rfl ?_
              refine qab hτ [] 37 rfl rfl rfl rfl rfl ?_
              refine qcy mixed (by kernel_rfl) ?_
              refine qa7 (qa2 [] (l:=[(0,.rop [d0_0,.sl false (c_.qa8.map qa4),.sl false (c_.Times.map qa4)] 1),(29,.d (.int .i64 (c_.qa8.length:Int))),(30,.d (.int .i64 v51)),(90,.d (.bool false))]) (objs:=[]) rfl (by simp) rfl (by trivial) ⟨rfl,trivial,rfl,trivial,rfl,trivial,rfl,trivial,trivial⟩) ?_
              exact hk101 false h
        · refine qa5 ?_
          refine qb8 (ι:=Bool) (fun v115=>St.of [(0,.rop [d0_0,.sl false (c_.qa8.map qa4),.sl false (c_.Times.map qa4)] 1),(4,.d (.int .i64 v51)),(29,.d (.int .i64 (c_.qa8.length:Int))),(30,.d (.int .i64 v51)),(52,.d (.bool v115))] [] f100.ntmps 0) (fun v115=>qhj n c_ (qbw n c_ m67) v51 v115 = some r) ?_ (fun hk117=>?_)
          · rintro v115 h
            replace h:qhj n c_ (qbw n c_ m67) v51 v115 = some r:=h
            unfold qhj at h
            refine qao rfl (fun hc116=>?_) (fun hc116=>?_)
            · have h:=qbn h hc116
              refine qa5 ?_
              refine qa1 ?_
              refine qa0 hτ rfl rfl rfl ?_
              refine qa3 ?_
              refine qa7 (qa2 [] (l:=[(2,.d (.bool false))]) (objs:=[]) rfl (by simp) rfl (by trivial) ⟨rfl,trivial,trivial⟩) ?_
              refine qar ?_
              have hr:=Option.some.inj h
              subst hr
              exact qah (.inr rfl) [] (objs':=[]) (new:=[]) rfl (by simp) (by simp) rfl (by trivial) rfl rfl (by trivial) (fun _=>⟨by simp [V.flat,V.qbk,V.qbf,D.flat],qal⟩) ⟨rfl,rfl,rfl⟩
            · have h:=qbm h hc116
              refine qap ?_
              refine qa7 (qa2 [] (l:=[(0,.rop [d0_0,.sl false (c_.qa8.map qa4),.sl false (c_.Times.map qa4)] 1),(4,.d (.int .i64 v51)),(29,.d (.int .i64 (c_.qa8.length:Int))),(30,.d (.int .i64 v51))]) (objs:=[]) rfl (by simp) rfl (by trivial) ⟨rfl,trivial,rfl,trivial,rfl,trivial,rfl,trivial,trivial⟩) ?_
              exact hk108 () h
          · refine qa5 ?_
            refine qa1 ?_
            refine qa0 hτ rfl rfl rfl ?_
            refine qa0 hτ rfl rfl rfl ?_
            refine qa0 hτ rfl rfl rfl ?_
            refine qa0 hτ rfl rfl rfl ?_
            refine qa0 hτ rfl rfl rfl ?_
            refine qaa h fun x118 hx118 h=>?_
            refine qbe hτ rfl rfl rfl (qaw hx118).1 (qb5 hx118) rfl ?_
            refine qa0 hτ rfl rfl rfl ?_
            refine qaa h fun x119 hx119 h=>?_
            refine qag hτ false [] rfl rfl rfl (qaj func140 rfl rfl) rfl rfl (by simp) ⟨trivial,trivial⟩ (by trivial) (ql6 n x118 hx119) ?_
            rintro r0 o0 n0 ⟨rfl,rfl,rfl⟩ -
            refine qa0 hτ rfl rfl rfl ?_
            refine qat (qa2 [] (l:=[(0,.rop [d0_0,.sl false (c_.qa8.map qa4),.sl false (c_.Times.map qa4)] 1),(4,.d (.int .i64 v51)),(29,.d (.int .i64 (c_.qa8.length:Int))),(30,.d (.int .i64 v51)),(41,.d (.bool (!x119)))]) (objs:=[]) rfl (by simp) rfl (by trivial) ⟨rfl,trivial,rfl,trivial,rfl,trivial,rfl,trivial,rfl,trivial,trivial⟩) ?_
            refine qa0 hτ rfl rfl rfl ?_
            refine qb4 42 rfl (fun hb120=>?_) (fun hb120=>?_)
            · have hb120:=qgh hb120
              have h:=qbm h hb120
              refine qa6 rfl rfl ?_
              refine qa6 rfl rfl ?_
              refine qa6 rfl rfl ?_
              refine qa6 rfl rfl ?_
              refine qa6 rfl rfl ?_
              refine qa6 rfl rfl ?_
              refine qa6 rfl rfl ?_
              refine qa6 rfl rfl ?_
              refine qa6 rfl rfl ?_
              refine qa0 hτ rfl rfl rfl ?_
              refine qa3 ?_
              refine qa7 (qa2 [] (l:=[(0,.rop [d0_0,.sl false (c_.qa8.map qa4),.sl false (c_.Times.map qa4)] 1),(4,.d (.int .i64 v51)),(29,.d (.int .i64 (c_.qa8.length:Int))),(30,.d (.int .i64 v51)),(52,.d (.bool true))]) (objs:=[]) rfl (by simp) rfl (by trivial) ⟨rfl,trivial,rfl,trivial,rfl,trivial,rfl,trivial,rfl,trivial,trivial⟩) ?_
              exact hk117 true h
            · have hb120:=qgg hb120
              have h:=qbn h hb120
              refine qa0 hτ rfl rfl rfl ?_
              refine qa0 hτ rfl rfl rfl ?_
              refine qa0 hτ rfl rfl rfl ?_
              refine qa0 hτ rfl rfl rfl ?_
              refine qa0 hτ rfl rfl rfl ?_
              refine qaa h fun x121 hx121 h=>?_
              refine qbe hτ rfl rfl rfl (qaw hx121).1 (qb5 hx121) rfl ?_
              refine qa0 hτ rfl rfl rfl ?_
              refine qaa h fun x122 hx122 h=>?_
              refine qag hτ false [] rfl rfl rfl (qaj func140 rfl rfl) rfl rfl (by simp) ⟨trivial,trivial⟩ (by trivial) (ql6 n x121 hx122) ?_
              rintro r0 o0 n0 ⟨rfl,rfl,rfl⟩ -
              refine qa0 hτ rfl rfl rfl ?_
              refine qa0 hτ rfl rfl rfl ?_
              refine qa3 ?_
              refine qa7 (qa2 [] (l:=[(0,.rop [d0_0,.sl false (c_.qa8.map qa4),.sl false (c_.Times.map qa4)] 1),(4,.d (.int .i64 v51)),(29,.d (.int .i64 (c_.qa8.length:Int))),(30,.d (.int .i64 v51)),(52,.d (.bool (!x122)))]) (objs:=[]) rfl (by simp) rfl (by trivial) ⟨rfl,trivial,rfl,trivial,rfl,trivial,rfl,trivial,rfl,trivial,trivial⟩) ?_
              exact hk117 (!x122) h
    · have h:=if_f h hc69
      refine qcr ?_
      refine qa5 ?_
      refine qa1 ?_
      refine qa0 hτ rfl rfl rfl ?_
      refine qa3 ?_
      refine qa7 (qa2 [] (l:=[(2,.d (.bool true))]) (objs:=[]) rfl (by simp) rfl (by trivial) ⟨rfl,trivial,trivial⟩) ?_
      refine qar ?_
      have hr:=Option.some.inj h
      subst hr
      exact qah (.inr rfl) [] (objs':=[]) (new:=[]) rfl (by simp) (by simp) rfl (by trivial) rfl rfl (by trivial) (fun _=>⟨by simp [V.flat,V.qbk,V.qbf,D.flat],qal⟩) ⟨rfl,rfl,rfl⟩
  · refine qa5 ?_
    refine qb8 (ι:=Bool) (fun v127=>St.of [(0,.rop [d0_0,.sl false (c_.qa8.map qa4),.sl false (c_.Times.map qa4)] 1),(24,.d (.bool v127))] [] f100.ntmps 0) (fun v127=>qgd n c_ v127 = some r) ?_ (fun hk129=>?_)
    · rintro v127 h
      replace h:qgd n c_ v127 = some r:=h
      unfold qgd at h
      refine qao rfl (fun hc128=>?_) (fun hc128=>?_)
      · have h:=qbn h hc128
        refine qa5 ?_
        refine qa1 ?_
        refine qa0 hτ rfl rfl rfl ?_
        refine qa3 ?_
        refine qa7 (qa2 [] (l:=[(2,.d (.bool false))]) (objs:=[]) rfl (by simp) rfl (by trivial) ⟨rfl,trivial,trivial⟩) ?_
        refine qar ?_
        have hr:=Option.some.inj h
        subst hr
        exact qah (.inr rfl) [] (objs':=[]) (new:=[]) rfl (by simp) (by simp) rfl (by trivial) rfl rfl (by trivial) (fun _=>⟨by simp [V.flat,V.qbk,V.qbf,D.flat],qal⟩) ⟨rfl,rfl,rfl⟩
      · have h:=qbm h hc128
        refine qap ?_
        refine qa7 (qa2 [] (l:=[(0,.rop [d0_0,.sl false (c_.qa8.map qa4),.sl false (c_.Times.map qa4)] 1)]) (objs:=[]) rfl (by simp) rfl (by trivial) ⟨rfl,trivial,trivial⟩) ?_
        exact hk123 () h
    · refine qa5 ?_
      refine qa7 (qa2 [] (l:=[(0,.rop [d0_0,.sl false (c_.qa8.map qa4),.sl false (c_.Times.map qa4)] 1),(3,.d (.int .i64 (c_.qa8.length:Int)))]) (objs:=[]) rfl (by simp) rfl (by trivial) ⟨rfl,trivial,rfl,trivial,trivial⟩) ?_
      refine qa1 ?_
      refine qa0 hτ rfl rfl rfl ?_
      refine qa0 hτ rfl rfl rfl ?_
      refine qa0 hτ rfl rfl rfl ?_
      refine qb4 12 rfl (fun hb130=>?_) (fun hb130=>?_)
      · have h:=if_t h hb130
        refine qa6 rfl rfl ?_
        refine qa6 rfl rfl ?_
        refine qa0 hτ rfl rfl rfl ?_
        refine qa0 hτ rfl rfl rfl ?_
        refine qa6 rfl rfl ?_
        refine qa6 rfl rfl ?_
        refine qa6 rfl rfl ?_
        refine qa6 rfl rfl ?_
        refine qa6 rfl rfl ?_
        refine qat (qa2 [] (l:=[(0,.rop [d0_0,.sl false (c_.qa8.map qa4),.sl false (c_.Times.map qa4)] 1),(3,.d (.int .i64 (c_.qa8.length:Int))),(16,.d (.bool true)),(21,.und)]) (objs:=[]) rfl (by simp) rfl (by trivial) ⟨rfl,trivial,rfl,trivial,rfl,trivial,rfl,trivial,trivial⟩) ?_
        refine qa6 rfl rfl ?_
        refine qa6 rfl rfl ?_
        refine qa0 hτ rfl rfl rfl ?_
        refine qa3 ?_
        refine qa7 (qa2 [] (l:=[(0,.rop [d0_0,.sl false (c_.qa8.map qa4),.sl false (c_.Times.map qa4)] 1),(24,.d (.bool true))]) (objs:=[]) rfl (by simp) rfl (by trivial) ⟨rfl,trivial,rfl,trivial,trivial⟩) ?_
        exact hk129 true h
      · have h:=if_f h hb130
        refine qa0 hτ rfl rfl rfl ?_
        refine qa0 hτ rfl rfl rfl ?_
        refine qa0 hτ rfl rfl rfl ?_
        refine qa0 hτ rfl rfl rfl ?_
        refine qb4 16 rfl (fun hb131=>?_) (fun hb131=>?_)
        · have h:=if_t h hb131
          refine qa6 rfl rfl ?_
          refine qa6 rfl rfl ?_
          refine qa6 rfl rfl ?_
          refine qa6 rfl rfl ?_
          refine qa6 rfl rfl ?_
          refine qat (qa2 [] (l:=[(0,.rop [d0_0,.sl false (c_.qa8.map qa4),.sl false (c_.Times.map qa4)] 1),(3,.d (.int .i64 (c_.qa8.length:Int))),(16,.d (.bool true)),(21,.und)]) (objs:=[]) rfl (by simp) rfl (by trivial) ⟨rfl,trivial,rfl,trivial,rfl,trivial,rfl,trivial,trivial⟩) ?_
          refine qa6 rfl rfl ?_
          refine qa6 rfl rfl ?_
          refine qa0 hτ rfl rfl rfl ?_
          refine qa3 ?_
          refine qa7 (qa2 [] (l:=[(0,.rop [d0_0,.sl false (c_.qa8.map qa4),.sl false (c_.Times.map qa4)] 1),(24,.d (.bool true))]) (objs:=[]) rfl (by simp) rfl (by trivial) ⟨rfl,trivial,rfl,trivial,trivial⟩) ?_
          exact hk129 true h
        · have h:=if_f h hb131
          refine qa0 hτ rfl rfl rfl ?_
          refine qa0 hτ rfl rfl rfl ?_
          refine qa0 hτ rfl rfl rfl ?_
          refine qa0 hτ rfl rfl rfl ?_
          refine qa0 hτ (v:=.d (.int .i64 (c_.Times.length:Int))) rfl rfl (Eq.trans rfl (qdb (f:=qa4) c_.Times)) ?_
          refine qat (qa2 [] (l:=[(0,.rop [d0_0,.sl false (c_.qa8.map qa4),.sl false (c_.Times.map qa4)] 1),(3,.d (.int .i64 (c_.qa8.length:Int))),(16,.d (.bool false)),(21,.d (.int .i64 (c_.Times.length:Int)))]) (objs:=[]) rfl (by simp) rfl (by trivial) ⟨rfl,trivial,rfl,trivial,rfl,trivial,rfl,trivial,trivial⟩) ?_
          refine qa0 hτ rfl rfl rfl ?_
          refine qa0 hτ (v:=.d (.bool (!(decide ((c_.Times.length:Int) = (c_.qa8.length:Int)))))) rfl rfl (qon _ _) ?_
          refine qa0 hτ rfl rfl rfl ?_
          refine qa3 ?_
          refine qa7 (qa2 [] (l:=[(0,.rop [d0_0,.sl false (c_.qa8.map qa4),.sl false (c_.Times.map qa4)] 1),(24,.d (.bool (!(decide ((c_.Times.length:Int) = (c_.qa8.length:Int))))))]) (objs:=[]) rfl (by simp) rfl (by trivial) ⟨rfl,trivial,rfl,trivial,trivial⟩) ?_
          exact hk129 (!(decide ((c_.Times.length:Int) = (c_.qa8.length:Int)))) h
theorem spec_l07Is_ok (n:Nat) (d0_0:D) (c_:qbq) {r:Bool} (h:qjo n c_ = some r):qb9 prog false 100 [.rop [d0_0,.sl false (c_.qa8.map qa4),.sl false (c_.Times.map qa4)] 1] [] (fun v o new=>v = .d (.bool r)∧o = []∧new = []):=spec_l07Is_ok_fr0 false n d0_0 c_ h
def qj3 (n:Nat) (f_:qax) (bus_:Int):Option Bool :=
  (qf9 n bus_ (0:Int) (w64 ((f_.qaf.length:Int) - (1:Int)))).bind fun x2 =>
  some x2
theorem qmj (n:Nat) (f_:qax) (bus_:Int) {r:Bool} (h:qj3 n f_ bus_ = some r):qb9 prog false 57 [.ptr 0 0,.d (.int .i64 bus_)] [.box [.d (.cx .f32 f_.Source.A.re f_.Source.A.im),.d (.cx .f32 f_.Source.B.re f_.Source.B.im),.d (.cx .f32 f_.Source.C.re f_.Source.C.im),.d (.sl false (f_.qaf.map qai))]] (fun v o new=>v = .d (.bool r)∧o = [.box [.d (.cx .f32 f_.Source.A.re f_.Source.A.im),.d (.cx .f32 f_.Source.B.re f_.Source.B.im),.d (.cx .f32 f_.Source.C.re f_.Source.C.im),.d (.sl false (f_.qaf.map qai))]]∧new = []):=by
  refine qak hτ func57 rfl (by simp) (by simp) ?_
  unfold qj3 at h
  refine qa5 ?_
  refine qa1 ?_
  refine qa0 hτ rfl rfl rfl ?_
  refine qa3 ?_
  refine qa5 ?_
  refine qa1 ?_
  refine qa0 hτ rfl rfl rfl ?_
  refine qa0 hτ rfl rfl rfl ?_
  refine qa0 hτ rfl rfl rfl ?_
  refine qa0 hτ rfl rfl rfl ?_
  refine qa0 hτ rfl rfl rfl ?_
  refine qa0 hτ (v:=.d (.int .i64 (f_.qaf.length:Int))) rfl rfl (Eq.trans rfl (qdb (f:=qai) f_.qaf)) ?_
  refine qa0 hτ rfl rfl rfl ?_
  refine qaa h fun x2 hx2 h=>?_
  refine qag hτ false [] rfl rfl rfl (qaj func101 rfl rfl) rfl rfl (by simp) ⟨trivial,trivial,trivial,trivial⟩ (by trivial) (qks n bus_ (0:Int) (w64 ((f_.qaf.length:Int) - (1:Int))) hx2) ?_
  rintro r0 o0 n0 ⟨rfl,rfl,rfl⟩ -
  refine qa0 hτ rfl rfl rfl ?_
  refine qa3 ?_
  refine qa7 (qa2 [0] (l:=[(4,.d (.bool x2))]) (objs:=[.box [.d (.cx .f32 f_.Source.A.re f_.Source.A.im),.d (.cx .f32 f_.Source.B.re f_.Source.B.im),.d (.cx .f32 f_.Source.C.re f_.Source.C.im),.d (.sl false (f_.qaf.map qai))]]) rfl (by simp) rfl (by trivial) ⟨rfl,trivial,trivial⟩) ?_
  refine qar ?_
  have hr:=Option.some.inj h
  subst hr
  exact qah (.inr rfl) [] (objs':=[.box [.d (.cx .f32 f_.Source.A.re f_.Source.A.im),.d (.cx .f32 f_.Source.B.re f_.Source.B.im),.d (.cx .f32 f_.Source.C.re f_.Source.C.im),.d (.sl false (f_.qaf.map qai))]]) (new:=[]) rfl (by simp) (by simp) rfl (by trivial) rfl rfl (by trivial) (fun h=>nomatch h) ⟨rfl,rfl,rfl⟩
def qi1 (n:Nat) (devices_:List qas):Option Bool :=
  some (decide ((devices_.length:Int) ≤ (16:Int)))
def qi2 (n:Nat) (k63:Int→Option Bool) (v51:Int):Option Bool :=
  k63 (w64 (v51 + (1:Int)))
def qei (n:Nat) (k63:Int→Option Bool) (v51:Int) (v84:Bool):Option Bool :=
  if v84 = true then
    some false
  else
    qi2 n k63 v51
def qbz (n:Nat) (f_:qax) (devices_:List qas):Nat→Int→Option Bool
  | 0,_=>none
  | m62 + 1,v51 =>
    if v51 < (devices_.length:Int) then
      (getI devices_ v51).bind fun x87 =>
      (qjo n x87.qcp).bind fun x88 =>
      if x88 = true then
        (qj3 n f_ x87.Bus).bind fun x90 =>
        if x90 = true then
          if v51 > (0:Int) then
            (getI devices_ (w64 (v51 - (1:Int)))).bind fun x93 =>
            qei n (qbz n f_ devices_ m62) v51 (decide (x93.Bus ≥ x87.Bus))
          else
            qei n (qbz n f_ devices_ m62) v51 false
        else
          qei n (qbz n f_ devices_ m62) v51 true
      else
        qei n (qbz n f_ devices_ m62) v51 true
    else
      qi1 n devices_
def qkr (n:Nat) (f_:qax) (devices_:List qas):Option Bool :=
  qbz n f_ devices_ n (0:Int)
theorem spec_l07Are_ok (n:Nat) (f_:qax) (devices_:List qas) {r:Bool} (h:qkr n f_ devices_ = some r):qb9 prog false 56 [.ptr 0 0,.d (.sl false (devices_.map qa9))] [.box [.d (.cx .f32 f_.Source.A.re f_.Source.A.im),.d (.cx .f32 f_.Source.B.re f_.Source.B.im),.d (.cx .f32 f_.Source.C.re f_.Source.C.im),.d (.sl false (f_.qaf.map qai))]] (fun v o new=>v = .d (.bool r)∧o = [.box [.d (.cx .f32 f_.Source.A.re f_.Source.A.im),.d (.cx .f32 f_.Source.B.re f_.Source.B.im),.d (.cx .f32 f_.Source.C.re f_.Source.C.im),.d (.sl false (f_.qaf.map qai))]]∧new = []):=by
  refine qak hτ func56 rfl (by simp) (by simp) ?_
  unfold qkr at h
  refine qa5 ?_
  refine qa1 ?_
  refine qa0 hτ rfl rfl rfl ?_
  refine qa3 ?_
  refine qb8 (ι:=Unit) (fun _=>St.of [(1,.d (.sl false (devices_.map qa9)))] [.box [.d (.cx .f32 f_.Source.A.re f_.Source.A.im),.d (.cx .f32 f_.Source.B.re f_.Source.B.im),.d (.cx .f32 f_.Source.C.re f_.Source.C.im),.d (.sl false (f_.qaf.map qai))]] f56.ntmps 1) (fun _=>qi1 n devices_ = some r) ?_ (fun hk41=>?_)
  · rintro ⟨⟩ h
    replace h:qi1 n devices_ = some r:=h
    unfold qi1 at h
    refine qa5 ?_
    refine qa1 ?_
    refine qa0 hτ rfl rfl rfl ?_
    refine qa0 hτ (v:=.d (.int .i64 (devices_.length:Int))) rfl rfl (Eq.trans rfl (qdb (f:=qa9) devices_)) ?_
    refine qa0 hτ rfl rfl rfl ?_
    refine qa0 hτ rfl rfl rfl ?_
    refine qa3 ?_
    refine qa7 (qa2 [0] (l:=[(4,.d (.bool (decide ((devices_.length:Int) ≤ (16:Int)))))]) (objs:=[.box [.d (.cx .f32 f_.Source.A.re f_.Source.A.im),.d (.cx .f32 f_.Source.B.re f_.Source.B.im),.d (.cx .f32 f_.Source.C.re f_.Source.C.im),.d (.sl false (f_.qaf.map qai))]]) rfl (by simp) rfl (by trivial) ⟨rfl,trivial,trivial⟩) ?_
    refine qar ?_
    have hr:=Option.some.inj h
    subst hr
    exact qah (.inr rfl) [] (objs':=[.box [.d (.cx .f32 f_.Source.A.re f_.Source.A.im),.d (.cx .f32 f_.Source.B.re f_.Source.B.im),.d (.cx .f32 f_.Source.C.re f_.Source.C.im),.d (.sl false (f_.qaf.map qai))]]) (new:=[]) rfl (by simp) (by simp) rfl (by trivial) rfl rfl (by trivial) (fun h=>nomatch h) ⟨rfl,rfl,rfl⟩
  · refine qa5 ?_
    refine qa5 ?_
    refine qa1 ?_
    refine qa0 hτ rfl rfl rfl ?_
    refine qa0 hτ (v:=.d (.int .i64 (devices_.length:Int))) rfl rfl (Eq.trans rfl (qdb (f:=qa9) devices_)) ?_
    refine qa0 hτ rfl rfl rfl ?_
    refine qa3 ?_
    refine qaz ?_
    refine qcs (ι:=Nat × Int) (fun (m62,v51)=>St.of [(0,.ptr 0 0),(1,.d (.sl false (devices_.map qa9))),(7,.d (.int .i64 (devices_.length:Int))),(8,.d (.int .i64 v51))] [.box [.d (.cx .f32 f_.Source.A.re f_.Source.A.im),.d (.cx .f32 f_.Source.B.re f_.Source.B.im),.d (.cx .f32 f_.Source.C.re f_.Source.C.im),.d (.sl false (f_.qaf.map qai))]] f56.ntmps 1) (fun (m62,v51)=>qbz n f_ devices_ m62 v51 = some r) (fun x=>x.1) (n,(0:Int)) h (qa2 [0] (l:=[(0,.ptr 0 0),(1,.d (.sl false (devices_.map qa9))),(7,.d (.int .i64 (devices_.length:Int))),(8,.d (.int .i64 (0:Int)))]) (objs:=[.box [.d (.cx .f32 f_.Source.A.re f_.Source.A.im),.d (.cx .f32 f_.Source.B.re f_.Source.B.im),.d (.cx .f32 f_.Source.C.re f_.Source.C.im),.d (.sl false (f_.qaf.map qai))]]) rfl (by simp) rfl (by trivial) ⟨rfl,trivial,rfl,trivial,rfl,trivial,rfl,trivial,trivial⟩) ?_
    rintro ⟨m62,v51⟩ h
    replace h:qbz n f_ devices_ m62 v51 = some r:=h
    rcases m62 with _ | m62
    · rw [qbz] at h;cases h
    rw [qbz] at h
    refine qa5 ?_
    refine qa1 ?_
    refine qa0 hτ rfl rfl rfl ?_
    refine qa3 ?_
    refine qa5 ?_
    refine qao rfl (fun hc64=>?_) (fun hc64=>?_)
    · have h:=if_t h hc64
      refine qap ?_
      refine qb8 (ι:=Unit) (fun _=>St.of [(0,.ptr 0 0),(1,.d (.sl false (devices_.map qa9))),(7,.d (.int .i64 (devices_.length:Int))),(8,.d (.int .i64 v51))] [.box [.d (.cx .f32 f_.Source.A.re f_.Source.A.im),.d (.cx .f32 f_.Source.B.re f_.Source.B.im),.d (.cx .f32 f_.Source.C.re f_.Source.C.im),.d (.sl false (f_.qaf.map qai))]] f56.ntmps 1) (fun _=>qi2 n (qbz n f_ devices_ m62) v51 = some r) ?_ (fun hk74=>?_)
      · rintro ⟨⟩ h
        replace h:qi2 n (qbz n f_ devices_ m62) v51 = some r:=h
        unfold qi2 at h
        refine qa1 ?_
        refine qa0 hτ rfl rfl rfl ?_
        refine qa0 hτ rfl rfl rfl ?_
        refine qa3 ?_
        exact ⟨(m62,(w64 (v51 + (1:Int)))),h,Nat.lt_succ_self m62,(qa2 [0] (l:=[(0,.ptr 0 0),(1,.d (.sl false (devices_.map qa9))),(7,.d (.int .i64 (devices_.length:Int))),(8,.d (.int .i64 (w64 (v51 + (1:Int)))))]) (objs:=[.box [.d (.cx .f32 f_.Source.A.re f_.Source.A.im),.d (.cx .f32 f_.Source.B.re f_.Source.B.im),.d (.cx .f32 f_.Source.C.re f_.Source.C.im),.d (.sl false (f_.qaf.map qai))]]) rfl (by simp) rfl (by trivial) ⟨rfl,trivial,rfl,trivial,rfl,trivial,rfl,trivial,trivial⟩)⟩
      · refine qa5 ?_
        refine qaz ?_
        refine qa5 ?_
        refine qa1 ?_
        refine qa0 hτ rfl rfl rfl ?_
        refine qa0 hτ rfl rfl rfl ?_
        refine qa3 ?_
        refine qb8 (ι:=Bool) (fun v84=>St.of [(0,.ptr 0 0),(1,.d (.sl false (devices_.map qa9))),(7,.d (.int .i64 (devices_.length:Int))),(8,.d (.int .i64 v51)),(44,.d (.bool v84))] [.box [.d (.cx .f32 f_.Source.A.re f_.Source.A.im),.d (.cx .f32 f_.Source.B.re f_.Source.B.im),.d (.cx .f32 f_.Source.C.re f_.Source.C.im),.d (.sl false (f_.qaf.map qai))]] f56.ntmps 1) (fun v84=>qei n (qbz n f_ devices_ m62) v51 v84 = some r) ?_ (fun hk86=>?_)
        · rintro v84 h
          replace h:qei n (qbz n f_ devices_ m62) v51 v84 = some r:=h
          unfold qei at h
          refine qao rfl (fun hc85=>?_) (fun hc85=>?_)
          · have h:=qbn h hc85
            refine qa5 ?_
            refine qa1 ?_
            refine qa0 hτ rfl rfl rfl ?_
            refine qa3 ?_
            refine qa7 (qa2 [0] (l:=[(4,.d (.bool false))]) (objs:=[.box [.d (.cx .f32 f_.Source.A.re f_.Source.A.im),.d (.cx .f32 f_.Source.B.re f_.Source.B.im),.d (.cx .f32 f_.Source.C.re f_.Source.C.im),.d (.sl false (f_.qaf.map qai))]]) rfl (by simp) rfl (by trivial) ⟨rfl,trivial,trivial⟩) ?_
            refine qar ?_
            have hr:=Option.some.inj h
            subst hr
            exact qah (.inr rfl) [] (objs':=[.box [.d (.cx .f32 f_.Source.A.re f_.Source.A.im),.d (.cx .f32 f_.Source.B.re f_.Source.B.im),.d (.cx .f32 f_.Source.C.re f_.Source.C.im),.d (.sl false (f_.qaf.map qai))]]) (new:=[]) rfl (by simp) (by simp) rfl (by trivial) rfl rfl (by trivial) (fun h=>nomatch h) ⟨rfl,rfl,rfl⟩
          · have h:=qbm h hc85
            refine qap ?_
            refine qa7 (qa2 [0] (l:=[(0,.ptr 0 0),(1,.d (.sl false (devices_.map qa9))),(7,.d (.int .i64 (devices_.length:Int))),(8,.d (.int .i64 v51))]) (objs:=[.box [.d (.cx .f32 f_.Source.A.re f_.Source.A.im),.d (.cx .f32 f_.Source.B.re f_.Source.B.im),.d (.cx .f32 f_.Source.C.re f_.Source.C.im),.d (.sl false (f_.qaf.map qai))]]) rfl (by simp) rfl (by trivial) ⟨rfl,trivial,rfl,trivial,rfl,trivial,rfl,trivial,trivial⟩) ?_
            exact hk74 () h
        · refine qa5 ?_
          refine qel ?_
          refine qab hτ [] 0 rfl rfl rfl rfl rfl ?_
          refine qab hτ [] 1 rfl rfl rfl rfl rfl ?_
          refine qaa h fun x87 hx87 h=>?_
          refine qc8 hτ [] 2 rfl rfl rfl rfl rfl (qaw hx87).1 (qb5 hx87) rfl ?_
          refine qab hτ [] 3 rfl rfl rfl rfl rfl ?_
          refine qaa h fun x88 hx88 h=>?_
          refine qhw hτ false [] [0] 4 rfl rfl rfl rfl (qaj func100 rfl rfl) rfl rfl (by simp) ⟨trivial,trivial⟩ (by trivial) (spec_l07Is_ok n (.int .i64 x87.Bus) x87.qcp hx88) ⟨rfl,trivial⟩ ?_
          refine qab hτ [] 5 rfl rfl rfl rfl rfl ?_
          refine qab hτ [] 6 rfl rfl rfl rfl rfl ?_
          refine qig 17 rfl (fun hb89=>?_) (fun hb89=>?_)
          · have hb89:=qgh hb89
            have h:=qbm h hb89
            refine qae 7 rfl rfl rfl ?_
            refine qae 8 rfl rfl rfl ?_
            refine qae 9 rfl rfl rfl ?_
            refine qae 10 rfl rfl rfl ?_
            refine qae 11 rfl rfl rfl ?_
            refine qae 12 rfl rfl rfl ?_
            refine qae 13 rfl rfl rfl ?_
            refine qae 14 rfl rfl rfl ?_
            refine qab hτ [] 15 rfl rfl rfl rfl rfl ?_
            refine qab hτ [] 16 rfl rfl rfl rfl rfl ?_
            refine qae 17 rfl rfl rfl ?_
            refine qae 18 rfl rfl rfl ?_
            refine qae 19 rfl rfl rfl ?_
            refine qae 20 rfl rfl rfl ?_
            refine qae 21 rfl rfl rfl ?_
            refine qae 22 rfl rfl rfl ?_
            refine qae 23 rfl rfl rfl ?_
            refine qae 24 rfl rfl rfl ?_
            refine qae 25 rfl rfl rfl ?_
            refine qae 26 rfl rfl rfl ?_
            refine qae 27 rfl rfl rfl ?_
            refine qae 28 rfl rfl rfl ?_
            refine qae 29 rfl rfl rfl ?_
            refine qae 30 rfl rfl rfl ?_
            refine qae 31 rfl rfl rfl ?_
            refine qae 32 rfl rfl rfl ?_
            refine qab hτ [] 33 rfl rfl rfl rfl rfl ?_
            refine qcy mixed (by kernel_rfl) ?_
            refine qa7 (qa2 [0] (l:=[(0,.ptr 0 0),(1,.d (.sl false (devices_.map qa9))),(7,.d (.int .i64 (devices_.length:Int))),(8,.d (.int .i64 v51)),(44,.d (.bool true))]) (objs:=[.box [.d (.cx .f32 f_.Source.A.re f_.Source.A.im),.d (.cx .f32 f_.Source.B.re f_.Source.B.im),.d (.cx .f32 f_.Source.C.re f_.Source.C.im),.d (.sl false (f_.qaf.map qai))]]) rfl (by simp) rfl (by trivial) ⟨rfl,trivial,rfl,trivial,rfl,trivial,rfl,trivial,rfl,trivial,trivial⟩) ?_
            exact hk86 true h
          · have hb89:=qgg hb89
            have h:=qbn h hb89
            refine qab hτ [] 7 rfl rfl rfl rfl rfl ?_
            refine qab hτ [] 8 rfl rfl rfl rfl rfl ?_
            refine qab hτ [] 9 rfl rfl rfl rfl rfl ?_
            refine qc8 hτ [] 10 rfl rfl rfl rfl rfl (qaw hx87).1 (qb5 hx87) rfl ?_
            refine qab hτ [] 11 rfl rfl rfl rfl rfl ?_
            refine qab hτ [] 12 rfl rfl rfl rfl rfl ?_
            refine qaa h fun x90 hx90 h=>?_
            refine qhw hτ false [0] [0] 13 rfl rfl rfl rfl (qaj func57 rfl rfl) rfl rfl (by simp) ⟨trivial,trivial,trivial⟩ (by trivial) (qmj n f_ x87.Bus hx90) ⟨rfl,trivial⟩ ?_
            refine qab hτ [] 14 rfl rfl rfl rfl rfl ?_
            refine qab hτ [] 15 rfl rfl rfl rfl rfl ?_
            refine qab hτ [] 16 rfl rfl rfl rfl rfl ?_
            refine qig 27 rfl (fun hb91=>?_) (fun hb91=>?_)
            · have hb91:=qgh hb91
              have h:=qbm h hb91
              refine qae 17 rfl rfl rfl ?_
              refine qae 18 rfl rfl rfl ?_
              refine qae 19 rfl rfl rfl ?_
              refine qae 20 rfl rfl rfl ?_
              refine qae 21 rfl rfl rfl ?_
              refine qae 22 rfl rfl rfl ?_
              refine qae 23 rfl rfl rfl ?_
              refine qae 24 rfl rfl rfl ?_
              refine qae 25 rfl rfl rfl ?_
              refine qae 26 rfl rfl rfl ?_
              refine qae 27 rfl rfl rfl ?_
              refine qae 28 rfl rfl rfl ?_
              refine qae 29 rfl rfl rfl ?_
              refine qae 30 rfl rfl rfl ?_
              refine qae 31 rfl rfl rfl ?_
              refine qae 32 rfl rfl rfl ?_
              refine qab hτ [] 33 rfl rfl rfl rfl rfl ?_
              refine qcy mixed (by kernel_rfl) ?_
              refine qa7 (qa2 [0] (l:=[(0,.ptr 0 0),(1,.d (.sl false (devices_.map qa9))),(7,.d (.int .i64 (devices_.length:Int))),(8,.d (.int .i64 v51)),(44,.d (.bool true))]) (objs:=[.box [.d (.cx .f32 f_.Source.A.re f_.Source.A.im),.d (.cx .f32 f_.Source.B.re f_.Source.B.im),.d (.cx .f32 f_.Source.C.re f_.Source.C.im),.d (.sl false (f_.qaf.map qai))]]) rfl (by simp) rfl (by trivial) ⟨rfl,trivial,rfl,trivial,rfl,trivial,rfl,trivial,rfl,trivial,trivial⟩) ?_
              exact hk86 true h
            · have hb91:=qgg hb91
              have h:=qbn h hb91
              refine qab hτ [] 17 rfl rfl rfl rfl rfl ?_
              refine qab hτ [] 18 rfl rfl rfl rfl rfl ?_
              refine qab hτ [] 19 rfl rfl rfl rfl rfl ?_
              refine qig 30 rfl (fun hb92=>?_) (fun hb92=>?_)
              · have h:=if_t h hb92
                refine qab hτ [] 20 rfl rfl rfl rfl rfl ?_
                refine qab hτ [] 21 rfl rfl rfl rfl rfl ?_
                refine qab hτ [] 22 rfl rfl rfl rfl rfl ?_
                refine qaa h fun x93 hx93 h=>?_
                refine qc8 hτ [] 23 rfl rfl rfl rfl rfl (qaw hx93).1 (qb5 hx93) rfl ?_
                refine qab hτ [] 24 rfl rfl rfl rfl rfl ?_
                refine qab hτ [] 25 rfl rfl rfl rfl rfl ?_
                refine qab hτ [] 26 rfl rfl rfl rfl rfl ?_
                refine qab hτ [] 27 rfl rfl rfl rfl rfl ?_
                refine qc8 hτ [] 28 rfl rfl rfl rfl rfl (qaw hx87).1 (qb5 hx87) rfl ?_
                refine qab hτ [] 29 rfl rfl rfl rfl rfl ?_
                refine qab hτ [] 30 rfl rfl rfl rfl rfl ?_
                refine qab hτ [] 31 rfl rfl rfl rfl rfl ?_
                refine qab hτ [] 32 rfl rfl rfl rfl rfl ?_
                refine qab hτ [] 33 rfl rfl rfl rfl rfl ?_
                refine qcy mixed (by kernel_rfl) ?_
                refine qa7 (qa2 [0] (l:=[(0,.ptr 0 0),(1,.d (.sl false (devices_.map qa9))),(7,.d (.int .i64 (devices_.length:Int))),(8,.d (.int .i64 v51)),(44,.d (.bool (decide (x93.Bus ≥ x87.Bus))))]) (objs:=[.box [.d (.cx .f32 f_.Source.A.re f_.Source.A.im),.d (.cx .f32 f_.Source.B.re f_.Source.B.im),.d (.cx .f32 f_.Source.C.re f_.Source.C.im),.d (.sl false (f_.qaf.map qai))]]) rfl (by simp) rfl (by trivial) ⟨rfl,trivial,rfl,trivial,rfl,trivial,rfl,trivial,rfl,trivial,trivial⟩) ?_
                exact hk86 (decide (x93.Bus ≥ x87.Bus)) h
              · have h:=if_f h hb92
                refine qae 20 rfl rfl rfl ?_
                refine qae 21 rfl rfl rfl ?_
                refine qae 22 rfl rfl rfl ?_
                refine qae 23 rfl rfl rfl ?_
                refine qae 24 rfl rfl rfl ?_
                refine qae 25 rfl rfl rfl ?_
                refine qae 26 rfl rfl rfl ?_
                refine qae 27 rfl rfl rfl ?_
                refine qae 28 rfl rfl rfl ?_
                refine qae 29 rfl rfl rfl ?_
                refine qae 30 rfl rfl rfl ?_
                refine qae 31 rfl rfl rfl ?_
                refine qab hτ [] 32 rfl rfl rfl rfl rfl ?_
                refine qab hτ [] 33 rfl rfl rfl rfl rfl ?_
                refine qcy mixed (by kernel_rfl) ?_
                refine qa7 (qa2 [0] (l:=[(0,.ptr 0 0),(1,.d (.sl false (devices_.map qa9))),(7,.d (.int .i64 (devices_.length:Int))),(8,.d (.int .i64 v51)),(44,.d (.bool false))]) (objs:=[.box [.d (.cx .f32 f_.Source.A.re f_.Source.A.im),.d (.cx .f32 f_.Source.B.re f_.Source.B.im),.d (.cx .f32 f_.Source.C.re f_.Source.C.im),.d (.sl false (f_.qaf.map qai))]]) rfl (by simp) rfl (by trivial) ⟨rfl,trivial,rfl,trivial,rfl,trivial,rfl,trivial,rfl,trivial,trivial⟩) ?_
                exact hk86 false h
    · have h:=if_f h hc64
      refine qcr ?_
      refine qa7 (qa2 [0] (l:=[(1,.d (.sl false (devices_.map qa9)))]) (objs:=[.box [.d (.cx .f32 f_.Source.A.re f_.Source.A.im),.d (.cx .f32 f_.Source.B.re f_.Source.B.im),.d (.cx .f32 f_.Source.C.re f_.Source.C.im),.d (.sl false (f_.qaf.map qai))]]) rfl (by simp) rfl (by trivial) ⟨rfl,trivial,trivial⟩) ?_
      exact hk41 () h
def qe4 (n:Nat) (v25:List Int):Nat→List Int→Int→Option (List Int)
  | 0,_,_=>none
  | m34 + 1,v28,v29 =>
    if v29 ≥ (0:Int) then
      (getI v25 v29).bind fun x37 =>
      grd (room (v28.length + 1) 8) <|
      (qe4 n v25 m34) (v28 ++ [x37]) (w64 (v29 - (1:Int)))
    else
      some v28
def qg1 (n:Nat) (v25:List Int):Option (List Int) :=
  qe4 n v25 n ([]:List Int) (w64 ((v25.length:Int) - (1:Int)))
def qdf (n:Nat) (f_:qax):Nat→List Int→Int→Option (List Int)
  | 0,_,_=>none
  | m48 + 1,v42,v43 =>
    if v43 ≥ (0:Int) then
      grd (room (v42.length + 1) 8) <|
      (getI f_.qaf v43).bind fun x52 =>
      (qdf n f_ m48) (v42 ++ [v43]) x52.qcx
    else
      qg1 n v42
def qjf (n:Nat) (f_:qax) (bus_:Int):Option (List Int) :=
  qdf n f_ n ([]:List Int) bus_
theorem spec_l02Path_ok (n:Nat) (f_:qax) (bus_:Int) {r:List Int} (h:qjf n f_ bus_ = some r):qb9 prog false 102 [.ptr 0 0,.d (.int .i64 bus_)] [.box [.d (.cx .f32 f_.Source.A.re f_.Source.A.im),.d (.cx .f32 f_.Source.B.re f_.Source.B.im),.d (.cx .f32 f_.Source.C.re f_.Source.C.im),.d (.sl false (f_.qaf.map qai))]] (fun v o new=>v = .row 1 r.length 0 r.length∧o = [.box [.d (.cx .f32 f_.Source.A.re f_.Source.A.im),.d (.cx .f32 f_.Source.B.re f_.Source.B.im),.d (.cx .f32 f_.Source.C.re f_.Source.C.im),.d (.sl false (f_.qaf.map qai))]]∧new = [.row 1 (r.map qac)]):=by
  refine qak hτ func102 rfl (by simp) (by simp) ?_
  unfold qjf at h
  refine qa5 ?_
  refine qa1 ?_
  refine qa0 hτ rfl rfl rfl ?_
  refine qa3 ?_
  refine qa5 ?_
  refine qa1 ?_
  refine qav hτ rfl rfl rfl ?_
  refine qa0 hτ rfl rfl rfl ?_
  refine qa3 ?_
  refine qb8 (ι:=List Int) (fun v25=>St.of [(5,.row 1 v25.length 0 v25.length)] [.box [.d (.cx .f32 f_.Source.A.re f_.Source.A.im),.d (.cx .f32 f_.Source.B.re f_.Source.B.im),.d (.cx .f32 f_.Source.C.re f_.Source.C.im),.d (.sl false (f_.qaf.map qai))],.row 1 (v25.map qac)] f102.ntmps 1) (fun v25=>qg1 n v25 = some r) ?_ (fun hk39=>?_)
  · rintro v25 h
    replace h:qg1 n v25 = some r:=h
    unfold qg1 at h
    refine qa5 ?_
    refine qa1 ?_
    refine qav hτ rfl rfl rfl ?_
    refine qa0 hτ rfl rfl rfl ?_
    refine qa3 ?_
    refine qa5 ?_
    refine qa5 ?_
    refine qa1 ?_
    refine qa0 hτ rfl rfl rfl ?_
    refine qcl hτ rfl rfl rfl (qbx _) ?_
    refine qa0 hτ rfl rfl rfl ?_
    refine qa0 hτ rfl rfl rfl ?_
    refine qa3 ?_
    refine qaz ?_
    refine qcs (ι:=Nat × List Int × Int) (fun (m34,v28,v29)=>St.of [(5,.row 1 v25.length 0 v25.length),(7,.row 2 v28.length 0 v28.length),(8,.d (.int .i64 v29))] [.box [.d (.cx .f32 f_.Source.A.re f_.Source.A.im),.d (.cx .f32 f_.Source.B.re f_.Source.B.im),.d (.cx .f32 f_.Source.C.re f_.Source.C.im),.d (.sl false (f_.qaf.map qai))],.row 1 (v25.map qac),.row 1 (v28.map qac)] f102.ntmps 1) (fun (m34,v28,v29)=>qe4 n v25 m34 v28 v29 = some r) (fun x=>x.1) (n,([]:List Int),(w64 ((v25.length:Int) - (1:Int)))) h (qa2 [0,1,2] (l:=[(5,.row 1 v25.length 0 v25.length),(7,.row 2 (([]:List Int).length) 0 (([]:List Int).length)),(8,.d (.int .i64 (w64 ((v25.length:Int) - (1:Int)))))]) (objs:=[.box [.d (.cx .f32 f_.Source.A.re f_.Source.A.im),.d (.cx .f32 f_.Source.B.re f_.Source.B.im),.d (.cx .f32 f_.Source.C.re f_.Source.C.im),.d (.sl false (f_.qaf.map qai))],.row 1 (v25.map qac),.row 1 (([]:List Int).map qac)]) rfl (by simp) rfl (by trivial) ⟨rfl,trivial,rfl,trivial,rfl,trivial,trivial⟩) ?_
    rintro ⟨m34,v28,v29⟩ h
    replace h:qe4 n v25 m34 v28 v29 = some r:=h
    rcases m34 with _ | m34
    · rw [qe4] at h;cases h
    rw [qe4] at h
    refine qa5 ?_
    refine qa5 ?_
    refine qa1 ?_
    refine qa0 hτ rfl rfl rfl ?_
    refine qa0 hτ rfl rfl rfl ?_
    refine qa3 ?_
    refine qao rfl (fun hc36=>?_) (fun hc36=>?_)
    · have h:=if_t h hc36
      refine qap ?_
      refine qa5 ?_
      refine qaz ?_
      refine qa1 ?_
      refine qa0 hτ rfl rfl rfl ?_
      refine qa0 hτ rfl rfl rfl ?_
      refine qa0 hτ rfl rfl rfl ?_
      refine qaa h fun x37 hx37 h=>?_
      refine qcl hτ rfl rfl rfl (qd0 hx37) ?_
      refine qbe hτ rfl rfl rfl (qbx _) (qek hx37) rfl ?_
      refine qav hτ rfl rfl rfl ?_
      refine qf2 h fun hg38 h=>?_
      refine qih hτ rfl rfl (Eq.trans rfl (or_append (f:=qac) v28 [x37] rfl)) ⟨⟨rfl,Nat.le_of_ble_eq_true rfl⟩,qbx _,rfl,rfl,hg38,by decide,(all1 rfl)⟩ ?_
      refine qa0 hτ rfl rfl rfl ?_
      refine qa3 ?_
      refine qa7 (qa2 [0,1,2] (l:=[(5,.row 1 v25.length 0 v25.length),(7,.row 2 ((v28 ++ [x37]).length) 0 ((v28 ++ [x37]).length)),(8,.d (.int .i64 v29))]) (objs:=[.box [.d (.cx .f32 f_.Source.A.re f_.Source.A.im),.d (.cx .f32 f_.Source.B.re f_.Source.B.im),.d (.cx .f32 f_.Source.C.re f_.Source.C.im),.d (.sl false (f_.qaf.map qai))],.row 1 (v25.map qac),.row 1 ((v28 ++ [x37]).map qac)]) rfl (by simp) rfl (by trivial) ⟨rfl,trivial,rfl,trivial,rfl,trivial,trivial⟩) ?_
      refine qa1 ?_
      refine qa0 hτ rfl rfl rfl ?_
      refine qa0 hτ rfl rfl rfl ?_
      refine qa0 hτ rfl rfl rfl ?_
      refine qa3 ?_
      exact ⟨(m34,(v28 ++ [x37]),(w64 (v29 - (1:Int)))),h,Nat.lt_succ_self m34,(qa2 [0,1,2] (l:=[(5,.row 1 v25.length 0 v25.length),(7,.row 2 ((v28 ++ [x37]).length) 0 ((v28 ++ [x37]).length)),(8,.d (.int .i64 (w64 (v29 - (1:Int)))))]) (objs:=[.box [.d (.cx .f32 f_.Source.A.re f_.Source.A.im),.d (.cx .f32 f_.Source.B.re f_.Source.B.im),.d (.cx .f32 f_.Source.C.re f_.Source.C.im),.d (.sl false (f_.qaf.map qai))],.row 1 (v25.map qac),.row 1 ((v28 ++ [x37]).map qac)]) rfl (by simp) rfl (by trivial) ⟨rfl,trivial,rfl,trivial,rfl,trivial,trivial⟩)⟩
    · have h:=if_f h hc36
      refine qcr ?_
      refine qa5 ?_
      refine qa1 ?_
      refine qa0 hτ rfl rfl rfl ?_
      refine qa0 hτ rfl rfl rfl ?_
      refine qa3 ?_
      refine qa7 (qa2 [0,2] (l:=[(4,.row 1 v28.length 0 v28.length)]) (objs:=[.box [.d (.cx .f32 f_.Source.A.re f_.Source.A.im),.d (.cx .f32 f_.Source.B.re f_.Source.B.im),.d (.cx .f32 f_.Source.C.re f_.Source.C.im),.d (.sl false (f_.qaf.map qai))],.row 1 (v28.map qac)]) rfl (by simp) rfl (by trivial) ⟨rfl,trivial,trivial⟩) ?_
      refine qar ?_
      have hr:=Option.some.inj h
      subst hr
      exact qah (.inr rfl) [1] (objs':=[.box [.d (.cx .f32 f_.Source.A.re f_.Source.A.im),.d (.cx .f32 f_.Source.B.re f_.Source.B.im),.d (.cx .f32 f_.Source.C.re f_.Source.C.im),.d (.sl false (f_.qaf.map qai))]]) (new:=[.row 1 (v28.map qac)]) rfl (by simp) (by simp) rfl (by trivial) rfl rfl (by trivial) (fun h=>nomatch h) ⟨rfl,rfl,rfl⟩
  · refine qa5 ?_
    refine qa5 ?_
    refine qa1 ?_
    refine qa0 hτ rfl rfl rfl ?_
    refine qa0 hτ rfl rfl rfl ?_
    refine qa3 ?_
    refine qaz ?_
    refine qcs (ι:=Nat × List Int × Int) (fun (m48,v42,v43)=>St.of [(0,.ptr 0 0),(5,.row 1 v42.length 0 v42.length),(6,.d (.int .i64 v43))] [.box [.d (.cx .f32 f_.Source.A.re f_.Source.A.im),.d (.cx .f32 f_.Source.B.re f_.Source.B.im),.d (.cx .f32 f_.Source.C.re f_.Source.C.im),.d (.sl false (f_.qaf.map qai))],.row 1 (v42.map qac)] f102.ntmps 1) (fun (m48,v42,v43)=>qdf n f_ m48 v42 v43 = some r) (fun x=>x.1) (n,([]:List Int),bus_) h (qa2 [0,1] (l:=[(0,.ptr 0 0),(5,.row 1 (([]:List Int).length) 0 (([]:List Int).length)),(6,.d (.int .i64 bus_))]) (objs:=[.box [.d (.cx .f32 f_.Source.A.re f_.Source.A.im),.d (.cx .f32 f_.Source.B.re f_.Source.B.im),.d (.cx .f32 f_.Source.C.re f_.Source.C.im),.d (.sl false (f_.qaf.map qai))],.row 1 (([]:List Int).map qac)]) rfl (by simp) rfl (by trivial) ⟨rfl,trivial,rfl,trivial,rfl,trivial,trivial⟩) ?_
    rintro ⟨m48,v42,v43⟩ h
    replace h:qdf n f_ m48 v42 v43 = some r:=h
    rcases m48 with _ | m48
    · rw [qdf] at h;cases h
    rw [qdf] at h
    refine qa5 ?_
    refine qa5 ?_
    refine qa1 ?_
    refine qa0 hτ rfl rfl rfl ?_
    refine qa0 hτ rfl rfl rfl ?_
    refine qa3 ?_
    refine qao rfl (fun hc50=>?_) (fun hc50=>?_)
    · have h:=if_t h hc50
      refine qap ?_
      refine qa5 ?_
      refine qaz ?_
      refine qa1 ?_
      refine qa0 hτ rfl rfl rfl ?_
      refine qa0 hτ rfl rfl rfl ?_
      refine qav hτ rfl rfl rfl ?_
      refine qf2 h fun hg51 h=>?_
      refine qih hτ rfl rfl (Eq.trans rfl (or_append (f:=qac) v42 [v43] rfl)) ⟨⟨rfl,Nat.le_of_ble_eq_true rfl⟩,qbx _,rfl,rfl,hg51,by decide,(all1 rfl)⟩ ?_
      refine qa0 hτ rfl rfl rfl ?_
      refine qa3 ?_
      refine qa7 (qa2 [0,1] (l:=[(0,.ptr 0 0),(5,.row 1 ((v42 ++ [v43]).length) 0 ((v42 ++ [v43]).length)),(6,.d (.int .i64 v43))]) (objs:=[.box [.d (.cx .f32 f_.Source.A.re f_.Source.A.im),.d (.cx .f32 f_.Source.B.re f_.Source.B.im),.d (.cx .f32 f_.Source.C.re f_.Source.C.im),.d (.sl false (f_.qaf.map qai))],.row 1 ((v42 ++ [v43]).map qac)]) rfl (by simp) rfl (by trivial) ⟨rfl,trivial,rfl,trivial,rfl,trivial,trivial⟩) ?_
      refine qa1 ?_
      refine qa0 hτ rfl rfl rfl ?_
      refine qa0 hτ rfl rfl rfl ?_
      refine qa0 hτ rfl rfl rfl ?_
      refine qa0 hτ rfl rfl rfl ?_
      refine qa0 hτ rfl rfl rfl ?_
      refine qaa h fun x52 hx52 h=>?_
      refine qbe hτ rfl rfl rfl (qaw hx52).1 (qb5 hx52) rfl ?_
      refine qa0 hτ rfl rfl rfl ?_
      refine qa0 hτ rfl rfl rfl ?_
      refine qa0 hτ rfl rfl rfl ?_
      refine qa3 ?_
      exact ⟨(m48,(v42 ++ [v43]),x52.qcx),h,Nat.lt_succ_self m48,(qa2 [0,1] (l:=[(0,.ptr 0 0),(5,.row 1 ((v42 ++ [v43]).length) 0 ((v42 ++ [v43]).length)),(6,.d (.int .i64 x52.qcx))]) (objs:=[.box [.d (.cx .f32 f_.Source.A.re f_.Source.A.im),.d (.cx .f32 f_.Source.B.re f_.Source.B.im),.d (.cx .f32 f_.Source.C.re f_.Source.C.im),.d (.sl false (f_.qaf.map qai))],.row 1 ((v42 ++ [v43]).map qac)]) rfl (by simp) rfl (by trivial) ⟨rfl,trivial,rfl,trivial,rfl,trivial,trivial⟩)⟩
    · have h:=if_f h hc50
      refine qcr ?_
      refine qa7 (qa2 [0,1] (l:=[(5,.row 1 v42.length 0 v42.length)]) (objs:=[.box [.d (.cx .f32 f_.Source.A.re f_.Source.A.im),.d (.cx .f32 f_.Source.B.re f_.Source.B.im),.d (.cx .f32 f_.Source.C.re f_.Source.C.im),.d (.sl false (f_.qaf.map qai))],.row 1 (v42.map qac)]) rfl (by simp) rfl (by trivial) ⟨rfl,trivial,trivial⟩) ?_
      exact hk39 v42 h
def qeh (n:Nat) (list_:List Int) (n_:Int):Nat→Int→Option Bool
  | 0,_=>none
  | m9 + 1,v6 =>
    if v6 < (list_.length:Int) then
      (getI list_ v6).bind fun x13 =>
      if x13 = n_ then
        some true
      else
        (qeh n list_ n_ m9) (w64 (v6 + (1:Int)))
    else
      some false
def qjx (n:Nat) (list_:List Int) (n_:Int):Option Bool :=
  qeh n list_ n_ n (0:Int)
theorem spec_l00Has_ok_fr0 (fr:Bool) (n:Nat) (list_:List Int) (n_:Int) {r:Bool} (h:qjx n list_ n_ = some r):qb9 prog fr 103 [.d (.sl false (list_.map qac)),.d (.int .i64 n_)] [] (fun v o new=>v = .d (.bool r)∧o = []∧new = []):=by
  refine qak hτ func103 rfl (by simp) (by simp) ?_
  unfold qjx at h
  refine qa5 ?_
  refine qa1 ?_
  refine qa0 hτ rfl rfl rfl ?_
  refine qa3 ?_
  refine qa5 ?_
  refine qa5 ?_
  refine qa1 ?_
  refine qa0 hτ rfl rfl rfl ?_
  refine qa3 ?_
  refine qaz ?_
  refine qcs (ι:=Nat × Int) (fun (m9,v6)=>St.of [(0,.d (.sl false (list_.map qac))),(1,.d (.int .i64 n_)),(5,.d (.int .i64 v6))] [] f103.ntmps 0) (fun (m9,v6)=>qeh n list_ n_ m9 v6 = some r) (fun x=>x.1) (n,(0:Int)) h (qa2 [] (l:=[(0,.d (.sl false (list_.map qac))),(1,.d (.int .i64 n_)),(5,.d (.int .i64 (0:Int)))]) (objs:=[]) rfl (by simp) rfl (by trivial) ⟨rfl,trivial,rfl,trivial,rfl,trivial,trivial⟩) ?_
  rintro ⟨m9,v6⟩ h
  replace h:qeh n list_ n_ m9 v6 = some r:=h
  rcases m9 with _ | m9
  · rw [qeh] at h;cases h
  rw [qeh] at h
  refine qa5 ?_
  refine qa5 ?_
  refine qa1 ?_
  refine qa0 hτ rfl rfl rfl ?_
  refine qa0 hτ rfl rfl rfl ?_
  refine qa0 hτ (v:=.d (.int .i64 (list_.length:Int))) rfl rfl (Eq.trans rfl (qdb (f:=qac) list_)) ?_
  refine qa0 hτ rfl rfl rfl ?_
  refine qa3 ?_
  refine qao rfl (fun hc11=>?_) (fun hc11=>?_)
  · have h:=if_t h hc11
    refine qap ?_
    refine qa5 ?_
    refine qaz ?_
    refine qa5 ?_
    refine qa1 ?_
    refine qa0 hτ rfl rfl rfl ?_
    refine qa0 hτ rfl rfl rfl ?_
    refine qaa h fun x13 hx13 h=>?_
    refine qbe hτ rfl rfl rfl (qaw hx13).1 (qb5 hx13) rfl ?_
    refine qa0 hτ rfl rfl rfl ?_
    refine qa0 hτ rfl rfl rfl ?_
    refine qa0 hτ (v:=.d (.bool (decide (x13 = n_)))) rfl rfl (ql2 _ _) ?_
    refine qa3 ?_
    refine qa7 (qa2 [] (l:=[(0,.d (.sl false (list_.map qac))),(1,.d (.int .i64 n_)),(5,.d (.int .i64 v6)),(17,.d (.bool (decide (x13 = n_))))]) (objs:=[]) rfl (by simp) rfl (by trivial) ⟨rfl,trivial,rfl,trivial,rfl,trivial,rfl,trivial,trivial⟩) ?_
    refine qao rfl (fun hc14=>?_) (fun hc14=>?_)
    · have h:=if_t h hc14
      refine qa5 ?_
      refine qa1 ?_
      refine qa0 hτ rfl rfl rfl ?_
      refine qa3 ?_
      refine qa7 (qa2 [] (l:=[(4,.d (.bool true))]) (objs:=[]) rfl (by simp) rfl (by trivial) ⟨rfl,trivial,trivial⟩) ?_
      refine qar ?_
      have hr:=Option.some.inj h
      subst hr
      exact qah (.inr rfl) [] (objs':=[]) (new:=[]) rfl (by simp) (by simp) rfl (by trivial) rfl rfl (by trivial) (fun _=>⟨by simp [V.flat,V.qbk,V.qbf,D.flat],qal⟩) ⟨rfl,rfl,rfl⟩
    · have h:=if_f h hc14
      refine qap ?_
      refine qa1 ?_
      refine qa0 hτ rfl rfl rfl ?_
      refine qa0 hτ rfl rfl rfl ?_
      refine qa0 hτ rfl rfl rfl ?_
      refine qa3 ?_
      exact ⟨(m9,(w64 (v6 + (1:Int)))),h,Nat.lt_succ_self m9,(qa2 [] (l:=[(0,.d (.sl false (list_.map qac))),(1,.d (.int .i64 n_)),(5,.d (.int .i64 (w64 (v6 + (1:Int)))))]) (objs:=[]) rfl (by simp) rfl (by trivial) ⟨rfl,trivial,rfl,trivial,rfl,trivial,trivial⟩)⟩
  · have h:=if_f h hc11
    refine qcr ?_
    refine qa5 ?_
    refine qa1 ?_
    refine qa0 hτ rfl rfl rfl ?_
    refine qa3 ?_
    refine qa7 (qa2 [] (l:=[(4,.d (.bool false))]) (objs:=[]) rfl (by simp) rfl (by trivial) ⟨rfl,trivial,trivial⟩) ?_
    refine qar ?_
    have hr:=Option.some.inj h
    subst hr
    exact qah (.inr rfl) [] (objs':=[]) (new:=[]) rfl (by simp) (by simp) rfl (by trivial) rfl rfl (by trivial) (fun _=>⟨by simp [V.flat,V.qbk,V.qbf,D.flat],qal⟩) ⟨rfl,rfl,rfl⟩
theorem spec_l00Has_ok_fr (n:Nat) (list_:List Int) (n_:Int) {r:Bool} (h:qjx n list_ n_ = some r):qb9 prog true 103 [.d (.sl false (list_.map qac)),.d (.int .i64 n_)] [] (fun v o new=>v = .d (.bool r)∧o = []∧new = []):=spec_l00Has_ok_fr0 true n list_ n_ h
end Go.Proofs.Ytmllgpkgjniomaa.AWN
