/- Models and contracts, printed by program. -/
import Derived.Test.YtdnkjocenbepaaaFnLowestC
set_option linter.unusedVariables false
set_option linter.unusedSimpArgs false
set_option linter.unusedSectionVars false
set_option maxHeartbeats 2000000
namespace Go.Proofs.Ytdnkjocenbepaaa.AWN
open Go Go.Proofs.Try
def qbs (n:Nat) (f_:qam) (voltages_:List qa7):Nat→List qa7→Int→Option (List qa7)
  | 0,_,_=>none
  | m25 + 1,v17,v18 =>
    if v18 < (f_.qa9.length:Int) then
      (getI f_.qa9 v18).bind fun x28 =>
      (getI voltages_ v18).bind fun x29 =>
      (qbo n x28 x29).bind fun x30 =>
      grd (room (v17.length + 1) 24) <|
      (qbs n f_ voltages_ m25) (v17 ++ [x30]) (w64 (v18 + (1:Int)))
    else
      some v17
def qf2 (n:Nat) (f_:qam) (voltages_:List qa7):Option (List qa7) :=
  qbs n f_ voltages_ n ([]:List qa7) (0:Int)
theorem impl_Feeder_loads_ok (n:Nat) (f_:qam) (voltages_:List qa7) {r:List qa7} (h:qf2 n f_ voltages_ = some r):qb0 prog false 127 [.ptr 0 0,.d (.sl false (voltages_.map qa1))] [.box [.d (.cx .f32 f_.Source.A.re f_.Source.A.im),.d (.cx .f32 f_.Source.B.re f_.Source.B.im),.d (.cx .f32 f_.Source.C.re f_.Source.C.im),.d (.sl false (f_.qa9.map qaf))]] (fun v o new=>v = .row 1 r.length 0 r.length∧o = [.box [.d (.cx .f32 f_.Source.A.re f_.Source.A.im),.d (.cx .f32 f_.Source.B.re f_.Source.B.im),.d (.cx .f32 f_.Source.C.re f_.Source.C.im),.d (.sl false (f_.qa9.map qaf))]]∧new = [.row 3 (r.map qa1)]):=by
  refine qal hτ func127 rfl (by simp) (by simp) ?_
  unfold qf2 at h
  refine qaa ?_
  refine qa2 ?_
  refine qa0 hτ rfl rfl rfl ?_
  refine qa6 ?_
  refine qaa ?_
  refine qa2 ?_
  refine qak hτ rfl rfl rfl ?_
  refine qa0 hτ rfl rfl rfl ?_
  refine qa6 ?_
  refine qaa ?_
  refine qaa ?_
  refine qa2 ?_
  refine qa0 hτ rfl rfl rfl ?_
  refine qa0 hτ rfl rfl rfl ?_
  refine qa0 hτ rfl rfl rfl ?_
  refine qa0 hτ rfl rfl rfl ?_
  refine qa0 hτ (v:=.d (.int .i64 (f_.qa9.length:Int))) rfl rfl (Eq.trans rfl (qfx (f:=qaf) f_.qa9)) ?_
  refine qa0 hτ rfl rfl rfl ?_
  refine qa6 ?_
  refine qba ?_
  refine qfd (ι:=Nat × List qa7 × Int) (fun (m25,v17,v18)=>St.of [(1,.d (.sl false (voltages_.map qa1))),(5,.row 1 v17.length 0 v17.length),(12,.d (.sl false (f_.qa9.map qaf))),(13,.d (.int .i64 (f_.qa9.length:Int))),(14,.d (.int .i64 v18))] [.box [.d (.cx .f32 f_.Source.A.re f_.Source.A.im),.d (.cx .f32 f_.Source.B.re f_.Source.B.im),.d (.cx .f32 f_.Source.C.re f_.Source.C.im),.d (.sl false (f_.qa9.map qaf))],.row 3 (v17.map qa1)] f127.ntmps 1) (fun (m25,v17,v18)=>qbs n f_ voltages_ m25 v17 v18 = some r) (fun x=>x.1) (n,([]:List qa7),(0:Int)) h (qa5 [0,1] (l:=[(1,.d (.sl false (voltages_.map qa1))),(5,.row 1 (([]:List qa7).length) 0 (([]:List qa7).length)),(12,.d (.sl false (f_.qa9.map qaf))),(13,.d (.int .i64 (f_.qa9.length:Int))),(14,.d (.int .i64 (0:Int)))]) (objs:=[.box [.d (.cx .f32 f_.Source.A.re f_.Source.A.im),.d (.cx .f32 f_.Source.B.re f_.Source.B.im),.d (.cx .f32 f_.Source.C.re f_.Source.C.im),.d (.sl false (f_.qa9.map qaf))],.row 3 (([]:List qa7).map qa1)]) rfl (by simp) rfl (by trivial) ⟨rfl,trivial,rfl,trivial,rfl,trivial,rfl,trivial,rfl,trivial,trivial⟩) ?_
  rintro ⟨m25,v17,v18⟩ h
  replace h:qbs n f_ voltages_ m25 v17 v18 = some r:=h
  rcases m25 with _ | m25
  · rw [qbs] at h;cases h
  rw [qbs] at h
  refine qaa ?_
  refine qa2 ?_
  refine qa0 hτ rfl rfl rfl ?_
  refine qa6 ?_
  refine qaa ?_
  refine qaz rfl (fun hc27=>?_) (fun hc27=>?_)
  · have h:=if_t h hc27
    refine qb3 ?_
    refine qaa ?_
    refine qba ?_
    refine qaa ?_
    refine qa2 ?_
    refine qa0 hτ rfl rfl rfl ?_
    refine qac h fun x28 hx28 h=>?_
    refine qfb hτ rfl rfl rfl (qd3 hx28).1 (qeu hx28) rfl ?_
    refine qa0 hτ rfl rfl rfl ?_
    refine qak hτ rfl rfl rfl ?_
    refine qa0 hτ rfl rfl rfl ?_
    refine qak hτ rfl rfl rfl ?_
    refine qa6 ?_
    refine qab (qa5 [0,1,2] (l:=[(1,.d (.sl false (voltages_.map qa1))),(5,.row 1 v17.length 0 v17.length),(6,.d (.int .i64 v18)),(7,.ptr 2 0),(12,.d (.sl false (f_.qa9.map qaf))),(13,.d (.int .i64 (f_.qa9.length:Int))),(14,.d (.int .i64 v18))]) (objs:=[.box [.d (.cx .f32 f_.Source.A.re f_.Source.A.im),.d (.cx .f32 f_.Source.B.re f_.Source.B.im),.d (.cx .f32 f_.Source.C.re f_.Source.C.im),.d (.sl false (f_.qa9.map qaf))],.row 3 (v17.map qa1),.box [.d (.int .i64 x28.qar),.d (.cx .f32 x28.Own.re x28.Own.im),.d (.cx .f32 x28.Shared.re x28.Shared.im),.d (.int .i64 x28.Kind),.d (.cx .f32 x28.Load.A.re x28.Load.A.im),.d (.cx .f32 x28.Load.B.re x28.Load.B.im),.d (.cx .f32 x28.Load.C.re x28.Load.C.im),.d (.int .i64 x28.qan)]]) rfl (by simp) rfl (by trivial) ⟨rfl,trivial,rfl,trivial,rfl,trivial,rfl,trivial,rfl,trivial,rfl,trivial,rfl,trivial,trivial⟩) ?_
    refine qcv ?_
    refine qad hτ [] 0 rfl rfl rfl rfl rfl ?_
    refine qad hτ [2] 1 rfl rfl rfl rfl rfl ?_
    refine qad hτ [] 2 rfl rfl rfl rfl rfl ?_
    refine qad hτ [] 3 rfl rfl rfl rfl rfl ?_
    refine qac h fun x29 hx29 h=>?_
    refine qg1 hτ [] 4 rfl rfl rfl rfl rfl (qd3 hx29).1 (qeu hx29) rfl ?_
    refine qad hτ [] 5 rfl rfl rfl rfl rfl ?_
    refine qac h fun x30 hx30 h=>?_
    refine qbd hτ false [] [0,1,2] 6 rfl rfl rfl rfl (qai func160 rfl rfl) rfl rfl (by simp) ⟨(by trivial),(by trivial),trivial⟩ (by trivial) (impl_LoadCurrentOf_ok n x28 x29 hx30) ⟨rfl,rfl,rfl,trivial⟩ ?_
    refine qcd hτ [0,1,2] 7 rfl rfl rfl rfl ⟨rfl,rfl,rfl,trivial⟩ ?_
    refine qd6 h fun hg31 h=>?_
    refine qg3 hτ [0,2,3] 8 rfl rfl rfl (Eq.trans rfl (or_append (f:=qa1) v17 [x30] rfl)) ⟨⟨rfl,Nat.le_of_ble_eq_true rfl⟩,qb5 _,rfl,rfl,hg31,by decide,(all1 rfl)⟩ ⟨rfl,rfl,rfl,trivial⟩ ?_
    refine qad hτ [] 9 rfl rfl rfl rfl rfl ?_
    refine qd4 mixed (by kernel_rfl) ?_
    refine qab (qa5 [0,1] (l:=[(1,.d (.sl false (voltages_.map qa1))),(5,.row 1 ((v17 ++ [x30]).length) 0 ((v17 ++ [x30]).length)),(12,.d (.sl false (f_.qa9.map qaf))),(13,.d (.int .i64 (f_.qa9.length:Int))),(14,.d (.int .i64 v18))]) (objs:=[.box [.d (.cx .f32 f_.Source.A.re f_.Source.A.im),.d (.cx .f32 f_.Source.B.re f_.Source.B.im),.d (.cx .f32 f_.Source.C.re f_.Source.C.im),.d (.sl false (f_.qa9.map qaf))],.row 3 ((v17 ++ [x30]).map qa1)]) rfl (by simp) rfl (by trivial) ⟨rfl,trivial,rfl,trivial,rfl,trivial,rfl,trivial,rfl,trivial,trivial⟩) ?_
    refine qa2 ?_
    refine qa0 hτ rfl rfl rfl ?_
    refine qa0 hτ rfl rfl rfl ?_
    refine qa6 ?_
    exact ⟨(m25,(v17 ++ [x30]),(w64 (v18 + (1:Int)))),h,Nat.lt_succ_self m25,(qa5 [0,1] (l:=[(1,.d (.sl false (voltages_.map qa1))),(5,.row 1 ((v17 ++ [x30]).length) 0 ((v17 ++ [x30]).length)),(12,.d (.sl false (f_.qa9.map qaf))),(13,.d (.int .i64 (f_.qa9.length:Int))),(14,.d (.int .i64 (w64 (v18 + (1:Int)))))]) (objs:=[.box [.d (.cx .f32 f_.Source.A.re f_.Source.A.im),.d (.cx .f32 f_.Source.B.re f_.Source.B.im),.d (.cx .f32 f_.Source.C.re f_.Source.C.im),.d (.sl false (f_.qa9.map qaf))],.row 3 ((v17 ++ [x30]).map qa1)]) rfl (by simp) rfl (by trivial) ⟨rfl,trivial,rfl,trivial,rfl,trivial,rfl,trivial,rfl,trivial,trivial⟩)⟩
  · have h:=if_f h hc27
    refine qfc ?_
    refine qaa ?_
    refine qa2 ?_
    refine qa0 hτ rfl rfl rfl ?_
    refine qa0 hτ rfl rfl rfl ?_
    refine qa6 ?_
    refine qab (qa5 [0,1] (l:=[(4,.row 1 v17.length 0 v17.length)]) (objs:=[.box [.d (.cx .f32 f_.Source.A.re f_.Source.A.im),.d (.cx .f32 f_.Source.B.re f_.Source.B.im),.d (.cx .f32 f_.Source.C.re f_.Source.C.im),.d (.sl false (f_.qa9.map qaf))],.row 3 (v17.map qa1)]) rfl (by simp) rfl (by trivial) ⟨rfl,trivial,trivial⟩) ?_
    refine qas ?_
    have hr:=Option.some.inj h
    subst hr
    exact qah (.inr rfl) [1] (objs':=[.box [.d (.cx .f32 f_.Source.A.re f_.Source.A.im),.d (.cx .f32 f_.Source.B.re f_.Source.B.im),.d (.cx .f32 f_.Source.C.re f_.Source.C.im),.d (.sl false (f_.qa9.map qaf))]]) (new:=[.row 3 (v17.map qa1)]) rfl (by simp) (by simp) rfl (by trivial) rfl rfl (by trivial) (fun h=>nomatch h) ⟨rfl,rfl,rfl⟩
def qgg (n:Nat) (__:Int) (p_:qa7):Option qa7 :=
  some p_
theorem impl_same_ok_fr0 (fr:Bool) (n:Nat) (__:Int) (p_:qa7) {r:qa7} (h:qgg n __ p_ = some r):qb0 prog fr 62 [.d (.int .i64 __),.agg [.d (.cx .f32 p_.A.re p_.A.im),.d (.cx .f32 p_.B.re p_.B.im),.d (.cx .f32 p_.C.re p_.C.im)]] [] (fun v o new=>v = .agg [.d (.cx .f32 r.A.re r.A.im),.d (.cx .f32 r.B.re r.B.im),.d (.cx .f32 r.C.re r.C.im)]∧o = []∧new = []):=by
  refine qal hτ func62 rfl (by simp) (by simp) ?_
  unfold qgg at h
  refine qaa ?_
  refine qa2 ?_
  refine qak hτ rfl rfl rfl ?_
  refine qak hτ rfl rfl rfl ?_
  refine qa6 ?_
  refine qaa ?_
  refine qa2 ?_
  refine qa0 hτ rfl rfl rfl ?_
  refine qak hτ rfl rfl rfl ?_
  refine qa6 ?_
  refine qab (qa5 [1] (l:=[(4,.ptr 0 0)]) (objs:=[.box [.d (.cx .f32 p_.A.re p_.A.im),.d (.cx .f32 p_.B.re p_.B.im),.d (.cx .f32 p_.C.re p_.C.im)]]) rfl (by simp) rfl (by trivial) ⟨rfl,trivial,trivial⟩) ?_
  refine qas ?_
  have hr:=Option.some.inj h
  subst hr
  exact qah (.inr rfl) [] (objs':=[]) (new:=[]) rfl (by simp) (by simp) rfl (by trivial) rfl rfl (by trivial) (fun _=>⟨by simp [V.flat,V.qbh,V.qb7,D.flat],qao⟩) ⟨rfl,rfl,rfl⟩
theorem qnh (n:Nat) (__:Int) (p_:qa7) {r:qa7} (h:qgg n __ p_ = some r):qb0 prog false 62 [.d (.int .i64 __),.agg [.d (.cx .f32 p_.A.re p_.A.im),.d (.cx .f32 p_.B.re p_.B.im),.d (.cx .f32 p_.C.re p_.C.im)]] [] (fun v o new=>v = .agg [.d (.cx .f32 r.A.re r.A.im),.d (.cx .f32 r.B.re r.B.im),.d (.cx .f32 r.C.re r.C.im)]∧o = []∧new = []):=impl_same_ok_fr0 false n __ p_ h
def qip (n:Nat) (x_:Cx) (y_:Cx):Option Cx :=
  some (Cx.mk (qa8 .add .f32 x_.re y_.re) (qa8 .add .f32 x_.im y_.im))
theorem impl_plus_ok_fr0 (fr:Bool) (n:Nat) (x_:Cx) (y_:Cx) {r:Cx} (h:qip n x_ y_ = some r):qb0 prog fr 176 [.d (.cx .f32 x_.re x_.im),.d (.cx .f32 y_.re y_.im)] [] (fun v o new=>v = .d (.cx .f32 r.re r.im)∧o = []∧new = []):=by
  refine qal hτ func176 rfl (by simp) (by simp) ?_
  unfold qip at h
  refine qaa ?_
  refine qa2 ?_
  refine qa0 hτ rfl rfl rfl ?_
  refine qa6 ?_
  refine qaa ?_
  refine qa2 ?_
  refine qa0 hτ rfl rfl rfl ?_
  refine qa0 hτ rfl rfl rfl ?_
  refine qa0 hτ rfl rfl rfl ?_
  refine qa0 hτ rfl rfl rfl ?_
  refine qa6 ?_
  refine qab (qa5 [] (l:=[(4,.d (.cx .f32 (qa8 .add .f32 x_.re y_.re) (qa8 .add .f32 x_.im y_.im)))]) (objs:=[]) rfl (by simp) rfl (by trivial) ⟨rfl,trivial,trivial⟩) ?_
  refine qas ?_
  have hr:=Option.some.inj h
  subst hr
  exact qah (.inr rfl) [] (objs':=[]) (new:=[]) rfl (by simp) (by simp) rfl (by trivial) rfl rfl (by trivial) (fun _=>⟨by simp [V.flat,V.qbh,V.qb7,D.flat],qao⟩) ⟨rfl,rfl,rfl⟩
theorem qle (n:Nat) (x_:Cx) (y_:Cx) {r:Cx} (h:qip n x_ y_ = some r):qb0 prog false 176 [.d (.cx .f32 x_.re x_.im),.d (.cx .f32 y_.re y_.im)] [] (fun v o new=>v = .d (.cx .f32 r.re r.im)∧o = []∧new = []):=impl_plus_ok_fr0 false n x_ y_ h
def qjh (n:Nat) (a_:qa7) (b_:qa7):Option qa7 :=
  (qip n a_.A b_.A).bind fun x4 =>
  (qip n a_.B b_.B).bind fun x5 =>
  (qip n a_.C b_.C).bind fun x6 =>
  some (qa7.mk x4 x5 x6)
theorem impl_each_2_ok_fr0 (fr:Bool) (n:Nat) (a_:qa7) (b_:qa7) {r:qa7} (h:qjh n a_ b_ = some r):qb0 prog fr 157 [.agg [.d (.cx .f32 a_.A.re a_.A.im),.d (.cx .f32 a_.B.re a_.B.im),.d (.cx .f32 a_.C.re a_.C.im)],.agg [.d (.cx .f32 b_.A.re b_.A.im),.d (.cx .f32 b_.B.re b_.B.im),.d (.cx .f32 b_.C.re b_.C.im)],.func 176 [] []] [] (fun v o new=>v = .agg [.d (.cx .f32 r.A.re r.A.im),.d (.cx .f32 r.B.re r.B.im),.d (.cx .f32 r.C.re r.C.im)]∧o = []∧new = []):=by
  refine qal hτ func157 rfl (by simp) (by simp) ?_
  unfold qjh at h
  refine qaa ?_
  refine qa2 ?_
  refine qak hτ rfl rfl rfl ?_
  refine qak hτ rfl rfl rfl ?_
  refine qak hτ rfl rfl rfl ?_
  refine qa6 ?_
  refine qaa ?_
  refine qcv ?_
  refine qad hτ [] 0 rfl rfl rfl rfl rfl ?_
  refine qad hτ [0] 1 rfl rfl rfl rfl rfl ?_
  refine qad hτ [0] 2 rfl rfl rfl rfl rfl ?_
  refine qad hτ [1] 3 rfl rfl rfl rfl rfl ?_
  refine qad hτ [1] 4 rfl rfl rfl rfl rfl ?_
  refine qad hτ [] 6 rfl rfl rfl rfl rfl ?_
  refine qad hτ [0] 7 rfl rfl rfl rfl rfl ?_
  refine qad hτ [0] 8 rfl rfl rfl rfl rfl ?_
  refine qad hτ [1] 9 rfl rfl rfl rfl rfl ?_
  refine qad hτ [1] 10 rfl rfl rfl rfl rfl ?_
  refine qad hτ [] 12 rfl rfl rfl rfl rfl ?_
  refine qad hτ [0] 13 rfl rfl rfl rfl rfl ?_
  refine qad hτ [0] 14 rfl rfl rfl rfl rfl ?_
  refine qad hτ [1] 15 rfl rfl rfl rfl rfl ?_
  refine qad hτ [1] 16 rfl rfl rfl rfl rfl ?_
  refine qac h fun x4 hx4 h=>?_
  refine qbd hτ false [] [0,1,2] 5 rfl rfl rfl rfl (qai func176 rfl rfl) rfl rfl (by simp) ⟨trivial,trivial,trivial⟩ (by trivial) (qle n a_.A b_.A hx4) ⟨rfl,rfl,rfl,trivial⟩ ?_
  refine qac h fun x5 hx5 h=>?_
  refine qbd hτ false [] [0,1,2] 11 rfl rfl rfl rfl (qai func176 rfl rfl) rfl rfl (by simp) ⟨trivial,trivial,trivial⟩ (by trivial) (qle n a_.B b_.B hx5) ⟨rfl,rfl,rfl,trivial⟩ ?_
  refine qac h fun x6 hx6 h=>?_
  refine qbd hτ false [] [0,1,2] 17 rfl rfl rfl rfl (qai func176 rfl rfl) rfl rfl (by simp) ⟨trivial,trivial,trivial⟩ (by trivial) (qle n a_.C b_.C hx6) ⟨rfl,rfl,rfl,trivial⟩ ?_
  refine qad hτ [] 18 rfl rfl rfl rfl rfl ?_
  refine qcd hτ [0,1] 19 rfl rfl rfl rfl ⟨rfl,rfl,trivial⟩ ?_
  refine qd4 mixed (by kernel_rfl) ?_
  refine qab (qa5 [2] (l:=[(6,.ptr 0 0)]) (objs:=[.box [.d (.cx .f32 x4.re x4.im),.d (.cx .f32 x5.re x5.im),.d (.cx .f32 x6.re x6.im)]]) rfl (by simp) rfl (by trivial) ⟨rfl,trivial,trivial⟩) ?_
  refine qas ?_
  have hr:=Option.some.inj h
  subst hr
  exact qah (.inr rfl) [] (objs':=[]) (new:=[]) rfl (by simp) (by simp) rfl (by trivial) rfl rfl (by trivial) (fun _=>⟨by simp [V.flat,V.qbh,V.qb7,D.flat],qao⟩) ⟨rfl,rfl,rfl⟩
theorem impl_each_2_ok (n:Nat) (a_:qa7) (b_:qa7) {r:qa7} (h:qjh n a_ b_ = some r):qb0 prog false 157 [.agg [.d (.cx .f32 a_.A.re a_.A.im),.d (.cx .f32 a_.B.re a_.B.im),.d (.cx .f32 a_.C.re a_.C.im)],.agg [.d (.cx .f32 b_.A.re b_.A.im),.d (.cx .f32 b_.B.re b_.B.im),.d (.cx .f32 b_.C.re b_.C.im)],.func 176 [] []] [] (fun v o new=>v = .agg [.d (.cx .f32 r.A.re r.A.im),.d (.cx .f32 r.B.re r.B.im),.d (.cx .f32 r.C.re r.C.im)]∧o = []∧new = []):=impl_each_2_ok_fr0 false n a_ b_ h
def qfg (n:Nat) (a_:qa7) (b_:qa7):Option qa7 :=
  (qjh n a_ b_).bind fun x2 =>
  some x2
theorem impl_AddPhases_ok_fr0 (fr:Bool) (n:Nat) (a_:qa7) (b_:qa7) {r:qa7} (h:qfg n a_ b_ = some r):qb0 prog fr 159 [.agg [.d (.cx .f32 a_.A.re a_.A.im),.d (.cx .f32 a_.B.re a_.B.im),.d (.cx .f32 a_.C.re a_.C.im)],.agg [.d (.cx .f32 b_.A.re b_.A.im),.d (.cx .f32 b_.B.re b_.B.im),.d (.cx .f32 b_.C.re b_.C.im)]] [] (fun v o new=>v = .agg [.d (.cx .f32 r.A.re r.A.im),.d (.cx .f32 r.B.re r.B.im),.d (.cx .f32 r.C.re r.C.im)]∧o = []∧new = []):=by
  refine qal hτ func159 rfl (by simp) (by simp) ?_
  unfold qfg at h
  refine qaa ?_
  refine qa2 ?_
  refine qak hτ rfl rfl rfl ?_
  refine qak hτ rfl rfl rfl ?_
  refine qak hτ rfl rfl rfl ?_
  refine qa6 ?_
  refine qaa ?_
  refine qa2 ?_
  refine qa0 hτ rfl rfl rfl ?_
  refine qa0 hτ rfl rfl rfl ?_
  refine qac h fun x2 hx2 h=>?_
  refine qag hτ false [] rfl rfl rfl (qai func157 rfl rfl) rfl rfl (by simp) ⟨(by trivial),(by trivial),(by trivial),trivial⟩ (by trivial) (impl_each_2_ok n a_ b_ hx2) ?_
  rintro r0 o0 n0 ⟨rfl,rfl,rfl⟩ -
  refine qak hτ rfl rfl rfl ?_
  refine qa6 ?_
  refine qab (qa5 [2] (l:=[(4,.ptr 0 0)]) (objs:=[.box [.d (.cx .f32 x2.A.re x2.A.im),.d (.cx .f32 x2.B.re x2.B.im),.d (.cx .f32 x2.C.re x2.C.im)]]) rfl (by simp) rfl (by trivial) ⟨rfl,trivial,trivial⟩) ?_
  refine qas ?_
  have hr:=Option.some.inj h
  subst hr
  exact qah (.inr rfl) [] (objs':=[]) (new:=[]) rfl (by simp) (by simp) rfl (by trivial) rfl rfl (by trivial) (fun _=>⟨by simp [V.flat,V.qbh,V.qb7,D.flat],qao⟩) ⟨rfl,rfl,rfl⟩
theorem impl_AddPhases_ok (n:Nat) (a_:qa7) (b_:qa7) {r:qa7} (h:qfg n a_ b_ = some r):qb0 prog false 159 [.agg [.d (.cx .f32 a_.A.re a_.A.im),.d (.cx .f32 a_.B.re a_.B.im),.d (.cx .f32 a_.C.re a_.C.im)],.agg [.d (.cx .f32 b_.A.re b_.A.im),.d (.cx .f32 b_.B.re b_.B.im),.d (.cx .f32 b_.C.re b_.C.im)]] [] (fun v o new=>v = .agg [.d (.cx .f32 r.A.re r.A.im),.d (.cx .f32 r.B.re r.B.im),.d (.cx .f32 r.C.re r.C.im)]∧o = []∧new = []):=impl_AddPhases_ok_fr0 false n a_ b_ h
def qax (n:Nat) (f_:qam):Nat→List qa7→Int→Option (List qa7)
  | 0,_,_=>none
  | m35 + 1,v25,v26 =>
    if v26 > (0:Int) then
      (getI v25 v26).bind fun x38 =>
      (qgg n v26 x38).bind fun x39 =>
      (getI f_.qa9 v26).bind fun x40 =>
      (getI (v25.set v26.toNat x39) x40.qar).bind fun x41 =>
      (getI (v25.set v26.toNat x39) v26).bind fun x42 =>
      (qfg n x41 x42).bind fun x43 =>
      (qax n f_ m35) ((v25.set v26.toNat x39).set x40.qar.toNat x43) (w64 (v26 - (1:Int)))
    else
      some v25
def qdq (n:Nat) (f_:qam) (loads_:List qa7):Option (List qa7) :=
  (qcl n loads_).bind fun x18 =>
  qax n f_ n x18 (w64 ((x18.length:Int) - (1:Int)))
theorem impl_Feeder_back_ok (n:Nat) (f_:qam) (loads_:List qa7) {r:List qa7} (h:qdq n f_ loads_ = some r):qb0 prog false 126 [.ptr 0 0,.d (.sl false (loads_.map qa1)),.func 62 [] []] [.box [.d (.cx .f32 f_.Source.A.re f_.Source.A.im),.d (.cx .f32 f_.Source.B.re f_.Source.B.im),.d (.cx .f32 f_.Source.C.re f_.Source.C.im),.d (.sl false (f_.qa9.map qaf))]] (fun v o new=>v = .row 1 r.length 0 r.length∧o = [.box [.d (.cx .f32 f_.Source.A.re f_.Source.A.im),.d (.cx .f32 f_.Source.B.re f_.Source.B.im),.d (.cx .f32 f_.Source.C.re f_.Source.C.im),.d (.sl false (f_.qa9.map qaf))]]∧new = [.row 3 (r.map qa1)]):=by
  refine qal hτ func126 rfl (by simp) (by simp) ?_
  unfold qdq at h
  refine qaa ?_
  refine qa2 ?_
  refine qa0 hτ rfl rfl rfl ?_
  refine qa6 ?_
  refine qaa ?_
  refine qa2 ?_
  refine qa0 hτ rfl rfl rfl ?_
  refine qac h fun x18 hx18 h=>?_
  refine qag hτ false [] rfl rfl rfl (qai func113 rfl rfl) rfl rfl (by simp) ⟨trivial,trivial⟩ (by trivial) (qg9 n loads_ hx18) ?_
  rintro r0 o0 n0 ⟨rfl,rfl,rfl⟩ -
  refine qa0 hτ rfl rfl rfl ?_
  refine qa6 ?_
  refine qaa ?_
  refine qaa ?_
  refine qa2 ?_
  refine qa0 hτ rfl rfl rfl ?_
  refine qbl hτ rfl rfl rfl (qb5 _) ?_
  refine qa0 hτ rfl rfl rfl ?_
  refine qa0 hτ rfl rfl rfl ?_
  refine qa6 ?_
  refine qba ?_
  refine qfd (ι:=Nat × List qa7 × Int) (fun (m35,v25,v26)=>St.of [(0,.ptr 0 0),(2,.func 62 [] []),(7,.row 1 v25.length 0 v25.length),(8,.d (.int .i64 v26))] [.box [.d (.cx .f32 f_.Source.A.re f_.Source.A.im),.d (.cx .f32 f_.Source.B.re f_.Source.B.im),.d (.cx .f32 f_.Source.C.re f_.Source.C.im),.d (.sl false (f_.qa9.map qaf))],.row 3 (v25.map qa1)] f126.ntmps 1) (fun (m35,v25,v26)=>qax n f_ m35 v25 v26 = some r) (fun x=>x.1) (n,x18,(w64 ((x18.length:Int) - (1:Int)))) h (qa5 [0,1] (l:=[(0,.ptr 0 0),(2,.func 62 [] []),(7,.row 1 x18.length 0 x18.length),(8,.d (.int .i64 (w64 ((x18.length:Int) - (1:Int)))))]) (objs:=[.box [.d (.cx .f32 f_.Source.A.re f_.Source.A.im),.d (.cx .f32 f_.Source.B.re f_.Source.B.im),.d (.cx .f32 f_.Source.C.re f_.Source.C.im),.d (.sl false (f_.qa9.map qaf))],.row 3 (x18.map qa1)]) rfl (by simp) rfl (by trivial) ⟨rfl,trivial,rfl,(by trivial),rfl,trivial,rfl,trivial,trivial⟩) ?_
  rintro ⟨m35,v25,v26⟩ h
  replace h:qax n f_ m35 v25 v26 = some r:=h
  rcases m35 with _ | m35
  · rw [qax] at h;cases h
  rw [qax] at h
  refine qaa ?_
  refine qaa ?_
  refine qa2 ?_
  refine qa0 hτ rfl rfl rfl ?_
  refine qa0 hτ rfl rfl rfl ?_
  refine qa6 ?_
  refine qaz rfl (fun hc37=>?_) (fun hc37=>?_)
  · have h:=if_t h hc37
    refine qb3 ?_
    refine qaa ?_
    refine qba ?_
    refine qaa ?_
    refine qa2 ?_
    refine qa0 hτ rfl rfl rfl ?_
    refine qa0 hτ rfl rfl rfl ?_
    refine qa0 hτ rfl rfl rfl ?_
    refine qa0 hτ rfl rfl rfl ?_
    refine qa0 hτ rfl rfl rfl ?_
    refine qa0 hτ rfl rfl rfl ?_
    refine qac h fun x38 hx38 h=>?_
    refine qbl hτ rfl rfl rfl (qdb hx38) ?_
    refine qfb hτ rfl rfl rfl (qb5 _) (qe0 hx38) rfl ?_
    refine qac h fun x39 hx39 h=>?_
    refine qag hτ false [] rfl rfl rfl (qai func62 rfl rfl) rfl rfl (by simp) ⟨trivial,(by trivial),trivial⟩ (by trivial) (qnh n v26 x38 hx39) ?_
    rintro r0 o0 n0 ⟨rfl,rfl,rfl⟩ -
    refine qbl hτ rfl rfl rfl (qdb hx38) ?_
    refine qap (qa5 [0,1] (l:=[(0,.ptr 0 0),(2,.func 62 [] []),(7,.row 1 v25.length 0 v25.length),(8,.d (.int .i64 v26)),(27,.agg [.d (.cx .f32 x39.A.re x39.A.im),.d (.cx .f32 x39.B.re x39.B.im),.d (.cx .f32 x39.C.re x39.C.im)]),(28,.eptr 1 v25.length (0 + v26.toNat) 0)]) (objs:=[.box [.d (.cx .f32 f_.Source.A.re f_.Source.A.im),.d (.cx .f32 f_.Source.B.re f_.Source.B.im),.d (.cx .f32 f_.Source.C.re f_.Source.C.im),.d (.sl false (f_.qa9.map qaf))],.row 3 (v25.map qa1)]) rfl (by simp) rfl (by trivial) ⟨rfl,trivial,rfl,(by trivial),rfl,trivial,rfl,trivial,rfl,(by trivial),rfl,trivial,trivial⟩) ?_
    refine ql9 hτ rfl rfl rfl (qb5 _) (qe0 hx38) (qj9 (f:=qa1) (l:=v25) (i:=v26) (y:=x39) rfl) ?_
    refine qa6 ?_
    refine qaa ?_
    refine qa2 ?_
    refine qa0 hτ rfl rfl rfl ?_
    refine qa0 hτ rfl rfl rfl ?_
    refine qa0 hτ rfl rfl rfl ?_
    refine qa0 hτ rfl rfl rfl ?_
    refine qa0 hτ rfl rfl rfl ?_
    refine qac h fun x40 hx40 h=>?_
    refine qfb hτ rfl rfl rfl (qd3 hx40).1 (qeu hx40) rfl ?_
    refine qa0 hτ rfl rfl rfl ?_
    refine qa0 hτ rfl rfl rfl ?_
    refine qa0 hτ rfl rfl rfl ?_
    refine qa6 ?_
    refine qab (qa5 [0,1] (l:=[(0,.ptr 0 0),(2,.func 62 [] []),(7,.row 1 ((v25.set v26.toNat x39).length) 0 ((v25.set v26.toNat x39).length)),(8,.d (.int .i64 v26)),(9,.d (.int .i64 x40.qar))]) (objs:=[.box [.d (.cx .f32 f_.Source.A.re f_.Source.A.im),.d (.cx .f32 f_.Source.B.re f_.Source.B.im),.d (.cx .f32 f_.Source.C.re f_.Source.C.im),.d (.sl false (f_.qa9.map qaf))],.row 3 ((v25.set v26.toNat x39).map qa1)]) rfl (by simp) rfl (by trivial) ⟨rfl,trivial,rfl,(by trivial),(qlp rfl (by simp)),trivial,rfl,trivial,rfl,trivial,trivial⟩) ?_
    refine qcv ?_
    refine qad hτ [] 0 rfl rfl rfl rfl rfl ?_
    refine qad hτ [] 1 rfl rfl rfl rfl rfl ?_
    refine qad hτ [] 2 rfl rfl rfl rfl rfl ?_
    refine qad hτ [] 3 rfl rfl rfl rfl rfl ?_
    refine qac h fun x41 hx41 h=>?_
    refine qfa hτ [1] 4 rfl rfl rfl rfl rfl (qdb hx41) ?_
    refine qg1 hτ [1] 5 rfl rfl rfl rfl rfl (qb5 _) (qe0 hx41) rfl ?_
    refine qad hτ [] 6 rfl rfl rfl rfl rfl ?_
    refine qad hτ [] 7 rfl rfl rfl rfl rfl ?_
    refine qac h fun x42 hx42 h=>?_
    refine qfa hτ [1] 8 rfl rfl rfl rfl rfl (qdb hx42) ?_
    refine qg1 hτ [1] 9 rfl rfl rfl rfl rfl (qb5 _) (qe0 hx42) rfl ?_
    refine qac h fun x43 hx43 h=>?_
    refine qbd hτ false [] [0,1] 10 rfl rfl rfl rfl (qai func159 rfl rfl) rfl rfl (by simp) ⟨(by trivial),(by trivial),trivial⟩ (by trivial) (impl_AddPhases_ok n x41 x42 hx43) ⟨rfl,rfl,trivial⟩ ?_
    refine qfa hτ [1] 11 rfl rfl rfl rfl rfl (qdb hx41) ?_
    refine qij hτ [0] 12 rfl rfl rfl rfl (qb5 _) (qe0 hx41) (qj9 (f:=qa1) (l:=(v25.set v26.toNat x39)) (i:=x40.qar) (y:=x43) rfl) ⟨rfl,trivial⟩ ?_
    refine qd4 mixed (by kernel_rfl) ?_
    refine qab (qa5 [0,1] (l:=[(0,.ptr 0 0),(2,.func 62 [] []),(7,.row 1 (((v25.set v26.toNat x39).set x40.qar.toNat x43).length) 0 (((v25.set v26.toNat x39).set x40.qar.toNat x43).length)),(8,.d (.int .i64 v26))]) (objs:=[.box [.d (.cx .f32 f_.Source.A.re f_.Source.A.im),.d (.cx .f32 f_.Source.B.re f_.Source.B.im),.d (.cx .f32 f_.Source.C.re f_.Source.C.im),.d (.sl false (f_.qa9.map qaf))],.row 3 (((v25.set v26.toNat x39).set x40.qar.toNat x43).map qa1)]) rfl (by simp) rfl (by trivial) ⟨rfl,trivial,rfl,(by trivial),(qlp rfl (by simp)),trivial,rfl,trivial,trivial⟩) ?_
    refine qa2 ?_
    refine qa0 hτ rfl rfl rfl ?_
    refine qa0 hτ rfl rfl rfl ?_
    refine qa0 hτ rfl rfl rfl ?_
    refine qa6 ?_
    exact ⟨(m35,((v25.set v26.toNat x39).set x40.qar.toNat x43),(w64 (v26 - (1:Int)))),h,Nat.lt_succ_self m35,(qa5 [0,1] (l:=[(0,.ptr 0 0),(2,.func 62 [] []),(7,.row 1 (((v25.set v26.toNat x39).set x40.qar.toNat x43).length) 0 (((v25.set v26.toNat x39).set x40.qar.toNat x43).length)),(8,.d (.int .i64 (w64 (v26 - (1:Int)))))]) (objs:=[.box [.d (.cx .f32 f_.Source.A.re f_.Source.A.im),.d (.cx .f32 f_.Source.B.re f_.Source.B.im),.d (.cx .f32 f_.Source.C.re f_.Source.C.im),.d (.sl false (f_.qa9.map qaf))],.row 3 (((v25.set v26.toNat x39).set x40.qar.toNat x43).map qa1)]) rfl (by simp) rfl (by trivial) ⟨rfl,trivial,rfl,(by trivial),rfl,trivial,rfl,trivial,trivial⟩)⟩
  · have h:=if_f h hc37
    refine qfc ?_
    refine qaa ?_
    refine qa2 ?_
    refine qa0 hτ rfl rfl rfl ?_
    refine qa0 hτ rfl rfl rfl ?_
    refine qa6 ?_
    refine qab (qa5 [0,1] (l:=[(6,.row 1 v25.length 0 v25.length)]) (objs:=[.box [.d (.cx .f32 f_.Source.A.re f_.Source.A.im),.d (.cx .f32 f_.Source.B.re f_.Source.B.im),.d (.cx .f32 f_.Source.C.re f_.Source.C.im),.d (.sl false (f_.qa9.map qaf))],.row 3 (v25.map qa1)]) rfl (by simp) rfl (by trivial) ⟨rfl,trivial,trivial⟩) ?_
    refine qas ?_
    have hr:=Option.some.inj h
    subst hr
    exact qah (.inr rfl) [1] (objs':=[.box [.d (.cx .f32 f_.Source.A.re f_.Source.A.im),.d (.cx .f32 f_.Source.B.re f_.Source.B.im),.d (.cx .f32 f_.Source.C.re f_.Source.C.im),.d (.sl false (f_.qa9.map qaf))]]) (new:=[.row 3 (v25.map qa1)]) rfl (by simp) (by simp) rfl (by trivial) rfl rfl (by trivial) (fun h=>nomatch h) ⟨rfl,rfl,rfl⟩
def qck (n:Nat) (x_:Cx) (y_:Cx):Option Cx :=
  (qe3 n x_).bind fun x5 =>
  (qe3 n y_).bind fun x6 =>
  (qgo .f64 .f32 (qa8 .sub .f64 (qa8 .mul .f64 x5.1 x6.1) (qa8 .mul .f64 x5.2 x6.2))).bind fun x7 =>
  (qgo .f64 .f32 (qa8 .add .f64 (qa8 .mul .f64 x5.1 x6.2) (qa8 .mul .f64 x5.2 x6.1))).bind fun x8 =>
  some (Cx.mk x7 x8)
theorem impl_MulComplex_ok_fr0 (fr:Bool) (n:Nat) (x_:Cx) (y_:Cx) {r:Cx} (h:qck n x_ y_ = some r):qb0 prog fr 52 [.d (.cx .f32 x_.re x_.im),.d (.cx .f32 y_.re y_.im)] [] (fun v o new=>v = .d (.cx .f32 r.re r.im)∧o = []∧new = []):=by
  refine qal hτ func52 rfl (by simp) (by simp) ?_
  unfold qck at h
  refine qaa ?_
  refine qa2 ?_
  refine qa0 hτ rfl rfl rfl ?_
  refine qa6 ?_
  refine qaa ?_
  refine qa2 ?_
  refine qa0 hτ rfl rfl rfl ?_
  refine qac h fun x5 hx5 h=>?_
  refine qag hτ false [] rfl rfl rfl (qai func109 rfl rfl) rfl rfl (by simp) ⟨trivial,trivial⟩ (by trivial) (qj2 n x_ hx5) ?_
  rintro r0 o0 n0 ⟨rfl,rfl,rfl⟩ -
  refine qa0 hτ rfl rfl rfl ?_
  refine qa0 hτ rfl rfl rfl ?_
  refine qa0 hτ rfl rfl rfl ?_
  refine qa0 hτ rfl rfl rfl ?_
  refine qa0 hτ rfl rfl rfl ?_
  refine qa6 ?_
  refine qaa ?_
  refine qab (qa5 [] (l:=[(1,.d (.cx .f32 y_.re y_.im)),(5,.d (.fl .f64 x5.1)),(6,.d (.fl .f64 x5.2))]) (objs:=[]) rfl (by simp) rfl (by trivial) ⟨rfl,trivial,rfl,trivial,rfl,trivial,trivial⟩) ?_
  refine qa2 ?_
  refine qa0 hτ rfl rfl rfl ?_
  refine qac h fun x6 hx6 h=>?_
  refine qag hτ false [] rfl rfl rfl (qai func109 rfl rfl) rfl rfl (by simp) ⟨trivial,trivial⟩ (by trivial) (qj2 n y_ hx6) ?_
  rintro r0 o0 n0 ⟨rfl,rfl,rfl⟩ -
  refine qa0 hτ rfl rfl rfl ?_
  refine qa0 hτ rfl rfl rfl ?_
  refine qa0 hτ rfl rfl rfl ?_
  refine qa0 hτ rfl rfl rfl ?_
  refine qa0 hτ rfl rfl rfl ?_
  refine qa6 ?_
  refine qaa ?_
  refine qab (qa5 [] (l:=[(5,.d (.fl .f64 x5.1)),(6,.d (.fl .f64 x5.2)),(7,.d (.fl .f64 x6.1)),(8,.d (.fl .f64 x6.2))]) (objs:=[]) rfl (by simp) rfl (by trivial) ⟨rfl,trivial,rfl,trivial,rfl,trivial,rfl,trivial,trivial⟩) ?_
  refine qa2 ?_
  refine qa0 hτ rfl rfl rfl ?_
  refine qa0 hτ rfl rfl rfl ?_
  refine qa0 hτ rfl rfl rfl ?_
  refine qa0 hτ rfl rfl rfl ?_
  refine qa0 hτ rfl rfl rfl ?_
  refine qa0 hτ rfl rfl rfl ?_
  refine qa0 hτ rfl rfl rfl ?_
  refine qac h fun x7 hx7 h=>?_
  refine qa0 hτ (v:=.d (.fl .f32 x7)) rfl rfl (qge hx7) ?_
  refine qa0 hτ rfl rfl rfl ?_
  refine qa0 hτ rfl rfl rfl ?_
  refine qa0 hτ rfl rfl rfl ?_
  refine qa0 hτ rfl rfl rfl ?_
  refine qap (qa5 [] (l:=[(7,.d (.fl .f64 x6.1)),(26,.d (.fl .f32 x7)),(29,.d (.fl .f64 (qa8 .mul .f64 x5.1 x6.2))),(30,.d (.fl .f64 x5.2))]) (objs:=[]) rfl (by simp) rfl (by trivial) ⟨rfl,trivial,rfl,trivial,rfl,trivial,rfl,trivial,trivial⟩) ?_
  refine qa0 hτ rfl rfl rfl ?_
  refine qa0 hτ rfl rfl rfl ?_
  refine qa0 hτ rfl rfl rfl ?_
  refine qac h fun x8 hx8 h=>?_
  refine qa0 hτ (v:=.d (.fl .f32 x8)) rfl rfl (qge hx8) ?_
  refine qa0 hτ rfl rfl rfl ?_
  refine qa0 hτ rfl rfl rfl ?_
  refine qa6 ?_
  refine qab (qa5 [] (l:=[(4,.d (.cx .f32 x7 x8))]) (objs:=[]) rfl (by simp) rfl (by trivial) ⟨rfl,trivial,trivial⟩) ?_
  refine qas ?_
  have hr:=Option.some.inj h
  subst hr
  exact qah (.inr rfl) [] (objs':=[]) (new:=[]) rfl (by simp) (by simp) rfl (by trivial) rfl rfl (by trivial) (fun _=>⟨by simp [V.flat,V.qbh,V.qb7,D.flat],qao⟩) ⟨rfl,rfl,rfl⟩
theorem qk7 (n:Nat) (x_:Cx) (y_:Cx) {r:Cx} (h:qck n x_ y_ = some r):qb0 prog false 52 [.d (.cx .f32 x_.re x_.im),.d (.cx .f32 y_.re y_.im)] [] (fun v o new=>v = .d (.cx .f32 r.re r.im)∧o = []∧new = []):=impl_MulComplex_ok_fr0 false n x_ y_ h
def qcg (n:Nat) (own_:Cx) (one_:Cx) (two_:Cx) (a3_:SBus):Option Cx :=
  (qck n a3_.Own own_).bind fun x3 =>
  (qck n a3_.Shared (Cx.mk (qa8 .add .f32 one_.re two_.re) (qa8 .add .f32 one_.im two_.im))).bind fun x4 =>
  some (Cx.mk (qa8 .add .f32 x3.re x4.re) (qa8 .add .f32 x3.im x4.im))
theorem impl_DropOf_1_ok_fr0 (fr:Bool) (n:Nat) (own_:Cx) (one_:Cx) (two_:Cx) (a3_:SBus) {r:Cx} (h:qcg n own_ one_ two_ a3_ = some r):qb0 prog fr 178 [.d (.cx .f32 own_.re own_.im),.d (.cx .f32 one_.re one_.im),.d (.cx .f32 two_.re two_.im),.ptr 0 0] [.box [.d (.int .i64 a3_.qar),.d (.cx .f32 a3_.Own.re a3_.Own.im),.d (.cx .f32 a3_.Shared.re a3_.Shared.im),.d (.int .i64 a3_.Kind),.d (.cx .f32 a3_.Load.A.re a3_.Load.A.im),.d (.cx .f32 a3_.Load.B.re a3_.Load.B.im),.d (.cx .f32 a3_.Load.C.re a3_.Load.C.im),.d (.int .i64 a3_.qan)]] (fun v o new=>v = .d (.cx .f32 r.re r.im)∧o = [.box [.d (.int .i64 a3_.qar),.d (.cx .f32 a3_.Own.re a3_.Own.im),.d (.cx .f32 a3_.Shared.re a3_.Shared.im),.d (.int .i64 a3_.Kind),.d (.cx .f32 a3_.Load.A.re a3_.Load.A.im),.d (.cx .f32 a3_.Load.B.re a3_.Load.B.im),.d (.cx .f32 a3_.Load.C.re a3_.Load.C.im),.d (.int .i64 a3_.qan)]]∧new = []):=by
  refine qal hτ func178 rfl (by simp) (by simp) ?_
  unfold qcg at h
  refine qaa ?_
  refine qa2 ?_
  refine qa0 hτ rfl rfl rfl ?_
  refine qa6 ?_
  refine qaa ?_
  refine qcv ?_
  refine qad hτ [0] 0 rfl rfl rfl rfl rfl ?_
  refine qad hτ [0] 1 rfl rfl rfl rfl rfl ?_
  refine qad hτ [] 2 rfl rfl rfl rfl rfl ?_
  refine qad hτ [0] 4 rfl rfl rfl rfl rfl ?_
  refine qad hτ [0] 5 rfl rfl rfl rfl rfl ?_
  refine qad hτ [] 6 rfl rfl rfl rfl rfl ?_
  refine qad hτ [] 7 rfl rfl rfl rfl rfl ?_
  refine qad hτ [] 8 rfl rfl rfl rfl rfl ?_
  refine qac h fun x3 hx3 h=>?_
  refine qbd hτ false [] [0] 3 rfl rfl rfl rfl (qai func52 rfl rfl) rfl rfl (by simp) ⟨trivial,trivial,trivial⟩ (by trivial) (qk7 n a3_.Own own_ hx3) ⟨rfl,trivial⟩ ?_
  refine qac h fun x4 hx4 h=>?_
  refine qbd hτ false [] [0] 9 rfl rfl rfl rfl (qai func52 rfl rfl) rfl rfl (by simp) ⟨trivial,trivial,trivial⟩ (by trivial) (qk7 n a3_.Shared (Cx.mk (qa8 .add .f32 one_.re two_.re) (qa8 .add .f32 one_.im two_.im)) hx4) ⟨rfl,trivial⟩ ?_
  refine qad hτ [] 10 rfl rfl rfl rfl rfl ?_
  refine qad hτ [] 11 rfl rfl rfl rfl rfl ?_
  refine qd4 mixed (by kernel_rfl) ?_
  refine qab (qa5 [0] (l:=[(7,.d (.cx .f32 (qa8 .add .f32 x3.re x4.re) (qa8 .add .f32 x3.im x4.im)))]) (objs:=[.box [.d (.int .i64 a3_.qar),.d (.cx .f32 a3_.Own.re a3_.Own.im),.d (.cx .f32 a3_.Shared.re a3_.Shared.im),.d (.int .i64 a3_.Kind),.d (.cx .f32 a3_.Load.A.re a3_.Load.A.im),.d (.cx .f32 a3_.Load.B.re a3_.Load.B.im),.d (.cx .f32 a3_.Load.C.re a3_.Load.C.im),.d (.int .i64 a3_.qan)]]) rfl (by simp) rfl (by trivial) ⟨rfl,trivial,trivial⟩) ?_
  refine qas ?_
  have hr:=Option.some.inj h
  subst hr
  exact qah (.inr rfl) [] (objs':=[.box [.d (.int .i64 a3_.qar),.d (.cx .f32 a3_.Own.re a3_.Own.im),.d (.cx .f32 a3_.Shared.re a3_.Shared.im),.d (.int .i64 a3_.Kind),.d (.cx .f32 a3_.Load.A.re a3_.Load.A.im),.d (.cx .f32 a3_.Load.B.re a3_.Load.B.im),.d (.cx .f32 a3_.Load.C.re a3_.Load.C.im),.d (.int .i64 a3_.qan)]]) (new:=[]) rfl (by simp) (by simp) rfl (by trivial) rfl rfl (by trivial) (fun _=>⟨by simp [V.flat,V.qbh,V.qb7,D.flat],(qcr (by simp [AObj.flat,V.qb7,D.flat]) qao)⟩) ⟨rfl,rfl,rfl⟩
theorem qj8 (n:Nat) (own_:Cx) (one_:Cx) (two_:Cx) (a3_:SBus) {r:Cx} (h:qcg n own_ one_ two_ a3_ = some r):qb0 prog false 178 [.d (.cx .f32 own_.re own_.im),.d (.cx .f32 one_.re one_.im),.d (.cx .f32 two_.re two_.im),.ptr 0 0] [.box [.d (.int .i64 a3_.qar),.d (.cx .f32 a3_.Own.re a3_.Own.im),.d (.cx .f32 a3_.Shared.re a3_.Shared.im),.d (.int .i64 a3_.Kind),.d (.cx .f32 a3_.Load.A.re a3_.Load.A.im),.d (.cx .f32 a3_.Load.B.re a3_.Load.B.im),.d (.cx .f32 a3_.Load.C.re a3_.Load.C.im),.d (.int .i64 a3_.qan)]] (fun v o new=>v = .d (.cx .f32 r.re r.im)∧o = [.box [.d (.int .i64 a3_.qar),.d (.cx .f32 a3_.Own.re a3_.Own.im),.d (.cx .f32 a3_.Shared.re a3_.Shared.im),.d (.int .i64 a3_.Kind),.d (.cx .f32 a3_.Load.A.re a3_.Load.A.im),.d (.cx .f32 a3_.Load.B.re a3_.Load.B.im),.d (.cx .f32 a3_.Load.C.re a3_.Load.C.im),.d (.int .i64 a3_.qan)]]∧new = []):=impl_DropOf_1_ok_fr0 false n own_ one_ two_ a3_ h
def qd9 (n:Nat) (b_:SBus) (current_:qa7):Option qa7 :=
  (qcg n current_.A current_.B current_.C b_).bind fun x4 =>
  (qcg n current_.B current_.C current_.A b_).bind fun x5 =>
  (qcg n current_.C current_.A current_.B b_).bind fun x6 =>
  some (qa7.mk x4 x5 x6)
theorem impl_DropOf_ok_fr0 (fr:Bool) (n:Nat) (b_:SBus) (current_:qa7) {r:qa7} (h:qd9 n b_ current_ = some r):qb0 prog fr 161 [.agg [.d (.int .i64 b_.qar),.d (.cx .f32 b_.Own.re b_.Own.im),.d (.cx .f32 b_.Shared.re b_.Shared.im),.d (.int .i64 b_.Kind),.d (.cx .f32 b_.Load.A.re b_.Load.A.im),.d (.cx .f32 b_.Load.B.re b_.Load.B.im),.d (.cx .f32 b_.Load.C.re b_.Load.C.im),.d (.int .i64 b_.qan)],.agg [.d (.cx .f32 current_.A.re current_.A.im),.d (.cx .f32 current_.B.re current_.B.im),.d (.cx .f32 current_.C.re current_.C.im)]] [] (fun v o new=>v = .agg [.d (.cx .f32 r.A.re r.A.im),.d (.cx .f32 r.B.re r.B.im),.d (.cx .f32 r.C.re r.C.im)]∧o = []∧new = []):=by
  refine qal hτ func161 rfl (by simp) (by simp) ?_
  unfold qd9 at h
  refine qaa ?_
  refine qa2 ?_
  refine qak hτ rfl rfl rfl ?_
  refine qak hτ rfl rfl rfl ?_
  refine qak hτ rfl rfl rfl ?_
  refine qa6 ?_
  refine qaa ?_
  refine qa2 ?_
  refine qa0 hτ rfl rfl rfl ?_
  refine qa0 hτ rfl rfl rfl ?_
  refine qa6 ?_
  refine qaa ?_
  refine qa2 ?_
  refine qa0 hτ rfl rfl rfl ?_
  refine qak hτ rfl rfl rfl ?_
  refine qak hτ rfl rfl rfl ?_
  refine qa6 ?_
  refine qaa ?_
  refine qab (qa5 [2,0,3] (l:=[(4,.ptr 0 0),(5,.func 178 [] [.ptr 1 0]),(6,.ptr 2 0)]) (objs:=[.box [.d (.cx .f32 (0:Nat) (0:Nat)),.d (.cx .f32 (0:Nat) (0:Nat)),.d (.cx .f32 (0:Nat) (0:Nat))],.box [.d (.int .i64 b_.qar),.d (.cx .f32 b_.Own.re b_.Own.im),.d (.cx .f32 b_.Shared.re b_.Shared.im),.d (.int .i64 b_.Kind),.d (.cx .f32 b_.Load.A.re b_.Load.A.im),.d (.cx .f32 b_.Load.B.re b_.Load.B.im),.d (.cx .f32 b_.Load.C.re b_.Load.C.im),.d (.int .i64 b_.qan)],.box [.d (.cx .f32 current_.A.re current_.A.im),.d (.cx .f32 current_.B.re current_.B.im),.d (.cx .f32 current_.C.re current_.C.im)]]) rfl (by simp) rfl (by trivial) ⟨rfl,trivial,rfl,(by trivial),rfl,trivial,trivial⟩) ?_
  refine qcv ?_
  refine qad hτ [] 0 rfl rfl rfl rfl rfl ?_
  refine qad hτ [2] 1 rfl rfl rfl rfl rfl ?_
  refine qad hτ [2] 2 rfl rfl rfl rfl rfl ?_
  refine qad hτ [2] 3 rfl rfl rfl rfl rfl ?_
  refine qad hτ [2] 4 rfl rfl rfl rfl rfl ?_
  refine qad hτ [2] 5 rfl rfl rfl rfl rfl ?_
  refine qad hτ [2] 6 rfl rfl rfl rfl rfl ?_
  refine qad hτ [] 8 rfl rfl rfl rfl rfl ?_
  refine qad hτ [2] 9 rfl rfl rfl rfl rfl ?_
  refine qad hτ [2] 10 rfl rfl rfl rfl rfl ?_
  refine qad hτ [2] 11 rfl rfl rfl rfl rfl ?_
  refine qad hτ [2] 12 rfl rfl rfl rfl rfl ?_
  refine qad hτ [2] 13 rfl rfl rfl rfl rfl ?_
  refine qad hτ [2] 14 rfl rfl rfl rfl rfl ?_
  refine qad hτ [] 16 rfl rfl rfl rfl rfl ?_
  refine qad hτ [2] 17 rfl rfl rfl rfl rfl ?_
  refine qad hτ [2] 18 rfl rfl rfl rfl rfl ?_
  refine qad hτ [2] 19 rfl rfl rfl rfl rfl ?_
  refine qad hτ [2] 20 rfl rfl rfl rfl rfl ?_
  refine qad hτ [2] 21 rfl rfl rfl rfl rfl ?_
  refine qad hτ [2] 22 rfl rfl rfl rfl rfl ?_
  refine qac h fun x4 hx4 h=>?_
  refine qbd hτ false [1] [0,1,2] 7 rfl rfl rfl rfl (qai func178 rfl rfl) rfl rfl (by simp) ⟨trivial,trivial,trivial,trivial,trivial⟩ (by trivial) (qj8 n current_.A current_.B current_.C b_ hx4) ⟨rfl,rfl,rfl,trivial⟩ ?_
  refine qac h fun x5 hx5 h=>?_
  refine qbd hτ false [1] [0,1,2] 15 rfl rfl rfl rfl (qai func178 rfl rfl) rfl rfl (by simp) ⟨trivial,trivial,trivial,trivial,trivial⟩ (by trivial) (qj8 n current_.B current_.C current_.A b_ hx5) ⟨rfl,rfl,rfl,trivial⟩ ?_
  refine qac h fun x6 hx6 h=>?_
  refine qbd hτ false [1] [0,1,2] 23 rfl rfl rfl rfl (qai func178 rfl rfl) rfl rfl (by simp) ⟨trivial,trivial,trivial,trivial,trivial⟩ (by trivial) (qj8 n current_.C current_.A current_.B b_ hx6) ⟨rfl,rfl,rfl,trivial⟩ ?_
  refine qad hτ [] 24 rfl rfl rfl rfl rfl ?_
  refine qcd hτ [1,2] 25 rfl rfl rfl rfl ⟨rfl,rfl,trivial⟩ ?_
  refine qd4 mixed (by kernel_rfl) ?_
  refine qab (qa5 [0] (l:=[(4,.ptr 0 0)]) (objs:=[.box [.d (.cx .f32 x4.re x4.im),.d (.cx .f32 x5.re x5.im),.d (.cx .f32 x6.re x6.im)]]) rfl (by simp) rfl (by trivial) ⟨rfl,trivial,trivial⟩) ?_
  refine qas ?_
  have hr:=Option.some.inj h
  subst hr
  exact qah (.inr rfl) [] (objs':=[]) (new:=[]) rfl (by simp) (by simp) rfl (by trivial) rfl rfl (by trivial) (fun _=>⟨by simp [V.flat,V.qbh,V.qb7,D.flat],qao⟩) ⟨rfl,rfl,rfl⟩
theorem impl_DropOf_ok (n:Nat) (b_:SBus) (current_:qa7) {r:qa7} (h:qd9 n b_ current_ = some r):qb0 prog false 161 [.agg [.d (.int .i64 b_.qar),.d (.cx .f32 b_.Own.re b_.Own.im),.d (.cx .f32 b_.Shared.re b_.Shared.im),.d (.int .i64 b_.Kind),.d (.cx .f32 b_.Load.A.re b_.Load.A.im),.d (.cx .f32 b_.Load.B.re b_.Load.B.im),.d (.cx .f32 b_.Load.C.re b_.Load.C.im),.d (.int .i64 b_.qan)],.agg [.d (.cx .f32 current_.A.re current_.A.im),.d (.cx .f32 current_.B.re current_.B.im),.d (.cx .f32 current_.C.re current_.C.im)]] [] (fun v o new=>v = .agg [.d (.cx .f32 r.A.re r.A.im),.d (.cx .f32 r.B.re r.B.im),.d (.cx .f32 r.C.re r.C.im)]∧o = []∧new = []):=impl_DropOf_ok_fr0 false n b_ current_ h
def qi6 (n:Nat) (x_:Cx) (y_:Cx):Option Cx :=
  some (Cx.mk (qa8 .sub .f32 x_.re y_.re) (qa8 .sub .f32 x_.im y_.im))
theorem impl_minus_ok_fr0 (fr:Bool) (n:Nat) (x_:Cx) (y_:Cx) {r:Cx} (h:qi6 n x_ y_ = some r):qb0 prog fr 158 [.d (.cx .f32 x_.re x_.im),.d (.cx .f32 y_.re y_.im)] [] (fun v o new=>v = .d (.cx .f32 r.re r.im)∧o = []∧new = []):=by
  refine qal hτ func158 rfl (by simp) (by simp) ?_
  unfold qi6 at h
  refine qaa ?_
  refine qa2 ?_
  refine qa0 hτ rfl rfl rfl ?_
  refine qa6 ?_
  refine qaa ?_
  refine qa2 ?_
  refine qa0 hτ rfl rfl rfl ?_
  refine qa0 hτ rfl rfl rfl ?_
  refine qa0 hτ rfl rfl rfl ?_
  refine qa0 hτ rfl rfl rfl ?_
  refine qa6 ?_
  refine qab (qa5 [] (l:=[(4,.d (.cx .f32 (qa8 .sub .f32 x_.re y_.re) (qa8 .sub .f32 x_.im y_.im)))]) (objs:=[]) rfl (by simp) rfl (by trivial) ⟨rfl,trivial,trivial⟩) ?_
  refine qas ?_
  have hr:=Option.some.inj h
  subst hr
  exact qah (.inr rfl) [] (objs':=[]) (new:=[]) rfl (by simp) (by simp) rfl (by trivial) rfl rfl (by trivial) (fun _=>⟨by simp [V.flat,V.qbh,V.qb7,D.flat],qao⟩) ⟨rfl,rfl,rfl⟩
theorem qkw (n:Nat) (x_:Cx) (y_:Cx) {r:Cx} (h:qi6 n x_ y_ = some r):qb0 prog false 158 [.d (.cx .f32 x_.re x_.im),.d (.cx .f32 y_.re y_.im)] [] (fun v o new=>v = .d (.cx .f32 r.re r.im)∧o = []∧new = []):=impl_minus_ok_fr0 false n x_ y_ h
def qji (n:Nat) (a_:qa7) (b_:qa7):Option qa7 :=
  (qi6 n a_.A b_.A).bind fun x4 =>
  (qi6 n a_.B b_.B).bind fun x5 =>
  (qi6 n a_.C b_.C).bind fun x6 =>
  some (qa7.mk x4 x5 x6)
theorem impl_each_3_ok_fr0 (fr:Bool) (n:Nat) (a_:qa7) (b_:qa7) {r:qa7} (h:qji n a_ b_ = some r):qb0 prog fr 157 [.agg [.d (.cx .f32 a_.A.re a_.A.im),.d (.cx .f32 a_.B.re a_.B.im),.d (.cx .f32 a_.C.re a_.C.im)],.agg [.d (.cx .f32 b_.A.re b_.A.im),.d (.cx .f32 b_.B.re b_.B.im),.d (.cx .f32 b_.C.re b_.C.im)],.func 158 [] []] [] (fun v o new=>v = .agg [.d (.cx .f32 r.A.re r.A.im),.d (.cx .f32 r.B.re r.B.im),.d (.cx .f32 r.C.re r.C.im)]∧o = []∧new = []):=by
  refine qal hτ func157 rfl (by simp) (by simp) ?_
  unfold qji at h
  refine qaa ?_
  refine qa2 ?_
  refine qak hτ rfl rfl rfl ?_
  refine qak hτ rfl rfl rfl ?_
  refine qak hτ rfl rfl rfl ?_
  refine qa6 ?_
  refine qaa ?_
  refine qcv ?_
  refine qad hτ [] 0 rfl rfl rfl rfl rfl ?_
  refine qad hτ [0] 1 rfl rfl rfl rfl rfl ?_
  refine qad hτ [0] 2 rfl rfl rfl rfl rfl ?_
  refine qad hτ [1] 3 rfl rfl rfl rfl rfl ?_
  refine qad hτ [1] 4 rfl rfl rfl rfl rfl ?_
  refine qad hτ [] 6 rfl rfl rfl rfl rfl ?_
  refine qad hτ [0] 7 rfl rfl rfl rfl rfl ?_
  refine qad hτ [0] 8 rfl rfl rfl rfl rfl ?_
  refine qad hτ [1] 9 rfl rfl rfl rfl rfl ?_
  refine qad hτ [1] 10 rfl rfl rfl rfl rfl ?_
  refine qad hτ [] 12 rfl rfl rfl rfl rfl ?_
  refine qad hτ [0] 13 rfl rfl rfl rfl rfl ?_
  refine qad hτ [0] 14 rfl rfl rfl rfl rfl ?_
  refine qad hτ [1] 15 rfl rfl rfl rfl rfl ?_
  refine qad hτ [1] 16 rfl rfl rfl rfl rfl ?_
  refine qac h fun x4 hx4 h=>?_
  refine qbd hτ false [] [0,1,2] 5 rfl rfl rfl rfl (qai func158 rfl rfl) rfl rfl (by simp) ⟨trivial,trivial,trivial⟩ (by trivial) (qkw n a_.A b_.A hx4) ⟨rfl,rfl,rfl,trivial⟩ ?_
  refine qac h fun x5 hx5 h=>?_
  refine qbd hτ false [] [0,1,2] 11 rfl rfl rfl rfl (qai func158 rfl rfl) rfl rfl (by simp) ⟨trivial,trivial,trivial⟩ (by trivial) (qkw n a_.B b_.B hx5) ⟨rfl,rfl,rfl,trivial⟩ ?_
  refine qac h fun x6 hx6 h=>?_
  refine qbd hτ false [] [0,1,2] 17 rfl rfl rfl rfl (qai func158 rfl rfl) rfl rfl (by simp) ⟨trivial,trivial,trivial⟩ (by trivial) (qkw n a_.C b_.C hx6) ⟨rfl,rfl,rfl,trivial⟩ ?_
  refine qad hτ [] 18 rfl rfl rfl rfl rfl ?_
  refine qcd hτ [0,1] 19 rfl rfl rfl rfl ⟨rfl,rfl,trivial⟩ ?_
  refine qd4 mixed (by kernel_rfl) ?_
  refine qab (qa5 [2] (l:=[(6,.ptr 0 0)]) (objs:=[.box [.d (.cx .f32 x4.re x4.im),.d (.cx .f32 x5.re x5.im),.d (.cx .f32 x6.re x6.im)]]) rfl (by simp) rfl (by trivial) ⟨rfl,trivial,trivial⟩) ?_
  refine qas ?_
  have hr:=Option.some.inj h
  subst hr
  exact qah (.inr rfl) [] (objs':=[]) (new:=[]) rfl (by simp) (by simp) rfl (by trivial) rfl rfl (by trivial) (fun _=>⟨by simp [V.flat,V.qbh,V.qb7,D.flat],qao⟩) ⟨rfl,rfl,rfl⟩
theorem impl_each_3_ok (n:Nat) (a_:qa7) (b_:qa7) {r:qa7} (h:qji n a_ b_ = some r):qb0 prog false 157 [.agg [.d (.cx .f32 a_.A.re a_.A.im),.d (.cx .f32 a_.B.re a_.B.im),.d (.cx .f32 a_.C.re a_.C.im)],.agg [.d (.cx .f32 b_.A.re b_.A.im),.d (.cx .f32 b_.B.re b_.B.im),.d (.cx .f32 b_.C.re b_.C.im)],.func 158 [] []] [] (fun v o new=>v = .agg [.d (.cx .f32 r.A.re r.A.im),.d (.cx .f32 r.B.re r.B.im),.d (.cx .f32 r.C.re r.C.im)]∧o = []∧new = []):=impl_each_3_ok_fr0 false n a_ b_ h
def qdk (n:Nat) (a_:qa7) (b_:qa7):Option qa7 :=
  (qji n a_ b_).bind fun x2 =>
  some x2
theorem impl_LessPhases_ok_fr0 (fr:Bool) (n:Nat) (a_:qa7) (b_:qa7) {r:qa7} (h:qdk n a_ b_ = some r):qb0 prog fr 124 [.agg [.d (.cx .f32 a_.A.re a_.A.im),.d (.cx .f32 a_.B.re a_.B.im),.d (.cx .f32 a_.C.re a_.C.im)],.agg [.d (.cx .f32 b_.A.re b_.A.im),.d (.cx .f32 b_.B.re b_.B.im),.d (.cx .f32 b_.C.re b_.C.im)]] [] (fun v o new=>v = .agg [.d (.cx .f32 r.A.re r.A.im),.d (.cx .f32 r.B.re r.B.im),.d (.cx .f32 r.C.re r.C.im)]∧o = []∧new = []):=by
  refine qal hτ func124 rfl (by simp) (by simp) ?_
  unfold qdk at h
  refine qaa ?_
  refine qa2 ?_
  refine qak hτ rfl rfl rfl ?_
  refine qak hτ rfl rfl rfl ?_
  refine qak hτ rfl rfl rfl ?_
  refine qa6 ?_
  refine qaa ?_
  refine qa2 ?_
  refine qa0 hτ rfl rfl rfl ?_
  refine qa0 hτ rfl rfl rfl ?_
  refine qac h fun x2 hx2 h=>?_
  refine qag hτ false [] rfl rfl rfl (qai func157 rfl rfl) rfl rfl (by simp) ⟨(by trivial),(by trivial),(by trivial),trivial⟩ (by trivial) (impl_each_3_ok n a_ b_ hx2) ?_
  rintro r0 o0 n0 ⟨rfl,rfl,rfl⟩ -
  refine qak hτ rfl rfl rfl ?_
  refine qa6 ?_
  refine qab (qa5 [2] (l:=[(4,.ptr 0 0)]) (objs:=[.box [.d (.cx .f32 x2.A.re x2.A.im),.d (.cx .f32 x2.B.re x2.B.im),.d (.cx .f32 x2.C.re x2.C.im)]]) rfl (by simp) rfl (by trivial) ⟨rfl,trivial,trivial⟩) ?_
  refine qas ?_
  have hr:=Option.some.inj h
  subst hr
  exact qah (.inr rfl) [] (objs':=[]) (new:=[]) rfl (by simp) (by simp) rfl (by trivial) rfl rfl (by trivial) (fun _=>⟨by simp [V.flat,V.qbh,V.qb7,D.flat],qao⟩) ⟨rfl,rfl,rfl⟩
theorem qk6 (n:Nat) (a_:qa7) (b_:qa7) {r:qa7} (h:qdk n a_ b_ = some r):qb0 prog false 124 [.agg [.d (.cx .f32 a_.A.re a_.A.im),.d (.cx .f32 a_.B.re a_.B.im),.d (.cx .f32 a_.C.re a_.C.im)],.agg [.d (.cx .f32 b_.A.re b_.A.im),.d (.cx .f32 b_.B.re b_.B.im),.d (.cx .f32 b_.C.re b_.C.im)]] [] (fun v o new=>v = .agg [.d (.cx .f32 r.A.re r.A.im),.d (.cx .f32 r.B.re r.B.im),.d (.cx .f32 r.C.re r.C.im)]∧o = []∧new = []):=impl_LessPhases_ok_fr0 false n a_ b_ h
def qbr (n:Nat) (f_:qam) (currents_:List qa7):Nat→List qa7→Int→Option (List qa7)
  | 0,_,_=>none
  | m37 + 1,v26,v27 =>
    if v27 < (f_.qa9.length:Int) then
      (getI f_.qa9 v27).bind fun x40 =>
      (getI v26 x40.qar).bind fun x41 =>
      (getI currents_ v27).bind fun x42 =>
      (qd9 n x40 x42).bind fun x43 =>
      (qdk n x41 x43).bind fun x44 =>
      (qgg n v27 x44).bind fun x45 =>
      grd (room (v26.length + 1) 24) <|
      (qbr n f_ currents_ m37) (v26 ++ [x45]) (w64 (v27 + (1:Int)))
    else
      some v26
def qf1 (n:Nat) (f_:qam) (currents_:List qa7):Option (List qa7) :=
  qbr n f_ currents_ n [f_.Source] (1:Int)
theorem impl_Feeder_forth_ok (n:Nat) (f_:qam) (currents_:List qa7) {r:List qa7} (h:qf1 n f_ currents_ = some r):qb0 prog false 128 [.ptr 0 0,.d (.sl false (currents_.map qa1)),.func 62 [] []] [.box [.d (.cx .f32 f_.Source.A.re f_.Source.A.im),.d (.cx .f32 f_.Source.B.re f_.Source.B.im),.d (.cx .f32 f_.Source.C.re f_.Source.C.im),.d (.sl false (f_.qa9.map qaf))]] (fun v o new=>v = .row 1 r.length 0 r.length∧o = [.box [.d (.cx .f32 f_.Source.A.re f_.Source.A.im),.d (.cx .f32 f_.Source.B.re f_.Source.B.im),.d (.cx .f32 f_.Source.C.re f_.Source.C.im),.d (.sl false (f_.qa9.map qaf))]]∧new = [.row 3 (r.map qa1)]):=by
  refine qal hτ func128 rfl (by simp) (by simp) ?_
  unfold qf1 at h
  refine qaa ?_
  refine qa2 ?_
  refine qa0 hτ rfl rfl rfl ?_
  refine qa6 ?_
  refine qaa ?_
  refine qa2 ?_
  refine qa0 hτ rfl rfl rfl ?_
  refine qa0 hτ rfl rfl rfl ?_
  refine qa0 hτ rfl rfl rfl ?_
  refine qa0 hτ rfl rfl rfl ?_
  refine qak hτ rfl rfl rfl ?_
  refine qa0 hτ rfl rfl rfl ?_
  refine qa6 ?_
  refine qaa ?_
  refine qaa ?_
  refine qab (qa5 [0,1] (l:=[(0,.ptr 0 0),(1,.d (.sl false (currents_.map qa1))),(2,.func 62 [] []),(7,.row 1 ([f_.Source].length) 0 ([f_.Source].length))]) (objs:=[.box [.d (.cx .f32 f_.Source.A.re f_.Source.A.im),.d (.cx .f32 f_.Source.B.re f_.Source.B.im),.d (.cx .f32 f_.Source.C.re f_.Source.C.im),.d (.sl false (f_.qa9.map qaf))],.row 3 ([f_.Source].map qa1)]) rfl (by simp) rfl (by trivial) ⟨rfl,trivial,rfl,trivial,rfl,(by trivial),rfl,trivial,trivial⟩) ?_
  refine qa2 ?_
  refine qa0 hτ rfl rfl rfl ?_
  refine qa6 ?_
  refine qba ?_
  refine qfd (ι:=Nat × List qa7 × Int) (fun (m37,v26,v27)=>St.of [(0,.ptr 0 0),(1,.d (.sl false (currents_.map qa1))),(2,.func 62 [] []),(7,.row 1 v26.length 0 v26.length),(8,.d (.int .i64 v27))] [.box [.d (.cx .f32 f_.Source.A.re f_.Source.A.im),.d (.cx .f32 f_.Source.B.re f_.Source.B.im),.d (.cx .f32 f_.Source.C.re f_.Source.C.im),.d (.sl false (f_.qa9.map qaf))],.row 3 (v26.map qa1)] f128.ntmps 1) (fun (m37,v26,v27)=>qbr n f_ currents_ m37 v26 v27 = some r) (fun x=>x.1) (n,[f_.Source],(1:Int)) h (qa5 [0,1] (l:=[(0,.ptr 0 0),(1,.d (.sl false (currents_.map qa1))),(2,.func 62 [] []),(7,.row 1 ([f_.Source].length) 0 ([f_.Source].length)),(8,.d (.int .i64 (1:Int)))]) (objs:=[.box [.d (.cx .f32 f_.Source.A.re f_.Source.A.im),.d (.cx .f32 f_.Source.B.re f_.Source.B.im),.d (.cx .f32 f_.Source.C.re f_.Source.C.im),.d (.sl false (f_.qa9.map qaf))],.row 3 ([f_.Source].map qa1)]) rfl (by simp) rfl (by trivial) ⟨rfl,trivial,rfl,trivial,rfl,(by trivial),rfl,trivial,rfl,trivial,trivial⟩) ?_
  rintro ⟨m37,v26,v27⟩ h
  replace h:qbr n f_ currents_ m37 v26 v27 = some r:=h
  rcases m37 with _ | m37
  · rw [qbr] at h;cases h
  rw [qbr] at h
  refine qaa ?_
  refine qaa ?_
  refine qa2 ?_
  refine qa0 hτ rfl rfl rfl ?_
  refine qa0 hτ rfl rfl rfl ?_
  refine qa0 hτ rfl rfl rfl ?_
  refine qa0 hτ rfl rfl rfl ?_
  refine qa0 hτ rfl rfl rfl ?_
  refine qa0 hτ (v:=.d (.int .i64 (f_.qa9.length:Int))) rfl rfl (Eq.trans rfl (qfx (f:=qaf) f_.qa9)) ?_
  refine qa0 hτ rfl rfl rfl ?_
  refine qa6 ?_
  refine qab (qa5 [0,1] (l:=[(0,.ptr 0 0),(1,.d (.sl false (currents_.map qa1))),(2,.func 62 [] []),(7,.row 1 v26.length 0 v26.length),(8,.d (.int .i64 v27)),(21,.d (.bool (decide (v27 < (f_.qa9.length:Int)))))]) (objs:=[.box [.d (.cx .f32 f_.Source.A.re f_.Source.A.im),.d (.cx .f32 f_.Source.B.re f_.Source.B.im),.d (.cx .f32 f_.Source.C.re f_.Source.C.im),.d (.sl false (f_.qa9.map qaf))],.row 3 (v26.map qa1)]) rfl (by simp) rfl (by trivial) ⟨rfl,trivial,rfl,trivial,rfl,(by trivial),rfl,trivial,rfl,trivial,rfl,trivial,trivial⟩) ?_
  refine qaz rfl (fun hc39=>?_) (fun hc39=>?_)
  · have h:=if_t h hc39
    refine qb3 ?_
    refine qaa ?_
    refine qba ?_
    refine qaa ?_
    refine qa2 ?_
    refine qa0 hτ rfl rfl rfl ?_
    refine qa0 hτ rfl rfl rfl ?_
    refine qa0 hτ rfl rfl rfl ?_
    refine qa0 hτ rfl rfl rfl ?_
    refine qa0 hτ rfl rfl rfl ?_
    refine qac h fun x40 hx40 h=>?_
    refine qfb hτ rfl rfl rfl (qd3 hx40).1 (qeu hx40) rfl ?_
    refine qa0 hτ rfl rfl rfl ?_
    refine qak hτ rfl rfl rfl ?_
    refine qak hτ rfl rfl rfl ?_
    refine qa6 ?_
    refine qab (qa5 [0,1,2] (l:=[(0,.ptr 0 0),(1,.d (.sl false (currents_.map qa1))),(2,.func 62 [] []),(7,.row 1 v26.length 0 v26.length),(8,.d (.int .i64 v27)),(9,.ptr 2 0)]) (objs:=[.box [.d (.cx .f32 f_.Source.A.re f_.Source.A.im),.d (.cx .f32 f_.Source.B.re f_.Source.B.im),.d (.cx .f32 f_.Source.C.re f_.Source.C.im),.d (.sl false (f_.qa9.map qaf))],.row 3 (v26.map qa1),.box [.d (.int .i64 x40.qar),.d (.cx .f32 x40.Own.re x40.Own.im),.d (.cx .f32 x40.Shared.re x40.Shared.im),.d (.int .i64 x40.Kind),.d (.cx .f32 x40.Load.A.re x40.Load.A.im),.d (.cx .f32 x40.Load.B.re x40.Load.B.im),.d (.cx .f32 x40.Load.C.re x40.Load.C.im),.d (.int .i64 x40.qan)]]) rfl (by simp) rfl (by trivial) ⟨rfl,trivial,rfl,trivial,rfl,(by trivial),rfl,trivial,rfl,trivial,rfl,trivial,trivial⟩) ?_
    refine qcv ?_
    refine qad hτ [] 0 rfl rfl rfl rfl rfl ?_
    refine qad hτ [] 1 rfl rfl rfl rfl rfl ?_
    refine qad hτ [] 2 rfl rfl rfl rfl rfl ?_
    refine qad hτ [] 3 rfl rfl rfl rfl rfl ?_
    refine qad hτ [2] 4 rfl rfl rfl rfl rfl ?_
    refine qad hτ [2] 5 rfl rfl rfl rfl rfl ?_
    refine qac h fun x41 hx41 h=>?_
    refine qfa hτ [1] 6 rfl rfl rfl rfl rfl (qdb hx41) ?_
    refine qg1 hτ [1] 7 rfl rfl rfl rfl rfl (qb5 _) (qe0 hx41) rfl ?_
    refine qad hτ [2] 8 rfl rfl rfl rfl rfl ?_
    refine qad hτ [] 9 rfl rfl rfl rfl rfl ?_
    refine qad hτ [] 10 rfl rfl rfl rfl rfl ?_
    refine qac h fun x42 hx42 h=>?_
    refine qg1 hτ [] 11 rfl rfl rfl rfl rfl (qd3 hx42).1 (qeu hx42) rfl ?_
    refine qad hτ [] 12 rfl rfl rfl rfl rfl ?_
    refine qac h fun x43 hx43 h=>?_
    refine qbd hτ false [] [0,1,2] 13 rfl rfl rfl rfl (qai func161 rfl rfl) rfl rfl (by simp) ⟨(by trivial),(by trivial),trivial⟩ (by trivial) (impl_DropOf_ok n x40 x42 hx43) ⟨rfl,rfl,rfl,trivial⟩ ?_
    refine qac h fun x44 hx44 h=>?_
    refine qbd hτ false [] [0,1,2] 14 rfl rfl rfl rfl (qai func124 rfl rfl) rfl rfl (by simp) ⟨(by trivial),(by trivial),trivial⟩ (by trivial) (qk6 n x41 x43 hx44) ⟨rfl,rfl,rfl,trivial⟩ ?_
    refine qac h fun x45 hx45 h=>?_
    refine qbd hτ false [] [0,1,2] 15 rfl rfl rfl rfl (qai func62 rfl rfl) rfl rfl (by simp) ⟨trivial,(by trivial),trivial⟩ (by trivial) (qnh n v27 x44 hx45) ⟨rfl,rfl,rfl,trivial⟩ ?_
    refine qcd hτ [0,1,2] 16 rfl rfl rfl rfl ⟨rfl,rfl,rfl,trivial⟩ ?_
    refine qd6 h fun hg46 h=>?_
    refine qg3 hτ [0,2,3] 17 rfl rfl rfl (Eq.trans rfl (or_append (f:=qa1) v26 [x45] rfl)) ⟨⟨rfl,Nat.le_of_ble_eq_true rfl⟩,qb5 _,rfl,rfl,hg46,by decide,(all1 rfl)⟩ ⟨rfl,rfl,rfl,trivial⟩ ?_
    refine qad hτ [] 18 rfl rfl rfl rfl rfl ?_
    refine qd4 mixed (by kernel_rfl) ?_
    refine qab (qa5 [0,1] (l:=[(0,.ptr 0 0),(1,.d (.sl false (currents_.map qa1))),(2,.func 62 [] []),(7,.row 1 ((v26 ++ [x45]).length) 0 ((v26 ++ [x45]).length)),(8,.d (.int .i64 v27))]) (objs:=[.box [.d (.cx .f32 f_.Source.A.re f_.Source.A.im),.d (.cx .f32 f_.Source.B.re f_.Source.B.im),.d (.cx .f32 f_.Source.C.re f_.Source.C.im),.d (.sl false (f_.qa9.map qaf))],.row 3 ((v26 ++ [x45]).map qa1)]) rfl (by simp) rfl (by trivial) ⟨rfl,trivial,rfl,trivial,rfl,(by trivial),rfl,trivial,rfl,trivial,trivial⟩) ?_
    refine qa2 ?_
    refine qa0 hτ rfl rfl rfl ?_
    refine qa0 hτ rfl rfl rfl ?_
    refine qa0 hτ rfl rfl rfl ?_
    refine qa6 ?_
    exact ⟨(m37,(v26 ++ [x45]),(w64 (v27 + (1:Int)))),h,Nat.lt_succ_self m37,(qa5 [0,1] (l:=[(0,.ptr 0 0),(1,.d (.sl false (currents_.map qa1))),(2,.func 62 [] []),(7,.row 1 ((v26 ++ [x45]).length) 0 ((v26 ++ [x45]).length)),(8,.d (.int .i64 (w64 (v27 + (1:Int)))))]) (objs:=[.box [.d (.cx .f32 f_.Source.A.re f_.Source.A.im),.d (.cx .f32 f_.Source.B.re f_.Source.B.im),.d (.cx .f32 f_.Source.C.re f_.Source.C.im),.d (.sl false (f_.qa9.map qaf))],.row 3 ((v26 ++ [x45]).map qa1)]) rfl (by simp) rfl (by trivial) ⟨rfl,trivial,rfl,trivial,rfl,(by trivial),rfl,trivial,rfl,trivial,trivial⟩)⟩
  · have h:=if_f h hc39
    refine qfc ?_
    refine qaa ?_
    refine qa2 ?_
    refine qa0 hτ rfl rfl rfl ?_
    refine qa0 hτ rfl rfl rfl ?_
    refine qa6 ?_
    refine qab (qa5 [0,1] (l:=[(6,.row 1 v26.length 0 v26.length)]) (objs:=[.box [.d (.cx .f32 f_.Source.A.re f_.Source.A.im),.d (.cx .f32 f_.Source.B.re f_.Source.B.im),.d (.cx .f32 f_.Source.C.re f_.Source.C.im),.d (.sl false (f_.qa9.map qaf))],.row 3 (v26.map qa1)]) rfl (by simp) rfl (by trivial) ⟨rfl,trivial,trivial⟩) ?_
    refine qas ?_
    have hr:=Option.some.inj h
    subst hr
    exact qah (.inr rfl) [1] (objs':=[.box [.d (.cx .f32 f_.Source.A.re f_.Source.A.im),.d (.cx .f32 f_.Source.B.re f_.Source.B.im),.d (.cx .f32 f_.Source.C.re f_.Source.C.im),.d (.sl false (f_.qa9.map qaf))]]) (new:=[.row 3 (v26.map qa1)]) rfl (by simp) (by simp) rfl (by trivial) rfl rfl (by trivial) (fun h=>nomatch h) ⟨rfl,rfl,rfl⟩
def qca (n:Nat) (f_:qam) (voltages_:List qa7):Option qco :=
  (qf2 n f_ voltages_).bind fun x4 =>
  (qdq n f_ x4).bind fun x5 =>
  (qf1 n f_ x5).bind fun x6 =>
  some (qco.mk x6 x5 (1:Int) false)
theorem qjc (n:Nat) (f_:qam) (voltages_:List qa7) {r:qco} (h:qca n f_ voltages_ = some r):qb0 prog false 83 [.ptr 0 0,.d (.sl false (voltages_.map qa1)),.func 62 [] []] [.box [.d (.cx .f32 f_.Source.A.re f_.Source.A.im),.d (.cx .f32 f_.Source.B.re f_.Source.B.im),.d (.cx .f32 f_.Source.C.re f_.Source.C.im),.d (.sl false (f_.qa9.map qaf))]] (fun v o new=>v = .agg [.row 1 r.qa3.length 0 r.qa3.length,.d (.sl false (r.qae.map qa1)),.d (.int .i64 r.Rounds),.d (.bool r.qaw)]∧o = [.box [.d (.cx .f32 f_.Source.A.re f_.Source.A.im),.d (.cx .f32 f_.Source.B.re f_.Source.B.im),.d (.cx .f32 f_.Source.C.re f_.Source.C.im),.d (.sl false (f_.qa9.map qaf))]]∧new = [.row 3 (r.qa3.map qa1)]):=by
  refine qal hτ func83 rfl (by simp) (by simp) ?_
  unfold qca at h
  refine qaa ?_
  refine qa2 ?_
  refine qak hτ rfl rfl rfl ?_
  refine qa6 ?_
  refine qaa ?_
  refine qa2 ?_
  refine qa0 hτ rfl rfl rfl ?_
  refine qa0 hτ rfl rfl rfl ?_
  refine qa0 hτ rfl rfl rfl ?_
  refine qac h fun x4 hx4 h=>?_
  refine qag hτ false [0] rfl rfl rfl (qai func127 rfl rfl) rfl rfl (by simp) ⟨trivial,trivial,trivial⟩ (by trivial) (impl_Feeder_loads_ok n f_ voltages_ hx4) ?_
  rintro r0 o0 n0 ⟨rfl,rfl,rfl⟩ -
  refine qa0 hτ rfl rfl rfl ?_
  refine qap (qa5 [0,1] (l:=[(0,.ptr 0 0),(2,.func 62 [] []),(6,.ptr 1 0),(8,.ptr 0 0),(11,.d (.sl false (x4.map qa1))),(12,.func 62 [] [])]) (objs:=[.box [.d (.cx .f32 f_.Source.A.re f_.Source.A.im),.d (.cx .f32 f_.Source.B.re f_.Source.B.im),.d (.cx .f32 f_.Source.C.re f_.Source.C.im),.d (.sl false (f_.qa9.map qaf))],.box [.d (.nils),.d (.nils),.d (.int .i64 (0:Int)),.d (.bool false)]]) rfl (by simp) rfl (by trivial) ⟨rfl,trivial,rfl,(by trivial),rfl,trivial,rfl,trivial,(qiv (f:=qa1) (j:=2) (sz:=3) x4 rfl rfl rfl),(qhq (f:=qa1) (j:=2) (sz:=3) x4 rfl rfl rfl),rfl,(by trivial),trivial⟩) ?_
  refine qac h fun x5 hx5 h=>?_
  refine qag hτ false [0] rfl rfl rfl (qai func126 rfl rfl) rfl rfl (by simp) ⟨trivial,trivial,(by trivial),trivial⟩ (by trivial) (impl_Feeder_back_ok n f_ x4 hx5) ?_
  rintro r0 o0 n0 ⟨rfl,rfl,rfl⟩ -
  refine qa0 hτ rfl rfl rfl ?_
  refine qa6 ?_
  refine qaa ?_
  refine qa2 ?_
  refine qa0 hτ rfl rfl rfl ?_
  refine qa0 hτ rfl rfl rfl ?_
  refine qa0 hτ rfl rfl rfl ?_
  refine qap (qa5 [0,1] (l:=[(6,.ptr 1 0),(7,.d (.sl false (x5.map qa1))),(14,.ptr 0 0),(15,.d (.sl false (x5.map qa1))),(16,.func 62 [] [])]) (objs:=[.box [.d (.cx .f32 f_.Source.A.re f_.Source.A.im),.d (.cx .f32 f_.Source.B.re f_.Source.B.im),.d (.cx .f32 f_.Source.C.re f_.Source.C.im),.d (.sl false (f_.qa9.map qaf))],.box [.d (.nils),.d (.nils),.d (.int .i64 (0:Int)),.d (.bool false)]]) rfl (by simp) rfl (by trivial) ⟨rfl,trivial,(qiv (f:=qa1) (j:=2) (sz:=3) x5 rfl rfl rfl),(qhq (f:=qa1) (j:=2) (sz:=3) x5 rfl rfl rfl),rfl,trivial,(qiv (f:=qa1) (j:=2) (sz:=3) x5 rfl rfl rfl),(qhq (f:=qa1) (j:=2) (sz:=3) x5 rfl rfl rfl),rfl,(by trivial),trivial⟩) ?_
  refine qac h fun x6 hx6 h=>?_
  refine qag hτ false [0] rfl rfl rfl (qai func128 rfl rfl) rfl rfl (by simp) ⟨trivial,trivial,(by trivial),trivial⟩ (by trivial) (impl_Feeder_forth_ok n f_ x5 hx6) ?_
  rintro r0 o0 n0 ⟨rfl,rfl,rfl⟩ -
  refine qa0 hτ rfl rfl rfl ?_
  refine qa0 hτ rfl rfl rfl ?_
  refine qak hτ rfl rfl rfl ?_
  refine qa6 ?_
  refine qab (qa5 [0,1,2] (l:=[(6,.ptr 1 0)]) (objs:=[.box [.d (.cx .f32 f_.Source.A.re f_.Source.A.im),.d (.cx .f32 f_.Source.B.re f_.Source.B.im),.d (.cx .f32 f_.Source.C.re f_.Source.C.im),.d (.sl false (f_.qa9.map qaf))],.box [.row 2 x6.length 0 x6.length,.d (.sl false (x5.map qa1)),.d (.int .i64 (1:Int)),.d (.bool false)],.row 3 (x6.map qa1)]) rfl (by simp) rfl (by trivial) ⟨rfl,trivial,trivial⟩) ?_
  refine qas ?_
  have hr:=Option.some.inj h
  subst hr
  exact qah (.inr rfl) [2] (objs':=[.box [.d (.cx .f32 f_.Source.A.re f_.Source.A.im),.d (.cx .f32 f_.Source.B.re f_.Source.B.im),.d (.cx .f32 f_.Source.C.re f_.Source.C.im),.d (.sl false (f_.qa9.map qaf))]]) (new:=[.row 3 (x6.map qa1)]) rfl (by simp) (by simp) rfl (by trivial) rfl rfl (by trivial) (fun h=>nomatch h) ⟨rfl,rfl,rfl⟩
def qes (n:Nat) (rounds_:Int) (v40:List qa7) (v41:List qa7) (v42:Int) (v43:Bool):Option qco :=
  some (qco.mk v40 v41 rounds_ v43)
def qbe (n:Nat) (f_:qam) (rounds_:Int):Nat→List qa7→List qa7→Int→Bool→Int→Option qco
  | 0,_,_,_,_,_=>none
  | m57 + 1,v46,v47,v48,v49,v50 =>
    if v50 < rounds_ then
      (qca n f_ v46).bind fun x60 =>
      (qbe n f_ rounds_ m57) x60.qa3 x60.qae x60.Rounds x60.qaw (w64 (v50 + (1:Int)))
    else
      qes n rounds_ v46 v47 v48 v49
def qer (n:Nat) (f_:qam) (rounds_:Int) (v27:List qa7):Option qco :=
  qbe n f_ rounds_ n v27 (List.replicate (f_.qa9.length:Int).toNat (qa7.mk (Cx.mk (0:Nat) (0:Nat)) (Cx.mk (0:Nat) (0:Nat)) (Cx.mk (0:Nat) (0:Nat)))) (0:Int) false (0:Int)
def qc0 (n:Nat) (f_:qam) (voltages_:List qa7) (rounds_:Int):Option qco :=
  (qcl n voltages_).bind fun x62 =>
  grd (0 ≤ (f_.qa9.length:Int)∧room (f_.qa9.length:Int).toNat 24) <|
  qer n f_ rounds_ x62
theorem impl_Feeder_sweeps_ok (n:Nat) (f_:qam) (voltages_:List qa7) (rounds_:Int) {r:qco} (h:qc0 n f_ voltages_ rounds_ = some r):qb0 prog false 60 [.ptr 0 0,.d (.sl false (voltages_.map qa1)),.d (.int .i64 rounds_),.func 62 [] []] [.box [.d (.cx .f32 f_.Source.A.re f_.Source.A.im),.d (.cx .f32 f_.Source.B.re f_.Source.B.im),.d (.cx .f32 f_.Source.C.re f_.Source.C.im),.d (.sl false (f_.qa9.map qaf))]] (fun v o new=>v = .agg [.row 1 r.qa3.length 0 r.qa3.length,.d (.sl false (r.qae.map qa1)),.d (.int .i64 r.Rounds),.d (.bool r.qaw)]∧o = [.box [.d (.cx .f32 f_.Source.A.re f_.Source.A.im),.d (.cx .f32 f_.Source.B.re f_.Source.B.im),.d (.cx .f32 f_.Source.C.re f_.Source.C.im),.d (.sl false (f_.qa9.map qaf))]]∧new = [.row 3 (r.qa3.map qa1)]):=by
  refine qal hτ func60 rfl (by simp) (by simp) ?_
  unfold qc0 at h
  refine qaa ?_
  refine qa2 ?_
  refine qak hτ rfl rfl rfl ?_
  refine qa6 ?_
  refine qc7 (ι:=List qa7) (fun v27=>St.of [(0,.ptr 0 0),(2,.d (.int .i64 rounds_)),(3,.func 62 [] []),(8,.ptr 1 0),(9,.ptr 2 0)] [.box [.d (.cx .f32 f_.Source.A.re f_.Source.A.im),.d (.cx .f32 f_.Source.B.re f_.Source.B.im),.d (.cx .f32 f_.Source.C.re f_.Source.C.im),.d (.sl false (f_.qa9.map qaf))],.box [.d (.nils),.d (.nils),.d (.int .i64 (0:Int)),.d (.bool false)],.box [.row 3 v27.length 0 v27.length,.row 4 ((List.replicate (f_.qa9.length:Int).toNat (qa7.mk (Cx.mk (0:Nat) (0:Nat)) (Cx.mk (0:Nat) (0:Nat)) (Cx.mk (0:Nat) (0:Nat)))).length) 0 ((List.replicate (f_.qa9.length:Int).toNat (qa7.mk (Cx.mk (0:Nat) (0:Nat)) (Cx.mk (0:Nat) (0:Nat)) (Cx.mk (0:Nat) (0:Nat)))).length),.d (.int .i64 (0:Int)),.d (.bool false)],.row 3 (v27.map qa1),.row 3 ((List.replicate (f_.qa9.length:Int).toNat (qa7.mk (Cx.mk (0:Nat) (0:Nat)) (Cx.mk (0:Nat) (0:Nat)) (Cx.mk (0:Nat) (0:Nat)))).map qa1)] f60.ntmps 1) (fun v27=>qer n f_ rounds_ v27 = some r) ?_ (fun hk61=>?_)
  · rintro v27 h
    replace h:qer n f_ rounds_ v27 = some r:=h
    unfold qer at h
    refine qc7 (ι:=List qa7 × List qa7 × Int × Bool) (fun (v40,v41,v42,v43)=>St.of [(2,.d (.int .i64 rounds_)),(8,.ptr 1 0),(9,.ptr 2 0)] [.box [.d (.cx .f32 f_.Source.A.re f_.Source.A.im),.d (.cx .f32 f_.Source.B.re f_.Source.B.im),.d (.cx .f32 f_.Source.C.re f_.Source.C.im),.d (.sl false (f_.qa9.map qaf))],.box [.d (.nils),.d (.nils),.d (.int .i64 (0:Int)),.d (.bool false)],.box [.row 3 v40.length 0 v40.length,.d (.sl false (v41.map qa1)),.d (.int .i64 v42),.d (.bool v43)],.row 3 (v40.map qa1)] f60.ntmps 1) (fun (v40,v41,v42,v43)=>qes n rounds_ v40 v41 v42 v43 = some r) ?_ (fun hk44=>?_)
    · rintro ⟨v40,v41,v42,v43⟩ h
      replace h:qes n rounds_ v40 v41 v42 v43 = some r:=h
      unfold qes at h
      refine qaa ?_
      refine qa2 ?_
      refine qa0 hτ rfl rfl rfl ?_
      refine qa0 hτ rfl rfl rfl ?_
      refine qak hτ rfl rfl rfl ?_
      refine qa6 ?_
      refine qaa ?_
      refine qa2 ?_
      refine qa0 hτ rfl rfl rfl ?_
      refine qak hτ rfl rfl rfl ?_
      refine qa6 ?_
      refine qab (qa5 [0,1,3] (l:=[(8,.ptr 1 0)]) (objs:=[.box [.d (.cx .f32 f_.Source.A.re f_.Source.A.im),.d (.cx .f32 f_.Source.B.re f_.Source.B.im),.d (.cx .f32 f_.Source.C.re f_.Source.C.im),.d (.sl false (f_.qa9.map qaf))],.box [.row 2 v40.length 0 v40.length,.d (.sl false (v41.map qa1)),.d (.int .i64 rounds_),.d (.bool v43)],.row 3 (v40.map qa1)]) rfl (by simp) rfl (by trivial) ⟨rfl,trivial,trivial⟩) ?_
      refine qas ?_
      have hr:=Option.some.inj h
      subst hr
      exact qah (.inr rfl) [2] (objs':=[.box [.d (.cx .f32 f_.Source.A.re f_.Source.A.im),.d (.cx .f32 f_.Source.B.re f_.Source.B.im),.d (.cx .f32 f_.Source.C.re f_.Source.C.im),.d (.sl false (f_.qa9.map qaf))]]) (new:=[.row 3 (v40.map qa1)]) rfl (by simp) (by simp) rfl (by trivial) rfl rfl (by trivial) (fun h=>nomatch h) ⟨rfl,rfl,rfl⟩
    · refine qaa ?_
      refine qaa ?_
      refine qa2 ?_
      refine qa0 hτ rfl rfl rfl ?_
      refine qa0 hτ rfl rfl rfl ?_
      refine qa6 ?_
      refine qba ?_
      refine qfd (ι:=Nat × List qa7 × List qa7 × Int × Bool × Int) (fun (m57,v46,v47,v48,v49,v50)=>St.of [(0,.ptr 0 0),(2,.d (.int .i64 rounds_)),(3,.func 62 [] []),(8,.ptr 1 0),(9,.ptr 2 0),(19,.d (.int .i64 rounds_)),(20,.d (.int .i64 v50))] [.box [.d (.cx .f32 f_.Source.A.re f_.Source.A.im),.d (.cx .f32 f_.Source.B.re f_.Source.B.im),.d (.cx .f32 f_.Source.C.re f_.Source.C.im),.d (.sl false (f_.qa9.map qaf))],.box [.d (.nils),.d (.nils),.d (.int .i64 (0:Int)),.d (.bool false)],.box [.row 3 v46.length 0 v46.length,.d (.sl false (v47.map qa1)),.d (.int .i64 v48),.d (.bool v49)],.row 3 (v46.map qa1)] f60.ntmps 1) (fun (m57,v46,v47,v48,v49,v50)=>qbe n f_ rounds_ m57 v46 v47 v48 v49 v50 = some r) (fun x=>x.1) (n,v27,(List.replicate (f_.qa9.length:Int).toNat (qa7.mk (Cx.mk (0:Nat) (0:Nat)) (Cx.mk (0:Nat) (0:Nat)) (Cx.mk (0:Nat) (0:Nat)))),(0:Int),false,(0:Int)) h (qa5 [0,1,2,3] (l:=[(0,.ptr 0 0),(2,.d (.int .i64 rounds_)),(3,.func 62 [] []),(8,.ptr 1 0),(9,.ptr 2 0),(19,.d (.int .i64 rounds_)),(20,.d (.int .i64 (0:Int)))]) (objs:=[.box [.d (.cx .f32 f_.Source.A.re f_.Source.A.im),.d (.cx .f32 f_.Source.B.re f_.Source.B.im),.d (.cx .f32 f_.Source.C.re f_.Source.C.im),.d (.sl false (f_.qa9.map qaf))],.box [.d (.nils),.d (.nils),.d (.int .i64 (0:Int)),.d (.bool false)],.box [.row 3 v27.length 0 v27.length,.d (.sl false ((List.replicate (f_.qa9.length:Int).toNat (qa7.mk (Cx.mk (0:Nat) (0:Nat)) (Cx.mk (0:Nat) (0:Nat)) (Cx.mk (0:Nat) (0:Nat)))).map qa1)),.d (.int .i64 (0:Int)),.d (.bool false)],.row 3 (v27.map qa1)]) rfl (by simp) (qaj rfl (qaj rfl (qaj (qkc (qaj rfl (qaj (qit (f:=qa1) (j:=4) (sz:=3) (List.replicate (f_.qa9.length:Int).toNat (qa7.mk (Cx.mk (0:Nat) (0:Nat)) (Cx.mk (0:Nat) (0:Nat)) (Cx.mk (0:Nat) (0:Nat)))) rfl rfl rfl) (qaj rfl (qaj rfl qcc))))) (qaj rfl qcc)))) ⟨(by trivial),(by trivial),⟨trivial,(qiu (f:=qa1) (j:=4) (sz:=3) (List.replicate (f_.qa9.length:Int).toNat (qa7.mk (Cx.mk (0:Nat) (0:Nat)) (Cx.mk (0:Nat) (0:Nat)) (Cx.mk (0:Nat) (0:Nat)))) rfl rfl rfl),trivial,trivial⟩,trivial,trivial⟩ ⟨rfl,trivial,rfl,trivial,rfl,(by trivial),rfl,trivial,rfl,trivial,rfl,trivial,rfl,trivial,trivial⟩) ?_
      rintro ⟨m57,v46,v47,v48,v49,v50⟩ h
      replace h:qbe n f_ rounds_ m57 v46 v47 v48 v49 v50 = some r:=h
      rcases m57 with _ | m57
      · rw [qbe] at h;cases h
      rw [qbe] at h
      refine qaa ?_
      refine qa2 ?_
      refine qa0 hτ rfl rfl rfl ?_
      refine qa6 ?_
      refine qaa ?_
      refine qaz rfl (fun hc59=>?_) (fun hc59=>?_)
      · have h:=if_t h hc59
        refine qb3 ?_
        refine qaa ?_
        refine qba ?_
        refine qa2 ?_
        refine qa0 hτ rfl rfl rfl ?_
        refine qa0 hτ rfl rfl rfl ?_
        refine qa0 hτ rfl rfl rfl ?_
        refine qa0 hτ rfl rfl rfl ?_
        refine qap (qa5 [0,1,2] (l:=[(0,.ptr 0 0),(2,.d (.int .i64 rounds_)),(3,.func 62 [] []),(8,.ptr 1 0),(9,.ptr 2 0),(19,.d (.int .i64 rounds_)),(20,.d (.int .i64 v50)),(22,.ptr 0 0),(24,.d (.sl false (v46.map qa1))),(25,.func 62 [] [])]) (objs:=[.box [.d (.cx .f32 f_.Source.A.re f_.Source.A.im),.d (.cx .f32 f_.Source.B.re f_.Source.B.im),.d (.cx .f32 f_.Source.C.re f_.Source.C.im),.d (.sl false (f_.qa9.map qaf))],.box [.d (.nils),.d (.nils),.d (.int .i64 (0:Int)),.d (.bool false)],.box [.d (.sl false (v46.map qa1)),.d (.sl false (v47.map qa1)),.d (.int .i64 v48),.d (.bool v49)]]) rfl (by simp) (qaj rfl (qaj rfl (qaj (qkc (qaj (qit (f:=qa1) (j:=3) (sz:=3) v46 rfl rfl rfl) (qaj rfl (qaj rfl (qaj rfl qcc))))) qcc))) ⟨(by trivial),(by trivial),⟨(qiu (f:=qa1) (j:=3) (sz:=3) v46 rfl rfl rfl),trivial,trivial,trivial⟩,trivial⟩ ⟨rfl,trivial,rfl,trivial,rfl,(by trivial),rfl,trivial,rfl,trivial,rfl,trivial,rfl,trivial,rfl,trivial,(qiv (f:=qa1) (j:=3) (sz:=3) v46 rfl rfl rfl),(qhq (f:=qa1) (j:=3) (sz:=3) v46 rfl rfl rfl),rfl,(by trivial),trivial⟩) ?_
        refine qac h fun x60 hx60 h=>?_
        refine qag hτ false [0] rfl rfl rfl (qai func83 rfl rfl) rfl rfl (by simp) ⟨trivial,trivial,(by trivial),trivial⟩ (by trivial) (qjc n f_ v46 hx60) ?_
        rintro r0 o0 n0 ⟨rfl,rfl,rfl⟩ -
        refine qak hτ rfl rfl rfl ?_
        refine qa6 ?_
        refine qa2 ?_
        refine qa0 hτ rfl rfl rfl ?_
        refine qa0 hτ rfl rfl rfl ?_
        refine qa6 ?_
        exact ⟨(m57,x60.qa3,x60.qae,x60.Rounds,x60.qaw,(w64 (v50 + (1:Int)))),h,Nat.lt_succ_self m57,(qa5 [0,1,2,3] (l:=[(0,.ptr 0 0),(2,.d (.int .i64 rounds_)),(3,.func 62 [] []),(8,.ptr 1 0),(9,.ptr 2 0),(19,.d (.int .i64 rounds_)),(20,.d (.int .i64 (w64 (v50 + (1:Int)))))]) (objs:=[.box [.d (.cx .f32 f_.Source.A.re f_.Source.A.im),.d (.cx .f32 f_.Source.B.re f_.Source.B.im),.d (.cx .f32 f_.Source.C.re f_.Source.C.im),.d (.sl false (f_.qa9.map qaf))],.box [.d (.nils),.d (.nils),.d (.int .i64 (0:Int)),.d (.bool false)],.box [.row 3 x60.qa3.length 0 x60.qa3.length,.d (.sl false (x60.qae.map qa1)),.d (.int .i64 x60.Rounds),.d (.bool x60.qaw)],.row 3 (x60.qa3.map qa1)]) rfl (by simp) rfl (by trivial) ⟨rfl,trivial,rfl,trivial,rfl,(by trivial),rfl,trivial,rfl,trivial,rfl,trivial,rfl,trivial,trivial⟩)⟩
      · have h:=if_f h hc59
        refine qfc ?_
        refine qab (qa5 [0,1,2,3] (l:=[(2,.d (.int .i64 rounds_)),(8,.ptr 1 0),(9,.ptr 2 0)]) (objs:=[.box [.d (.cx .f32 f_.Source.A.re f_.Source.A.im),.d (.cx .f32 f_.Source.B.re f_.Source.B.im),.d (.cx .f32 f_.Source.C.re f_.Source.C.im),.d (.sl false (f_.qa9.map qaf))],.box [.d (.nils),.d (.nils),.d (.int .i64 (0:Int)),.d (.bool false)],.box [.row 3 v46.length 0 v46.length,.d (.sl false (v47.map qa1)),.d (.int .i64 v48),.d (.bool v49)],.row 3 (v46.map qa1)]) rfl (by simp) rfl (by trivial) ⟨rfl,trivial,rfl,trivial,rfl,trivial,trivial⟩) ?_
        exact hk44 (v46,v47,v48,v49) h
  · refine qaa ?_
    refine qph mixed ?_
    refine qad hτ [] 0 rfl rfl rfl rfl rfl ?_
    refine qad hτ [] 2 rfl rfl rfl rfl rfl ?_
    refine qad hτ [] 3 rfl rfl rfl rfl rfl ?_
    refine qad hτ [0] 4 rfl rfl rfl rfl rfl ?_
    refine qad hτ [0] 5 rfl rfl rfl rfl rfl ?_
    refine qad hτ (v:=.d (.int .i64 (f_.qa9.length:Int))) [] 6 rfl rfl rfl rfl (Eq.trans rfl (qfx (f:=qaf) f_.qa9)) ?_
    refine qln [1,7,9] (by kernel_rfl) fun _ hfs=>⟨?_,?_,?_,trivial⟩
    · refine qac h fun x62 hx62 h=>?_
      refine qbd hτ false [] [0,1] 1 rfl rfl rfl rfl (qai func113 rfl rfl) rfl rfl (by simp) ⟨trivial,trivial⟩ (by trivial) (qg9 n voltages_ hx62) ⟨rfl,rfl,trivial⟩ ?_
      refine qg2 hfs (by kernel_rfl) fun _=>?_
      refine qln [7,9] (by kernel_rfl) fun _ hfs=>⟨?_,?_,trivial⟩
      · refine qd6 h fun hg63 h=>?_
        refine qg3 hτ [0,1,2] 7 rfl rfl rfl (Eq.trans rfl (qn6 (f:=qa1) (x:=(qa7.mk (Cx.mk (0:Nat) (0:Nat)) (Cx.mk (0:Nat) (0:Nat)) (Cx.mk (0:Nat) (0:Nat)))) rfl)) (qki hg63 (by decide)) ⟨rfl,rfl,rfl,trivial⟩ ?_
        refine qg2 hfs (by kernel_rfl) fun _=>?_
        refine qad hτ [] 8 rfl rfl rfl rfl rfl ?_
        refine qcd hτ [0,1,2,3] 9 rfl rfl rfl rfl ⟨rfl,rfl,rfl,rfl,trivial⟩ ?_
        refine qcd hτ [0,1,2,3] 10 rfl rfl rfl rfl ⟨rfl,rfl,rfl,rfl,trivial⟩ ?_
        refine qib (by kernel_rfl) ?_
        refine qab (qa5 [0,1,4,2,3] (l:=[(0,.ptr 0 0),(2,.d (.int .i64 rounds_)),(3,.func 62 [] []),(8,.ptr 1 0),(9,.ptr 2 0)]) (objs:=[.box [.d (.cx .f32 f_.Source.A.re f_.Source.A.im),.d (.cx .f32 f_.Source.B.re f_.Source.B.im),.d (.cx .f32 f_.Source.C.re f_.Source.C.im),.d (.sl false (f_.qa9.map qaf))],.box [.d (.nils),.d (.nils),.d (.int .i64 (0:Int)),.d (.bool false)],.box [.row 3 x62.length 0 x62.length,.row 4 ((List.replicate (f_.qa9.length:Int).toNat (qa7.mk (Cx.mk (0:Nat) (0:Nat)) (Cx.mk (0:Nat) (0:Nat)) (Cx.mk (0:Nat) (0:Nat)))).length) 0 ((List.replicate (f_.qa9.length:Int).toNat (qa7.mk (Cx.mk (0:Nat) (0:Nat)) (Cx.mk (0:Nat) (0:Nat)) (Cx.mk (0:Nat) (0:Nat)))).length),.d (.int .i64 (0:Int)),.d (.bool false)],.row 3 (x62.map qa1),.row 3 ((List.replicate (f_.qa9.length:Int).toNat (qa7.mk (Cx.mk (0:Nat) (0:Nat)) (Cx.mk (0:Nat) (0:Nat)) (Cx.mk (0:Nat) (0:Nat)))).map qa1)]) rfl (by simp) rfl (by trivial) ⟨rfl,trivial,rfl,trivial,rfl,(by trivial),rfl,trivial,rfl,trivial,trivial⟩) ?_
        exact hk61 x62 h
      · refine qcd hτ [0,1,2] 9 rfl rfl rfl rfl ⟨rfl,rfl,rfl,trivial⟩ ?_
        refine qg2 hfs (by kernel_rfl) fun _=>?_
        refine qd6 h fun hg63 h=>?_
        refine qg3 hτ [0,1,2,3] 7 rfl rfl rfl (Eq.trans rfl (qn6 (f:=qa1) (x:=(qa7.mk (Cx.mk (0:Nat) (0:Nat)) (Cx.mk (0:Nat) (0:Nat)) (Cx.mk (0:Nat) (0:Nat)))) rfl)) (qki hg63 (by decide)) ⟨rfl,rfl,rfl,rfl,trivial⟩ ?_
        refine qad hτ [] 8 rfl rfl rfl rfl rfl ?_
        refine qcd hτ [0,1,2,4] 10 rfl rfl rfl rfl ⟨rfl,rfl,rfl,rfl,trivial⟩ ?_
        refine qib (by kernel_rfl) ?_
        refine qab (qa5 [0,1,3,2,4] (l:=[(0,.ptr 0 0),(2,.d (.int .i64 rounds_)),(3,.func 62 [] []),(8,.ptr 1 0),(9,.ptr 2 0)]) (objs:=[.box [.d (.cx .f32 f_.Source.A.re f_.Source.A.im),.d (.cx .f32 f_.Source.B.re f_.Source.B.im),.d (.cx .f32 f_.Source.C.re f_.Source.C.im),.d (.sl false (f_.qa9.map qaf))],.box [.d (.nils),.d (.nils),.d (.int .i64 (0:Int)),.d (.bool false)],.box [.row 3 x62.length 0 x62.length,.row 4 ((List.replicate (f_.qa9.length:Int).toNat (qa7.mk (Cx.mk (0:Nat) (0:Nat)) (Cx.mk (0:Nat) (0:Nat)) (Cx.mk (0:Nat) (0:Nat)))).length) 0 ((List.replicate (f_.qa9.length:Int).toNat (qa7.mk (Cx.mk (0:Nat) (0:Nat)) (Cx.mk (0:Nat) (0:Nat)) (Cx.mk (0:Nat) (0:Nat)))).length),.d (.int .i64 (0:Int)),.d (.bool false)],.row 3 (x62.map qa1),.row 3 ((List.replicate (f_.qa9.length:Int).toNat (qa7.mk (Cx.mk (0:Nat) (0:Nat)) (Cx.mk (0:Nat) (0:Nat)) (Cx.mk (0:Nat) (0:Nat)))).map qa1)]) rfl (by simp) rfl (by trivial) ⟨rfl,trivial,rfl,trivial,rfl,(by trivial),rfl,trivial,rfl,trivial,trivial⟩) ?_
        exact hk61 x62 h
    · refine qac h fun x63 hx63 h=>?_
      refine qd6 h fun hg62 h=>?_
      refine qg3 hτ [0,1] 7 rfl rfl rfl (Eq.trans rfl (qn6 (f:=qa1) (x:=(qa7.mk (Cx.mk (0:Nat) (0:Nat)) (Cx.mk (0:Nat) (0:Nat)) (Cx.mk (0:Nat) (0:Nat)))) rfl)) (qki hg62 (by decide)) ⟨rfl,rfl,trivial⟩ ?_
      refine qg2 hfs (by kernel_rfl) fun _=>?_
      refine qln [1,9] (by kernel_rfl) fun _ hfs=>⟨?_,?_,trivial⟩
      · refine qbd hτ false [] [0,1,2] 1 rfl rfl rfl rfl (qai func113 rfl rfl) rfl rfl (by simp) ⟨trivial,trivial⟩ (by trivial) (qg9 n voltages_ hx63) ⟨rfl,rfl,rfl,trivial⟩ ?_
        refine qg2 hfs (by kernel_rfl) fun _=>?_
        refine qad hτ [] 8 rfl rfl rfl rfl rfl ?_
        refine qcd hτ [0,1,2,3] 9 rfl rfl rfl rfl ⟨rfl,rfl,rfl,rfl,trivial⟩ ?_
        refine qcd hτ [0,1,2,3] 10 rfl rfl rfl rfl ⟨rfl,rfl,rfl,rfl,trivial⟩ ?_
        refine qib (by kernel_rfl) ?_
        refine qab (qa5 [0,1,4,3,2] (l:=[(0,.ptr 0 0),(2,.d (.int .i64 rounds_)),(3,.func 62 [] []),(8,.ptr 1 0),(9,.ptr 2 0)]) (objs:=[.box [.d (.cx .f32 f_.Source.A.re f_.Source.A.im),.d (.cx .f32 f_.Source.B.re f_.Source.B.im),.d (.cx .f32 f_.Source.C.re f_.Source.C.im),.d (.sl false (f_.qa9.map qaf))],.box [.d (.nils),.d (.nils),.d (.int .i64 (0:Int)),.d (.bool false)],.box [.row 3 x63.length 0 x63.length,.row 4 ((List.replicate (f_.qa9.length:Int).toNat (qa7.mk (Cx.mk (0:Nat) (0:Nat)) (Cx.mk (0:Nat) (0:Nat)) (Cx.mk (0:Nat) (0:Nat)))).length) 0 ((List.replicate (f_.qa9.length:Int).toNat (qa7.mk (Cx.mk (0:Nat) (0:Nat)) (Cx.mk (0:Nat) (0:Nat)) (Cx.mk (0:Nat) (0:Nat)))).length),.d (.int .i64 (0:Int)),.d (.bool false)],.row 3 (x63.map qa1),.row 3 ((List.replicate (f_.qa9.length:Int).toNat (qa7.mk (Cx.mk (0:Nat) (0:Nat)) (Cx.mk (0:Nat) (0:Nat)) (Cx.mk (0:Nat) (0:Nat)))).map qa1)]) rfl (by simp) rfl (by trivial) ⟨rfl,trivial,rfl,trivial,rfl,(by trivial),rfl,trivial,rfl,trivial,trivial⟩) ?_
        exact hk61 x63 h
      · refine qcd hτ [0,1,2] 9 rfl rfl rfl rfl ⟨rfl,rfl,rfl,trivial⟩ ?_
        refine qg2 hfs (by kernel_rfl) fun _=>?_
        refine qbd hτ false [] [0,1,2,3] 1 rfl rfl rfl rfl (qai func113 rfl rfl) rfl rfl (by simp) ⟨trivial,trivial⟩ (by trivial) (qg9 n voltages_ hx63) ⟨rfl,rfl,rfl,rfl,trivial⟩ ?_
        refine qad hτ [] 8 rfl rfl rfl rfl rfl ?_
        refine qcd hτ [0,1,2,4] 10 rfl rfl rfl rfl ⟨rfl,rfl,rfl,rfl,trivial⟩ ?_
        refine qib (by kernel_rfl) ?_
        refine qab (qa5 [0,1,3,4,2] (l:=[(0,.ptr 0 0),(2,.d (.int .i64 rounds_)),(3,.func 62 [] []),(8,.ptr 1 0),(9,.ptr 2 0)]) (objs:=[.box [.d (.cx .f32 f_.Source.A.re f_.Source.A.im),.d (.cx .f32 f_.Source.B.re f_.Source.B.im),.d (.cx .f32 f_.Source.C.re f_.Source.C.im),.d (.sl false (f_.qa9.map qaf))],.box [.d (.nils),.d (.nils),.d (.int .i64 (0:Int)),.d (.bool false)],.box [.row 3 x63.length 0 x63.length,.row 4 ((List.replicate (f_.qa9.length:Int).toNat (qa7.mk (Cx.mk (0:Nat) (0:Nat)) (Cx.mk (0:Nat) (0:Nat)) (Cx.mk (0:Nat) (0:Nat)))).length) 0 ((List.replicate (f_.qa9.length:Int).toNat (qa7.mk (Cx.mk (0:Nat) (0:Nat)) (Cx.mk (0:Nat) (0:Nat)) (Cx.mk (0:Nat) (0:Nat)))).length),.d (.int .i64 (0:Int)),.d (.bool false)],.row 3 (x63.map qa1),.row 3 ((List.replicate (f_.qa9.length:Int).toNat (qa7.mk (Cx.mk (0:Nat) (0:Nat)) (Cx.mk (0:Nat) (0:Nat)) (Cx.mk (0:Nat) (0:Nat)))).map qa1)]) rfl (by simp) rfl (by trivial) ⟨rfl,trivial,rfl,trivial,rfl,(by trivial),rfl,trivial,rfl,trivial,trivial⟩) ?_
        exact hk61 x63 h
    · refine qcd hτ [0,1] 9 rfl rfl rfl rfl ⟨rfl,rfl,trivial⟩ ?_
      refine qg2 hfs (by kernel_rfl) fun _=>?_
      refine qln [1,7] (by kernel_rfl) fun _ hfs=>⟨?_,?_,trivial⟩
      · refine qac h fun x62 hx62 h=>?_
        refine qbd hτ false [] [0,1,2] 1 rfl rfl rfl rfl (qai func113 rfl rfl) rfl rfl (by simp) ⟨trivial,trivial⟩ (by trivial) (qg9 n voltages_ hx62) ⟨rfl,rfl,rfl,trivial⟩ ?_
        refine qg2 hfs (by kernel_rfl) fun _=>?_
        refine qd6 h fun hg63 h=>?_
        refine qg3 hτ [0,1,2,3] 7 rfl rfl rfl (Eq.trans rfl (qn6 (f:=qa1) (x:=(qa7.mk (Cx.mk (0:Nat) (0:Nat)) (Cx.mk (0:Nat) (0:Nat)) (Cx.mk (0:Nat) (0:Nat)))) rfl)) (qki hg63 (by decide)) ⟨rfl,rfl,rfl,rfl,trivial⟩ ?_
        refine qad hτ [] 8 rfl rfl rfl rfl rfl ?_
        refine qcd hτ [0,1,3,4] 10 rfl rfl rfl rfl ⟨rfl,rfl,rfl,rfl,trivial⟩ ?_
        refine qib (by kernel_rfl) ?_
        refine qab (qa5 [0,1,2,3,4] (l:=[(0,.ptr 0 0),(2,.d (.int .i64 rounds_)),(3,.func 62 [] []),(8,.ptr 1 0),(9,.ptr 2 0)]) (objs:=[.box [.d (.cx .f32 f_.Source.A.re f_.Source.A.im),.d (.cx .f32 f_.Source.B.re f_.Source.B.im),.d (.cx .f32 f_.Source.C.re f_.Source.C.im),.d (.sl false (f_.qa9.map qaf))],.box [.d (.nils),.d (.nils),.d (.int .i64 (0:Int)),.d (.bool false)],.box [.row 3 x62.length 0 x62.length,.row 4 ((List.replicate (f_.qa9.length:Int).toNat (qa7.mk (Cx.mk (0:Nat) (0:Nat)) (Cx.mk (0:Nat) (0:Nat)) (Cx.mk (0:Nat) (0:Nat)))).length) 0 ((List.replicate (f_.qa9.length:Int).toNat (qa7.mk (Cx.mk (0:Nat) (0:Nat)) (Cx.mk (0:Nat) (0:Nat)) (Cx.mk (0:Nat) (0:Nat)))).length),.d (.int .i64 (0:Int)),.d (.bool false)],.row 3 (x62.map qa1),.row 3 ((List.replicate (f_.qa9.length:Int).toNat (qa7.mk (Cx.mk (0:Nat) (0:Nat)) (Cx.mk (0:Nat) (0:Nat)) (Cx.mk (0:Nat) (0:Nat)))).map qa1)]) rfl (by simp) rfl (by trivial) ⟨rfl,trivial,rfl,trivial,rfl,(by trivial),rfl,trivial,rfl,trivial,trivial⟩) ?_
        exact hk61 x62 h
      · refine qac h fun x63 hx63 h=>?_
        refine qd6 h fun hg62 h=>?_
        refine qg3 hτ [0,1,2] 7 rfl rfl rfl (Eq.trans rfl (qn6 (f:=qa1) (x:=(qa7.mk (Cx.mk (0:Nat) (0:Nat)) (Cx.mk (0:Nat) (0:Nat)) (Cx.mk (0:Nat) (0:Nat)))) rfl)) (qki hg62 (by decide)) ⟨rfl,rfl,rfl,trivial⟩ ?_
        refine qg2 hfs (by kernel_rfl) fun _=>?_
        refine qbd hτ false [] [0,1,2,3] 1 rfl rfl rfl rfl (qai func113 rfl rfl) rfl rfl (by simp) ⟨trivial,trivial⟩ (by trivial) (qg9 n voltages_ hx63) ⟨rfl,rfl,rfl,rfl,trivial⟩ ?_
        refine qad hτ [] 8 rfl rfl rfl rfl rfl ?_
        refine qcd hτ [0,1,3,4] 10 rfl rfl rfl rfl ⟨rfl,rfl,rfl,rfl,trivial⟩ ?_
        refine qib (by kernel_rfl) ?_
        refine qab (qa5 [0,1,2,4,3] (l:=[(0,.ptr 0 0),(2,.d (.int .i64 rounds_)),(3,.func 62 [] []),(8,.ptr 1 0),(9,.ptr 2 0)]) (objs:=[.box [.d (.cx .f32 f_.Source.A.re f_.Source.A.im),.d (.cx .f32 f_.Source.B.re f_.Source.B.im),.d (.cx .f32 f_.Source.C.re f_.Source.C.im),.d (.sl false (f_.qa9.map qaf))],.box [.d (.nils),.d (.nils),.d (.int .i64 (0:Int)),.d (.bool false)],.box [.row 3 x63.length 0 x63.length,.row 4 ((List.replicate (f_.qa9.length:Int).toNat (qa7.mk (Cx.mk (0:Nat) (0:Nat)) (Cx.mk (0:Nat) (0:Nat)) (Cx.mk (0:Nat) (0:Nat)))).length) 0 ((List.replicate (f_.qa9.length:Int).toNat (qa7.mk (Cx.mk (0:Nat) (0:Nat)) (Cx.mk (0:Nat) (0:Nat)) (Cx.mk (0:Nat) (0:Nat)))).length),.d (.int .i64 (0:Int)),.d (.bool false)],.row 3 (x63.map qa1),.row 3 ((List.replicate (f_.qa9.length:Int).toNat (qa7.mk (Cx.mk (0:Nat) (0:Nat)) (Cx.mk (0:Nat) (0:Nat)) (Cx.mk (0:Nat) (0:Nat)))).map qa1)]) rfl (by simp) rfl (by trivial) ⟨rfl,trivial,rfl,trivial,rfl,(by trivial),rfl,trivial,rfl,trivial,trivial⟩) ?_
        exact hk61 x63 h
def qe2 (n:Nat) (f_:qam) (voltages_:List qa7) (rounds_:Int):Option (qco × Bool) :=
  (qc0 n f_ voltages_ rounds_).bind fun x10 =>
  some ((qco.mk x10.qa3 x10.qae x10.Rounds x10.qaw),true)
def qde (n:Nat) (f_:qam) (voltages_:List qa7) (rounds_:Int) (v16:Bool):Option (qco × Bool) :=
  if v16 = true then
    some ((qco.mk ([]:List qa7) ([]:List qa7) (0:Int) false),false)
  else
    qe2 n f_ voltages_ rounds_
def qdw (n:Nat) (f_:qam) (voltages_:List qa7) (rounds_:Int):Option (qco × Bool) :=
  (qgw n f_ voltages_).bind fun x19 =>
  if x19 = true then
    (qeq n rounds_ (0:Int) (50:Int)).bind fun x21 =>
    qde n f_ voltages_ rounds_ (!x21)
  else
    qde n f_ voltages_ rounds_ true
theorem qkg (n:Nat) (f_:qam) (voltages_:List qa7) (rounds_:Int) {r:qco × Bool} (h:qdw n f_ voltages_ rounds_ = some r):qb0 prog false 15 [.agg [.d (.cx .f32 f_.Source.A.re f_.Source.A.im),.d (.cx .f32 f_.Source.B.re f_.Source.B.im),.d (.cx .f32 f_.Source.C.re f_.Source.C.im),.d (.sl false (f_.qa9.map qaf))],.d (.sl false (voltages_.map qa1)),.d (.int .i64 rounds_)] [] (fun v o new=>v = .tup [.agg [.row 0 r.1.qa3.length 0 r.1.qa3.length,.d (.sl false (r.1.qae.map qa1)),.d (.int .i64 r.1.Rounds),.d (.bool r.1.qaw)],.d (.bool r.2)]∧o = []∧new = [.row 3 (r.1.qa3.map qa1)]):=by
  refine qal hτ func15 rfl (by simp) (by simp) ?_
  unfold qdw at h
  refine qaa ?_
  refine qa2 ?_
  refine qak hτ rfl rfl rfl ?_
  refine qak hτ rfl rfl rfl ?_
  refine qa0 hτ rfl rfl rfl ?_
  refine qa6 ?_
  refine qc7 (ι:=Unit) (fun _=>St.of [(1,.d (.sl false (voltages_.map qa1))),(2,.d (.int .i64 rounds_)),(3,.ptr 0 0),(6,.ptr 1 0)] [.box [.d (.cx .f32 f_.Source.A.re f_.Source.A.im),.d (.cx .f32 f_.Source.B.re f_.Source.B.im),.d (.cx .f32 f_.Source.C.re f_.Source.C.im),.d (.sl false (f_.qa9.map qaf))],.box [.d (.nils),.d (.nils),.d (.int .i64 (0:Int)),.d (.bool false)]] f15.ntmps 0) (fun _=>qe2 n f_ voltages_ rounds_ = some r) ?_ (fun hk11=>?_)
  · rintro ⟨⟩ h
    replace h:qe2 n f_ voltages_ rounds_ = some r:=h
    unfold qe2 at h
    refine qaa ?_
    refine qa2 ?_
    refine qa0 hτ rfl rfl rfl ?_
    refine qa0 hτ rfl rfl rfl ?_
    refine qac h fun x10 hx10 h=>?_
    refine qag hτ false [0] rfl rfl rfl (qai func60 rfl rfl) rfl rfl (by simp) ⟨trivial,trivial,trivial,(by trivial),trivial⟩ (by trivial) (impl_Feeder_sweeps_ok n f_ voltages_ rounds_ hx10) ?_
    rintro r0 o0 n0 ⟨rfl,rfl,rfl⟩ -
    refine qak hτ rfl rfl rfl ?_
    refine qa0 hτ rfl rfl rfl ?_
    refine qa6 ?_
    refine qab (qa5 [1,2] (l:=[(6,.ptr 0 0),(7,.d (.bool true))]) (objs:=[.box [.row 1 x10.qa3.length 0 x10.qa3.length,.d (.sl false (x10.qae.map qa1)),.d (.int .i64 x10.Rounds),.d (.bool x10.qaw)],.row 3 (x10.qa3.map qa1)]) rfl (by simp) rfl (by trivial) ⟨rfl,trivial,rfl,trivial,trivial⟩) ?_
    refine qas ?_
    have hr:=Option.some.inj h
    subst hr
    exact qah (.inr rfl) [1] (objs':=[]) (new:=[.row 3 (x10.qa3.map qa1)]) rfl (by simp) (by simp) rfl (by trivial) rfl rfl (by trivial) (fun h=>nomatch h) ⟨rfl,rfl,rfl⟩
  · refine qaa ?_
    refine qc7 (ι:=Bool) (fun v16=>St.of [(1,.d (.sl false (voltages_.map qa1))),(2,.d (.int .i64 rounds_)),(3,.ptr 0 0),(6,.ptr 1 0),(16,.d (.bool v16))] [.box [.d (.cx .f32 f_.Source.A.re f_.Source.A.im),.d (.cx .f32 f_.Source.B.re f_.Source.B.im),.d (.cx .f32 f_.Source.C.re f_.Source.C.im),.d (.sl false (f_.qa9.map qaf))],.box [.d (.nils),.d (.nils),.d (.int .i64 (0:Int)),.d (.bool false)]] f15.ntmps 0) (fun v16=>qde n f_ voltages_ rounds_ v16 = some r) ?_ (fun hk18=>?_)
    · rintro v16 h
      replace h:qde n f_ voltages_ rounds_ v16 = some r:=h
      unfold qde at h
      refine qaz rfl (fun hc17=>?_) (fun hc17=>?_)
      · have h:=qcq h hc17
        refine qaa ?_
        refine qa2 ?_
        refine qa0 hτ rfl rfl rfl ?_
        refine qak hτ rfl rfl rfl ?_
        refine qa0 hτ rfl rfl rfl ?_
        refine qa6 ?_
        refine qab (qa5 [1] (l:=[(6,.ptr 0 0),(7,.d (.bool false))]) (objs:=[.box [.d (.nils),.d (.nils),.d (.int .i64 (0:Int)),.d (.bool false)]]) rfl (by simp) rfl (by trivial) ⟨rfl,trivial,rfl,trivial,trivial⟩) ?_
        refine qab (qhl [3] (l':=[(6,.ptr 0 0),(7,.d (.bool false))]) (objs':=[.box [.row 1 (([]:List qa7).length) 0 (([]:List qa7).length),.d (.sl false (([]:List qa7).map qa1)),.d (.int .i64 (0:Int)),.d (.bool false)]]) (.cons (.c (.refl _)) (.cons (.c (.refl _)) .nil)) (.cons (.box (.cons (.ghost ⟨Nat.le_of_ble_eq_true rfl,Nat.le_of_ble_eq_true rfl⟩) (.cons (.d .nil) (.cons (.refl _) (.cons (.refl _) .nil))))) .nil)) ?_
        refine qas ?_
        have hr:=Option.some.inj h
        subst hr
        exact qah (.inr rfl) [1] (objs':=[]) (new:=[.row 3 (([]:List qa7).map qa1)]) rfl (by simp) (by simp) rfl (by trivial) rfl rfl (by trivial) (fun h=>nomatch h) ⟨rfl,rfl,rfl⟩
      · have h:=qcp h hc17
        refine qb3 ?_
        refine qab (qa5 [0,1] (l:=[(1,.d (.sl false (voltages_.map qa1))),(2,.d (.int .i64 rounds_)),(3,.ptr 0 0),(6,.ptr 1 0)]) (objs:=[.box [.d (.cx .f32 f_.Source.A.re f_.Source.A.im),.d (.cx .f32 f_.Source.B.re f_.Source.B.im),.d (.cx .f32 f_.Source.C.re f_.Source.C.im),.d (.sl false (f_.qa9.map qaf))],.box [.d (.nils),.d (.nils),.d (.int .i64 (0:Int)),.d (.bool false)]]) rfl (by simp) rfl (by trivial) ⟨rfl,trivial,rfl,trivial,rfl,trivial,rfl,trivial,trivial⟩) ?_
        exact hk11 () h
    · refine qaa ?_
      refine qa2 ?_
      refine qa0 hτ rfl rfl rfl ?_
      refine qa0 hτ rfl rfl rfl ?_
      refine qac h fun x19 hx19 h=>?_
      refine qag hτ false [] rfl rfl rfl (qai func68 rfl rfl) rfl rfl (by simp) ⟨(by trivial),trivial,trivial⟩ (by trivial) (impl_listFor_ok n f_ voltages_ hx19) ?_
      rintro r0 o0 n0 ⟨rfl,rfl,rfl⟩ -
      refine qa0 hτ rfl rfl rfl ?_
      refine qa0 hτ rfl rfl rfl ?_
      refine qb4 12 rfl (fun hb20=>?_) (fun hb20=>?_)
      · have hb20:=qhn hb20
        have h:=qcp h hb20
        refine qa4 rfl rfl ?_
        refine qa4 rfl rfl ?_
        refine qa4 rfl rfl ?_
        refine qa0 hτ rfl rfl rfl ?_
        refine qa6 ?_
        refine qab (qa5 [0,1] (l:=[(1,.d (.sl false (voltages_.map qa1))),(2,.d (.int .i64 rounds_)),(3,.ptr 0 0),(6,.ptr 1 0),(16,.d (.bool true))]) (objs:=[.box [.d (.cx .f32 f_.Source.A.re f_.Source.A.im),.d (.cx .f32 f_.Source.B.re f_.Source.B.im),.d (.cx .f32 f_.Source.C.re f_.Source.C.im),.d (.sl false (f_.qa9.map qaf))],.box [.d (.nils),.d (.nils),.d (.int .i64 (0:Int)),.d (.bool false)]]) rfl (by simp) rfl (by trivial) ⟨rfl,trivial,rfl,trivial,rfl,trivial,rfl,trivial,rfl,trivial,trivial⟩) ?_
        exact hk18 true h
      · have hb20:=qhm hb20
        have h:=qcq h hb20
        refine qa0 hτ rfl rfl rfl ?_
        refine qac h fun x21 hx21 h=>?_
        refine qag hτ false [] rfl rfl rfl (qai func58 rfl rfl) rfl rfl (by simp) ⟨trivial,trivial,trivial,trivial⟩ (by trivial) (qio n rounds_ (0:Int) (50:Int) hx21) ?_
        rintro r0 o0 n0 ⟨rfl,rfl,rfl⟩ -
        refine qa0 hτ rfl rfl rfl ?_
        refine qa0 hτ rfl rfl rfl ?_
        refine qa6 ?_
        refine qab (qa5 [0,1] (l:=[(1,.d (.sl false (voltages_.map qa1))),(2,.d (.int .i64 rounds_)),(3,.ptr 0 0),(6,.ptr 1 0),(16,.d (.bool (!x21)))]) (objs:=[.box [.d (.cx .f32 f_.Source.A.re f_.Source.A.im),.d (.cx .f32 f_.Source.B.re f_.Source.B.im),.d (.cx .f32 f_.Source.C.re f_.Source.C.im),.d (.sl false (f_.qa9.map qaf))],.box [.d (.nils),.d (.nils),.d (.int .i64 (0:Int)),.d (.bool false)]]) rfl (by simp) rfl (by trivial) ⟨rfl,trivial,rfl,trivial,rfl,trivial,rfl,trivial,rfl,trivial,trivial⟩) ?_
        exact hk18 (!x21) h
def qiw (n:Nat) (f_:qam) (flow_:qco):Option Bool :=
  if (flow_.qa3.length:Int) = (f_.qa9.length:Int) then
    if (flow_.qae.length:Int) = (f_.qa9.length:Int) then
      (qeq n flow_.Rounds (0:Int) (50:Int)).bind fun x8 =>
      some x8
    else
      some false
  else
    some false
theorem impl_flowFor_ok (n:Nat) (f_:qam) (flow_:qco) {r:Bool} (h:qiw n f_ flow_ = some r):qb0 prog false 118 [.ptr 0 0,.ptr 1 0] [.box [.d (.cx .f32 f_.Source.A.re f_.Source.A.im),.d (.cx .f32 f_.Source.B.re f_.Source.B.im),.d (.cx .f32 f_.Source.C.re f_.Source.C.im),.d (.sl false (f_.qa9.map qaf))],.box [.d (.sl false (flow_.qa3.map qa1)),.d (.sl false (flow_.qae.map qa1)),.d (.int .i64 flow_.Rounds),.d (.bool flow_.qaw)]] (fun v o new=>v = .d (.bool r)∧o = [.box [.d (.cx .f32 f_.Source.A.re f_.Source.A.im),.d (.cx .f32 f_.Source.B.re f_.Source.B.im),.d (.cx .f32 f_.Source.C.re f_.Source.C.im),.d (.sl false (f_.qa9.map qaf))],.box [.d (.sl false (flow_.qa3.map qa1)),.d (.sl false (flow_.qae.map qa1)),.d (.int .i64 flow_.Rounds),.d (.bool flow_.qaw)]]∧new = []):=by
  refine qal hτ func118 rfl (by simp) (by simp) ?_
  unfold qiw at h
  refine qaa ?_
  refine qa2 ?_
  refine qa0 hτ rfl rfl rfl ?_
  refine qa6 ?_
  refine qaa ?_
  refine qa2 ?_
  refine qa0 hτ rfl rfl rfl ?_
  refine qa0 hτ rfl rfl rfl ?_
  refine qa0 hτ rfl rfl rfl ?_
  refine qa0 hτ rfl rfl rfl ?_
  refine qa0 hτ (v:=.d (.int .i64 (f_.qa9.length:Int))) rfl rfl (Eq.trans rfl (qfx (f:=qaf) f_.qa9)) ?_
  refine qa0 hτ rfl rfl rfl ?_
  refine qa6 ?_
  refine qaa ?_
  refine qab (qa5 [0,1] (l:=[(1,.ptr 1 0),(5,.d (.int .i64 (f_.qa9.length:Int)))]) (objs:=[.box [.d (.cx .f32 f_.Source.A.re f_.Source.A.im),.d (.cx .f32 f_.Source.B.re f_.Source.B.im),.d (.cx .f32 f_.Source.C.re f_.Source.C.im),.d (.sl false (f_.qa9.map qaf))],.box [.d (.sl false (flow_.qa3.map qa1)),.d (.sl false (flow_.qae.map qa1)),.d (.int .i64 flow_.Rounds),.d (.bool flow_.qaw)]]) rfl (by simp) rfl (by trivial) ⟨rfl,trivial,rfl,trivial,trivial⟩) ?_
  refine qa2 ?_
  refine qa0 hτ rfl rfl rfl ?_
  refine qa0 hτ rfl rfl rfl ?_
  refine qa0 hτ rfl rfl rfl ?_
  refine qa0 hτ rfl rfl rfl ?_
  refine qa0 hτ (v:=.d (.int .i64 (flow_.qa3.length:Int))) rfl rfl (Eq.trans rfl (qfx (f:=qa1) flow_.qa3)) ?_
  refine qa0 hτ rfl rfl rfl ?_
  refine qa0 hτ (v:=.d (.bool (decide ((flow_.qa3.length:Int) = (f_.qa9.length:Int))))) rfl rfl (qhu _ _) ?_
  refine qa0 hτ rfl rfl rfl ?_
  refine qb4 18 rfl (fun hb6=>?_) (fun hb6=>?_)
  · have h:=if_t h hb6
    refine qa0 hτ rfl rfl rfl ?_
    refine qa0 hτ rfl rfl rfl ?_
    refine qa0 hτ rfl rfl rfl ?_
    refine qa0 hτ rfl rfl rfl ?_
    refine qap (qa5 [0,1] (l:=[(1,.ptr 1 0),(5,.d (.int .i64 (f_.qa9.length:Int))),(18,.d (.bool true)),(22,.d (.sl false (flow_.qae.map qa1)))]) (objs:=[.box [.d (.cx .f32 f_.Source.A.re f_.Source.A.im),.d (.cx .f32 f_.Source.B.re f_.Source.B.im),.d (.cx .f32 f_.Source.C.re f_.Source.C.im),.d (.sl false (f_.qa9.map qaf))],.box [.d (.sl false (flow_.qa3.map qa1)),.d (.sl false (flow_.qae.map qa1)),.d (.int .i64 flow_.Rounds),.d (.bool flow_.qaw)]]) rfl (by simp) rfl (by trivial) ⟨rfl,trivial,rfl,trivial,rfl,trivial,rfl,trivial,trivial⟩) ?_
    refine qa0 hτ (v:=.d (.int .i64 (flow_.qae.length:Int))) rfl rfl (Eq.trans rfl (qfx (f:=qa1) flow_.qae)) ?_
    refine qa0 hτ rfl rfl rfl ?_
    refine qa0 hτ (v:=.d (.bool (decide ((flow_.qae.length:Int) = (f_.qa9.length:Int))))) rfl rfl (qhu _ _) ?_
    refine qa0 hτ rfl rfl rfl ?_
    refine qa0 hτ rfl rfl rfl ?_
    refine qb4 27 rfl (fun hb7=>?_) (fun hb7=>?_)
    · have h:=if_t h hb7
      refine qa0 hτ rfl rfl rfl ?_
      refine qa0 hτ rfl rfl rfl ?_
      refine qa0 hτ rfl rfl rfl ?_
      refine qa0 hτ rfl rfl rfl ?_
      refine qac h fun x8 hx8 h=>?_
      refine qag hτ false [] rfl rfl rfl (qai func58 rfl rfl) rfl rfl (by simp) ⟨trivial,trivial,trivial,trivial⟩ (by trivial) (qio n flow_.Rounds (0:Int) (50:Int) hx8) ?_
      rintro r0 o0 n0 ⟨rfl,rfl,rfl⟩ -
      refine qa0 hτ rfl rfl rfl ?_
      refine qa0 hτ rfl rfl rfl ?_
      refine qa6 ?_
      refine qab (qa5 [0,1] (l:=[(4,.d (.bool x8))]) (objs:=[.box [.d (.cx .f32 f_.Source.A.re f_.Source.A.im),.d (.cx .f32 f_.Source.B.re f_.Source.B.im),.d (.cx .f32 f_.Source.C.re f_.Source.C.im),.d (.sl false (f_.qa9.map qaf))],.box [.d (.sl false (flow_.qa3.map qa1)),.d (.sl false (flow_.qae.map qa1)),.d (.int .i64 flow_.Rounds),.d (.bool flow_.qaw)]]) rfl (by simp) rfl (by trivial) ⟨rfl,trivial,trivial⟩) ?_
      refine qas ?_
      have hr:=Option.some.inj h
      subst hr
      exact qah (.inr rfl) [] (objs':=[.box [.d (.cx .f32 f_.Source.A.re f_.Source.A.im),.d (.cx .f32 f_.Source.B.re f_.Source.B.im),.d (.cx .f32 f_.Source.C.re f_.Source.C.im),.d (.sl false (f_.qa9.map qaf))],.box [.d (.sl false (flow_.qa3.map qa1)),.d (.sl false (flow_.qae.map qa1)),.d (.int .i64 flow_.Rounds),.d (.bool flow_.qaw)]]) (new:=[]) rfl (by simp) (by simp) rfl (by trivial) rfl rfl (by trivial) (fun h=>nomatch h) ⟨rfl,rfl,rfl⟩
    · have h:=if_f h hb7
      refine qa4 rfl rfl ?_
      refine qa4 rfl rfl ?_
      refine qa4 rfl rfl ?_
      refine qa4 rfl rfl ?_
      refine qa4 rfl rfl ?_
      refine qa0 hτ rfl rfl rfl ?_
      refine qa0 hτ rfl rfl rfl ?_
      refine qa6 ?_
      refine qab (qa5 [0,1] (l:=[(4,.d (.bool false))]) (objs:=[.box [.d (.cx .f32 f_.Source.A.re f_.Source.A.im),.d (.cx .f32 f_.Source.B.re f_.Source.B.im),.d (.cx .f32 f_.Source.C.re f_.Source.C.im),.d (.sl false (f_.qa9.map qaf))],.box [.d (.sl false (flow_.qa3.map qa1)),.d (.sl false (flow_.qae.map qa1)),.d (.int .i64 flow_.Rounds),.d (.bool flow_.qaw)]]) rfl (by simp) rfl (by trivial) ⟨rfl,trivial,trivial⟩) ?_
      refine qas ?_
      have hr:=Option.some.inj h
      subst hr
      exact qah (.inr rfl) [] (objs':=[.box [.d (.cx .f32 f_.Source.A.re f_.Source.A.im),.d (.cx .f32 f_.Source.B.re f_.Source.B.im),.d (.cx .f32 f_.Source.C.re f_.Source.C.im),.d (.sl false (f_.qa9.map qaf))],.box [.d (.sl false (flow_.qa3.map qa1)),.d (.sl false (flow_.qae.map qa1)),.d (.int .i64 flow_.Rounds),.d (.bool flow_.qaw)]]) (new:=[]) rfl (by simp) (by simp) rfl (by trivial) rfl rfl (by trivial) (fun h=>nomatch h) ⟨rfl,rfl,rfl⟩
  · have h:=if_f h hb6
    refine qa4 rfl rfl ?_
    refine qa4 rfl rfl ?_
    refine qa4 rfl rfl ?_
    refine qa4 rfl rfl ?_
    refine qap (qa5 [0,1] (l:=[(1,.ptr 1 0),(5,.d (.int .i64 (f_.qa9.length:Int))),(18,.d (.bool false)),(22,.und)]) (objs:=[.box [.d (.cx .f32 f_.Source.A.re f_.Source.A.im),.d (.cx .f32 f_.Source.B.re f_.Source.B.im),.d (.cx .f32 f_.Source.C.re f_.Source.C.im),.d (.sl false (f_.qa9.map qaf))],.box [.d (.sl false (flow_.qa3.map qa1)),.d (.sl false (flow_.qae.map qa1)),.d (.int .i64 flow_.Rounds),.d (.bool flow_.qaw)]]) rfl (by simp) rfl (by trivial) ⟨rfl,trivial,rfl,trivial,rfl,trivial,rfl,trivial,trivial⟩) ?_
    refine qa4 rfl rfl ?_
    refine qa4 rfl rfl ?_
    refine qa4 rfl rfl ?_
    refine qa0 hτ rfl rfl rfl ?_
    refine qa0 hτ rfl rfl rfl ?_
    refine qa4 rfl rfl ?_
    refine qa4 rfl rfl ?_
    refine qa4 rfl rfl ?_
    refine qa4 rfl rfl ?_
    refine qa4 rfl rfl ?_
    refine qa0 hτ rfl rfl rfl ?_
    refine qa0 hτ rfl rfl rfl ?_
    refine qa6 ?_
    refine qab (qa5 [0,1] (l:=[(4,.d (.bool false))]) (objs:=[.box [.d (.cx .f32 f_.Source.A.re f_.Source.A.im),.d (.cx .f32 f_.Source.B.re f_.Source.B.im),.d (.cx .f32 f_.Source.C.re f_.Source.C.im),.d (.sl false (f_.qa9.map qaf))],.box [.d (.sl false (flow_.qa3.map qa1)),.d (.sl false (flow_.qae.map qa1)),.d (.int .i64 flow_.Rounds),.d (.bool flow_.qaw)]]) rfl (by simp) rfl (by trivial) ⟨rfl,trivial,trivial⟩) ?_
    refine qas ?_
    have hr:=Option.some.inj h
    subst hr
    exact qah (.inr rfl) [] (objs':=[.box [.d (.cx .f32 f_.Source.A.re f_.Source.A.im),.d (.cx .f32 f_.Source.B.re f_.Source.B.im),.d (.cx .f32 f_.Source.C.re f_.Source.C.im),.d (.sl false (f_.qa9.map qaf))],.box [.d (.sl false (flow_.qa3.map qa1)),.d (.sl false (flow_.qae.map qa1)),.d (.int .i64 flow_.Rounds),.d (.bool flow_.qaw)]]) (new:=[]) rfl (by simp) (by simp) rfl (by trivial) rfl rfl (by trivial) (fun h=>nomatch h) ⟨rfl,rfl,rfl⟩
def qfo (n:Nat) (f_:qam) (flow_:qco):Option Bool :=
  (qcs n f_).bind fun x5 =>
  if x5 = true then
    (qiw n f_ flow_).bind fun x7 =>
    some x7
  else
    some false
theorem impl_IsFlow_ok_fr0 (fr:Bool) (n:Nat) (f_:qam) (flow_:qco) {r:Bool} (h:qfo n f_ flow_ = some r):qb0 prog fr 69 [.agg [.d (.cx .f32 f_.Source.A.re f_.Source.A.im),.d (.cx .f32 f_.Source.B.re f_.Source.B.im),.d (.cx .f32 f_.Source.C.re f_.Source.C.im),.d (.sl false (f_.qa9.map qaf))],.agg [.d (.sl false (flow_.qa3.map qa1)),.d (.sl false (flow_.qae.map qa1)),.d (.int .i64 flow_.Rounds),.d (.bool flow_.qaw)]] [] (fun v o new=>v = .d (.bool r)∧o = []∧new = []):=by
  refine qal hτ func69 rfl (by simp) (by simp) ?_
  unfold qfo at h
  refine qaa ?_
  refine qa2 ?_
  refine qak hτ rfl rfl rfl ?_
  refine qak hτ rfl rfl rfl ?_
  refine qa0 hτ rfl rfl rfl ?_
  refine qa6 ?_
  refine qaa ?_
  refine qa2 ?_
  refine qa0 hτ rfl rfl rfl ?_
  refine qac h fun x5 hx5 h=>?_
  refine qag hτ false [] rfl rfl rfl (qai func13 rfl rfl) rfl rfl (by simp) ⟨(by trivial),trivial⟩ (by trivial) (qf0 n f_ hx5) ?_
  rintro r0 o0 n0 ⟨rfl,rfl,rfl⟩ -
  refine qa0 hτ rfl rfl rfl ?_
  refine qb4 7 rfl (fun hb6=>?_) (fun hb6=>?_)
  · have h:=qcq h hb6
    refine qac h fun x7 hx7 h=>?_
    refine qag hτ false [0,1] rfl rfl rfl (qai func118 rfl rfl) rfl rfl (by simp) ⟨trivial,trivial,trivial⟩ (by trivial) (impl_flowFor_ok n f_ flow_ hx7) ?_
    rintro r0 o0 n0 ⟨rfl,rfl,rfl⟩ -
    refine qa0 hτ rfl rfl rfl ?_
    refine qa0 hτ rfl rfl rfl ?_
    refine qa6 ?_
    refine qab (qa5 [] (l:=[(4,.d (.bool x7))]) (objs:=[]) rfl (by simp) rfl (by trivial) ⟨rfl,trivial,trivial⟩) ?_
    refine qas ?_
    have hr:=Option.some.inj h
    subst hr
    exact qah (.inr rfl) [] (objs':=[]) (new:=[]) rfl (by simp) (by simp) rfl (by trivial) rfl rfl (by trivial) (fun _=>⟨by simp [V.flat,V.qbh,V.qb7,D.flat],qao⟩) ⟨rfl,rfl,rfl⟩
  · have h:=qcp h hb6
    refine qa4 rfl rfl ?_
    refine qa0 hτ rfl rfl rfl ?_
    refine qa0 hτ rfl rfl rfl ?_
    refine qa6 ?_
    refine qab (qa5 [] (l:=[(4,.d (.bool false))]) (objs:=[]) rfl (by simp) rfl (by trivial) ⟨rfl,trivial,trivial⟩) ?_
    refine qas ?_
    have hr:=Option.some.inj h
    subst hr
    exact qah (.inr rfl) [] (objs':=[]) (new:=[]) rfl (by simp) (by simp) rfl (by trivial) rfl rfl (by trivial) (fun _=>⟨by simp [V.flat,V.qbh,V.qb7,D.flat],qao⟩) ⟨rfl,rfl,rfl⟩
theorem qkd (n:Nat) (f_:qam) (flow_:qco) {r:Bool} (h:qfo n f_ flow_ = some r):qb0 prog false 69 [.agg [.d (.cx .f32 f_.Source.A.re f_.Source.A.im),.d (.cx .f32 f_.Source.B.re f_.Source.B.im),.d (.cx .f32 f_.Source.C.re f_.Source.C.im),.d (.sl false (f_.qa9.map qaf))],.agg [.d (.sl false (flow_.qa3.map qa1)),.d (.sl false (flow_.qae.map qa1)),.d (.int .i64 flow_.Rounds),.d (.bool flow_.qaw)]] [] (fun v o new=>v = .d (.bool r)∧o = []∧new = []):=impl_IsFlow_ok_fr0 false n f_ flow_ h
def qgh (n:Nat) (x_:Nat):Option Nat :=
  some (qk2 x_)
theorem math_Sqrt_ok_fr0 (fr:Bool) (n:Nat) (x_:Nat) {r:Nat} (h:qgh n x_ = some r):qb0 prog fr 123 [.d (.fl .f64 x_)] [] (fun v o new=>v = .d (.fl .f64 r)∧o = []∧new = []):=by
  refine qal hτ func123 rfl (by simp) (by simp) ?_
  unfold qgh at h
  refine qaa ?_
  refine qa2 ?_
  refine qa0 hτ rfl rfl rfl ?_
  refine qa6 ?_
  refine qaa ?_
  refine qa2 ?_
  refine qa0 hτ rfl rfl rfl ?_
  refine qsb hτ rfl rfl rfl ext156 ?_
  refine qa0 hτ rfl rfl rfl ?_
  refine qa6 ?_
  refine qab (qa5 [] (l:=[(2,.d (.fl .f64 (qk2 x_)))]) (objs:=[]) rfl (by simp) rfl (by trivial) ⟨rfl,trivial,trivial⟩) ?_
  refine qas ?_
  have hr:=Option.some.inj h
  subst hr
  exact qah (.inr rfl) [] (objs':=[]) (new:=[]) rfl (by simp) (by simp) rfl (by trivial) rfl rfl (by trivial) (fun _=>⟨by simp [V.flat,V.qbh,V.qb7,D.flat],qao⟩) ⟨rfl,rfl,rfl⟩
theorem qnj (n:Nat) (x_:Nat) {r:Nat} (h:qgh n x_ = some r):qb0 prog false 123 [.d (.fl .f64 x_)] [] (fun v o new=>v = .d (.fl .f64 r)∧o = []∧new = []):=math_Sqrt_ok_fr0 false n x_ h
def qau (n:Nat) (x_:Cx):Option Nat :=
  (qe8 n x_).bind fun x4 =>
  (qgh n x4).bind fun x5 =>
  (qgo .f64 .f32 x5).bind fun x6 =>
  some x6
theorem impl_LongOf_ok_fr0 (fr:Bool) (n:Nat) (x_:Cx) {r:Nat} (h:qau n x_ = some r):qb0 prog fr 79 [.d (.cx .f32 x_.re x_.im)] [] (fun v o new=>v = .d (.fl .f32 r)∧o = []∧new = []):=by
  refine qal hτ func79 rfl (by simp) (by simp) ?_
  unfold qau at h
  refine qaa ?_
  refine qa2 ?_
  refine qa0 hτ rfl rfl rfl ?_
  refine qa6 ?_
  refine qaa ?_
  refine qa2 ?_
  refine qa0 hτ rfl rfl rfl ?_
  refine qac h fun x4 hx4 h=>?_
  refine qag hτ false [] rfl rfl rfl (qai func117 rfl rfl) rfl rfl (by simp) ⟨trivial,trivial⟩ (by trivial) (qmf n x_ hx4) ?_
  rintro r0 o0 n0 ⟨rfl,rfl,rfl⟩ -
  refine qac h fun x5 hx5 h=>?_
  refine qag hτ false [] rfl rfl rfl (qai func123 rfl rfl) rfl rfl (by simp) ⟨trivial,trivial⟩ (by trivial) (qnj n x4 hx5) ?_
  rintro r0 o0 n0 ⟨rfl,rfl,rfl⟩ -
  refine qac h fun x6 hx6 h=>?_
  refine qa0 hτ (v:=.d (.fl .f32 x6)) rfl rfl (qge hx6) ?_
  refine qa0 hτ rfl rfl rfl ?_
  refine qa6 ?_
  refine qab (qa5 [] (l:=[(2,.d (.fl .f32 x6))]) (objs:=[]) rfl (by simp) rfl (by trivial) ⟨rfl,trivial,trivial⟩) ?_
  refine qas ?_
  have hr:=Option.some.inj h
  subst hr
  exact qah (.inr rfl) [] (objs':=[]) (new:=[]) rfl (by simp) (by simp) rfl (by trivial) rfl rfl (by trivial) (fun _=>⟨by simp [V.flat,V.qbh,V.qb7,D.flat],qao⟩) ⟨rfl,rfl,rfl⟩
theorem qgv (n:Nat) (x_:Cx) {r:Nat} (h:qau n x_ = some r):qb0 prog false 79 [.d (.cx .f32 x_.re x_.im)] [] (fun v o new=>v = .d (.fl .f32 r)∧o = []∧new = []):=impl_LongOf_ok_fr0 false n x_ h
def qdc (n:Nat) (p_:qa7):Option (List Nat) :=
  (qau n p_.A).bind fun x4 =>
  (qau n p_.B).bind fun x5 =>
  (qau n p_.C).bind fun x6 =>
  some [x4,x5,x6]
theorem impl_Phases_longs_ok_fr0 (fr:Bool) (n:Nat) (p_:qa7) {r:List Nat} (h:qdc n p_ = some r):qb0 prog fr 81 [.agg [.d (.cx .f32 p_.A.re p_.A.im),.d (.cx .f32 p_.B.re p_.B.im),.d (.cx .f32 p_.C.re p_.C.im)]] [] (fun v o new=>v = .row 0 r.length 0 r.length∧o = []∧new = [.row 1 (r.map qbq)]):=by
  refine qal hτ func81 rfl (by simp) (by simp) ?_
  unfold qdc at h
  refine qaa ?_
  refine qa2 ?_
  refine qak hτ rfl rfl rfl ?_
  refine qa0 hτ rfl rfl rfl ?_
  refine qa6 ?_
  refine qaa ?_
  refine qcv ?_
  refine qad hτ [0] 0 rfl rfl rfl rfl rfl ?_
  refine qad hτ [0] 1 rfl rfl rfl rfl rfl ?_
  refine qad hτ [0] 3 rfl rfl rfl rfl rfl ?_
  refine qad hτ [0] 4 rfl rfl rfl rfl rfl ?_
  refine qad hτ [0] 6 rfl rfl rfl rfl rfl ?_
  refine qad hτ [0] 7 rfl rfl rfl rfl rfl ?_
  refine qac h fun x4 hx4 h=>?_
  refine qbd hτ false [] [0] 2 rfl rfl rfl rfl (qai func79 rfl rfl) rfl rfl (by simp) ⟨trivial,trivial⟩ (by trivial) (qgv n p_.A hx4) ⟨rfl,trivial⟩ ?_
  refine qac h fun x5 hx5 h=>?_
  refine qbd hτ false [] [0] 5 rfl rfl rfl rfl (qai func79 rfl rfl) rfl rfl (by simp) ⟨trivial,trivial⟩ (by trivial) (qgv n p_.B hx5) ⟨rfl,trivial⟩ ?_
  refine qac h fun x6 hx6 h=>?_
  refine qbd hτ false [] [0] 8 rfl rfl rfl rfl (qai func79 rfl rfl) rfl rfl (by simp) ⟨trivial,trivial⟩ (by trivial) (qgv n p_.C hx6) ⟨rfl,trivial⟩ ?_
  refine qcd hτ [0] 9 rfl rfl rfl rfl ⟨rfl,trivial⟩ ?_
  refine qad hτ [] 10 rfl rfl rfl rfl rfl ?_
  refine qd4 mixed (by kernel_rfl) ?_
  refine qab (qa5 [1] (l:=[(2,.row 0 ([x4,x5,x6].length) 0 ([x4,x5,x6].length))]) (objs:=[.row 1 ([x4,x5,x6].map qbq)]) rfl (by simp) rfl (by trivial) ⟨rfl,trivial,trivial⟩) ?_
  refine qas ?_
  have hr:=Option.some.inj h
  subst hr
  exact qah (.inr rfl) [0] (objs':=[]) (new:=[.row 1 ([x4,x5,x6].map qbq)]) rfl (by simp) (by simp) rfl (by trivial) rfl rfl (by trivial) (fun _=>⟨by simp [V.flat,V.qbh,V.qb7,D.flat],(qcr (qfl qlc _) qao)⟩) ⟨rfl,rfl,rfl⟩
theorem qjd (n:Nat) (p_:qa7) {r:List Nat} (h:qdc n p_ = some r):qb0 prog false 81 [.agg [.d (.cx .f32 p_.A.re p_.A.im),.d (.cx .f32 p_.B.re p_.B.im),.d (.cx .f32 p_.C.re p_.C.im)]] [] (fun v o new=>v = .row 0 r.length 0 r.length∧o = []∧new = [.row 1 (r.map qbq)]):=impl_Phases_longs_ok_fr0 false n p_ h
def qe7 (n:Nat) (x_:Nat):Option Bool :=
  some (fcmp .neq .f32 x_ x_)
theorem impl_isNaN_ok_fr0 (fr:Bool) (n:Nat) (x_:Nat) {r:Bool} (h:qe7 n x_ = some r):qb0 prog fr 85 [.d (.fl .f32 x_)] [] (fun v o new=>v = .d (.bool r)∧o = []∧new = []):=by
  refine qal hτ func85 rfl (by simp) (by simp) ?_
  unfold qe7 at h
  refine qaa ?_
  refine qa2 ?_
  refine qa0 hτ rfl rfl rfl ?_
  refine qa6 ?_
  refine qaa ?_
  refine qa2 ?_
  refine qa0 hτ rfl rfl rfl ?_
  refine qa0 hτ rfl rfl rfl ?_
  refine qa0 hτ rfl rfl rfl ?_
  refine qa0 hτ rfl rfl rfl ?_
  refine qa6 ?_
  refine qab (qa5 [] (l:=[(2,.d (.bool (fcmp .neq .f32 x_ x_)))]) (objs:=[]) rfl (by simp) rfl (by trivial) ⟨rfl,trivial,trivial⟩) ?_
  refine qas ?_
  have hr:=Option.some.inj h
  subst hr
  exact qah (.inr rfl) [] (objs':=[]) (new:=[]) rfl (by simp) (by simp) rfl (by trivial) rfl rfl (by trivial) (fun _=>⟨by simp [V.flat,V.qbh,V.qb7,D.flat],qao⟩) ⟨rfl,rfl,rfl⟩
theorem qjg (n:Nat) (x_:Nat) {r:Bool} (h:qe7 n x_ = some r):qb0 prog false 85 [.d (.fl .f32 x_)] [] (fun v o new=>v = .d (.bool r)∧o = []∧new = []):=impl_isNaN_ok_fr0 false n x_ h
def qen (n:Nat) (v109:Int) (v110:Nat):Option (Int × Nat × Bool) :=
  if v109 < (0:Int) then
    some ((0:Int),(0:Nat),false)
  else
    some (v109,v110,true)
def qhy (n:Nat) (k168:Int→Nat→Int→Option (Int × Nat × Bool)) (v139:Int) (v194:Int) (v195:Nat):Option (Int × Nat × Bool) :=
  k168 v194 v195 (w64 (v139 + (1:Int)))
def qgq (n:Nat) (k222:Int→Nat→Int→Option (Int × Nat × Bool)) (v209:Int) (v232:Int) (v233:Nat):Option (Int × Nat × Bool) :=
  k222 v232 v233 (w64 (v209 + (1:Int)))
def qch (n:Nat) (v139:Int) (k222:Int→Nat→Int→Option (Int × Nat × Bool)) (v207:Int) (v208:Nat) (v209:Int) (x235:Nat) (v241:Bool):Option (Int × Nat × Bool) :=
  if v241 = true then
    qgq n k222 v209 v139 x235
  else
    qgq n k222 v209 v207 v208
def qbj (n:Nat) (k168:Int→Nat→Int→Option (Int × Nat × Bool)) (v139:Int) (x198:List Nat):Nat→Int→Nat→Int→Option (Int × Nat × Bool)
  | 0,_,_,_=>none
  | m221 + 1,v207,v208,v209 =>
    if v209 < (x198.length:Int) then
      (getI x198 v209).bind fun x235 =>
      (qe7 n x235).bind fun x244 =>
      if x244 = true then
        qch n v139 (qbj n k168 v139 x198 m221) v207 v208 v209 x235 false
      else
        if v207 < (0:Int) then
          qch n v139 (qbj n k168 v139 x198 m221) v207 v208 v209 x235 true
        else
          qch n v139 (qbj n k168 v139 x198 m221) v207 v208 v209 x235 (fcmp .lss .f32 x235 v208)
    else
      qhy n k168 v139 v207 v208
def qbi (n:Nat) (voltages_:List qa7):Nat→Int→Nat→Int→Option (Int × Nat × Bool)
  | 0,_,_,_=>none
  | m167 + 1,v137,v138,v139 =>
    if v139 < (voltages_.length:Int) then
      (getI voltages_ v139).bind fun x197 =>
      (qdc n x197).bind fun x198 =>
      qbj n (qbi n voltages_ m167) v139 x198 n v137 v138 (0:Int)
    else
      qen n v137 v138
def qhd (n:Nat) (voltages_:List qa7):Option (Int × Nat × Bool) :=
  qbi n voltages_ n (-1:Int) (0:Nat) (0:Int)
theorem impl_lowest_ok_fr0 (fr:Bool) (n:Nat) (voltages_:List qa7) {r:Int × Nat × Bool} (h:qhd n voltages_ = some r):qb0 prog fr 59 [.d (.sl false (voltages_.map qa1))] [] (fun v o new=>v = .tup [.d (.int .i64 r.1),.d (.fl .f32 r.2.1),.d (.bool r.2.2)]∧o = []∧new = []):=by
  refine qal hτ func59 rfl (by simp) (by simp) ?_
  unfold qhd at h
  refine qaa ?_
  refine qa2 ?_
  refine qa0 hτ rfl rfl rfl ?_
  refine qa0 hτ rfl rfl rfl ?_
  refine qa0 hτ rfl rfl rfl ?_
  refine qa6 ?_
  refine qaa ?_
  refine qa2 ?_
  refine qa0 hτ rfl rfl rfl ?_
  refine qa0 hτ rfl rfl rfl ?_
  refine qa6 ?_
  refine qc7 (ι:=Int × Nat) (fun (v109,v110)=>St.of [(5,.d (.int .i64 v109)),(6,.d (.fl .f32 v110))] [] f59.ntmps 0) (fun (v109,v110)=>qen n v109 v110 = some r) ?_ (fun hk112=>?_)
  · rintro ⟨v109,v110⟩ h
    replace h:qen n v109 v110 = some r:=h
    unfold qen at h
    refine qaa ?_
    refine qaa ?_
    refine qa2 ?_
    refine qa0 hτ rfl rfl rfl ?_
    refine qa0 hτ rfl rfl rfl ?_
    refine qa6 ?_
    refine qaz rfl (fun hc111=>?_) (fun hc111=>?_)
    · have h:=if_t h hc111
      refine qaa ?_
      refine qa2 ?_
      refine qa0 hτ rfl rfl rfl ?_
      refine qa0 hτ rfl rfl rfl ?_
      refine qa0 hτ rfl rfl rfl ?_
      refine qa6 ?_
      refine qab (qa5 [] (l:=[(2,.d (.int .i64 (0:Int))),(3,.d (.fl .f32 (0:Nat))),(4,.d (.bool false))]) (objs:=[]) rfl (by simp) rfl (by trivial) ⟨rfl,trivial,rfl,trivial,rfl,trivial,trivial⟩) ?_
      refine qas ?_
      have hr:=Option.some.inj h
      subst hr
      exact qah (.inr rfl) [] (objs':=[]) (new:=[]) rfl (by simp) (by simp) rfl (by trivial) rfl rfl (by trivial) (fun _=>⟨by simp [V.flat,V.qbh,V.qb7,D.flat],qao⟩) ⟨rfl,rfl,rfl⟩
    · have h:=if_f h hc111
      refine qb3 ?_
      refine qaa ?_
      refine qa2 ?_
      refine qa0 hτ rfl rfl rfl ?_
      refine qa0 hτ rfl rfl rfl ?_
      refine qa0 hτ rfl rfl rfl ?_
      refine qa0 hτ rfl rfl rfl ?_
      refine qa0 hτ rfl rfl rfl ?_
      refine qa6 ?_
      refine qab (qa5 [] (l:=[(2,.d (.int .i64 v109)),(3,.d (.fl .f32 v110)),(4,.d (.bool true))]) (objs:=[]) rfl (by simp) rfl (by trivial) ⟨rfl,trivial,rfl,trivial,rfl,trivial,trivial⟩) ?_
      refine qas ?_
      have hr:=Option.some.inj h
      subst hr
      exact qah (.inr rfl) [] (objs':=[]) (new:=[]) rfl (by simp) (by simp) rfl (by trivial) rfl rfl (by trivial) (fun _=>⟨by simp [V.flat,V.qbh,V.qb7,D.flat],qao⟩) ⟨rfl,rfl,rfl⟩
  · refine qaa ?_
    refine qaa ?_
    refine qa2 ?_
    refine qa0 hτ rfl rfl rfl ?_
    refine qa0 hτ (v:=.d (.int .i64 (voltages_.length:Int))) rfl rfl (Eq.trans rfl (qfx (f:=qa1) voltages_)) ?_
    refine qa0 hτ rfl rfl rfl ?_
    refine qa6 ?_
    refine qba ?_
    refine qfd (ι:=Nat × Int × Nat × Int) (fun (m167,v137,v138,v139)=>St.of [(5,.d (.int .i64 v137)),(6,.d (.fl .f32 v138)),(11,.d (.sl false (voltages_.map qa1))),(12,.d (.int .i64 (voltages_.length:Int))),(13,.d (.int .i64 v139))] [] f59.ntmps 0) (fun (m167,v137,v138,v139)=>qbi n voltages_ m167 v137 v138 v139 = some r) (fun x=>x.1) (n,(-1:Int),(0:Nat),(0:Int)) h (qa5 [] (l:=[(5,.d (.int .i64 (-1:Int))),(6,.d (.fl .f32 (0:Nat))),(11,.d (.sl false (voltages_.map qa1))),(12,.d (.int .i64 (voltages_.length:Int))),(13,.d (.int .i64 (0:Int)))]) (objs:=[]) rfl (by simp) rfl (by trivial) ⟨rfl,trivial,rfl,trivial,rfl,trivial,rfl,trivial,rfl,trivial,trivial⟩) ?_
    rintro ⟨m167,v137,v138,v139⟩ h
    replace h:qbi n voltages_ m167 v137 v138 v139 = some r:=h
    rcases m167 with _ | m167
    · rw [qbi] at h;cases h
    rw [qbi] at h
    refine qaa ?_
    refine qa2 ?_
    refine qa0 hτ rfl rfl rfl ?_
    refine qa6 ?_
    refine qaa ?_
    refine qaz rfl (fun hc169=>?_) (fun hc169=>?_)
    · have h:=if_t h hc169
      refine qb3 ?_
      refine qc7 (ι:=Int × Nat) (fun (v194,v195)=>St.of [(5,.d (.int .i64 v194)),(6,.d (.fl .f32 v195)),(11,.d (.sl false (voltages_.map qa1))),(12,.d (.int .i64 (voltages_.length:Int))),(13,.d (.int .i64 v139))] [] f59.ntmps 0) (fun (v194,v195)=>qhy n (qbi n voltages_ m167) v139 v194 v195 = some r) ?_ (fun hk196=>?_)
      · rintro ⟨v194,v195⟩ h
        replace h:qhy n (qbi n voltages_ m167) v139 v194 v195 = some r:=h
        unfold qhy at h
        refine qa2 ?_
        refine qa0 hτ rfl rfl rfl ?_
        refine qa0 hτ rfl rfl rfl ?_
        refine qa6 ?_
        exact ⟨(m167,v194,v195,(w64 (v139 + (1:Int)))),h,Nat.lt_succ_self m167,(qa5 [] (l:=[(5,.d (.int .i64 v194)),(6,.d (.fl .f32 v195)),(11,.d (.sl false (voltages_.map qa1))),(12,.d (.int .i64 (voltages_.length:Int))),(13,.d (.int .i64 (w64 (v139 + (1:Int)))))]) (objs:=[]) rfl (by simp) rfl (by trivial) ⟨rfl,trivial,rfl,trivial,rfl,trivial,rfl,trivial,rfl,trivial,trivial⟩)⟩
      · refine qaa ?_
        refine qba ?_
        refine qaa ?_
        refine qa2 ?_
        refine qa0 hτ rfl rfl rfl ?_
        refine qac h fun x197 hx197 h=>?_
        refine qfb hτ rfl rfl rfl (qd3 hx197).1 (qeu hx197) rfl ?_
        refine qa0 hτ rfl rfl rfl ?_
        refine qak hτ rfl rfl rfl ?_
        refine qa0 hτ rfl rfl rfl ?_
        refine qak hτ rfl rfl rfl ?_
        refine qa6 ?_
        refine qaa ?_
        refine qab (qa5 [0] (l:=[(5,.d (.int .i64 v137)),(6,.d (.fl .f32 v138)),(7,.d (.int .i64 v139)),(8,.ptr 0 0),(11,.d (.sl false (voltages_.map qa1))),(12,.d (.int .i64 (voltages_.length:Int))),(13,.d (.int .i64 v139))]) (objs:=[.box [.d (.cx .f32 x197.A.re x197.A.im),.d (.cx .f32 x197.B.re x197.B.im),.d (.cx .f32 x197.C.re x197.C.im)]]) rfl (by simp) rfl (by trivial) ⟨rfl,trivial,rfl,trivial,rfl,trivial,rfl,trivial,rfl,trivial,rfl,trivial,rfl,trivial,trivial⟩) ?_
        refine qa2 ?_
        refine qa0 hτ rfl rfl rfl ?_
        refine qac h fun x198 hx198 h=>?_
        refine qag hτ false [] rfl rfl rfl (qai func81 rfl rfl) rfl rfl (by simp) ⟨(by trivial),trivial⟩ (by trivial) (qjd n x197 hx198) ?_
        rintro r0 o0 n0 ⟨rfl,rfl,rfl⟩ -
        refine qbl hτ rfl rfl rfl (qb5 _) ?_
        refine qa0 hτ rfl rfl rfl ?_
        refine qa6 ?_
        refine qba ?_
        refine qfd (ι:=Nat × Int × Nat × Int) (fun (m221,v207,v208,v209)=>St.of [(5,.d (.int .i64 v207)),(6,.d (.fl .f32 v208)),(7,.d (.int .i64 v139)),(11,.d (.sl false (voltages_.map qa1))),(12,.d (.int .i64 (voltages_.length:Int))),(13,.d (.int .i64 v139)),(19,.row 0 x198.length 0 x198.length),(20,.d (.int .i64 (x198.length:Int))),(21,.d (.int .i64 v209))] [.row 1 (x198.map qbq)] f59.ntmps 0) (fun (m221,v207,v208,v209)=>qbj n (qbi n voltages_ m167) v139 x198 m221 v207 v208 v209 = some r) (fun x=>x.1) (n,v137,v138,(0:Int)) h (qa5 [1] (l:=[(5,.d (.int .i64 v137)),(6,.d (.fl .f32 v138)),(7,.d (.int .i64 v139)),(11,.d (.sl false (voltages_.map qa1))),(12,.d (.int .i64 (voltages_.length:Int))),(13,.d (.int .i64 v139)),(19,.row 0 x198.length 0 x198.length),(20,.d (.int .i64 (x198.length:Int))),(21,.d (.int .i64 (0:Int)))]) (objs:=[.row 1 (x198.map qbq)]) rfl (by simp) rfl (by trivial) ⟨rfl,trivial,rfl,trivial,rfl,trivial,rfl,trivial,rfl,trivial,rfl,trivial,rfl,trivial,rfl,trivial,rfl,trivial,trivial⟩) ?_
        rintro ⟨m221,v207,v208,v209⟩ h
        replace h:qbj n (qbi n voltages_ m167) v139 x198 m221 v207 v208 v209 = some r:=h
        rcases m221 with _ | m221
        · rw [qbj] at h;cases h
        rw [qbj] at h
        refine qaa ?_
        refine qa2 ?_
        refine qa0 hτ rfl rfl rfl ?_
        refine qa6 ?_
        refine qaa ?_
        refine qaz rfl (fun hc223=>?_) (fun hc223=>?_)
        · have h:=if_t h hc223
          refine qb3 ?_
          refine qc7 (ι:=Int × Nat) (fun (v232,v233)=>St.of [(5,.d (.int .i64 v232)),(6,.d (.fl .f32 v233)),(7,.d (.int .i64 v139)),(11,.d (.sl false (voltages_.map qa1))),(12,.d (.int .i64 (voltages_.length:Int))),(13,.d (.int .i64 v139)),(19,.row 0 x198.length 0 x198.length),(20,.d (.int .i64 (x198.length:Int))),(21,.d (.int .i64 v209))] [.row 1 (x198.map qbq)] f59.ntmps 0) (fun (v232,v233)=>qgq n (qbj n (qbi n voltages_ m167) v139 x198 m221) v209 v232 v233 = some r) ?_ (fun hk234=>?_)
          · rintro ⟨v232,v233⟩ h
            replace h:qgq n (qbj n (qbi n voltages_ m167) v139 x198 m221) v209 v232 v233 = some r:=h
            unfold qgq at h
            refine qa2 ?_
            refine qa0 hτ rfl rfl rfl ?_
            refine qa0 hτ rfl rfl rfl ?_
            refine qa6 ?_
            exact ⟨(m221,v232,v233,(w64 (v209 + (1:Int)))),h,Nat.lt_succ_self m221,(qa5 [0] (l:=[(5,.d (.int .i64 v232)),(6,.d (.fl .f32 v233)),(7,.d (.int .i64 v139)),(11,.d (.sl false (voltages_.map qa1))),(12,.d (.int .i64 (voltages_.length:Int))),(13,.d (.int .i64 v139)),(19,.row 0 x198.length 0 x198.length),(20,.d (.int .i64 (x198.length:Int))),(21,.d (.int .i64 (w64 (v209 + (1:Int)))))]) (objs:=[.row 1 (x198.map qbq)]) rfl (by simp) rfl (by trivial) ⟨rfl,trivial,rfl,trivial,rfl,trivial,rfl,trivial,rfl,trivial,rfl,trivial,rfl,trivial,rfl,trivial,rfl,trivial,trivial⟩)⟩
          · refine qaa ?_
            refine qba ?_
            refine qaa ?_
            refine qa2 ?_
            refine qac h fun x235 hx235 h=>?_
            refine qbl hτ rfl rfl rfl (qdb hx235) ?_
            refine qfb hτ rfl rfl rfl (qb5 _) (qe0 hx235) rfl ?_
            refine qa0 hτ rfl rfl rfl ?_
            refine qa6 ?_
            refine qc7 (ι:=Bool) (fun v241=>St.of [(5,.d (.int .i64 v207)),(6,.d (.fl .f32 v208)),(7,.d (.int .i64 v139)),(10,.d (.fl .f32 x235)),(11,.d (.sl false (voltages_.map qa1))),(12,.d (.int .i64 (voltages_.length:Int))),(13,.d (.int .i64 v139)),(19,.row 0 x198.length 0 x198.length),(20,.d (.int .i64 (x198.length:Int))),(21,.d (.int .i64 v209)),(36,.d (.bool v241))] [.row 1 (x198.map qbq)] f59.ntmps 0) (fun v241=>qch n v139 (qbj n (qbi n voltages_ m167) v139 x198 m221) v207 v208 v209 x235 v241 = some r) ?_ (fun hk243=>?_)
            · rintro v241 h
              replace h:qch n v139 (qbj n (qbi n voltages_ m167) v139 x198 m221) v207 v208 v209 x235 v241 = some r:=h
              unfold qch at h
              refine qaz rfl (fun hc242=>?_) (fun hc242=>?_)
              · have h:=qcq h hc242
                refine qa2 ?_
                refine qa0 hτ rfl rfl rfl ?_
                refine qa0 hτ rfl rfl rfl ?_
                refine qa0 hτ rfl rfl rfl ?_
                refine qa0 hτ rfl rfl rfl ?_
                refine qa6 ?_
                refine qab (qa5 [0] (l:=[(5,.d (.int .i64 v139)),(6,.d (.fl .f32 x235)),(7,.d (.int .i64 v139)),(11,.d (.sl false (voltages_.map qa1))),(12,.d (.int .i64 (voltages_.length:Int))),(13,.d (.int .i64 v139)),(19,.row 0 x198.length 0 x198.length),(20,.d (.int .i64 (x198.length:Int))),(21,.d (.int .i64 v209))]) (objs:=[.row 1 (x198.map qbq)]) rfl (by simp) rfl (by trivial) ⟨rfl,trivial,rfl,trivial,rfl,trivial,rfl,trivial,rfl,trivial,rfl,trivial,rfl,trivial,rfl,trivial,rfl,trivial,trivial⟩) ?_
                exact hk234 (v139,x235) h
              · have h:=qcp h hc242
                refine qb3 ?_
                refine qab (qa5 [0] (l:=[(5,.d (.int .i64 v207)),(6,.d (.fl .f32 v208)),(7,.d (.int .i64 v139)),(11,.d (.sl false (voltages_.map qa1))),(12,.d (.int .i64 (voltages_.length:Int))),(13,.d (.int .i64 v139)),(19,.row 0 x198.length 0 x198.length),(20,.d (.int .i64 (x198.length:Int))),(21,.d (.int .i64 v209))]) (objs:=[.row 1 (x198.map qbq)]) rfl (by simp) rfl (by trivial) ⟨rfl,trivial,rfl,trivial,rfl,trivial,rfl,trivial,rfl,trivial,rfl,trivial,rfl,trivial,rfl,trivial,rfl,trivial,trivial⟩) ?_
                exact hk234 (v207,v208) h
            · refine qaa ?_
              refine qa2 ?_
              refine qa0 hτ rfl rfl rfl ?_
              refine qac h fun x244 hx244 h=>?_
              refine qag hτ false [] rfl rfl rfl (qai func85 rfl rfl) rfl rfl (by simp) ⟨trivial,trivial⟩ (by trivial) (qjg n x235 hx244) ?_
              rintro r0 o0 n0 ⟨rfl,rfl,rfl⟩ -
              refine qa0 hτ rfl rfl rfl ?_
              refine qa0 hτ rfl rfl rfl ?_
              refine qb4 28 rfl (fun hb245=>?_) (fun hb245=>?_)
              · have hb245:=qhn hb245
                have h:=qcp h hb245
                refine qa0 hτ rfl rfl rfl ?_
                refine qa0 hτ rfl rfl rfl ?_
                refine qa0 hτ rfl rfl rfl ?_
                refine qb4 31 rfl (fun hb246=>?_) (fun hb246=>?_)
                · have h:=if_t h hb246
                  refine qa4 rfl rfl ?_
                  refine qap (qa5 [0] (l:=[(5,.d (.int .i64 v207)),(6,.d (.fl .f32 v208)),(7,.d (.int .i64 v139)),(10,.d (.fl .f32 x235)),(11,.d (.sl false (voltages_.map qa1))),(12,.d (.int .i64 (voltages_.length:Int))),(13,.d (.int .i64 v139)),(19,.row 0 x198.length 0 x198.length),(20,.d (.int .i64 (x198.length:Int))),(21,.d (.int .i64 v209)),(28,.d (.bool true)),(31,.d (.bool true)),(32,.und)]) (objs:=[.row 1 (x198.map qbq)]) rfl (by simp) rfl (by trivial) ⟨rfl,trivial,rfl,trivial,rfl,trivial,rfl,trivial,rfl,trivial,rfl,trivial,rfl,trivial,rfl,trivial,rfl,trivial,rfl,trivial,rfl,trivial,rfl,trivial,rfl,trivial,trivial⟩) ?_
                  refine qa4 rfl rfl ?_
                  refine qa4 rfl rfl ?_
                  refine qa0 hτ rfl rfl rfl ?_
                  refine qa0 hτ rfl rfl rfl ?_
                  refine qa6 ?_
                  refine qab (qa5 [0] (l:=[(5,.d (.int .i64 v207)),(6,.d (.fl .f32 v208)),(7,.d (.int .i64 v139)),(10,.d (.fl .f32 x235)),(11,.d (.sl false (voltages_.map qa1))),(12,.d (.int .i64 (voltages_.length:Int))),(13,.d (.int .i64 v139)),(19,.row 0 x198.length 0 x198.length),(20,.d (.int .i64 (x198.length:Int))),(21,.d (.int .i64 v209)),(36,.d (.bool true))]) (objs:=[.row 1 (x198.map qbq)]) rfl (by simp) rfl (by trivial) ⟨rfl,trivial,rfl,trivial,rfl,trivial,rfl,trivial,rfl,trivial,rfl,trivial,rfl,trivial,rfl,trivial,rfl,trivial,rfl,trivial,rfl,trivial,trivial⟩) ?_
                  exact hk243 true h
                · have h:=if_f h hb246
                  refine qa0 hτ rfl rfl rfl ?_
                  refine qap (qa5 [0] (l:=[(5,.d (.int .i64 v207)),(6,.d (.fl .f32 v208)),(7,.d (.int .i64 v139)),(10,.d (.fl .f32 x235)),(11,.d (.sl false (voltages_.map qa1))),(12,.d (.int .i64 (voltages_.length:Int))),(13,.d (.int .i64 v139)),(19,.row 0 x198.length 0 x198.length),(20,.d (.int .i64 (x198.length:Int))),(21,.d (.int .i64 v209)),(28,.d (.bool true)),(31,.d (.bool false)),(32,.d (.fl .f32 x235))]) (objs:=[.row 1 (x198.map qbq)]) rfl (by simp) rfl (by trivial) ⟨rfl,trivial,rfl,trivial,rfl,trivial,rfl,trivial,rfl,trivial,rfl,trivial,rfl,trivial,rfl,trivial,rfl,trivial,rfl,trivial,rfl,trivial,rfl,trivial,rfl,trivial,trivial⟩) ?_
                  refine qa0 hτ rfl rfl rfl ?_
                  refine qa0 hτ rfl rfl rfl ?_
                  refine qa0 hτ rfl rfl rfl ?_
                  refine qa0 hτ rfl rfl rfl ?_
                  refine qa6 ?_
                  refine qab (qa5 [0] (l:=[(5,.d (.int .i64 v207)),(6,.d (.fl .f32 v208)),(7,.d (.int .i64 v139)),(10,.d (.fl .f32 x235)),(11,.d (.sl false (voltages_.map qa1))),(12,.d (.int .i64 (voltages_.length:Int))),(13,.d (.int .i64 v139)),(19,.row 0 x198.length 0 x198.length),(20,.d (.int .i64 (x198.length:Int))),(21,.d (.int .i64 v209)),(36,.d (.bool (fcmp .lss .f32 x235 v208)))]) (objs:=[.row 1 (x198.map qbq)]) rfl (by simp) rfl (by trivial) ⟨rfl,trivial,rfl,trivial,rfl,trivial,rfl,trivial,rfl,trivial,rfl,trivial,rfl,trivial,rfl,trivial,rfl,trivial,rfl,trivial,rfl,trivial,trivial⟩) ?_
                  exact hk243 (fcmp .lss .f32 x235 v208) h
              · have hb245:=qhm hb245
                have h:=qcq h hb245
                refine qa4 rfl rfl ?_
                refine qa4 rfl rfl ?_
                refine qa4 rfl rfl ?_
                refine qa4 rfl rfl ?_
                refine qap (qa5 [0] (l:=[(5,.d (.int .i64 v207)),(6,.d (.fl .f32 v208)),(7,.d (.int .i64 v139)),(10,.d (.fl .f32 x235)),(11,.d (.sl false (voltages_.map qa1))),(12,.d (.int .i64 (voltages_.length:Int))),(13,.d (.int .i64 v139)),(19,.row 0 x198.length 0 x198.length),(20,.d (.int .i64 (x198.length:Int))),(21,.d (.int .i64 v209)),(28,.d (.bool false)),(31,.und),(32,.und)]) (objs:=[.row 1 (x198.map qbq)]) rfl (by simp) rfl (by trivial) ⟨rfl,trivial,rfl,trivial,rfl,trivial,rfl,trivial,rfl,trivial,rfl,trivial,rfl,trivial,rfl,trivial,rfl,trivial,rfl,trivial,rfl,trivial,rfl,trivial,rfl,trivial,trivial⟩) ?_
                refine qa4 rfl rfl ?_
                refine qa4 rfl rfl ?_
                refine qa4 rfl rfl ?_
                refine qa0 hτ rfl rfl rfl ?_
                refine qa6 ?_
                refine qab (qa5 [0] (l:=[(5,.d (.int .i64 v207)),(6,.d (.fl .f32 v208)),(7,.d (.int .i64 v139)),(10,.d (.fl .f32 x235)),(11,.d (.sl false (voltages_.map qa1))),(12,.d (.int .i64 (voltages_.length:Int))),(13,.d (.int .i64 v139)),(19,.row 0 x198.length 0 x198.length),(20,.d (.int .i64 (x198.length:Int))),(21,.d (.int .i64 v209)),(36,.d (.bool false))]) (objs:=[.row 1 (x198.map qbq)]) rfl (by simp) rfl (by trivial) ⟨rfl,trivial,rfl,trivial,rfl,trivial,rfl,trivial,rfl,trivial,rfl,trivial,rfl,trivial,rfl,trivial,rfl,trivial,rfl,trivial,rfl,trivial,trivial⟩) ?_
                exact hk243 false h
        · have h:=if_f h hc223
          refine qfc ?_
          refine qab (qa5 [] (l:=[(5,.d (.int .i64 v207)),(6,.d (.fl .f32 v208)),(11,.d (.sl false (voltages_.map qa1))),(12,.d (.int .i64 (voltages_.length:Int))),(13,.d (.int .i64 v139))]) (objs:=[]) rfl (by simp) rfl (by trivial) ⟨rfl,trivial,rfl,trivial,rfl,trivial,rfl,trivial,rfl,trivial,trivial⟩) ?_
          exact hk196 (v207,v208) h
    · have h:=if_f h hc169
      refine qfc ?_
      refine qab (qa5 [] (l:=[(5,.d (.int .i64 v137)),(6,.d (.fl .f32 v138))]) (objs:=[]) rfl (by simp) rfl (by trivial) ⟨rfl,trivial,rfl,trivial,trivial⟩) ?_
      exact hk112 (v137,v138) h
theorem impl_lowest_ok (n:Nat) (voltages_:List qa7) {r:Int × Nat × Bool} (h:qhd n voltages_ = some r):qb0 prog false 59 [.d (.sl false (voltages_.map qa1))] [] (fun v o new=>v = .tup [.d (.int .i64 r.1),.d (.fl .f32 r.2.1),.d (.bool r.2.2)]∧o = []∧new = []):=impl_lowest_ok_fr0 false n voltages_ h
def qfh (n:Nat) (f_:qam) (flow_:qco):Option (Int × Nat × Bool) :=
  (qfo n f_ flow_).bind fun x4 =>
  if x4 = true then
    (qhd n flow_.qa3).bind fun x6 =>
    some (x6.1,x6.2.1,x6.2.2)
  else
    some ((0:Int),(0:Nat),false)
theorem impl_LowestBus_ok_fr0 (fr:Bool) (n:Nat) (f_:qam) (flow_:qco) {r:Int × Nat × Bool} (h:qfh n f_ flow_ = some r):qb0 prog fr 16 [.agg [.d (.cx .f32 f_.Source.A.re f_.Source.A.im),.d (.cx .f32 f_.Source.B.re f_.Source.B.im),.d (.cx .f32 f_.Source.C.re f_.Source.C.im),.d (.sl false (f_.qa9.map qaf))],.agg [.d (.sl false (flow_.qa3.map qa1)),.d (.sl false (flow_.qae.map qa1)),.d (.int .i64 flow_.Rounds),.d (.bool flow_.qaw)]] [] (fun v o new=>v = .tup [.d (.int .i64 r.1),.d (.fl .f32 r.2.1),.d (.bool r.2.2)]∧o = []∧new = []):=by
  refine qal hτ func16 rfl (by simp) (by simp) ?_
  unfold qfh at h
  refine qaa ?_
  refine qa2 ?_
  refine qak hτ rfl rfl rfl ?_
  refine qak hτ rfl rfl rfl ?_
  refine qa0 hτ rfl rfl rfl ?_
  refine qa0 hτ rfl rfl rfl ?_
  refine qa0 hτ rfl rfl rfl ?_
  refine qa6 ?_
  refine qaa ?_
  refine qaa ?_
  refine qa2 ?_
  refine qa0 hτ rfl rfl rfl ?_
  refine qa0 hτ rfl rfl rfl ?_
  refine qac h fun x4 hx4 h=>?_
  refine qag hτ false [] rfl rfl rfl (qai func69 rfl rfl) rfl rfl (by simp) ⟨(by trivial),(by trivial),trivial⟩ (by trivial) (qkd n f_ flow_ hx4) ?_
  rintro r0 o0 n0 ⟨rfl,rfl,rfl⟩ -
  refine qa0 hτ rfl rfl rfl ?_
  refine qa6 ?_
  refine qab (qa5 [1] (l:=[(3,.ptr 0 0),(10,.d (.bool (!x4)))]) (objs:=[.box [.d (.sl false (flow_.qa3.map qa1)),.d (.sl false (flow_.qae.map qa1)),.d (.int .i64 flow_.Rounds),.d (.bool flow_.qaw)]]) rfl (by simp) rfl (by trivial) ⟨rfl,trivial,rfl,trivial,trivial⟩) ?_
  refine qaz rfl (fun hc5=>?_) (fun hc5=>?_)
  · have hc5:=qhn hc5
    have h:=qcp h hc5
    refine qaa ?_
    refine qa2 ?_
    refine qa0 hτ rfl rfl rfl ?_
    refine qa0 hτ rfl rfl rfl ?_
    refine qa0 hτ rfl rfl rfl ?_
    refine qa6 ?_
    refine qab (qa5 [] (l:=[(4,.d (.int .i64 (0:Int))),(5,.d (.fl .f32 (0:Nat))),(6,.d (.bool false))]) (objs:=[]) rfl (by simp) rfl (by trivial) ⟨rfl,trivial,rfl,trivial,rfl,trivial,trivial⟩) ?_
    refine qas ?_
    have hr:=Option.some.inj h
    subst hr
    exact qah (.inr rfl) [] (objs':=[]) (new:=[]) rfl (by simp) (by simp) rfl (by trivial) rfl rfl (by trivial) (fun _=>⟨by simp [V.flat,V.qbh,V.qb7,D.flat],qao⟩) ⟨rfl,rfl,rfl⟩
  · have hc5:=qhm hc5
    have h:=qcq h hc5
    refine qb3 ?_
    refine qaa ?_
    refine qa2 ?_
    refine qa0 hτ rfl rfl rfl ?_
    refine qa0 hτ rfl rfl rfl ?_
    refine qac h fun x6 hx6 h=>?_
    refine qag hτ false [] rfl rfl rfl (qai func59 rfl rfl) rfl rfl (by simp) ⟨trivial,trivial⟩ (by trivial) (impl_lowest_ok n flow_.qa3 hx6) ?_
    rintro r0 o0 n0 ⟨rfl,rfl,rfl⟩ -
    refine qa0 hτ rfl rfl rfl ?_
    refine qa0 hτ rfl rfl rfl ?_
    refine qa0 hτ rfl rfl rfl ?_
    refine qa0 hτ rfl rfl rfl ?_
    refine qa0 hτ rfl rfl rfl ?_
    refine qa0 hτ rfl rfl rfl ?_
    refine qa6 ?_
    refine qab (qa5 [] (l:=[(4,.d (.int .i64 x6.1)),(5,.d (.fl .f32 x6.2.1)),(6,.d (.bool x6.2.2))]) (objs:=[]) rfl (by simp) rfl (by trivial) ⟨rfl,trivial,rfl,trivial,rfl,trivial,trivial⟩) ?_
    refine qas ?_
    have hr:=Option.some.inj h
    subst hr
    exact qah (.inr rfl) [] (objs':=[]) (new:=[]) rfl (by simp) (by simp) rfl (by trivial) rfl rfl (by trivial) (fun _=>⟨by simp [V.flat,V.qbh,V.qb7,D.flat],qao⟩) ⟨rfl,rfl,rfl⟩
theorem impl_LowestBus_ok_fr (n:Nat) (f_:qam) (flow_:qco) {r:Int × Nat × Bool} (h:qfh n f_ flow_ = some r):qb0 prog true 16 [.agg [.d (.cx .f32 f_.Source.A.re f_.Source.A.im),.d (.cx .f32 f_.Source.B.re f_.Source.B.im),.d (.cx .f32 f_.Source.C.re f_.Source.C.im),.d (.sl false (f_.qa9.map qaf))],.agg [.d (.sl false (flow_.qa3.map qa1)),.d (.sl false (flow_.qae.map qa1)),.d (.int .i64 flow_.Rounds),.d (.bool flow_.qaw)]] [] (fun v o new=>v = .tup [.d (.int .i64 r.1),.d (.fl .f32 r.2.1),.d (.bool r.2.2)]∧o = []∧new = []):=impl_LowestBus_ok_fr0 true n f_ flow_ h
def qcj (n:Nat) (f_:qam) (bus_:Int):Option Bool :=
  (qcs n f_).bind fun x5 =>
  if x5 = true then
    (qeq n bus_ (0:Int) (w64 ((f_.qa9.length:Int) - (1:Int)))).bind fun x7 =>
    some x7
  else
    some false
theorem qh0 (n:Nat) (f_:qam) (bus_:Int) {r:Bool} (h:qcj n f_ bus_ = some r):qb0 prog false 57 [.ptr 0 0,.d (.int .i64 bus_)] [.box [.d (.cx .f32 f_.Source.A.re f_.Source.A.im),.d (.cx .f32 f_.Source.B.re f_.Source.B.im),.d (.cx .f32 f_.Source.C.re f_.Source.C.im),.d (.sl false (f_.qa9.map qaf))]] (fun v o new=>v = .d (.bool r)∧o = [.box [.d (.cx .f32 f_.Source.A.re f_.Source.A.im),.d (.cx .f32 f_.Source.B.re f_.Source.B.im),.d (.cx .f32 f_.Source.C.re f_.Source.C.im),.d (.sl false (f_.qa9.map qaf))]]∧new = []):=by
  refine qal hτ func57 rfl (by simp) (by simp) ?_
  unfold qcj at h
  refine qaa ?_
  refine qa2 ?_
  refine qa0 hτ rfl rfl rfl ?_
  refine qa6 ?_
  refine qaa ?_
  refine qa2 ?_
  refine qa0 hτ rfl rfl rfl ?_
  refine qa0 hτ rfl rfl rfl ?_
  refine qa0 hτ rfl rfl rfl ?_
  refine qac h fun x5 hx5 h=>?_
  refine qag hτ false [] rfl rfl rfl (qai func13 rfl rfl) rfl rfl (by simp) ⟨(by trivial),trivial⟩ (by trivial) (qf0 n f_ hx5) ?_
  rintro r0 o0 n0 ⟨rfl,rfl,rfl⟩ -
  refine qa0 hτ rfl rfl rfl ?_
  refine qb4 9 rfl (fun hb6=>?_) (fun hb6=>?_)
  · have h:=qcq h hb6
    refine qa0 hτ rfl rfl rfl ?_
    refine qa0 hτ rfl rfl rfl ?_
    refine qa0 hτ rfl rfl rfl ?_
    refine qa0 hτ rfl rfl rfl ?_
    refine qa0 hτ rfl rfl rfl ?_
    refine qa0 hτ (v:=.d (.int .i64 (f_.qa9.length:Int))) rfl rfl (Eq.trans rfl (qfx (f:=qaf) f_.qa9)) ?_
    refine qap (qa5 [0] (l:=[(9,.d (.bool true)),(10,.d (.int .i64 bus_)),(15,.d (.int .i64 (f_.qa9.length:Int)))]) (objs:=[.box [.d (.cx .f32 f_.Source.A.re f_.Source.A.im),.d (.cx .f32 f_.Source.B.re f_.Source.B.im),.d (.cx .f32 f_.Source.C.re f_.Source.C.im),.d (.sl false (f_.qa9.map qaf))]]) rfl (by simp) rfl (by trivial) ⟨rfl,trivial,rfl,trivial,rfl,trivial,trivial⟩) ?_
    refine qa0 hτ rfl rfl rfl ?_
    refine qac h fun x7 hx7 h=>?_
    refine qag hτ false [] rfl rfl rfl (qai func58 rfl rfl) rfl rfl (by simp) ⟨trivial,trivial,trivial,trivial⟩ (by trivial) (qio n bus_ (0:Int) (w64 ((f_.qa9.length:Int) - (1:Int))) hx7) ?_
    rintro r0 o0 n0 ⟨rfl,rfl,rfl⟩ -
    refine qa0 hτ rfl rfl rfl ?_
    refine qa0 hτ rfl rfl rfl ?_
    refine qa6 ?_
    refine qab (qa5 [0] (l:=[(4,.d (.bool x7))]) (objs:=[.box [.d (.cx .f32 f_.Source.A.re f_.Source.A.im),.d (.cx .f32 f_.Source.B.re f_.Source.B.im),.d (.cx .f32 f_.Source.C.re f_.Source.C.im),.d (.sl false (f_.qa9.map qaf))]]) rfl (by simp) rfl (by trivial) ⟨rfl,trivial,trivial⟩) ?_
    refine qas ?_
    have hr:=Option.some.inj h
    subst hr
    exact qah (.inr rfl) [] (objs':=[.box [.d (.cx .f32 f_.Source.A.re f_.Source.A.im),.d (.cx .f32 f_.Source.B.re f_.Source.B.im),.d (.cx .f32 f_.Source.C.re f_.Source.C.im),.d (.sl false (f_.qa9.map qaf))]]) (new:=[]) rfl (by simp) (by simp) rfl (by trivial) rfl rfl (by trivial) (fun h=>nomatch h) ⟨rfl,rfl,rfl⟩
  · have h:=qcp h hb6
    refine qa4 rfl rfl ?_
    refine qa4 rfl rfl ?_
    refine qa4 rfl rfl ?_
    refine qa4 rfl rfl ?_
    refine qa4 rfl rfl ?_
    refine qa4 rfl rfl ?_
    refine qap (qa5 [0] (l:=[(9,.d (.bool false)),(10,.und),(15,.und)]) (objs:=[.box [.d (.cx .f32 f_.Source.A.re f_.Source.A.im),.d (.cx .f32 f_.Source.B.re f_.Source.B.im),.d (.cx .f32 f_.Source.C.re f_.Source.C.im),.d (.sl false (f_.qa9.map qaf))]]) rfl (by simp) rfl (by trivial) ⟨rfl,trivial,rfl,trivial,rfl,trivial,trivial⟩) ?_
    refine qa4 rfl rfl ?_
    refine qa4 rfl rfl ?_
    refine qa0 hτ rfl rfl rfl ?_
    refine qa0 hτ rfl rfl rfl ?_
    refine qa6 ?_
    refine qab (qa5 [0] (l:=[(4,.d (.bool false))]) (objs:=[.box [.d (.cx .f32 f_.Source.A.re f_.Source.A.im),.d (.cx .f32 f_.Source.B.re f_.Source.B.im),.d (.cx .f32 f_.Source.C.re f_.Source.C.im),.d (.sl false (f_.qa9.map qaf))]]) rfl (by simp) rfl (by trivial) ⟨rfl,trivial,trivial⟩) ?_
    refine qas ?_
    have hr:=Option.some.inj h
    subst hr
    exact qah (.inr rfl) [] (objs':=[.box [.d (.cx .f32 f_.Source.A.re f_.Source.A.im),.d (.cx .f32 f_.Source.B.re f_.Source.B.im),.d (.cx .f32 f_.Source.C.re f_.Source.C.im),.d (.sl false (f_.qa9.map qaf))]]) (new:=[]) rfl (by simp) (by simp) rfl (by trivial) rfl rfl (by trivial) (fun h=>nomatch h) ⟨rfl,rfl,rfl⟩
def qcy (n:Nat):Nat→List Int→Int→Int→Option (List Int)
  | 0,_,_,_=>none
  | m25 + 1,v16,v17,v18 =>
    if v17 < v18 then
      (getI v16 v18).bind fun x28 =>
      (getI v16 v17).bind fun x29 =>
      (getI (v16.set v17.toNat x28) v18).bind fun x30 =>
      (qcy n m25) ((v16.set v17.toNat x28).set v18.toNat x29) (w64 (v17 + (1:Int))) (w64 (v18 - (1:Int)))
    else
      some v16
def qfj (n:Nat) (s_:List Int):Option (List Int) :=
  qcy n n s_ (0:Int) (w64 ((s_.length:Int) - (1:Int)))
theorem slices_Reverse_ok_fr0 (fr:Bool) (n:Nat) (s_:List Int) {r:List Int} (h:qfj n s_ = some r):qb0 prog fr 120 [.row 0 s_.length 0 s_.length] [.row 1 (s_.map qb9)] (fun v o new=>v = .tup []∧o = [.row 1 (r.map qb9)]∧new = []):=by
  refine qal hτ func120 rfl (by simp) (by simp) ?_
  unfold qfj at h
  refine qaa ?_
  refine qa2 ?_
  refine qa0 hτ rfl rfl rfl ?_
  refine qbl hτ rfl rfl rfl (qb5 _) ?_
  refine qa0 hτ rfl rfl rfl ?_
  refine qa0 hτ rfl rfl rfl ?_
  refine qa0 hτ rfl rfl rfl ?_
  refine qa6 ?_
  refine qba ?_
  refine qfd (ι:=Nat × List Int × Int × Int) (fun (m25,v16,v17,v18)=>St.of [(0,.row 0 v16.length 0 v16.length),(2,.d (.int .i64 v17)),(3,.d (.int .i64 v18))] [.row 1 (v16.map qb9)] f120.ntmps 1) (fun (m25,v16,v17,v18)=>qcy n m25 v16 v17 v18 = some r) (fun x=>x.1) (n,s_,(0:Int),(w64 ((s_.length:Int) - (1:Int)))) h (qa5 [0] (l:=[(0,.row 0 s_.length 0 s_.length),(2,.d (.int .i64 (0:Int))),(3,.d (.int .i64 (w64 ((s_.length:Int) - (1:Int)))))]) (objs:=[.row 1 (s_.map qb9)]) rfl (by simp) rfl (by trivial) ⟨rfl,trivial,rfl,trivial,rfl,trivial,trivial⟩) ?_
  rintro ⟨m25,v16,v17,v18⟩ h
  replace h:qcy n m25 v16 v17 v18 = some r:=h
  rcases m25 with _ | m25
  · rw [qcy] at h;cases h
  rw [qcy] at h
  refine qaa ?_
  refine qaa ?_
  refine qa2 ?_
  refine qa0 hτ rfl rfl rfl ?_
  refine qa0 hτ rfl rfl rfl ?_
  refine qa0 hτ rfl rfl rfl ?_
  refine qa6 ?_
  refine qaz rfl (fun hc27=>?_) (fun hc27=>?_)
  · have h:=if_t h hc27
    refine qb3 ?_
    refine qaa ?_
    refine qba ?_
    refine qcv ?_
    refine qad hτ [] 0 rfl rfl rfl rfl rfl ?_
    refine qad hτ [] 1 rfl rfl rfl rfl rfl ?_
    refine qad hτ [] 2 rfl rfl rfl rfl rfl ?_
    refine qad hτ [] 3 rfl rfl rfl rfl rfl ?_
    refine qad hτ [] 4 rfl rfl rfl rfl rfl ?_
    refine qad hτ [] 5 rfl rfl rfl rfl rfl ?_
    refine qac h fun x28 hx28 h=>?_
    refine qfa hτ [0] 6 rfl rfl rfl rfl rfl (qdb hx28) ?_
    refine qg1 hτ [0] 7 rfl rfl rfl rfl rfl (qb5 _) (qe0 hx28) rfl ?_
    refine qad hτ [] 8 rfl rfl rfl rfl rfl ?_
    refine qad hτ [] 9 rfl rfl rfl rfl rfl ?_
    refine qac h fun x29 hx29 h=>?_
    refine qfa hτ [0] 10 rfl rfl rfl rfl rfl (qdb hx29) ?_
    refine qg1 hτ [0] 11 rfl rfl rfl rfl rfl (qb5 _) (qe0 hx29) rfl ?_
    refine qfa hτ [0] 12 rfl rfl rfl rfl rfl (qdb hx29) ?_
    refine qij hτ [] 13 rfl rfl rfl rfl (qb5 _) (qe0 hx29) (qj9 (f:=qb9) (l:=v16) (i:=v17) (y:=x28) rfl) trivial ?_
    refine qac h fun x30 hx30 h=>?_
    refine qfa hτ [0] 14 rfl rfl rfl rfl rfl (qs3 hx30 (by simp)) ?_
    refine qij hτ [] 15 rfl rfl rfl rfl (by simp) (qe0 hx30) (qj9 (f:=qb9) (l:=(v16.set v17.toNat x28)) (i:=v18) (y:=x29) rfl) trivial ?_
    refine qd4 mixed (by kernel_rfl) ?_
    refine qab (qa5 [0] (l:=[(0,.row 0 (((v16.set v17.toNat x28).set v18.toNat x29).length) 0 (((v16.set v17.toNat x28).set v18.toNat x29).length)),(2,.d (.int .i64 v17)),(3,.d (.int .i64 v18))]) (objs:=[.row 1 (((v16.set v17.toNat x28).set v18.toNat x29).map qb9)]) rfl (by simp) rfl (by trivial) ⟨(qlp rfl (by simp)),trivial,rfl,trivial,rfl,trivial,trivial⟩) ?_
    refine qa2 ?_
    refine qa0 hτ rfl rfl rfl ?_
    refine qa0 hτ rfl rfl rfl ?_
    refine qa0 hτ rfl rfl rfl ?_
    refine qa0 hτ rfl rfl rfl ?_
    refine qa0 hτ rfl rfl rfl ?_
    refine qa0 hτ rfl rfl rfl ?_
    refine qa6 ?_
    exact ⟨(m25,((v16.set v17.toNat x28).set v18.toNat x29),(w64 (v17 + (1:Int))),(w64 (v18 - (1:Int)))),h,Nat.lt_succ_self m25,(qa5 [0] (l:=[(0,.row 0 (((v16.set v17.toNat x28).set v18.toNat x29).length) 0 (((v16.set v17.toNat x28).set v18.toNat x29).length)),(2,.d (.int .i64 (w64 (v17 + (1:Int))))),(3,.d (.int .i64 (w64 (v18 - (1:Int)))))]) (objs:=[.row 1 (((v16.set v17.toNat x28).set v18.toNat x29).map qb9)]) rfl (by simp) rfl (by trivial) ⟨rfl,trivial,rfl,trivial,rfl,trivial,trivial⟩)⟩
  · have h:=if_f h hc27
    refine qfc ?_
    have hr:=Option.some.inj h
    subst hr
    exact qah (.inl rfl) [] (objs':=[.row 1 (v16.map qb9)]) (new:=[]) rfl (by simp) (by simp) rfl (by trivial) rfl rfl (by trivial) (fun _=>⟨by simp [V.flat,V.qbh,V.qb7,D.flat],(qcr (qfl qlb _) qao)⟩) ⟨rfl,rfl,rfl⟩
theorem slices_Reverse_ok (n:Nat) (s_:List Int) {r:List Int} (h:qfj n s_ = some r):qb0 prog false 120 [.row 0 s_.length 0 s_.length] [.row 1 (s_.map qb9)] (fun v o new=>v = .tup []∧o = [.row 1 (r.map qb9)]∧new = []):=slices_Reverse_ok_fr0 false n s_ h
def qdj (n:Nat) (v19:List Int):Option (List Int) :=
  (qfj n v19).bind fun x20 =>
  grd (x20.length = v19.length) <|
  some x20
def qc8 (n:Nat) (f_:qam):Nat→Int→List Int→Option (List Int)
  | 0,_,_=>none
  | m31 + 1,v25,v26 =>
    if v25 ≥ (0:Int) then
      grd (room (v26.length + 1) 8) <|
      (getI f_.qa9 v25).bind fun x35 =>
      (qc8 n f_ m31) x35.qar (v26 ++ [v25])
    else
      qdj n v26
def qei (n:Nat) (f_:qam) (bus_:Int):Option (List Int) :=
  qc8 n f_ n bus_ ([]:List Int)
theorem qjs (n:Nat) (f_:qam) (bus_:Int) {r:List Int} (h:qei n f_ bus_ = some r):qb0 prog false 73 [.ptr 0 0,.d (.int .i64 bus_)] [.box [.d (.cx .f32 f_.Source.A.re f_.Source.A.im),.d (.cx .f32 f_.Source.B.re f_.Source.B.im),.d (.cx .f32 f_.Source.C.re f_.Source.C.im),.d (.sl false (f_.qa9.map qaf))]] (fun v o new=>v = .row 1 r.length 0 r.length∧o = [.box [.d (.cx .f32 f_.Source.A.re f_.Source.A.im),.d (.cx .f32 f_.Source.B.re f_.Source.B.im),.d (.cx .f32 f_.Source.C.re f_.Source.C.im),.d (.sl false (f_.qa9.map qaf))]]∧new = [.row 1 (r.map qb9)]):=by
  refine qal hτ func73 rfl (by simp) (by simp) ?_
  unfold qei at h
  refine qaa ?_
  refine qa2 ?_
  refine qa0 hτ rfl rfl rfl ?_
  refine qa6 ?_
  refine qaa ?_
  refine qa2 ?_
  refine qak hτ rfl rfl rfl ?_
  refine qa0 hτ rfl rfl rfl ?_
  refine qa6 ?_
  refine qc7 (ι:=List Int) (fun v19=>St.of [(5,.row 1 v19.length 0 v19.length)] [.box [.d (.cx .f32 f_.Source.A.re f_.Source.A.im),.d (.cx .f32 f_.Source.B.re f_.Source.B.im),.d (.cx .f32 f_.Source.C.re f_.Source.C.im),.d (.sl false (f_.qa9.map qaf))],.row 1 (v19.map qb9)] f73.ntmps 1) (fun v19=>qdj n v19 = some r) ?_ (fun hk22=>?_)
  · rintro v19 h
    replace h:qdj n v19 = some r:=h
    unfold qdj at h
    refine qaa ?_
    refine qa2 ?_
    refine qa0 hτ rfl rfl rfl ?_
    refine qac h fun x20 hx20 h=>?_
    refine qag hτ false [1] rfl rfl rfl (qai func120 rfl rfl) rfl rfl (by simp) ⟨trivial,trivial⟩ (by trivial) (slices_Reverse_ok n v19 hx20) ?_
    rintro r0 o0 n0 ⟨rfl,rfl,rfl⟩ -
    refine qd6 h fun hg21 h=>?_
    refine qa6 ?_
    refine qaa ?_
    refine qa2 ?_
    refine qa0 hτ rfl rfl rfl ?_
    refine qa0 hτ rfl rfl rfl ?_
    refine qa6 ?_
    refine qab (qa5 [0,1] (l:=[(4,.row 1 x20.length 0 x20.length)]) (objs:=[.box [.d (.cx .f32 f_.Source.A.re f_.Source.A.im),.d (.cx .f32 f_.Source.B.re f_.Source.B.im),.d (.cx .f32 f_.Source.C.re f_.Source.C.im),.d (.sl false (f_.qa9.map qaf))],.row 1 (x20.map qb9)]) rfl (by simp) rfl (by trivial) ⟨(qlp rfl (by simp [hg21])),trivial,trivial⟩) ?_
    refine qas ?_
    have hr:=Option.some.inj h
    subst hr
    exact qah (.inr rfl) [1] (objs':=[.box [.d (.cx .f32 f_.Source.A.re f_.Source.A.im),.d (.cx .f32 f_.Source.B.re f_.Source.B.im),.d (.cx .f32 f_.Source.C.re f_.Source.C.im),.d (.sl false (f_.qa9.map qaf))]]) (new:=[.row 1 (x20.map qb9)]) rfl (by simp) (by simp) rfl (by trivial) rfl rfl (by trivial) (fun h=>nomatch h) ⟨rfl,rfl,rfl⟩
  · refine qaa ?_
    refine qba ?_
    refine qfd (ι:=Nat × Int × List Int) (fun (m31,v25,v26)=>St.of [(0,.ptr 0 0),(1,.d (.int .i64 v25)),(5,.row 1 v26.length 0 v26.length)] [.box [.d (.cx .f32 f_.Source.A.re f_.Source.A.im),.d (.cx .f32 f_.Source.B.re f_.Source.B.im),.d (.cx .f32 f_.Source.C.re f_.Source.C.im),.d (.sl false (f_.qa9.map qaf))],.row 1 (v26.map qb9)] f73.ntmps 1) (fun (m31,v25,v26)=>qc8 n f_ m31 v25 v26 = some r) (fun x=>x.1) (n,bus_,([]:List Int)) h (qa5 [0,1] (l:=[(0,.ptr 0 0),(1,.d (.int .i64 bus_)),(5,.row 1 (([]:List Int).length) 0 (([]:List Int).length))]) (objs:=[.box [.d (.cx .f32 f_.Source.A.re f_.Source.A.im),.d (.cx .f32 f_.Source.B.re f_.Source.B.im),.d (.cx .f32 f_.Source.C.re f_.Source.C.im),.d (.sl false (f_.qa9.map qaf))],.row 1 (([]:List Int).map qb9)]) rfl (by simp) rfl (by trivial) ⟨rfl,trivial,rfl,trivial,rfl,trivial,trivial⟩) ?_
    rintro ⟨m31,v25,v26⟩ h
    replace h:qc8 n f_ m31 v25 v26 = some r:=h
    rcases m31 with _ | m31
    · rw [qc8] at h;cases h
    rw [qc8] at h
    refine qaa ?_
    refine qaa ?_
    refine qa2 ?_
    refine qa0 hτ rfl rfl rfl ?_
    refine qa0 hτ rfl rfl rfl ?_
    refine qa6 ?_
    refine qaz rfl (fun hc33=>?_) (fun hc33=>?_)
    · have h:=if_t h hc33
      refine qb3 ?_
      refine qaa ?_
      refine qba ?_
      refine qa2 ?_
      refine qa0 hτ rfl rfl rfl ?_
      refine qa0 hτ rfl rfl rfl ?_
      refine qak hτ rfl rfl rfl ?_
      refine qd6 h fun hg34 h=>?_
      refine qjn hτ rfl rfl (Eq.trans rfl (or_append (f:=qb9) v26 [v25] rfl)) ⟨⟨rfl,Nat.le_of_ble_eq_true rfl⟩,qb5 _,rfl,rfl,hg34,by decide,(all1 rfl)⟩ ?_
      refine qa0 hτ rfl rfl rfl ?_
      refine qa6 ?_
      refine qab (qa5 [0,1] (l:=[(0,.ptr 0 0),(1,.d (.int .i64 v25)),(5,.row 1 ((v26 ++ [v25]).length) 0 ((v26 ++ [v25]).length))]) (objs:=[.box [.d (.cx .f32 f_.Source.A.re f_.Source.A.im),.d (.cx .f32 f_.Source.B.re f_.Source.B.im),.d (.cx .f32 f_.Source.C.re f_.Source.C.im),.d (.sl false (f_.qa9.map qaf))],.row 1 ((v26 ++ [v25]).map qb9)]) rfl (by simp) rfl (by trivial) ⟨rfl,trivial,rfl,trivial,rfl,trivial,trivial⟩) ?_
      refine qa2 ?_
      refine qa0 hτ rfl rfl rfl ?_
      refine qa0 hτ rfl rfl rfl ?_
      refine qa0 hτ rfl rfl rfl ?_
      refine qa0 hτ rfl rfl rfl ?_
      refine qa0 hτ rfl rfl rfl ?_
      refine qac h fun x35 hx35 h=>?_
      refine qfb hτ rfl rfl rfl (qd3 hx35).1 (qeu hx35) rfl ?_
      refine qa0 hτ rfl rfl rfl ?_
      refine qa0 hτ rfl rfl rfl ?_
      refine qa0 hτ rfl rfl rfl ?_
      refine qa6 ?_
      exact ⟨(m31,x35.qar,(v26 ++ [v25])),h,Nat.lt_succ_self m31,(qa5 [0,1] (l:=[(0,.ptr 0 0),(1,.d (.int .i64 x35.qar)),(5,.row 1 ((v26 ++ [v25]).length) 0 ((v26 ++ [v25]).length))]) (objs:=[.box [.d (.cx .f32 f_.Source.A.re f_.Source.A.im),.d (.cx .f32 f_.Source.B.re f_.Source.B.im),.d (.cx .f32 f_.Source.C.re f_.Source.C.im),.d (.sl false (f_.qa9.map qaf))],.row 1 ((v26 ++ [v25]).map qb9)]) rfl (by simp) rfl (by trivial) ⟨rfl,trivial,rfl,trivial,rfl,trivial,trivial⟩)⟩
    · have h:=if_f h hc33
      refine qfc ?_
      refine qab (qa5 [0,1] (l:=[(5,.row 1 v26.length 0 v26.length)]) (objs:=[.box [.d (.cx .f32 f_.Source.A.re f_.Source.A.im),.d (.cx .f32 f_.Source.B.re f_.Source.B.im),.d (.cx .f32 f_.Source.C.re f_.Source.C.im),.d (.sl false (f_.qa9.map qaf))],.row 1 (v26.map qb9)]) rfl (by simp) rfl (by trivial) ⟨rfl,trivial,trivial⟩) ?_
      exact hk22 v26 h
def qcm (n:Nat) (flow_:qco) (x22:List Int):Nat→List Nat→Int→Option (List Nat × Bool)
  | 0,_,_=>none
  | m35 + 1,v27,v28 =>
    if v28 < (x22.length:Int) then
      (getI x22 v28).bind fun x38 =>
      (getI flow_.qa3 x38).bind fun x39 =>
      (qdc n x39).bind fun x40 =>
      grd (room (v27.length + x40.length) 4) <|
      (qcm n flow_ x22 m35) (v27 ++ x40) (w64 (v28 + (1:Int)))
    else
      some (v27,true)
def qep (n:Nat) (f_:qam) (flow_:qco) (bus_:Int):Option (List Nat × Bool) :=
  (qei n f_ bus_).bind fun x22 =>
  qcm n flow_ x22 n ([]:List Nat) (0:Int)
def qds (n:Nat) (f_:qam) (flow_:qco) (bus_:Int) (v47:Bool):Option (List Nat × Bool) :=
  if v47 = true then
    some (([]:List Nat),false)
  else
    qep n f_ flow_ bus_
def qex (n:Nat) (f_:qam) (flow_:qco) (bus_:Int):Option (List Nat × Bool) :=
  (qfo n f_ flow_).bind fun x50 =>
  if x50 = true then
    (qcj n f_ bus_).bind fun x52 =>
    qds n f_ flow_ bus_ (!x52)
  else
    qds n f_ flow_ bus_ true
theorem impl_LongsAlong_ok_fr0 (fr:Bool) (n:Nat) (f_:qam) (flow_:qco) (bus_:Int) {r:List Nat × Bool} (h:qex n f_ flow_ bus_ = some r):qb0 prog fr 32 [.agg [.d (.cx .f32 f_.Source.A.re f_.Source.A.im),.d (.cx .f32 f_.Source.B.re f_.Source.B.im),.d (.cx .f32 f_.Source.C.re f_.Source.C.im),.d (.sl false (f_.qa9.map qaf))],.agg [.d (.sl false (flow_.qa3.map qa1)),.d (.sl false (flow_.qae.map qa1)),.d (.int .i64 flow_.Rounds),.d (.bool flow_.qaw)],.d (.int .i64 bus_)] [] (fun v o new=>v = .tup [.row 0 r.1.length 0 r.1.length,.d (.bool r.2)]∧o = []∧new = [.row 1 (r.1.map qbq)]):=by
  refine qal hτ func32 rfl (by simp) (by simp) ?_
  unfold qex at h
  refine qaa ?_
  refine qa2 ?_
  refine qak hτ rfl rfl rfl ?_
  refine qak hτ rfl rfl rfl ?_
  refine qa0 hτ rfl rfl rfl ?_
  refine qa0 hτ rfl rfl rfl ?_
  refine qa6 ?_
  refine qc7 (ι:=Unit) (fun _=>St.of [(2,.d (.int .i64 bus_)),(3,.ptr 0 0),(4,.ptr 1 0)] [.box [.d (.cx .f32 f_.Source.A.re f_.Source.A.im),.d (.cx .f32 f_.Source.B.re f_.Source.B.im),.d (.cx .f32 f_.Source.C.re f_.Source.C.im),.d (.sl false (f_.qa9.map qaf))],.box [.d (.sl false (flow_.qa3.map qa1)),.d (.sl false (flow_.qae.map qa1)),.d (.int .i64 flow_.Rounds),.d (.bool flow_.qaw)]] f32.ntmps 0) (fun _=>qep n f_ flow_ bus_ = some r) ?_ (fun hk42=>?_)
  · rintro ⟨⟩ h
    replace h:qep n f_ flow_ bus_ = some r:=h
    unfold qep at h
    refine qaa ?_
    refine qa2 ?_
    refine qak hτ rfl rfl rfl ?_
    refine qa0 hτ rfl rfl rfl ?_
    refine qa6 ?_
    refine qaa ?_
    refine qaa ?_
    refine qa2 ?_
    refine qa0 hτ rfl rfl rfl ?_
    refine qac h fun x22 hx22 h=>?_
    refine qag hτ false [0] rfl rfl rfl (qai func73 rfl rfl) rfl rfl (by simp) ⟨trivial,trivial,trivial⟩ (by trivial) (qjs n f_ bus_ hx22) ?_
    rintro r0 o0 n0 ⟨rfl,rfl,rfl⟩ -
    refine qbl hτ rfl rfl rfl (qb5 _) ?_
    refine qa0 hτ rfl rfl rfl ?_
    refine qa6 ?_
    refine qba ?_
    refine qfd (ι:=Nat × List Nat × Int) (fun (m35,v27,v28)=>St.of [(4,.ptr 0 0),(8,.row 1 v27.length 0 v27.length),(22,.row 2 x22.length 0 x22.length),(23,.d (.int .i64 (x22.length:Int))),(24,.d (.int .i64 v28))] [.box [.d (.sl false (flow_.qa3.map qa1)),.d (.sl false (flow_.qae.map qa1)),.d (.int .i64 flow_.Rounds),.d (.bool flow_.qaw)],.row 1 (v27.map qbq),.row 1 (x22.map qb9)] f32.ntmps 0) (fun (m35,v27,v28)=>qcm n flow_ x22 m35 v27 v28 = some r) (fun x=>x.1) (n,([]:List Nat),(0:Int)) h (qa5 [1,2,3] (l:=[(4,.ptr 0 0),(8,.row 1 (([]:List Nat).length) 0 (([]:List Nat).length)),(22,.row 2 x22.length 0 x22.length),(23,.d (.int .i64 (x22.length:Int))),(24,.d (.int .i64 (0:Int)))]) (objs:=[.box [.d (.sl false (flow_.qa3.map qa1)),.d (.sl false (flow_.qae.map qa1)),.d (.int .i64 flow_.Rounds),.d (.bool flow_.qaw)],.row 1 (([]:List Nat).map qbq),.row 1 (x22.map qb9)]) rfl (by simp) rfl (by trivial) ⟨rfl,trivial,rfl,trivial,rfl,trivial,rfl,trivial,rfl,trivial,trivial⟩) ?_
    rintro ⟨m35,v27,v28⟩ h
    replace h:qcm n flow_ x22 m35 v27 v28 = some r:=h
    rcases m35 with _ | m35
    · rw [qcm] at h;cases h
    rw [qcm] at h
    refine qaa ?_
    refine qa2 ?_
    refine qa0 hτ rfl rfl rfl ?_
    refine qa6 ?_
    refine qaa ?_
    refine qaz rfl (fun hc37=>?_) (fun hc37=>?_)
    · have h:=if_t h hc37
      refine qb3 ?_
      refine qaa ?_
      refine qba ?_
      refine qaa ?_
      refine qa2 ?_
      refine qac h fun x38 hx38 h=>?_
      refine qbl hτ rfl rfl rfl (qdb hx38) ?_
      refine qfb hτ rfl rfl rfl (qb5 _) (qe0 hx38) rfl ?_
      refine qa0 hτ rfl rfl rfl ?_
      refine qa6 ?_
      refine qa2 ?_
      refine qa0 hτ rfl rfl rfl ?_
      refine qa0 hτ rfl rfl rfl ?_
      refine qa0 hτ rfl rfl rfl ?_
      refine qa0 hτ rfl rfl rfl ?_
      refine qac h fun x39 hx39 h=>?_
      refine qfb hτ rfl rfl rfl (qd3 hx39).1 (qeu hx39) rfl ?_
      refine qa0 hτ rfl rfl rfl ?_
      refine qac h fun x40 hx40 h=>?_
      refine qag hτ false [] rfl rfl rfl (qai func81 rfl rfl) rfl rfl (by simp) ⟨(by trivial),trivial⟩ (by trivial) (qjd n x39 hx40) ?_
      rintro r0 o0 n0 ⟨rfl,rfl,rfl⟩ -
      refine qd6 h fun hg41 h=>?_
      refine qjn hτ rfl rfl (Eq.trans rfl (or_append (f:=qbq) v27 x40 (qr1 _ rfl))) ⟨⟨qb5 _,by omega⟩,qb5 _,rfl,rfl,(by rw [qr1 _ rfl];exact qlu (f:=qbq) hg41),by decide,(by rw [qr1 _ rfl];exact qkb (f:=qbq) (fun _=>rfl) _)⟩ ?_
      refine qap (qa5 [0,2,1] (l:=[(4,.ptr 0 0),(22,.row 1 x22.length 0 x22.length),(23,.d (.int .i64 (x22.length:Int))),(24,.d (.int .i64 v28)),(35,.row 2 ((v27 ++ x40).length) 0 ((v27 ++ x40).length))]) (objs:=[.box [.d (.sl false (flow_.qa3.map qa1)),.d (.sl false (flow_.qae.map qa1)),.d (.int .i64 flow_.Rounds),.d (.bool flow_.qaw)],.row 1 (x22.map qb9),.row 1 ((v27 ++ x40).map qbq)]) rfl (by simp) rfl (by trivial) ⟨rfl,trivial,rfl,trivial,rfl,trivial,rfl,trivial,rfl,trivial,trivial⟩) ?_
      refine qa0 hτ rfl rfl rfl ?_
      refine qa6 ?_
      refine qa2 ?_
      refine qa0 hτ rfl rfl rfl ?_
      refine qa0 hτ rfl rfl rfl ?_
      refine qa6 ?_
      exact ⟨(m35,(v27 ++ x40),(w64 (v28 + (1:Int)))),h,Nat.lt_succ_self m35,(qa5 [0,2,1] (l:=[(4,.ptr 0 0),(8,.row 1 ((v27 ++ x40).length) 0 ((v27 ++ x40).length)),(22,.row 2 x22.length 0 x22.length),(23,.d (.int .i64 (x22.length:Int))),(24,.d (.int .i64 (w64 (v28 + (1:Int)))))]) (objs:=[.box [.d (.sl false (flow_.qa3.map qa1)),.d (.sl false (flow_.qae.map qa1)),.d (.int .i64 flow_.Rounds),.d (.bool flow_.qaw)],.row 1 ((v27 ++ x40).map qbq),.row 1 (x22.map qb9)]) rfl (by simp) rfl (by trivial) ⟨rfl,trivial,rfl,trivial,rfl,trivial,rfl,trivial,rfl,trivial,trivial⟩)⟩
    · have h:=if_f h hc37
      refine qfc ?_
      refine qaa ?_
      refine qa2 ?_
      refine qa0 hτ rfl rfl rfl ?_
      refine qa0 hτ rfl rfl rfl ?_
      refine qa0 hτ rfl rfl rfl ?_
      refine qa6 ?_
      refine qab (qa5 [1] (l:=[(6,.row 0 v27.length 0 v27.length),(7,.d (.bool true))]) (objs:=[.row 1 (v27.map qbq)]) rfl (by simp) rfl (by trivial) ⟨rfl,trivial,rfl,trivial,trivial⟩) ?_
      refine qas ?_
      have hr:=Option.some.inj h
      subst hr
      exact qah (.inr rfl) [0] (objs':=[]) (new:=[.row 1 (v27.map qbq)]) rfl (by simp) (by simp) rfl (by trivial) rfl rfl (by trivial) (fun _=>⟨by simp [V.flat,V.qbh,V.qb7,D.flat],(qcr (qfl qlc _) qao)⟩) ⟨rfl,rfl,rfl⟩
  · refine qaa ?_
    refine qc7 (ι:=Bool) (fun v47=>St.of [(2,.d (.int .i64 bus_)),(3,.ptr 0 0),(4,.ptr 1 0),(19,.d (.bool v47))] [.box [.d (.cx .f32 f_.Source.A.re f_.Source.A.im),.d (.cx .f32 f_.Source.B.re f_.Source.B.im),.d (.cx .f32 f_.Source.C.re f_.Source.C.im),.d (.sl false (f_.qa9.map qaf))],.box [.d (.sl false (flow_.qa3.map qa1)),.d (.sl false (flow_.qae.map qa1)),.d (.int .i64 flow_.Rounds),.d (.bool flow_.qaw)]] f32.ntmps 0) (fun v47=>qds n f_ flow_ bus_ v47 = some r) ?_ (fun hk49=>?_)
    · rintro v47 h
      replace h:qds n f_ flow_ bus_ v47 = some r:=h
      unfold qds at h
      refine qaz rfl (fun hc48=>?_) (fun hc48=>?_)
      · have h:=qcq h hc48
        refine qaa ?_
        refine qa2 ?_
        refine qa0 hτ rfl rfl rfl ?_
        refine qa0 hτ rfl rfl rfl ?_
        refine qa6 ?_
        refine qab (qa5 [] (l:=[(6,.d (.nils)),(7,.d (.bool false))]) (objs:=[]) rfl (by simp) rfl (by trivial) ⟨rfl,trivial,rfl,trivial,trivial⟩) ?_
        refine qab (qhl [1] (l':=[(6,.row 0 (([]:List Nat).length) 0 (([]:List Nat).length)),(7,.d (.bool false))]) (objs':=[]) (.cons (.c (.ghost ⟨Nat.le_of_ble_eq_true rfl,Nat.le_of_ble_eq_true rfl⟩)) (.cons (.c (.refl _)) .nil)) .nil) ?_
        refine qas ?_
        have hr:=Option.some.inj h
        subst hr
        exact qah (.inr rfl) [0] (objs':=[]) (new:=[.row 1 (([]:List Nat).map qbq)]) rfl (by simp) (by simp) rfl (by trivial) rfl rfl (by trivial) (fun _=>⟨by simp [V.flat,V.qbh,V.qb7,D.flat],(qcr (qfl qlc _) qao)⟩) ⟨rfl,rfl,rfl⟩
      · have h:=qcp h hc48
        refine qb3 ?_
        refine qab (qa5 [0,1] (l:=[(2,.d (.int .i64 bus_)),(3,.ptr 0 0),(4,.ptr 1 0)]) (objs:=[.box [.d (.cx .f32 f_.Source.A.re f_.Source.A.im),.d (.cx .f32 f_.Source.B.re f_.Source.B.im),.d (.cx .f32 f_.Source.C.re f_.Source.C.im),.d (.sl false (f_.qa9.map qaf))],.box [.d (.sl false (flow_.qa3.map qa1)),.d (.sl false (flow_.qae.map qa1)),.d (.int .i64 flow_.Rounds),.d (.bool flow_.qaw)]]) rfl (by simp) rfl (by trivial) ⟨rfl,trivial,rfl,trivial,rfl,trivial,trivial⟩) ?_
        exact hk42 () h
    · refine qaa ?_
      refine qa2 ?_
      refine qa0 hτ rfl rfl rfl ?_
      refine qa0 hτ rfl rfl rfl ?_
      refine qac h fun x50 hx50 h=>?_
      refine qag hτ false [] rfl rfl rfl (qai func69 rfl rfl) rfl rfl (by simp) ⟨(by trivial),(by trivial),trivial⟩ (by trivial) (qkd n f_ flow_ hx50) ?_
      rintro r0 o0 n0 ⟨rfl,rfl,rfl⟩ -
      refine qa0 hτ rfl rfl rfl ?_
      refine qa0 hτ rfl rfl rfl ?_
      refine qb4 15 rfl (fun hb51=>?_) (fun hb51=>?_)
      · have hb51:=qhn hb51
        have h:=qcp h hb51
        refine qa4 rfl rfl ?_
        refine qa4 rfl rfl ?_
        refine qa4 rfl rfl ?_
        refine qap (qa5 [0,1] (l:=[(2,.d (.int .i64 bus_)),(3,.ptr 0 0),(4,.ptr 1 0),(15,.d (.bool true)),(18,.und)]) (objs:=[.box [.d (.cx .f32 f_.Source.A.re f_.Source.A.im),.d (.cx .f32 f_.Source.B.re f_.Source.B.im),.d (.cx .f32 f_.Source.C.re f_.Source.C.im),.d (.sl false (f_.qa9.map qaf))],.box [.d (.sl false (flow_.qa3.map qa1)),.d (.sl false (flow_.qae.map qa1)),.d (.int .i64 flow_.Rounds),.d (.bool flow_.qaw)]]) rfl (by simp) rfl (by trivial) ⟨rfl,trivial,rfl,trivial,rfl,trivial,rfl,trivial,rfl,trivial,trivial⟩) ?_
        refine qa0 hτ rfl rfl rfl ?_
        refine qa6 ?_
        refine qab (qa5 [0,1] (l:=[(2,.d (.int .i64 bus_)),(3,.ptr 0 0),(4,.ptr 1 0),(19,.d (.bool true))]) (objs:=[.box [.d (.cx .f32 f_.Source.A.re f_.Source.A.im),.d (.cx .f32 f_.Source.B.re f_.Source.B.im),.d (.cx .f32 f_.Source.C.re f_.Source.C.im),.d (.sl false (f_.qa9.map qaf))],.box [.d (.sl false (flow_.qa3.map qa1)),.d (.sl false (flow_.qae.map qa1)),.d (.int .i64 flow_.Rounds),.d (.bool flow_.qaw)]]) rfl (by simp) rfl (by trivial) ⟨rfl,trivial,rfl,trivial,rfl,trivial,rfl,trivial,trivial⟩) ?_
        exact hk49 true h
      · have hb51:=qhm hb51
        have h:=qcq h hb51
        refine qa0 hτ rfl rfl rfl ?_
        refine qac h fun x52 hx52 h=>?_
        refine qag hτ false [0] rfl rfl rfl (qai func57 rfl rfl) rfl rfl (by simp) ⟨trivial,trivial,trivial⟩ (by trivial) (qh0 n f_ bus_ hx52) ?_
        rintro r0 o0 n0 ⟨rfl,rfl,rfl⟩ -
        refine qa0 hτ rfl rfl rfl ?_
        refine qap (qa5 [0,1] (l:=[(2,.d (.int .i64 bus_)),(3,.ptr 0 0),(4,.ptr 1 0),(15,.d (.bool false)),(18,.d (.bool (!x52)))]) (objs:=[.box [.d (.cx .f32 f_.Source.A.re f_.Source.A.im),.d (.cx .f32 f_.Source.B.re f_.Source.B.im),.d (.cx .f32 f_.Source.C.re f_.Source.C.im),.d (.sl false (f_.qa9.map qaf))],.box [.d (.sl false (flow_.qa3.map qa1)),.d (.sl false (flow_.qae.map qa1)),.d (.int .i64 flow_.Rounds),.d (.bool flow_.qaw)]]) rfl (by simp) rfl (by trivial) ⟨rfl,trivial,rfl,trivial,rfl,trivial,rfl,trivial,rfl,trivial,trivial⟩) ?_
        refine qa0 hτ rfl rfl rfl ?_
        refine qa6 ?_
        refine qab (qa5 [0,1] (l:=[(2,.d (.int .i64 bus_)),(3,.ptr 0 0),(4,.ptr 1 0),(19,.d (.bool (!x52)))]) (objs:=[.box [.d (.cx .f32 f_.Source.A.re f_.Source.A.im),.d (.cx .f32 f_.Source.B.re f_.Source.B.im),.d (.cx .f32 f_.Source.C.re f_.Source.C.im),.d (.sl false (f_.qa9.map qaf))],.box [.d (.sl false (flow_.qa3.map qa1)),.d (.sl false (flow_.qae.map qa1)),.d (.int .i64 flow_.Rounds),.d (.bool flow_.qaw)]]) rfl (by simp) rfl (by trivial) ⟨rfl,trivial,rfl,trivial,rfl,trivial,rfl,trivial,trivial⟩) ?_
        exact hk49 (!x52) h
theorem impl_LongsAlong_ok_fr (n:Nat) (f_:qam) (flow_:qco) (bus_:Int) {r:List Nat × Bool} (h:qex n f_ flow_ bus_ = some r):qb0 prog true 32 [.agg [.d (.cx .f32 f_.Source.A.re f_.Source.A.im),.d (.cx .f32 f_.Source.B.re f_.Source.B.im),.d (.cx .f32 f_.Source.C.re f_.Source.C.im),.d (.sl false (f_.qa9.map qaf))],.agg [.d (.sl false (flow_.qa3.map qa1)),.d (.sl false (flow_.qae.map qa1)),.d (.int .i64 flow_.Rounds),.d (.bool flow_.qaw)],.d (.int .i64 bus_)] [] (fun v o new=>v = .tup [.row 0 r.1.length 0 r.1.length,.d (.bool r.2)]∧o = []∧new = [.row 1 (r.1.map qbq)]):=impl_LongsAlong_ok_fr0 true n f_ flow_ bus_ h
def qhb (n:Nat) (f_:qam) (bus_:Int):Option (List Int × Bool) :=
  (qcj n f_ bus_).bind fun x4 =>
  if x4 = true then
    (qei n f_ bus_).bind fun x6 =>
    some (x6,true)
  else
    some (([]:List Int),false)
theorem impl_PathTo_ok_fr0 (fr:Bool) (n:Nat) (f_:qam) (bus_:Int) {r:List Int × Bool} (h:qhb n f_ bus_ = some r):qb0 prog fr 21 [.agg [.d (.cx .f32 f_.Source.A.re f_.Source.A.im),.d (.cx .f32 f_.Source.B.re f_.Source.B.im),.d (.cx .f32 f_.Source.C.re f_.Source.C.im),.d (.sl false (f_.qa9.map qaf))],.d (.int .i64 bus_)] [] (fun v o new=>v = .tup [.row 0 r.1.length 0 r.1.length,.d (.bool r.2)]∧o = []∧new = [.row 1 (r.1.map qb9)]):=by
  refine qal hτ func21 rfl (by simp) (by simp) ?_
  unfold qhb at h
  refine qaa ?_
  refine qa2 ?_
  refine qak hτ rfl rfl rfl ?_
  refine qa0 hτ rfl rfl rfl ?_
  refine qa0 hτ rfl rfl rfl ?_
  refine qa6 ?_
  refine qaa ?_
  refine qaa ?_
  refine qa2 ?_
  refine qa0 hτ rfl rfl rfl ?_
  refine qac h fun x4 hx4 h=>?_
  refine qag hτ false [0] rfl rfl rfl (qai func57 rfl rfl) rfl rfl (by simp) ⟨trivial,trivial,trivial⟩ (by trivial) (qh0 n f_ bus_ hx4) ?_
  rintro r0 o0 n0 ⟨rfl,rfl,rfl⟩ -
  refine qa0 hτ rfl rfl rfl ?_
  refine qa6 ?_
  refine qab (qa5 [0] (l:=[(1,.d (.int .i64 bus_)),(2,.ptr 0 0),(8,.d (.bool (!x4)))]) (objs:=[.box [.d (.cx .f32 f_.Source.A.re f_.Source.A.im),.d (.cx .f32 f_.Source.B.re f_.Source.B.im),.d (.cx .f32 f_.Source.C.re f_.Source.C.im),.d (.sl false (f_.qa9.map qaf))]]) rfl (by simp) rfl (by trivial) ⟨rfl,trivial,rfl,trivial,rfl,trivial,trivial⟩) ?_
  refine qaz rfl (fun hc5=>?_) (fun hc5=>?_)
  · have hc5:=qhn hc5
    have h:=qcp h hc5
    refine qaa ?_
    refine qa2 ?_
    refine qa0 hτ rfl rfl rfl ?_
    refine qa0 hτ rfl rfl rfl ?_
    refine qa6 ?_
    refine qab (qa5 [] (l:=[(4,.d (.nils)),(5,.d (.bool false))]) (objs:=[]) rfl (by simp) rfl (by trivial) ⟨rfl,trivial,rfl,trivial,trivial⟩) ?_
    refine qab (qhl [1] (l':=[(4,.row 0 (([]:List Int).length) 0 (([]:List Int).length)),(5,.d (.bool false))]) (objs':=[]) (.cons (.c (.ghost ⟨Nat.le_of_ble_eq_true rfl,Nat.le_of_ble_eq_true rfl⟩)) (.cons (.c (.refl _)) .nil)) .nil) ?_
    refine qas ?_
    have hr:=Option.some.inj h
    subst hr
    exact qah (.inr rfl) [0] (objs':=[]) (new:=[.row 1 (([]:List Int).map qb9)]) rfl (by simp) (by simp) rfl (by trivial) rfl rfl (by trivial) (fun _=>⟨by simp [V.flat,V.qbh,V.qb7,D.flat],(qcr (qfl qlb _) qao)⟩) ⟨rfl,rfl,rfl⟩
  · have hc5:=qhm hc5
    have h:=qcq h hc5
    refine qb3 ?_
    refine qaa ?_
    refine qa2 ?_
    refine qa0 hτ rfl rfl rfl ?_
    refine qac h fun x6 hx6 h=>?_
    refine qag hτ false [0] rfl rfl rfl (qai func73 rfl rfl) rfl rfl (by simp) ⟨trivial,trivial,trivial⟩ (by trivial) (qjs n f_ bus_ hx6) ?_
    rintro r0 o0 n0 ⟨rfl,rfl,rfl⟩ -
    refine qa0 hτ rfl rfl rfl ?_
    refine qa0 hτ rfl rfl rfl ?_
    refine qa6 ?_
    refine qab (qa5 [1] (l:=[(4,.row 0 x6.length 0 x6.length),(5,.d (.bool true))]) (objs:=[.row 1 (x6.map qb9)]) rfl (by simp) rfl (by trivial) ⟨rfl,trivial,rfl,trivial,trivial⟩) ?_
    refine qas ?_
    have hr:=Option.some.inj h
    subst hr
    exact qah (.inr rfl) [0] (objs':=[]) (new:=[.row 1 (x6.map qb9)]) rfl (by simp) (by simp) rfl (by trivial) rfl rfl (by trivial) (fun _=>⟨by simp [V.flat,V.qbh,V.qb7,D.flat],(qcr (qfl qlb _) qao)⟩) ⟨rfl,rfl,rfl⟩
theorem impl_PathTo_ok (n:Nat) (f_:qam) (bus_:Int) {r:List Int × Bool} (h:qhb n f_ bus_ = some r):qb0 prog false 21 [.agg [.d (.cx .f32 f_.Source.A.re f_.Source.A.im),.d (.cx .f32 f_.Source.B.re f_.Source.B.im),.d (.cx .f32 f_.Source.C.re f_.Source.C.im),.d (.sl false (f_.qa9.map qaf))],.d (.int .i64 bus_)] [] (fun v o new=>v = .tup [.row 0 r.1.length 0 r.1.length,.d (.bool r.2)]∧o = []∧new = [.row 1 (r.1.map qb9)]):=impl_PathTo_ok_fr0 false n f_ bus_ h
def qdd (n:Nat) (p_:qa7):Option qks :=
  some (qks.mk p_.A p_.B p_.C)
theorem impl_Phases_three_ok_fr0 (fr:Bool) (n:Nat) (p_:qa7) {r:qks} (h:qdd n p_ = some r):qb0 prog fr 125 [.agg [.d (.cx .f32 p_.A.re p_.A.im),.d (.cx .f32 p_.B.re p_.B.im),.d (.cx .f32 p_.C.re p_.C.im)]] [] (fun v o new=>v = .agg [.d (.cx .f32 r.a0.re r.a0.im),.d (.cx .f32 r.a1.re r.a1.im),.d (.cx .f32 r.a2.re r.a2.im)]∧o = []∧new = []):=by
  refine qal hτ func125 rfl (by simp) (by simp) ?_
  unfold qdd at h
  refine qaa ?_
  refine qa2 ?_
  refine qak hτ rfl rfl rfl ?_
  refine qak hτ rfl rfl rfl ?_
  refine qa6 ?_
  refine qaa ?_
  refine qa2 ?_
  refine qa0 hτ rfl rfl rfl ?_
  refine qa0 hτ rfl rfl rfl ?_
  refine qa0 hτ rfl rfl rfl ?_
  refine qa0 hτ rfl rfl rfl ?_
  refine qa0 hτ rfl rfl rfl ?_
  refine qa0 hτ rfl rfl rfl ?_
  refine qa0 hτ rfl rfl rfl ?_
  refine qak hτ rfl rfl rfl ?_
  refine qa6 ?_
  refine qab (qa5 [1] (l:=[(2,.ptr 0 0)]) (objs:=[.box [.d (.cx .f32 p_.A.re p_.A.im),.d (.cx .f32 p_.B.re p_.B.im),.d (.cx .f32 p_.C.re p_.C.im)]]) rfl (by simp) rfl (by trivial) ⟨rfl,trivial,trivial⟩) ?_
  refine qas ?_
  have hr:=Option.some.inj h
  subst hr
  exact qah (.inr rfl) [] (objs':=[]) (new:=[]) rfl (by simp) (by simp) rfl (by trivial) rfl rfl (by trivial) (fun _=>⟨by simp [V.flat,V.qbh,V.qb7,D.flat],qao⟩) ⟨rfl,rfl,rfl⟩
theorem impl_Phases_three_ok (n:Nat) (p_:qa7) {r:qks} (h:qdd n p_ = some r):qb0 prog false 125 [.agg [.d (.cx .f32 p_.A.re p_.A.im),.d (.cx .f32 p_.B.re p_.B.im),.d (.cx .f32 p_.C.re p_.C.im)]] [] (fun v o new=>v = .agg [.d (.cx .f32 r.a0.re r.a0.im),.d (.cx .f32 r.a1.re r.a1.im),.d (.cx .f32 r.a2.re r.a2.im)]∧o = []∧new = []):=impl_Phases_three_ok_fr0 false n p_ h
def qhx (n:Nat) (k98:Nat→Int→Option Nat) (v72:Int) (v122:Nat):Option Nat :=
  k98 v122 (w64 (v72 + (1:Int)))
def qgp (n:Nat) (k147:Nat→Int→Option Nat) (v136:Int) (v156:Nat):Option Nat :=
  k147 v156 (w64 (v136 + (1:Int)))
def qfi (n:Nat) (k147:Nat→Int→Option Nat) (v136:Int) (v164:Nat):Option Nat :=
  (qe7 n v164).bind fun x165 =>
  if x165 = true then
    some v164
  else
    qgp n k147 v136 v164
def qdx (n:Nat) (k147:Nat→Int→Option Nat) (v135:Nat) (v136:Int) (x168:Nat) (v172:Bool):Option Nat :=
  if v172 = true then
    qfi n k147 v136 x168
  else
    qfi n k147 v136 v135
def qbc (n:Nat) (k98:Nat→Int→Option Nat) (v72:Int) (x127:qks):Nat→Nat→Int→Option Nat
  | 0,_,_=>none
  | m146 + 1,v135,v136 =>
    if v136 < (3:Int) then
      (getI [x127.a0,x127.a1,x127.a2] v136).bind fun x158 =>
      (qau n x158).bind fun x168 =>
      if (fcmp .gtr .f32 x168 v135) = true then
        qdx n (qbc n k98 v72 x127 m146) v135 v136 x168 true
      else
        (qe7 n x168).bind fun x176 =>
        qdx n (qbc n k98 v72 x127 m146) v135 v136 x168 x176
    else
      qhx n k98 v72 v135
def qat (n:Nat) (a_:List qa7) (b_:List qa7):Nat→Nat→Int→Option Nat
  | 0,_,_=>none
  | m97 + 1,v71,v72 =>
    if v72 < (a_.length:Int) then
      (getI a_ v72).bind fun x124 =>
      (getI b_ v72).bind fun x125 =>
      (qdk n x124 x125).bind fun x126 =>
      (qdd n x126).bind fun x127 =>
      qbc n (qat n a_ b_ m97) v72 x127 n v71 (0:Int)
    else
      some v71
def qet (n:Nat) (a_:List qa7) (b_:List qa7):Option Nat :=
  qat n a_ b_ n (0:Nat) (0:Int)
theorem qk9 (fr:Bool) (n:Nat) (a_:List qa7) (b_:List qa7) {r:Nat} (h:qet n a_ b_ = some r):qb0 prog fr 82 [.d (.sl false (a_.map qa1)),.d (.sl false (b_.map qa1))] [] (fun v o new=>v = .d (.fl .f32 r)∧o = []∧new = []):=by
  refine qal hτ func82 rfl (by simp) (by simp) ?_
  unfold qet at h
  refine qaa ?_
  refine qa2 ?_
  refine qa0 hτ rfl rfl rfl ?_
  refine qa6 ?_
  refine qaa ?_
  refine qa2 ?_
  refine qa0 hτ rfl rfl rfl ?_
  refine qa6 ?_
  refine qaa ?_
  refine qaa ?_
  refine qa2 ?_
  refine qa0 hτ rfl rfl rfl ?_
  refine qa0 hτ (v:=.d (.int .i64 (a_.length:Int))) rfl rfl (Eq.trans rfl (qfx (f:=qa1) a_)) ?_
  refine qa0 hτ rfl rfl rfl ?_
  refine qa6 ?_
  refine qba ?_
  refine qfd (ι:=Nat × Nat × Int) (fun (m97,v71,v72)=>St.of [(0,.d (.sl false (a_.map qa1))),(1,.d (.sl false (b_.map qa1))),(5,.d (.fl .f32 v71)),(11,.d (.int .i64 (a_.length:Int))),(12,.d (.int .i64 v72))] [] f82.ntmps 0) (fun (m97,v71,v72)=>qat n a_ b_ m97 v71 v72 = some r) (fun x=>x.1) (n,(0:Nat),(0:Int)) h (qa5 [] (l:=[(0,.d (.sl false (a_.map qa1))),(1,.d (.sl false (b_.map qa1))),(5,.d (.fl .f32 (0:Nat))),(11,.d (.int .i64 (a_.length:Int))),(12,.d (.int .i64 (0:Int)))]) (objs:=[]) rfl (by simp) rfl (by trivial) ⟨rfl,trivial,rfl,trivial,rfl,trivial,rfl,trivial,rfl,trivial,trivial⟩) ?_
  rintro ⟨m97,v71,v72⟩ h
  replace h:qat n a_ b_ m97 v71 v72 = some r:=h
  rcases m97 with _ | m97
  · rw [qat] at h;cases h
  rw [qat] at h
  refine qaa ?_
  refine qa2 ?_
  refine qa0 hτ rfl rfl rfl ?_
  refine qa6 ?_
  refine qaa ?_
  refine qaz rfl (fun hc99=>?_) (fun hc99=>?_)
  · have h:=if_t h hc99
    refine qb3 ?_
    refine qc7 (ι:=Nat) (fun v122=>St.of [(0,.d (.sl false (a_.map qa1))),(1,.d (.sl false (b_.map qa1))),(5,.d (.fl .f32 v122)),(11,.d (.int .i64 (a_.length:Int))),(12,.d (.int .i64 v72))] [] f82.ntmps 0) (fun v122=>qhx n (qat n a_ b_ m97) v72 v122 = some r) ?_ (fun hk123=>?_)
    · rintro v122 h
      replace h:qhx n (qat n a_ b_ m97) v72 v122 = some r:=h
      unfold qhx at h
      refine qa2 ?_
      refine qa0 hτ rfl rfl rfl ?_
      refine qa0 hτ rfl rfl rfl ?_
      refine qa6 ?_
      exact ⟨(m97,v122,(w64 (v72 + (1:Int)))),h,Nat.lt_succ_self m97,(qa5 [] (l:=[(0,.d (.sl false (a_.map qa1))),(1,.d (.sl false (b_.map qa1))),(5,.d (.fl .f32 v122)),(11,.d (.int .i64 (a_.length:Int))),(12,.d (.int .i64 (w64 (v72 + (1:Int)))))]) (objs:=[]) rfl (by simp) rfl (by trivial) ⟨rfl,trivial,rfl,trivial,rfl,trivial,rfl,trivial,rfl,trivial,trivial⟩)⟩
    · refine qaa ?_
      refine qba ?_
      refine qaa ?_
      refine qa2 ?_
      refine qa0 hτ rfl rfl rfl ?_
      refine qa0 hτ rfl rfl rfl ?_
      refine qa6 ?_
      refine qaa ?_
      refine qcv ?_
      refine qad hτ [] 0 rfl rfl rfl rfl rfl ?_
      refine qad hτ [] 1 rfl rfl rfl rfl rfl ?_
      refine qac h fun x124 hx124 h=>?_
      refine qg1 hτ [] 2 rfl rfl rfl rfl rfl (qd3 hx124).1 (qeu hx124) rfl ?_
      refine qad hτ [] 3 rfl rfl rfl rfl rfl ?_
      refine qad hτ [] 4 rfl rfl rfl rfl rfl ?_
      refine qad hτ [] 5 rfl rfl rfl rfl rfl ?_
      refine qac h fun x125 hx125 h=>?_
      refine qg1 hτ [] 6 rfl rfl rfl rfl rfl (qd3 hx125).1 (qeu hx125) rfl ?_
      refine qad hτ [] 7 rfl rfl rfl rfl rfl ?_
      refine qad hτ [] 10 rfl rfl rfl rfl rfl ?_
      refine qac h fun x126 hx126 h=>?_
      refine qbd hτ false [] [] 8 rfl rfl rfl rfl (qai func124 rfl rfl) rfl rfl (by simp) ⟨(by trivial),(by trivial),trivial⟩ (by trivial) (qk6 n x124 x125 hx126) trivial ?_
      refine qac h fun x127 hx127 h=>?_
      refine qbd hτ false [] [] 9 rfl rfl rfl rfl (qai func125 rfl rfl) rfl rfl (by simp) ⟨(by trivial),trivial⟩ (by trivial) (impl_Phases_three_ok n x126 hx127) trivial ?_
      refine qd4 mixed (by kernel_rfl) ?_
      refine qba ?_
      refine qfd (ι:=Nat × Nat × Int) (fun (m146,v135,v136)=>St.of [(0,.d (.sl false (a_.map qa1))),(1,.d (.sl false (b_.map qa1))),(5,.d (.fl .f32 v135)),(11,.d (.int .i64 (a_.length:Int))),(12,.d (.int .i64 v72)),(24,.agg [.d (.cx .f32 x127.a0.re x127.a0.im),.d (.cx .f32 x127.a1.re x127.a1.im),.d (.cx .f32 x127.a2.re x127.a2.im)]),(25,.d (.int .i64 v136))] [] f82.ntmps 0) (fun (m146,v135,v136)=>qbc n (qat n a_ b_ m97) v72 x127 m146 v135 v136 = some r) (fun x=>x.1) (n,v71,(0:Int)) h (qa5 [] (l:=[(0,.d (.sl false (a_.map qa1))),(1,.d (.sl false (b_.map qa1))),(5,.d (.fl .f32 v71)),(11,.d (.int .i64 (a_.length:Int))),(12,.d (.int .i64 v72)),(24,.agg [.d (.cx .f32 x127.a0.re x127.a0.im),.d (.cx .f32 x127.a1.re x127.a1.im),.d (.cx .f32 x127.a2.re x127.a2.im)]),(25,.d (.int .i64 (0:Int)))]) (objs:=[]) rfl (by simp) rfl (by trivial) ⟨rfl,trivial,rfl,trivial,rfl,trivial,rfl,trivial,rfl,trivial,rfl,(by trivial),rfl,trivial,trivial⟩) ?_
      rintro ⟨m146,v135,v136⟩ h
      replace h:qbc n (qat n a_ b_ m97) v72 x127 m146 v135 v136 = some r:=h
      rcases m146 with _ | m146
      · rw [qbc] at h;cases h
      rw [qbc] at h
      refine qaa ?_
      refine qa2 ?_
      refine qa0 hτ rfl rfl rfl ?_
      refine qa6 ?_
      refine qaa ?_
      refine qaz rfl (fun hc148=>?_) (fun hc148=>?_)
      · have h:=if_t h hc148
        refine qb3 ?_
        refine qc7 (ι:=Nat) (fun v156=>St.of [(0,.d (.sl false (a_.map qa1))),(1,.d (.sl false (b_.map qa1))),(5,.d (.fl .f32 v156)),(11,.d (.int .i64 (a_.length:Int))),(12,.d (.int .i64 v72)),(24,.agg [.d (.cx .f32 x127.a0.re x127.a0.im),.d (.cx .f32 x127.a1.re x127.a1.im),.d (.cx .f32 x127.a2.re x127.a2.im)]),(25,.d (.int .i64 v136))] [] f82.ntmps 0) (fun v156=>qgp n (qbc n (qat n a_ b_ m97) v72 x127 m146) v136 v156 = some r) ?_ (fun hk157=>?_)
        · rintro v156 h
          replace h:qgp n (qbc n (qat n a_ b_ m97) v72 x127 m146) v136 v156 = some r:=h
          unfold qgp at h
          refine qa2 ?_
          refine qa0 hτ rfl rfl rfl ?_
          refine qa0 hτ rfl rfl rfl ?_
          refine qa6 ?_
          exact ⟨(m146,v156,(w64 (v136 + (1:Int)))),h,Nat.lt_succ_self m146,(qa5 [] (l:=[(0,.d (.sl false (a_.map qa1))),(1,.d (.sl false (b_.map qa1))),(5,.d (.fl .f32 v156)),(11,.d (.int .i64 (a_.length:Int))),(12,.d (.int .i64 v72)),(24,.agg [.d (.cx .f32 x127.a0.re x127.a0.im),.d (.cx .f32 x127.a1.re x127.a1.im),.d (.cx .f32 x127.a2.re x127.a2.im)]),(25,.d (.int .i64 (w64 (v136 + (1:Int)))))]) (objs:=[]) rfl (by simp) rfl (by trivial) ⟨rfl,trivial,rfl,trivial,rfl,trivial,rfl,trivial,rfl,trivial,rfl,(by trivial),rfl,trivial,trivial⟩)⟩
        · refine qaa ?_
          refine qba ?_
          refine qaa ?_
          refine qa2 ?_
          refine qac h fun x158 hx158 h=>?_
          refine qbl hτ (v:=.d (.cx .f32 x158.re x158.im)) rfl rfl (Eq.trans rfl (or_aidx (f:=fun (c:Cx)=>V.d (.cx .f32 c.re c.im)) hx158)) (aidx_need hx158 rfl rfl) ?_
          refine qa0 hτ rfl rfl rfl ?_
          refine qa6 ?_
          refine qc7 (ι:=Nat) (fun v164=>St.of [(0,.d (.sl false (a_.map qa1))),(1,.d (.sl false (b_.map qa1))),(5,.d (.fl .f32 v164)),(11,.d (.int .i64 (a_.length:Int))),(12,.d (.int .i64 v72)),(24,.agg [.d (.cx .f32 x127.a0.re x127.a0.im),.d (.cx .f32 x127.a1.re x127.a1.im),.d (.cx .f32 x127.a2.re x127.a2.im)]),(25,.d (.int .i64 v136))] [] f82.ntmps 0) (fun v164=>qfi n (qbc n (qat n a_ b_ m97) v72 x127 m146) v136 v164 = some r) ?_ (fun hk167=>?_)
          · rintro v164 h
            replace h:qfi n (qbc n (qat n a_ b_ m97) v72 x127 m146) v136 v164 = some r:=h
            unfold qfi at h
            refine qaa ?_
            refine qa2 ?_
            refine qa0 hτ rfl rfl rfl ?_
            refine qac h fun x165 hx165 h=>?_
            refine qag hτ false [] rfl rfl rfl (qai func85 rfl rfl) rfl rfl (by simp) ⟨trivial,trivial⟩ (by trivial) (qjg n v164 hx165) ?_
            rintro r0 o0 n0 ⟨rfl,rfl,rfl⟩ -
            refine qa6 ?_
            refine qaz rfl (fun hc166=>?_) (fun hc166=>?_)
            · have h:=qcq h hc166
              refine qaa ?_
              refine qa2 ?_
              refine qa0 hτ rfl rfl rfl ?_
              refine qa0 hτ rfl rfl rfl ?_
              refine qa6 ?_
              refine qab (qa5 [] (l:=[(4,.d (.fl .f32 v164))]) (objs:=[]) rfl (by simp) rfl (by trivial) ⟨rfl,trivial,trivial⟩) ?_
              refine qas ?_
              have hr:=Option.some.inj h
              subst hr
              exact qah (.inr rfl) [] (objs':=[]) (new:=[]) rfl (by simp) (by simp) rfl (by trivial) rfl rfl (by trivial) (fun _=>⟨by simp [V.flat,V.qbh,V.qb7,D.flat],qao⟩) ⟨rfl,rfl,rfl⟩
            · have h:=qcp h hc166
              refine qb3 ?_
              refine qab (qa5 [] (l:=[(0,.d (.sl false (a_.map qa1))),(1,.d (.sl false (b_.map qa1))),(5,.d (.fl .f32 v164)),(11,.d (.int .i64 (a_.length:Int))),(12,.d (.int .i64 v72)),(24,.agg [.d (.cx .f32 x127.a0.re x127.a0.im),.d (.cx .f32 x127.a1.re x127.a1.im),.d (.cx .f32 x127.a2.re x127.a2.im)]),(25,.d (.int .i64 v136))]) (objs:=[]) rfl (by simp) rfl (by trivial) ⟨rfl,trivial,rfl,trivial,rfl,trivial,rfl,trivial,rfl,trivial,rfl,(by trivial),rfl,trivial,trivial⟩) ?_
              exact hk157 v164 h
          · refine qaa ?_
            refine qaa ?_
            refine qa2 ?_
            refine qa0 hτ rfl rfl rfl ?_
            refine qac h fun x168 hx168 h=>?_
            refine qag hτ false [] rfl rfl rfl (qai func79 rfl rfl) rfl rfl (by simp) ⟨trivial,trivial⟩ (by trivial) (qgv n x158 hx168) ?_
            rintro r0 o0 n0 ⟨rfl,rfl,rfl⟩ -
            refine qa0 hτ rfl rfl rfl ?_
            refine qa6 ?_
            refine qc7 (ι:=Bool) (fun v172=>St.of [(0,.d (.sl false (a_.map qa1))),(1,.d (.sl false (b_.map qa1))),(5,.d (.fl .f32 v135)),(9,.d (.fl .f32 x168)),(11,.d (.int .i64 (a_.length:Int))),(12,.d (.int .i64 v72)),(24,.agg [.d (.cx .f32 x127.a0.re x127.a0.im),.d (.cx .f32 x127.a1.re x127.a1.im),.d (.cx .f32 x127.a2.re x127.a2.im)]),(25,.d (.int .i64 v136)),(36,.d (.bool v172))] [] f82.ntmps 0) (fun v172=>qdx n (qbc n (qat n a_ b_ m97) v72 x127 m146) v135 v136 x168 v172 = some r) ?_ (fun hk174=>?_)
            · rintro v172 h
              replace h:qdx n (qbc n (qat n a_ b_ m97) v72 x127 m146) v135 v136 x168 v172 = some r:=h
              unfold qdx at h
              refine qaz rfl (fun hc173=>?_) (fun hc173=>?_)
              · have h:=qcq h hc173
                refine qa2 ?_
                refine qa0 hτ rfl rfl rfl ?_
                refine qa0 hτ rfl rfl rfl ?_
                refine qa6 ?_
                refine qab (qa5 [] (l:=[(0,.d (.sl false (a_.map qa1))),(1,.d (.sl false (b_.map qa1))),(5,.d (.fl .f32 x168)),(11,.d (.int .i64 (a_.length:Int))),(12,.d (.int .i64 v72)),(24,.agg [.d (.cx .f32 x127.a0.re x127.a0.im),.d (.cx .f32 x127.a1.re x127.a1.im),.d (.cx .f32 x127.a2.re x127.a2.im)]),(25,.d (.int .i64 v136))]) (objs:=[]) rfl (by simp) rfl (by trivial) ⟨rfl,trivial,rfl,trivial,rfl,trivial,rfl,trivial,rfl,trivial,rfl,(by trivial),rfl,trivial,trivial⟩) ?_
                exact hk167 x168 h
              · have h:=qcp h hc173
                refine qb3 ?_
                refine qab (qa5 [] (l:=[(0,.d (.sl false (a_.map qa1))),(1,.d (.sl false (b_.map qa1))),(5,.d (.fl .f32 v135)),(11,.d (.int .i64 (a_.length:Int))),(12,.d (.int .i64 v72)),(24,.agg [.d (.cx .f32 x127.a0.re x127.a0.im),.d (.cx .f32 x127.a1.re x127.a1.im),.d (.cx .f32 x127.a2.re x127.a2.im)]),(25,.d (.int .i64 v136))]) (objs:=[]) rfl (by simp) rfl (by trivial) ⟨rfl,trivial,rfl,trivial,rfl,trivial,rfl,trivial,rfl,trivial,rfl,(by trivial),rfl,trivial,trivial⟩) ?_
                exact hk167 v135 h
            · refine qaa ?_
              refine qab (qa5 [] (l:=[(0,.d (.sl false (a_.map qa1))),(1,.d (.sl false (b_.map qa1))),(5,.d (.fl .f32 v135)),(9,.d (.fl .f32 x168)),(11,.d (.int .i64 (a_.length:Int))),(12,.d (.int .i64 v72)),(24,.agg [.d (.cx .f32 x127.a0.re x127.a0.im),.d (.cx .f32 x127.a1.re x127.a1.im),.d (.cx .f32 x127.a2.re x127.a2.im)]),(25,.d (.int .i64 v136))]) (objs:=[]) rfl (by simp) rfl (by trivial) ⟨rfl,trivial,rfl,trivial,rfl,trivial,rfl,trivial,rfl,trivial,rfl,trivial,rfl,(by trivial),rfl,trivial,trivial⟩) ?_
              refine qa2 ?_
              refine qa0 hτ rfl rfl rfl ?_
              refine qa0 hτ rfl rfl rfl ?_
              refine qa0 hτ rfl rfl rfl ?_
              refine qa0 hτ rfl rfl rfl ?_
              refine qb4 33 rfl (fun hb175=>?_) (fun hb175=>?_)
              · have h:=qcq h hb175
                refine qa4 rfl rfl ?_
                refine qa4 rfl rfl ?_
                refine qa0 hτ rfl rfl rfl ?_
                refine qa6 ?_
                refine qab (qa5 [] (l:=[(0,.d (.sl false (a_.map qa1))),(1,.d (.sl false (b_.map qa1))),(5,.d (.fl .f32 v135)),(9,.d (.fl .f32 x168)),(11,.d (.int .i64 (a_.length:Int))),(12,.d (.int .i64 v72)),(24,.agg [.d (.cx .f32 x127.a0.re x127.a0.im),.d (.cx .f32 x127.a1.re x127.a1.im),.d (.cx .f32 x127.a2.re x127.a2.im)]),(25,.d (.int .i64 v136)),(36,.d (.bool true))]) (objs:=[]) rfl (by simp) rfl (by trivial) ⟨rfl,trivial,rfl,trivial,rfl,trivial,rfl,trivial,rfl,trivial,rfl,trivial,rfl,(by trivial),rfl,trivial,rfl,trivial,trivial⟩) ?_
                exact hk174 true h
              · have h:=qcp h hb175
                refine qa0 hτ rfl rfl rfl ?_
                refine qac h fun x176 hx176 h=>?_
                refine qag hτ false [] rfl rfl rfl (qai func85 rfl rfl) rfl rfl (by simp) ⟨trivial,trivial⟩ (by trivial) (qjg n x168 hx176) ?_
                rintro r0 o0 n0 ⟨rfl,rfl,rfl⟩ -
                refine qa0 hτ rfl rfl rfl ?_
                refine qa6 ?_
                refine qab (qa5 [] (l:=[(0,.d (.sl false (a_.map qa1))),(1,.d (.sl false (b_.map qa1))),(5,.d (.fl .f32 v135)),(9,.d (.fl .f32 x168)),(11,.d (.int .i64 (a_.length:Int))),(12,.d (.int .i64 v72)),(24,.agg [.d (.cx .f32 x127.a0.re x127.a0.im),.d (.cx .f32 x127.a1.re x127.a1.im),.d (.cx .f32 x127.a2.re x127.a2.im)]),(25,.d (.int .i64 v136)),(36,.d (.bool x176))]) (objs:=[]) rfl (by simp) rfl (by trivial) ⟨rfl,trivial,rfl,trivial,rfl,trivial,rfl,trivial,rfl,trivial,rfl,trivial,rfl,(by trivial),rfl,trivial,rfl,trivial,trivial⟩) ?_
                exact hk174 x176 h
      · have h:=if_f h hc148
        refine qfc ?_
        refine qab (qa5 [] (l:=[(0,.d (.sl false (a_.map qa1))),(1,.d (.sl false (b_.map qa1))),(5,.d (.fl .f32 v135)),(11,.d (.int .i64 (a_.length:Int))),(12,.d (.int .i64 v72))]) (objs:=[]) rfl (by simp) rfl (by trivial) ⟨rfl,trivial,rfl,trivial,rfl,trivial,rfl,trivial,rfl,trivial,trivial⟩) ?_
        exact hk123 v135 h
  · have h:=if_f h hc99
    refine qfc ?_
    refine qaa ?_
    refine qa2 ?_
    refine qa0 hτ rfl rfl rfl ?_
    refine qa0 hτ rfl rfl rfl ?_
    refine qa6 ?_
    refine qab (qa5 [] (l:=[(4,.d (.fl .f32 v71))]) (objs:=[]) rfl (by simp) rfl (by trivial) ⟨rfl,trivial,trivial⟩) ?_
    refine qas ?_
    have hr:=Option.some.inj h
    subst hr
    exact qah (.inr rfl) [] (objs':=[]) (new:=[]) rfl (by simp) (by simp) rfl (by trivial) rfl rfl (by trivial) (fun _=>⟨by simp [V.flat,V.qbh,V.qb7,D.flat],qao⟩) ⟨rfl,rfl,rfl⟩
theorem impl_change_ok (n:Nat) (a_:List qa7) (b_:List qa7) {r:Nat} (h:qet n a_ b_ = some r):qb0 prog false 82 [.d (.sl false (a_.map qa1)),.d (.sl false (b_.map qa1))] [] (fun v o new=>v = .d (.fl .f32 r)∧o = []∧new = []):=qk9 false n a_ b_ h
theorem impl_change_ok_fr (n:Nat) (a_:List qa7) (b_:List qa7) {r:Nat} (h:qet n a_ b_ = some r):qb0 prog true 82 [.d (.sl false (a_.map qa1)),.d (.sl false (b_.map qa1))] [] (fun v o new=>v = .d (.fl .f32 r)∧o = []∧new = []):=qk9 true n a_ b_ h
def qfm (n:Nat) (a_:List qa7) (b_:List qa7):Option (Nat × Bool) :=
  (qet n a_ b_).bind fun x6 =>
  some (x6,true)
def qeh (n:Nat) (a_:List qa7) (b_:List qa7) (v10:Bool):Option (Nat × Bool) :=
  if v10 = true then
    some ((0:Nat),false)
  else
    qfm n a_ b_
def qdp (n:Nat) (a_:List qa7) (b_:List qa7):Option (Nat × Bool) :=
  if (a_.length:Int) = (b_.length:Int) then
    qeh n a_ b_ (decide ((a_.length:Int) > (256:Int)))
  else
    qeh n a_ b_ true
theorem qjb (fr:Bool) (n:Nat) (a_:List qa7) (b_:List qa7) {r:Nat × Bool} (h:qdp n a_ b_ = some r):qb0 prog fr 33 [.d (.sl false (a_.map qa1)),.d (.sl false (b_.map qa1))] [] (fun v o new=>v = .tup [.d (.fl .f32 r.1),.d (.bool r.2)]∧o = []∧new = []):=by
  refine qal hτ func33 rfl (by simp) (by simp) ?_
  unfold qdp at h
  refine qaa ?_
  refine qa2 ?_
  refine qa0 hτ rfl rfl rfl ?_
  refine qa0 hτ rfl rfl rfl ?_
  refine qa6 ?_
  refine qc7 (ι:=Unit) (fun _=>St.of [(0,.d (.sl false (a_.map qa1))),(1,.d (.sl false (b_.map qa1)))] [] f33.ntmps 0) (fun _=>qfm n a_ b_ = some r) ?_ (fun hk7=>?_)
  · rintro ⟨⟩ h
    replace h:qfm n a_ b_ = some r:=h
    unfold qfm at h
    refine qaa ?_
    refine qa2 ?_
    refine qa0 hτ rfl rfl rfl ?_
    refine qa0 hτ rfl rfl rfl ?_
    refine qac h fun x6 hx6 h=>?_
    refine qag hτ false [] rfl rfl rfl (qai func82 rfl rfl) rfl rfl (by simp) ⟨trivial,trivial,trivial⟩ (by trivial) (impl_change_ok n a_ b_ hx6) ?_
    rintro r0 o0 n0 ⟨rfl,rfl,rfl⟩ -
    refine qa0 hτ rfl rfl rfl ?_
    refine qa0 hτ rfl rfl rfl ?_
    refine qa6 ?_
    refine qab (qa5 [] (l:=[(4,.d (.fl .f32 x6)),(5,.d (.bool true))]) (objs:=[]) rfl (by simp) rfl (by trivial) ⟨rfl,trivial,rfl,trivial,trivial⟩) ?_
    refine qas ?_
    have hr:=Option.some.inj h
    subst hr
    exact qah (.inr rfl) [] (objs':=[]) (new:=[]) rfl (by simp) (by simp) rfl (by trivial) rfl rfl (by trivial) (fun _=>⟨by simp [V.flat,V.qbh,V.qb7,D.flat],qao⟩) ⟨rfl,rfl,rfl⟩
  · refine qaa ?_
    refine qc7 (ι:=Bool) (fun v10=>St.of [(0,.d (.sl false (a_.map qa1))),(1,.d (.sl false (b_.map qa1))),(15,.d (.bool v10))] [] f33.ntmps 0) (fun v10=>qeh n a_ b_ v10 = some r) ?_ (fun hk12=>?_)
    · rintro v10 h
      replace h:qeh n a_ b_ v10 = some r:=h
      unfold qeh at h
      refine qaz rfl (fun hc11=>?_) (fun hc11=>?_)
      · have h:=qcq h hc11
        refine qaa ?_
        refine qa2 ?_
        refine qa0 hτ rfl rfl rfl ?_
        refine qa0 hτ rfl rfl rfl ?_
        refine qa6 ?_
        refine qab (qa5 [] (l:=[(4,.d (.fl .f32 (0:Nat))),(5,.d (.bool false))]) (objs:=[]) rfl (by simp) rfl (by trivial) ⟨rfl,trivial,rfl,trivial,trivial⟩) ?_
        refine qas ?_
        have hr:=Option.some.inj h
        subst hr
        exact qah (.inr rfl) [] (objs':=[]) (new:=[]) rfl (by simp) (by simp) rfl (by trivial) rfl rfl (by trivial) (fun _=>⟨by simp [V.flat,V.qbh,V.qb7,D.flat],qao⟩) ⟨rfl,rfl,rfl⟩
      · have h:=qcp h hc11
        refine qb3 ?_
        refine qab (qa5 [] (l:=[(0,.d (.sl false (a_.map qa1))),(1,.d (.sl false (b_.map qa1)))]) (objs:=[]) rfl (by simp) rfl (by trivial) ⟨rfl,trivial,rfl,trivial,trivial⟩) ?_
        exact hk7 () h
    · refine qaa ?_
      refine qa2 ?_
      refine qa0 hτ rfl rfl rfl ?_
      refine qa0 hτ (v:=.d (.int .i64 (a_.length:Int))) rfl rfl (Eq.trans rfl (qfx (f:=qa1) a_)) ?_
      refine qa0 hτ rfl rfl rfl ?_
      refine qa0 hτ (v:=.d (.int .i64 (b_.length:Int))) rfl rfl (Eq.trans rfl (qfx (f:=qa1) b_)) ?_
      refine qa0 hτ (v:=.d (.bool (!(decide ((a_.length:Int) = (b_.length:Int)))))) rfl rfl (qru _ _) ?_
      refine qa0 hτ rfl rfl rfl ?_
      refine qb4 11 rfl (fun hb13=>?_) (fun hb13=>?_)
      · have hb13:=qhn hb13
        have h:=if_f h hb13
        refine qa4 rfl rfl ?_
        refine qa4 rfl rfl ?_
        refine qa4 rfl rfl ?_
        refine qa0 hτ rfl rfl rfl ?_
        refine qa6 ?_
        refine qab (qa5 [] (l:=[(0,.d (.sl false (a_.map qa1))),(1,.d (.sl false (b_.map qa1))),(15,.d (.bool true))]) (objs:=[]) rfl (by simp) rfl (by trivial) ⟨rfl,trivial,rfl,trivial,rfl,trivial,trivial⟩) ?_
        exact hk12 true h
      · have hb13:=qhm hb13
        have h:=if_t h hb13
        refine qa0 hτ rfl rfl rfl ?_
        refine qa0 hτ (v:=.d (.int .i64 (a_.length:Int))) rfl rfl (Eq.trans rfl (qfx (f:=qa1) a_)) ?_
        refine qa0 hτ rfl rfl rfl ?_
        refine qa0 hτ rfl rfl rfl ?_
        refine qa6 ?_
        refine qab (qa5 [] (l:=[(0,.d (.sl false (a_.map qa1))),(1,.d (.sl false (b_.map qa1))),(15,.d (.bool (decide ((a_.length:Int) > (256:Int)))))]) (objs:=[]) rfl (by simp) rfl (by trivial) ⟨rfl,trivial,rfl,trivial,rfl,trivial,trivial⟩) ?_
        exact hk12 (decide ((a_.length:Int) > (256:Int))) h
theorem impl_ChangeOf_ok (n:Nat) (a_:List qa7) (b_:List qa7) {r:Nat × Bool} (h:qdp n a_ b_ = some r):qb0 prog false 33 [.d (.sl false (a_.map qa1)),.d (.sl false (b_.map qa1))] [] (fun v o new=>v = .tup [.d (.fl .f32 r.1),.d (.bool r.2)]∧o = []∧new = []):=qjb false n a_ b_ h
theorem qjq (n:Nat) (a_:List qa7) (b_:List qa7) {r:Nat × Bool} (h:qdp n a_ b_ = some r):qb0 prog true 33 [.d (.sl false (a_.map qa1)),.d (.sl false (b_.map qa1))] [] (fun v o new=>v = .tup [.d (.fl .f32 r.1),.d (.bool r.2)]∧o = []∧new = []):=qjb true n a_ b_ h
def qhc (n:Nat) (f_:qam) (flow_:qco):Option (Nat × Bool) :=
  (qfo n f_ flow_).bind fun x5 =>
  if x5 = true then
    (qca n f_ flow_.qa3).bind fun x7 =>
    (qet n flow_.qa3 x7.qa3).bind fun x8 =>
    some (x8,true)
  else
    some ((0:Nat),false)
theorem impl_RestOf_ok_fr0 (fr:Bool) (n:Nat) (f_:qam) (flow_:qco) {r:Nat × Bool} (h:qhc n f_ flow_ = some r):qb0 prog fr 34 [.agg [.d (.cx .f32 f_.Source.A.re f_.Source.A.im),.d (.cx .f32 f_.Source.B.re f_.Source.B.im),.d (.cx .f32 f_.Source.C.re f_.Source.C.im),.d (.sl false (f_.qa9.map qaf))],.agg [.d (.sl false (flow_.qa3.map qa1)),.d (.sl false (flow_.qae.map qa1)),.d (.int .i64 flow_.Rounds),.d (.bool flow_.qaw)]] [] (fun v o new=>v = .tup [.d (.fl .f32 r.1),.d (.bool r.2)]∧o = []∧new = []):=by
  refine qal hτ func34 rfl (by simp) (by simp) ?_
  unfold qhc at h
  refine qaa ?_
  refine qa2 ?_
  refine qak hτ rfl rfl rfl ?_
  refine qak hτ rfl rfl rfl ?_
  refine qa0 hτ rfl rfl rfl ?_
  refine qa0 hτ rfl rfl rfl ?_
  refine qa6 ?_
  refine qaa ?_
  refine qaa ?_
  refine qa2 ?_
  refine qa0 hτ rfl rfl rfl ?_
  refine qa0 hτ rfl rfl rfl ?_
  refine qac h fun x5 hx5 h=>?_
  refine qag hτ false [] rfl rfl rfl (qai func69 rfl rfl) rfl rfl (by simp) ⟨(by trivial),(by trivial),trivial⟩ (by trivial) (qkd n f_ flow_ hx5) ?_
  rintro r0 o0 n0 ⟨rfl,rfl,rfl⟩ -
  refine qa0 hτ rfl rfl rfl ?_
  refine qa6 ?_
  refine qab (qa5 [0,1] (l:=[(2,.ptr 0 0),(3,.ptr 1 0),(9,.d (.bool (!x5)))]) (objs:=[.box [.d (.cx .f32 f_.Source.A.re f_.Source.A.im),.d (.cx .f32 f_.Source.B.re f_.Source.B.im),.d (.cx .f32 f_.Source.C.re f_.Source.C.im),.d (.sl false (f_.qa9.map qaf))],.box [.d (.sl false (flow_.qa3.map qa1)),.d (.sl false (flow_.qae.map qa1)),.d (.int .i64 flow_.Rounds),.d (.bool flow_.qaw)]]) rfl (by simp) rfl (by trivial) ⟨rfl,trivial,rfl,trivial,rfl,trivial,trivial⟩) ?_
  refine qaz rfl (fun hc6=>?_) (fun hc6=>?_)
  · have hc6:=qhn hc6
    have h:=qcp h hc6
    refine qaa ?_
    refine qa2 ?_
    refine qa0 hτ rfl rfl rfl ?_
    refine qa0 hτ rfl rfl rfl ?_
    refine qa6 ?_
    refine qab (qa5 [] (l:=[(4,.d (.fl .f32 (0:Nat))),(5,.d (.bool false))]) (objs:=[]) rfl (by simp) rfl (by trivial) ⟨rfl,trivial,rfl,trivial,trivial⟩) ?_
    refine qas ?_
    have hr:=Option.some.inj h
    subst hr
    exact qah (.inr rfl) [] (objs':=[]) (new:=[]) rfl (by simp) (by simp) rfl (by trivial) rfl rfl (by trivial) (fun _=>⟨by simp [V.flat,V.qbh,V.qb7,D.flat],qao⟩) ⟨rfl,rfl,rfl⟩
  · have hc6:=qhm hc6
    have h:=qcq h hc6
    refine qb3 ?_
    refine qaa ?_
    refine qcv ?_
    refine qad hτ [1] 0 rfl rfl rfl rfl rfl ?_
    refine qad hτ [1] 1 rfl rfl rfl rfl rfl ?_
    refine qad hτ [1] 2 rfl rfl rfl rfl rfl ?_
    refine qad hτ [1] 3 rfl rfl rfl rfl rfl ?_
    refine qac h fun x7 hx7 h=>?_
    refine qbd hτ false [0] [0,1] 4 rfl rfl rfl rfl (qai func83 rfl rfl) rfl rfl (by simp) ⟨trivial,trivial,(by trivial),trivial⟩ (by trivial) (qjc n f_ flow_.qa3 hx7) ⟨rfl,rfl,trivial⟩ ?_
    refine qad hτ [] 5 rfl rfl rfl rfl rfl ?_
    refine qac h fun x8 hx8 h=>?_
    refine qbd hτ true [] [0,1,2] 6 rfl rfl rfl rfl (qai func82 rfl rfl) (qaj rfl (qaj (qiv (f:=qa1) (j:=2) (sz:=3) x7.qa3 rfl rfl rfl) qcc)) rfl (by simp) ⟨trivial,(qhq (f:=qa1) (j:=2) (sz:=3) x7.qa3 rfl rfl rfl),trivial⟩ (by trivial) (impl_change_ok_fr n flow_.qa3 x7.qa3 hx8) ⟨rfl,rfl,rfl,trivial⟩ ?_
    refine qad hτ [] 7 rfl rfl rfl rfl rfl ?_
    refine qad hτ [] 8 rfl rfl rfl rfl rfl ?_
    refine qd4 mixed (by kernel_rfl) ?_
    refine qab (qa5 [] (l:=[(4,.d (.fl .f32 x8)),(5,.d (.bool true))]) (objs:=[]) rfl (by simp) rfl (by trivial) ⟨rfl,trivial,rfl,trivial,trivial⟩) ?_
    refine qas ?_
    have hr:=Option.some.inj h
    subst hr
    exact qah (.inr rfl) [] (objs':=[]) (new:=[]) rfl (by simp) (by simp) rfl (by trivial) rfl rfl (by trivial) (fun _=>⟨by simp [V.flat,V.qbh,V.qb7,D.flat],qao⟩) ⟨rfl,rfl,rfl⟩
theorem impl_RestOf_ok_fr (n:Nat) (f_:qam) (flow_:qco) {r:Nat × Bool} (h:qhc n f_ flow_ = some r):qb0 prog true 34 [.agg [.d (.cx .f32 f_.Source.A.re f_.Source.A.im),.d (.cx .f32 f_.Source.B.re f_.Source.B.im),.d (.cx .f32 f_.Source.C.re f_.Source.C.im),.d (.sl false (f_.qa9.map qaf))],.agg [.d (.sl false (flow_.qa3.map qa1)),.d (.sl false (flow_.qae.map qa1)),.d (.int .i64 flow_.Rounds),.d (.bool flow_.qaw)]] [] (fun v o new=>v = .tup [.d (.fl .f32 r.1),.d (.bool r.2)]∧o = []∧new = []):=impl_RestOf_ok_fr0 true n f_ flow_ h
def qf8 (n:Nat) (x_:Cx):Option Nat :=
  (qgo .f32 .f64 x_.re).bind fun x3 =>
  (qgo .f32 .f64 x_.im).bind fun x4 =>
  some (qa8 .add .f64 (qa8 .mul .f64 x3 x3) (qa8 .mul .f64 x4 x4))
theorem spec_l01PowerWide_ok_fr0 (fr:Bool) (n:Nat) (x_:Cx) {r:Nat} (h:qf8 n x_ = some r):qb0 prog fr 130 [.d (.cx .f32 x_.re x_.im)] [] (fun v o new=>v = .d (.fl .f64 r)∧o = []∧new = []):=by
  refine qal hτ func130 rfl (by simp) (by simp) ?_
  unfold qf8 at h
  refine qaa ?_
  refine qa2 ?_
  refine qa0 hτ rfl rfl rfl ?_
  refine qa6 ?_
  refine qaa ?_
  refine qa2 ?_
  refine qa0 hτ rfl rfl rfl ?_
  refine qa0 hτ rfl rfl rfl ?_
  refine qac h fun x3 hx3 h=>?_
  refine qa0 hτ (v:=.d (.fl .f64 x3)) rfl rfl (qge hx3) ?_
  refine qa0 hτ rfl rfl rfl ?_
  refine qa6 ?_
  refine qaa ?_
  refine qa2 ?_
  refine qa0 hτ rfl rfl rfl ?_
  refine qa0 hτ rfl rfl rfl ?_
  refine qac h fun x4 hx4 h=>?_
  refine qa0 hτ (v:=.d (.fl .f64 x4)) rfl rfl (qge hx4) ?_
  refine qa0 hτ rfl rfl rfl ?_
  refine qa6 ?_
  refine qaa ?_
  refine qab (qa5 [] (l:=[(3,.d (.fl .f64 x3)),(4,.d (.fl .f64 x4))]) (objs:=[]) rfl (by simp) rfl (by trivial) ⟨rfl,trivial,rfl,trivial,trivial⟩) ?_
  refine qa2 ?_
  refine qa0 hτ rfl rfl rfl ?_
  refine qa0 hτ rfl rfl rfl ?_
  refine qa0 hτ rfl rfl rfl ?_
  refine qa0 hτ rfl rfl rfl ?_
  refine qa0 hτ rfl rfl rfl ?_
  refine qa0 hτ rfl rfl rfl ?_
  refine qa0 hτ rfl rfl rfl ?_
  refine qa0 hτ rfl rfl rfl ?_
  refine qa6 ?_
  refine qab (qa5 [] (l:=[(2,.d (.fl .f64 (qa8 .add .f64 (qa8 .mul .f64 x3 x3) (qa8 .mul .f64 x4 x4))))]) (objs:=[]) rfl (by simp) rfl (by trivial) ⟨rfl,trivial,trivial⟩) ?_
  refine qas ?_
  have hr:=Option.some.inj h
  subst hr
  exact qah (.inr rfl) [] (objs':=[]) (new:=[]) rfl (by simp) (by simp) rfl (by trivial) rfl rfl (by trivial) (fun _=>⟨by simp [V.flat,V.qbh,V.qb7,D.flat],qao⟩) ⟨rfl,rfl,rfl⟩
theorem spec_l01PowerWide_ok (n:Nat) (x_:Cx) {r:Nat} (h:qf8 n x_ = some r):qb0 prog false 130 [.d (.cx .f32 x_.re x_.im)] [] (fun v o new=>v = .d (.fl .f64 r)∧o = []∧new = []):=spec_l01PowerWide_ok_fr0 false n x_ h
def qhs (n:Nat) (x_:Cx):Option Nat :=
  (qf8 n x_).bind fun x4 =>
  (qgh n x4).bind fun x5 =>
  (qbw n x5).bind fun x6 =>
  some x6
theorem spec_l01Long_ok_fr0 (fr:Bool) (n:Nat) (x_:Cx) {r:Nat} (h:qhs n x_ = some r):qb0 prog fr 84 [.d (.cx .f32 x_.re x_.im)] [] (fun v o new=>v = .d (.fl .f32 r)∧o = []∧new = []):=by
  refine qal hτ func84 rfl (by simp) (by simp) ?_
  unfold qhs at h
  refine qaa ?_
  refine qa2 ?_
  refine qa0 hτ rfl rfl rfl ?_
  refine qa6 ?_
  refine qaa ?_
  refine qa2 ?_
  refine qa0 hτ rfl rfl rfl ?_
  refine qac h fun x4 hx4 h=>?_
  refine qag hτ false [] rfl rfl rfl (qai func130 rfl rfl) rfl rfl (by simp) ⟨trivial,trivial⟩ (by trivial) (spec_l01PowerWide_ok n x_ hx4) ?_
  rintro r0 o0 n0 ⟨rfl,rfl,rfl⟩ -
  refine qac h fun x5 hx5 h=>?_
  refine qag hτ false [] rfl rfl rfl (qai func123 rfl rfl) rfl rfl (by simp) ⟨trivial,trivial⟩ (by trivial) (qnj n x4 hx5) ?_
  rintro r0 o0 n0 ⟨rfl,rfl,rfl⟩ -
  refine qac h fun x6 hx6 h=>?_
  refine qag hτ false [] rfl rfl rfl (qai func129 rfl rfl) rfl rfl (by simp) ⟨trivial,trivial⟩ (by trivial) (qce n x5 hx6) ?_
  rintro r0 o0 n0 ⟨rfl,rfl,rfl⟩ -
  refine qa0 hτ rfl rfl rfl ?_
  refine qa6 ?_
  refine qab (qa5 [] (l:=[(2,.d (.fl .f32 x6))]) (objs:=[]) rfl (by simp) rfl (by trivial) ⟨rfl,trivial,trivial⟩) ?_
  refine qas ?_
  have hr:=Option.some.inj h
  subst hr
  exact qah (.inr rfl) [] (objs':=[]) (new:=[]) rfl (by simp) (by simp) rfl (by trivial) rfl rfl (by trivial) (fun _=>⟨by simp [V.flat,V.qbh,V.qb7,D.flat],qao⟩) ⟨rfl,rfl,rfl⟩
theorem spec_l01Long_ok (n:Nat) (x_:Cx) {r:Nat} (h:qhs n x_ = some r):qb0 prog false 84 [.d (.cx .f32 x_.re x_.im)] [] (fun v o new=>v = .d (.fl .f32 r)∧o = []∧new = []):=spec_l01Long_ok_fr0 false n x_ h
def qct (n:Nat) (x_:Cx):Option Nat :=
  (qhs n x_).bind fun x2 =>
  some x2
theorem spec_LongOf_ok_fr0 (fr:Bool) (n:Nat) (x_:Cx) {r:Nat} (h:qct n x_ = some r):qb0 prog fr 35 [.d (.cx .f32 x_.re x_.im)] [] (fun v o new=>v = .d (.fl .f32 r)∧o = []∧new = []):=by
  refine qal hτ func35 rfl (by simp) (by simp) ?_
  unfold qct at h
  refine qaa ?_
  refine qa2 ?_
  refine qa0 hτ rfl rfl rfl ?_
  refine qa6 ?_
  refine qaa ?_
  refine qa2 ?_
  refine qa0 hτ rfl rfl rfl ?_
  refine qac h fun x2 hx2 h=>?_
  refine qag hτ false [] rfl rfl rfl (qai func84 rfl rfl) rfl rfl (by simp) ⟨trivial,trivial⟩ (by trivial) (spec_l01Long_ok n x_ hx2) ?_
  rintro r0 o0 n0 ⟨rfl,rfl,rfl⟩ -
  refine qa0 hτ rfl rfl rfl ?_
  refine qa6 ?_
  refine qab (qa5 [] (l:=[(2,.d (.fl .f32 x2))]) (objs:=[]) rfl (by simp) rfl (by trivial) ⟨rfl,trivial,trivial⟩) ?_
  refine qas ?_
  have hr:=Option.some.inj h
  subst hr
  exact qah (.inr rfl) [] (objs':=[]) (new:=[]) rfl (by simp) (by simp) rfl (by trivial) rfl rfl (by trivial) (fun _=>⟨by simp [V.flat,V.qbh,V.qb7,D.flat],qao⟩) ⟨rfl,rfl,rfl⟩
theorem qg0 (n:Nat) (x_:Cx) {r:Nat} (h:qct n x_ = some r):qb0 prog false 35 [.d (.cx .f32 x_.re x_.im)] [] (fun v o new=>v = .d (.fl .f32 r)∧o = []∧new = []):=spec_LongOf_ok_fr0 false n x_ h
end Go.Proofs.Ytdnkjocenbepaaa.AWN
