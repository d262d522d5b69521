/- Models and contracts, printed by program. -/
import Derived.Test.YtdnkjocenbepaaaFnBanksC
set_option linter.unusedVariables false
set_option linter.unusedSimpArgs false
set_option linter.unusedSectionVars false
set_option maxHeartbeats 2000000
namespace Go.Proofs.Ytdnkjocenbepaaa.AWN
open Go Go.Proofs.Try
def qca (n:Nat) (s_:List qa5):Option (List qa5) :=
  grd (room (([]:List qa5).length + s_.length) 24) <|
  some (([]:List qa5) ++ s_)
theorem slices_Clone_2_ok_fr0 (fr:Bool) (n:Nat) (s_:List qa5) {r:List qa5} (h:qca n s_ = some r):qay prog fr 113 [.d (.sl false (s_.map qa6))] [] (fun v o new=>v = .row 0 r.length 0 r.length∧o = []∧new = [.row 3 (r.map qa6)]):=by
  refine qai hτ func113 rfl (by simp) (by simp) ?_
  unfold qca at h
  refine qa7 ?_
  refine qa2 ?_
  refine qa0 hτ rfl rfl rfl ?_
  refine qa4 ?_
  refine qa7 ?_
  refine qa7 ?_
  refine qa2 ?_
  refine qa0 hτ rfl rfl rfl ?_
  refine qo7 rfl rfl (qrp hτ rfl rfl rfl rfl rfl) fun q4 hq4=>?_
  refine qa4 ?_
  refine qaz rfl (fun hc5=>?_) (fun hc5=>?_)
  · have hl:=List.map_eq_nil_iff.1 (hq4 (by simpa using hc5))
    subst hl
    replace h:(some ([]:List qa5)) = some r:=by simpa [grd,room] using h
    refine qa7 ?_
    refine qa2 ?_
    refine qa0 hτ rfl rfl rfl ?_
    refine qa4 ?_
    refine qa9 (qa3 [] (l:=[(2,.d (.nils))]) (objs:=[]) rfl (by simp) rfl (by trivial) ⟨rfl,trivial,trivial⟩) ?_
    refine qa9 (qhq [3] (l':=[(2,.row 0 (([]:List qa5).length) 0 (([]:List qa5).length))]) (objs':=[]) (.cons (.c (.ghost ⟨Nat.le_of_ble_eq_true rfl,Nat.le_of_ble_eq_true rfl⟩)) .nil) .nil) ?_
    refine qar ?_
    have hr:=Option.some.inj h
    subst hr
    exact qah (.inr rfl) [0] (objs':=[]) (new:=[.row 3 (([]:List qa5).map qa6)]) rfl (by simp) (by simp) rfl (by trivial) rfl rfl (by trivial) (fun _=>⟨by simp [V.flat,V.qbd,V.qb6,D.flat],(qd1 (qh2 qgk _) qal)⟩) ⟨rfl,rfl,rfl⟩
  · refine qb4 ?_
    refine qa7 ?_
    refine qa2 ?_
    refine qaj hτ rfl rfl rfl ?_
    refine qa0 hτ rfl rfl rfl ?_
    refine qcq h fun hg6 h=>?_
    refine qhs hτ rfl rfl (Eq.trans rfl (or_append (f:=qa6) ([]:List qa5) s_ rfl)) ⟨trivial,qbu _,rfl,rfl,(qqc (f:=qa6) hg6),by decide,(ql1 (f:=qa6) (fun _=>rfl) _)⟩ ?_
    refine qa0 hτ rfl rfl rfl ?_
    refine qa4 ?_
    refine qa9 (qa3 [0] (l:=[(2,.row 0 ((([]:List qa5) ++ s_).length) 0 ((([]:List qa5) ++ s_).length))]) (objs:=[.row 3 ((([]:List qa5) ++ s_).map qa6)]) rfl (by simp) rfl (by trivial) ⟨rfl,trivial,trivial⟩) ?_
    refine qar ?_
    have hr:=Option.some.inj h
    subst hr
    exact qah (.inr rfl) [0] (objs':=[]) (new:=[.row 3 ((([]:List qa5) ++ s_).map qa6)]) rfl (by simp) (by simp) rfl (by trivial) rfl rfl (by trivial) (fun _=>⟨by simp [V.flat,V.qbd,V.qb6,D.flat],(qd1 (qh2 qgk _) qal)⟩) ⟨rfl,rfl,rfl⟩
theorem qdu (n:Nat) (s_:List qa5) {r:List qa5} (h:qca n s_ = some r):qay prog false 113 [.d (.sl false (s_.map qa6))] [] (fun v o new=>v = .row 0 r.length 0 r.length∧o = []∧new = [.row 3 (r.map qa6)]):=slices_Clone_2_ok_fr0 false n s_ h
def qb5 (n:Nat) (load_:Cx) (v_:Cx) (a2_:SBus):Option Cx :=
  if (fcmp .eql .f32 load_.re (0:Nat) && fcmp .eql .f32 load_.im (0:Nat)) = true then
    some (Cx.mk (0:Nat) (0:Nat))
  else
    if a2_.Kind = (0:Int) then
      (qbe n load_ v_).bind fun x6 =>
      (qci n x6).bind fun x7 =>
      some x7
    else
      if a2_.Kind = (1:Int) then
        some load_
      else
        if a2_.Kind = (2:Int) then
          (qbe n v_ load_).bind fun x10 =>
          some x10
        else
          some (Cx.mk (0:Nat) (0:Nat))
theorem impl_LoadCurrentOf_1_ok_fr0 (fr:Bool) (n:Nat) (load_:Cx) (v_:Cx) (a2_:SBus) {r:Cx} (h:qb5 n load_ v_ a2_ = some r):qay prog fr 177 [.d (.cx .f32 load_.re load_.im),.d (.cx .f32 v_.re v_.im),.ptr 0 0] [.box [.d (.int .i64 a2_.qaw),.d (.cx .f32 a2_.Own.re a2_.Own.im),.d (.cx .f32 a2_.Shared.re a2_.Shared.im),.d (.int .i64 a2_.Kind),.d (.cx .f32 a2_.Load.A.re a2_.Load.A.im),.d (.cx .f32 a2_.Load.B.re a2_.Load.B.im),.d (.cx .f32 a2_.Load.C.re a2_.Load.C.im),.d (.int .i64 a2_.qap)]] (fun v o new=>v = .d (.cx .f32 r.re r.im)∧o = [.box [.d (.int .i64 a2_.qaw),.d (.cx .f32 a2_.Own.re a2_.Own.im),.d (.cx .f32 a2_.Shared.re a2_.Shared.im),.d (.int .i64 a2_.Kind),.d (.cx .f32 a2_.Load.A.re a2_.Load.A.im),.d (.cx .f32 a2_.Load.B.re a2_.Load.B.im),.d (.cx .f32 a2_.Load.C.re a2_.Load.C.im),.d (.int .i64 a2_.qap)]]∧new = []):=by
  refine qai hτ func177 rfl (by simp) (by simp) ?_
  unfold qb5 at h
  refine qa7 ?_
  refine qa2 ?_
  refine qa0 hτ rfl rfl rfl ?_
  refine qa4 ?_
  refine qa7 ?_
  refine qbo ?_
  refine qa7 ?_
  refine qa2 ?_
  refine qa0 hτ rfl rfl rfl ?_
  refine qa0 hτ rfl rfl rfl ?_
  refine qa0 hτ rfl rfl rfl ?_
  refine qa4 ?_
  refine qaz rfl (fun hc4=>?_) (fun hc4=>?_)
  · have h:=qdl h hc4
    refine qa7 ?_
    refine qa2 ?_
    refine qa0 hτ rfl rfl rfl ?_
    refine qa4 ?_
    refine qa9 (qa3 [0] (l:=[(5,.d (.cx .f32 (0:Nat) (0:Nat)))]) (objs:=[.box [.d (.int .i64 a2_.qaw),.d (.cx .f32 a2_.Own.re a2_.Own.im),.d (.cx .f32 a2_.Shared.re a2_.Shared.im),.d (.int .i64 a2_.Kind),.d (.cx .f32 a2_.Load.A.re a2_.Load.A.im),.d (.cx .f32 a2_.Load.B.re a2_.Load.B.im),.d (.cx .f32 a2_.Load.C.re a2_.Load.C.im),.d (.int .i64 a2_.qap)]]) rfl (by simp) rfl (by trivial) ⟨rfl,trivial,trivial⟩) ?_
    refine qar ?_
    have hr:=Option.some.inj h
    subst hr
    exact qah (.inr rfl) [] (objs':=[.box [.d (.int .i64 a2_.qaw),.d (.cx .f32 a2_.Own.re a2_.Own.im),.d (.cx .f32 a2_.Shared.re a2_.Shared.im),.d (.int .i64 a2_.Kind),.d (.cx .f32 a2_.Load.A.re a2_.Load.A.im),.d (.cx .f32 a2_.Load.B.re a2_.Load.B.im),.d (.cx .f32 a2_.Load.C.re a2_.Load.C.im),.d (.int .i64 a2_.qap)]]) (new:=[]) rfl (by simp) (by simp) rfl (by trivial) rfl rfl (by trivial) (fun _=>⟨by simp [V.flat,V.qbd,V.qb6,D.flat],(qd1 (by simp [AObj.flat,V.qb6,D.flat]) qal)⟩) ⟨rfl,rfl,rfl⟩
  · have h:=qdk h hc4
    refine qa7 ?_
    refine qa2 ?_
    refine qa0 hτ rfl rfl rfl ?_
    refine qa0 hτ rfl rfl rfl ?_
    refine qa0 hτ (v:=.d (.bool (decide (a2_.Kind = (0:Int))))) rfl rfl (qj3 _ _) ?_
    refine qa0 hτ rfl rfl rfl ?_
    refine qa4 ?_
    refine qa9 (qa3 [0] (l:=[(0,.d (.cx .f32 load_.re load_.im)),(1,.d (.cx .f32 v_.re v_.im)),(2,.ptr 0 0),(9,.d (.bool (decide (a2_.Kind = (0:Int)))))]) (objs:=[.box [.d (.int .i64 a2_.qaw),.d (.cx .f32 a2_.Own.re a2_.Own.im),.d (.cx .f32 a2_.Shared.re a2_.Shared.im),.d (.int .i64 a2_.Kind),.d (.cx .f32 a2_.Load.A.re a2_.Load.A.im),.d (.cx .f32 a2_.Load.B.re a2_.Load.B.im),.d (.cx .f32 a2_.Load.C.re a2_.Load.C.im),.d (.int .i64 a2_.qap)]]) rfl (by simp) rfl (by trivial) ⟨rfl,trivial,rfl,trivial,rfl,trivial,rfl,trivial,trivial⟩) ?_
    refine qaz rfl (fun hc5=>?_) (fun hc5=>?_)
    · have h:=if_t h hc5
      refine qa7 ?_
      refine qa2 ?_
      refine qa0 hτ rfl rfl rfl ?_
      refine qa0 hτ rfl rfl rfl ?_
      refine qab h fun x6 hx6 h=>?_
      refine qad hτ false [] rfl rfl rfl (qaf func65 rfl rfl) rfl rfl (by simp) ⟨trivial,trivial,trivial⟩ (by trivial) (qgm n load_ v_ hx6) ?_
      rintro r0 o0 n0 ⟨rfl,rfl,rfl⟩ -
      refine qab h fun x7 hx7 h=>?_
      refine qad hτ false [] rfl rfl rfl (qaf func116 rfl rfl) rfl rfl (by simp) ⟨trivial,trivial⟩ (by trivial) (qhy n x6 hx7) ?_
      rintro r0 o0 n0 ⟨rfl,rfl,rfl⟩ -
      refine qa0 hτ rfl rfl rfl ?_
      refine qa4 ?_
      refine qa9 (qa3 [0] (l:=[(5,.d (.cx .f32 x7.re x7.im))]) (objs:=[.box [.d (.int .i64 a2_.qaw),.d (.cx .f32 a2_.Own.re a2_.Own.im),.d (.cx .f32 a2_.Shared.re a2_.Shared.im),.d (.int .i64 a2_.Kind),.d (.cx .f32 a2_.Load.A.re a2_.Load.A.im),.d (.cx .f32 a2_.Load.B.re a2_.Load.B.im),.d (.cx .f32 a2_.Load.C.re a2_.Load.C.im),.d (.int .i64 a2_.qap)]]) rfl (by simp) rfl (by trivial) ⟨rfl,trivial,trivial⟩) ?_
      refine qar ?_
      have hr:=Option.some.inj h
      subst hr
      exact qah (.inr rfl) [] (objs':=[.box [.d (.int .i64 a2_.qaw),.d (.cx .f32 a2_.Own.re a2_.Own.im),.d (.cx .f32 a2_.Shared.re a2_.Shared.im),.d (.int .i64 a2_.Kind),.d (.cx .f32 a2_.Load.A.re a2_.Load.A.im),.d (.cx .f32 a2_.Load.B.re a2_.Load.B.im),.d (.cx .f32 a2_.Load.C.re a2_.Load.C.im),.d (.int .i64 a2_.qap)]]) (new:=[]) rfl (by simp) (by simp) rfl (by trivial) rfl rfl (by trivial) (fun _=>⟨by simp [V.flat,V.qbd,V.qb6,D.flat],(qd1 (by simp [AObj.flat,V.qb6,D.flat]) qal)⟩) ⟨rfl,rfl,rfl⟩
    · have h:=if_f h hc5
      refine qa7 ?_
      refine qa2 ?_
      refine qa0 hτ rfl rfl rfl ?_
      refine qa0 hτ rfl rfl rfl ?_
      refine qa0 hτ (v:=.d (.bool (decide (a2_.Kind = (1:Int))))) rfl rfl (qj3 _ _) ?_
      refine qa0 hτ rfl rfl rfl ?_
      refine qa4 ?_
      refine qaz rfl (fun hc8=>?_) (fun hc8=>?_)
      · have h:=if_t h hc8
        refine qa7 ?_
        refine qa2 ?_
        refine qa0 hτ rfl rfl rfl ?_
        refine qa0 hτ rfl rfl rfl ?_
        refine qa4 ?_
        refine qa9 (qa3 [0] (l:=[(5,.d (.cx .f32 load_.re load_.im))]) (objs:=[.box [.d (.int .i64 a2_.qaw),.d (.cx .f32 a2_.Own.re a2_.Own.im),.d (.cx .f32 a2_.Shared.re a2_.Shared.im),.d (.int .i64 a2_.Kind),.d (.cx .f32 a2_.Load.A.re a2_.Load.A.im),.d (.cx .f32 a2_.Load.B.re a2_.Load.B.im),.d (.cx .f32 a2_.Load.C.re a2_.Load.C.im),.d (.int .i64 a2_.qap)]]) rfl (by simp) rfl (by trivial) ⟨rfl,trivial,trivial⟩) ?_
        refine qar ?_
        have hr:=Option.some.inj h
        subst hr
        exact qah (.inr rfl) [] (objs':=[.box [.d (.int .i64 a2_.qaw),.d (.cx .f32 a2_.Own.re a2_.Own.im),.d (.cx .f32 a2_.Shared.re a2_.Shared.im),.d (.int .i64 a2_.Kind),.d (.cx .f32 a2_.Load.A.re a2_.Load.A.im),.d (.cx .f32 a2_.Load.B.re a2_.Load.B.im),.d (.cx .f32 a2_.Load.C.re a2_.Load.C.im),.d (.int .i64 a2_.qap)]]) (new:=[]) rfl (by simp) (by simp) rfl (by trivial) rfl rfl (by trivial) (fun _=>⟨by simp [V.flat,V.qbd,V.qb6,D.flat],(qd1 (by simp [AObj.flat,V.qb6,D.flat]) qal)⟩) ⟨rfl,rfl,rfl⟩
      · have h:=if_f h hc8
        refine qa7 ?_
        refine qa2 ?_
        refine qa0 hτ rfl rfl rfl ?_
        refine qa0 hτ rfl rfl rfl ?_
        refine qa0 hτ (v:=.d (.bool (decide (a2_.Kind = (2:Int))))) rfl rfl (qj3 _ _) ?_
        refine qa0 hτ rfl rfl rfl ?_
        refine qa4 ?_
        refine qa9 (qa3 [0] (l:=[(0,.d (.cx .f32 load_.re load_.im)),(1,.d (.cx .f32 v_.re v_.im)),(22,.d (.bool (decide (a2_.Kind = (2:Int)))))]) (objs:=[.box [.d (.int .i64 a2_.qaw),.d (.cx .f32 a2_.Own.re a2_.Own.im),.d (.cx .f32 a2_.Shared.re a2_.Shared.im),.d (.int .i64 a2_.Kind),.d (.cx .f32 a2_.Load.A.re a2_.Load.A.im),.d (.cx .f32 a2_.Load.B.re a2_.Load.B.im),.d (.cx .f32 a2_.Load.C.re a2_.Load.C.im),.d (.int .i64 a2_.qap)]]) rfl (by simp) rfl (by trivial) ⟨rfl,trivial,rfl,trivial,rfl,trivial,trivial⟩) ?_
        refine qaz rfl (fun hc9=>?_) (fun hc9=>?_)
        · have h:=if_t h hc9
          refine qa7 ?_
          refine qa2 ?_
          refine qa0 hτ rfl rfl rfl ?_
          refine qa0 hτ rfl rfl rfl ?_
          refine qab h fun x10 hx10 h=>?_
          refine qad hτ false [] rfl rfl rfl (qaf func65 rfl rfl) rfl rfl (by simp) ⟨trivial,trivial,trivial⟩ (by trivial) (qgm n v_ load_ hx10) ?_
          rintro r0 o0 n0 ⟨rfl,rfl,rfl⟩ -
          refine qa0 hτ rfl rfl rfl ?_
          refine qa4 ?_
          refine qa9 (qa3 [0] (l:=[(5,.d (.cx .f32 x10.re x10.im))]) (objs:=[.box [.d (.int .i64 a2_.qaw),.d (.cx .f32 a2_.Own.re a2_.Own.im),.d (.cx .f32 a2_.Shared.re a2_.Shared.im),.d (.int .i64 a2_.Kind),.d (.cx .f32 a2_.Load.A.re a2_.Load.A.im),.d (.cx .f32 a2_.Load.B.re a2_.Load.B.im),.d (.cx .f32 a2_.Load.C.re a2_.Load.C.im),.d (.int .i64 a2_.qap)]]) rfl (by simp) rfl (by trivial) ⟨rfl,trivial,trivial⟩) ?_
          refine qar ?_
          have hr:=Option.some.inj h
          subst hr
          exact qah (.inr rfl) [] (objs':=[.box [.d (.int .i64 a2_.qaw),.d (.cx .f32 a2_.Own.re a2_.Own.im),.d (.cx .f32 a2_.Shared.re a2_.Shared.im),.d (.int .i64 a2_.Kind),.d (.cx .f32 a2_.Load.A.re a2_.Load.A.im),.d (.cx .f32 a2_.Load.B.re a2_.Load.B.im),.d (.cx .f32 a2_.Load.C.re a2_.Load.C.im),.d (.int .i64 a2_.qap)]]) (new:=[]) rfl (by simp) (by simp) rfl (by trivial) rfl rfl (by trivial) (fun _=>⟨by simp [V.flat,V.qbd,V.qb6,D.flat],(qd1 (by simp [AObj.flat,V.qb6,D.flat]) qal)⟩) ⟨rfl,rfl,rfl⟩
        · have h:=if_f h hc9
          refine qb4 ?_
          refine qa7 ?_
          refine qa2 ?_
          refine qa0 hτ rfl rfl rfl ?_
          refine qa4 ?_
          refine qa9 (qa3 [0] (l:=[(5,.d (.cx .f32 (0:Nat) (0:Nat)))]) (objs:=[.box [.d (.int .i64 a2_.qaw),.d (.cx .f32 a2_.Own.re a2_.Own.im),.d (.cx .f32 a2_.Shared.re a2_.Shared.im),.d (.int .i64 a2_.Kind),.d (.cx .f32 a2_.Load.A.re a2_.Load.A.im),.d (.cx .f32 a2_.Load.B.re a2_.Load.B.im),.d (.cx .f32 a2_.Load.C.re a2_.Load.C.im),.d (.int .i64 a2_.qap)]]) rfl (by simp) rfl (by trivial) ⟨rfl,trivial,trivial⟩) ?_
          refine qar ?_
          have hr:=Option.some.inj h
          subst hr
          exact qah (.inr rfl) [] (objs':=[.box [.d (.int .i64 a2_.qaw),.d (.cx .f32 a2_.Own.re a2_.Own.im),.d (.cx .f32 a2_.Shared.re a2_.Shared.im),.d (.int .i64 a2_.Kind),.d (.cx .f32 a2_.Load.A.re a2_.Load.A.im),.d (.cx .f32 a2_.Load.B.re a2_.Load.B.im),.d (.cx .f32 a2_.Load.C.re a2_.Load.C.im),.d (.int .i64 a2_.qap)]]) (new:=[]) rfl (by simp) (by simp) rfl (by trivial) rfl rfl (by trivial) (fun _=>⟨by simp [V.flat,V.qbd,V.qb6,D.flat],(qd1 (by simp [AObj.flat,V.qb6,D.flat]) qal)⟩) ⟨rfl,rfl,rfl⟩
theorem qew (n:Nat) (load_:Cx) (v_:Cx) (a2_:SBus) {r:Cx} (h:qb5 n load_ v_ a2_ = some r):qay prog false 177 [.d (.cx .f32 load_.re load_.im),.d (.cx .f32 v_.re v_.im),.ptr 0 0] [.box [.d (.int .i64 a2_.qaw),.d (.cx .f32 a2_.Own.re a2_.Own.im),.d (.cx .f32 a2_.Shared.re a2_.Shared.im),.d (.int .i64 a2_.Kind),.d (.cx .f32 a2_.Load.A.re a2_.Load.A.im),.d (.cx .f32 a2_.Load.B.re a2_.Load.B.im),.d (.cx .f32 a2_.Load.C.re a2_.Load.C.im),.d (.int .i64 a2_.qap)]] (fun v o new=>v = .d (.cx .f32 r.re r.im)∧o = [.box [.d (.int .i64 a2_.qaw),.d (.cx .f32 a2_.Own.re a2_.Own.im),.d (.cx .f32 a2_.Shared.re a2_.Shared.im),.d (.int .i64 a2_.Kind),.d (.cx .f32 a2_.Load.A.re a2_.Load.A.im),.d (.cx .f32 a2_.Load.B.re a2_.Load.B.im),.d (.cx .f32 a2_.Load.C.re a2_.Load.C.im),.d (.int .i64 a2_.qap)]]∧new = []):=impl_LoadCurrentOf_1_ok_fr0 false n load_ v_ a2_ h
def qi1 (n:Nat) (a_:qa5) (b_:qa5) (c_:SBus):Option qa5 :=
  (qb5 n a_.A b_.A c_).bind fun x4 =>
  (qb5 n a_.B b_.B c_).bind fun x5 =>
  (qb5 n a_.C b_.C c_).bind fun x6 =>
  some (qa5.mk x4 x5 x6)
theorem impl_each_ok_fr0 (fr:Bool) (n:Nat) (a_:qa5) (b_:qa5) (c_:SBus) {r:qa5} (h:qi1 n a_ b_ c_ = some r):qay prog fr 157 [.agg [.d (.cx .f32 a_.A.re a_.A.im),.d (.cx .f32 a_.B.re a_.B.im),.d (.cx .f32 a_.C.re a_.C.im)],.agg [.d (.cx .f32 b_.A.re b_.A.im),.d (.cx .f32 b_.B.re b_.B.im),.d (.cx .f32 b_.C.re b_.C.im)],.func 177 [] [.ptr 0 0]] [.box [.d (.int .i64 c_.qaw),.d (.cx .f32 c_.Own.re c_.Own.im),.d (.cx .f32 c_.Shared.re c_.Shared.im),.d (.int .i64 c_.Kind),.d (.cx .f32 c_.Load.A.re c_.Load.A.im),.d (.cx .f32 c_.Load.B.re c_.Load.B.im),.d (.cx .f32 c_.Load.C.re c_.Load.C.im),.d (.int .i64 c_.qap)]] (fun v o new=>v = .agg [.d (.cx .f32 r.A.re r.A.im),.d (.cx .f32 r.B.re r.B.im),.d (.cx .f32 r.C.re r.C.im)]∧o = [.box [.d (.int .i64 c_.qaw),.d (.cx .f32 c_.Own.re c_.Own.im),.d (.cx .f32 c_.Shared.re c_.Shared.im),.d (.int .i64 c_.Kind),.d (.cx .f32 c_.Load.A.re c_.Load.A.im),.d (.cx .f32 c_.Load.B.re c_.Load.B.im),.d (.cx .f32 c_.Load.C.re c_.Load.C.im),.d (.int .i64 c_.qap)]]∧new = []):=by
  refine qai hτ func157 rfl (by simp) (by simp) ?_
  unfold qi1 at h
  refine qa7 ?_
  refine qa2 ?_
  refine qaj hτ rfl rfl rfl ?_
  refine qaj hτ rfl rfl rfl ?_
  refine qaj hτ rfl rfl rfl ?_
  refine qa4 ?_
  refine qa7 ?_
  refine qdj ?_
  refine qac hτ [] 0 rfl rfl rfl rfl rfl ?_
  refine qac hτ [1] 1 rfl rfl rfl rfl rfl ?_
  refine qac hτ [1] 2 rfl rfl rfl rfl rfl ?_
  refine qac hτ [2] 3 rfl rfl rfl rfl rfl ?_
  refine qac hτ [2] 4 rfl rfl rfl rfl rfl ?_
  refine qac hτ [] 6 rfl rfl rfl rfl rfl ?_
  refine qac hτ [1] 7 rfl rfl rfl rfl rfl ?_
  refine qac hτ [1] 8 rfl rfl rfl rfl rfl ?_
  refine qac hτ [2] 9 rfl rfl rfl rfl rfl ?_
  refine qac hτ [2] 10 rfl rfl rfl rfl rfl ?_
  refine qac hτ [] 12 rfl rfl rfl rfl rfl ?_
  refine qac hτ [1] 13 rfl rfl rfl rfl rfl ?_
  refine qac hτ [1] 14 rfl rfl rfl rfl rfl ?_
  refine qac hτ [2] 15 rfl rfl rfl rfl rfl ?_
  refine qac hτ [2] 16 rfl rfl rfl rfl rfl ?_
  refine qab h fun x4 hx4 h=>?_
  refine qb8 hτ false [0] [0,1,2,3] 5 rfl rfl rfl rfl (qaf func177 rfl rfl) rfl rfl (by simp) ⟨trivial,trivial,trivial,trivial⟩ (by trivial) (qew n a_.A b_.A c_ hx4) ⟨rfl,rfl,rfl,rfl,trivial⟩ ?_
  refine qab h fun x5 hx5 h=>?_
  refine qb8 hτ false [0] [0,1,2,3] 11 rfl rfl rfl rfl (qaf func177 rfl rfl) rfl rfl (by simp) ⟨trivial,trivial,trivial,trivial⟩ (by trivial) (qew n a_.B b_.B c_ hx5) ⟨rfl,rfl,rfl,rfl,trivial⟩ ?_
  refine qab h fun x6 hx6 h=>?_
  refine qb8 hτ false [0] [0,1,2,3] 17 rfl rfl rfl rfl (qaf func177 rfl rfl) rfl rfl (by simp) ⟨trivial,trivial,trivial,trivial⟩ (by trivial) (qew n a_.C b_.C c_ hx6) ⟨rfl,rfl,rfl,rfl,trivial⟩ ?_
  refine qac hτ [] 18 rfl rfl rfl rfl rfl ?_
  refine qbs hτ [0,1,2] 19 rfl rfl rfl rfl ⟨rfl,rfl,rfl,trivial⟩ ?_
  refine qe1 mixed (by kernel_rfl) ?_
  refine qa9 (qa3 [0,3] (l:=[(6,.ptr 1 0)]) (objs:=[.box [.d (.int .i64 c_.qaw),.d (.cx .f32 c_.Own.re c_.Own.im),.d (.cx .f32 c_.Shared.re c_.Shared.im),.d (.int .i64 c_.Kind),.d (.cx .f32 c_.Load.A.re c_.Load.A.im),.d (.cx .f32 c_.Load.B.re c_.Load.B.im),.d (.cx .f32 c_.Load.C.re c_.Load.C.im),.d (.int .i64 c_.qap)],.box [.d (.cx .f32 x4.re x4.im),.d (.cx .f32 x5.re x5.im),.d (.cx .f32 x6.re x6.im)]]) rfl (by simp) rfl (by trivial) ⟨rfl,trivial,trivial⟩) ?_
  refine qar ?_
  have hr:=Option.some.inj h
  subst hr
  exact qah (.inr rfl) [] (objs':=[.box [.d (.int .i64 c_.qaw),.d (.cx .f32 c_.Own.re c_.Own.im),.d (.cx .f32 c_.Shared.re c_.Shared.im),.d (.int .i64 c_.Kind),.d (.cx .f32 c_.Load.A.re c_.Load.A.im),.d (.cx .f32 c_.Load.B.re c_.Load.B.im),.d (.cx .f32 c_.Load.C.re c_.Load.C.im),.d (.int .i64 c_.qap)]]) (new:=[]) rfl (by simp) (by simp) rfl (by trivial) rfl rfl (by trivial) (fun _=>⟨by simp [V.flat,V.qbd,V.qb6,D.flat],(qd1 (by simp [AObj.flat,V.qb6,D.flat]) qal)⟩) ⟨rfl,rfl,rfl⟩
theorem impl_each_ok (n:Nat) (a_:qa5) (b_:qa5) (c_:SBus) {r:qa5} (h:qi1 n a_ b_ c_ = some r):qay prog false 157 [.agg [.d (.cx .f32 a_.A.re a_.A.im),.d (.cx .f32 a_.B.re a_.B.im),.d (.cx .f32 a_.C.re a_.C.im)],.agg [.d (.cx .f32 b_.A.re b_.A.im),.d (.cx .f32 b_.B.re b_.B.im),.d (.cx .f32 b_.C.re b_.C.im)],.func 177 [] [.ptr 0 0]] [.box [.d (.int .i64 c_.qaw),.d (.cx .f32 c_.Own.re c_.Own.im),.d (.cx .f32 c_.Shared.re c_.Shared.im),.d (.int .i64 c_.Kind),.d (.cx .f32 c_.Load.A.re c_.Load.A.im),.d (.cx .f32 c_.Load.B.re c_.Load.B.im),.d (.cx .f32 c_.Load.C.re c_.Load.C.im),.d (.int .i64 c_.qap)]] (fun v o new=>v = .agg [.d (.cx .f32 r.A.re r.A.im),.d (.cx .f32 r.B.re r.B.im),.d (.cx .f32 r.C.re r.C.im)]∧o = [.box [.d (.int .i64 c_.qaw),.d (.cx .f32 c_.Own.re c_.Own.im),.d (.cx .f32 c_.Shared.re c_.Shared.im),.d (.int .i64 c_.Kind),.d (.cx .f32 c_.Load.A.re c_.Load.A.im),.d (.cx .f32 c_.Load.B.re c_.Load.B.im),.d (.cx .f32 c_.Load.C.re c_.Load.C.im),.d (.int .i64 c_.qap)]]∧new = []):=impl_each_ok_fr0 false n a_ b_ c_ h
def qcn (n:Nat) (b_:SBus) (voltage_:qa5):Option qa5 :=
  (qi1 n b_.Load voltage_ b_).bind fun x2 =>
  some x2
theorem impl_LoadCurrentOf_ok_fr0 (fr:Bool) (n:Nat) (b_:SBus) (voltage_:qa5) {r:qa5} (h:qcn n b_ voltage_ = some r):qay prog fr 160 [.agg [.d (.int .i64 b_.qaw),.d (.cx .f32 b_.Own.re b_.Own.im),.d (.cx .f32 b_.Shared.re b_.Shared.im),.d (.int .i64 b_.Kind),.d (.cx .f32 b_.Load.A.re b_.Load.A.im),.d (.cx .f32 b_.Load.B.re b_.Load.B.im),.d (.cx .f32 b_.Load.C.re b_.Load.C.im),.d (.int .i64 b_.qap)],.agg [.d (.cx .f32 voltage_.A.re voltage_.A.im),.d (.cx .f32 voltage_.B.re voltage_.B.im),.d (.cx .f32 voltage_.C.re voltage_.C.im)]] [] (fun v o new=>v = .agg [.d (.cx .f32 r.A.re r.A.im),.d (.cx .f32 r.B.re r.B.im),.d (.cx .f32 r.C.re r.C.im)]∧o = []∧new = []):=by
  refine qai hτ func160 rfl (by simp) (by simp) ?_
  unfold qcn at h
  refine qa7 ?_
  refine qa2 ?_
  refine qaj hτ rfl rfl rfl ?_
  refine qaj hτ rfl rfl rfl ?_
  refine qaj hτ rfl rfl rfl ?_
  refine qa4 ?_
  refine qa7 ?_
  refine qa2 ?_
  refine qa0 hτ rfl rfl rfl ?_
  refine qa0 hτ rfl rfl rfl ?_
  refine qa0 hτ rfl rfl rfl ?_
  refine qa0 hτ rfl rfl rfl ?_
  refine qab h fun x2 hx2 h=>?_
  refine qad hτ false [0] rfl rfl rfl (qaf func157 rfl rfl) rfl rfl (by simp) ⟨(by trivial),(by trivial),(by trivial),trivial⟩ (by trivial) (impl_each_ok n b_.Load voltage_ b_ hx2) ?_
  rintro r0 o0 n0 ⟨rfl,rfl,rfl⟩ -
  refine qaj hτ rfl rfl rfl ?_
  refine qa4 ?_
  refine qa9 (qa3 [2] (l:=[(4,.ptr 0 0)]) (objs:=[.box [.d (.cx .f32 x2.A.re x2.A.im),.d (.cx .f32 x2.B.re x2.B.im),.d (.cx .f32 x2.C.re x2.C.im)]]) rfl (by simp) rfl (by trivial) ⟨rfl,trivial,trivial⟩) ?_
  refine qar ?_
  have hr:=Option.some.inj h
  subst hr
  exact qah (.inr rfl) [] (objs':=[]) (new:=[]) rfl (by simp) (by simp) rfl (by trivial) rfl rfl (by trivial) (fun _=>⟨by simp [V.flat,V.qbd,V.qb6,D.flat],qal⟩) ⟨rfl,rfl,rfl⟩
theorem impl_LoadCurrentOf_ok (n:Nat) (b_:SBus) (voltage_:qa5) {r:qa5} (h:qcn n b_ voltage_ = some r):qay prog false 160 [.agg [.d (.int .i64 b_.qaw),.d (.cx .f32 b_.Own.re b_.Own.im),.d (.cx .f32 b_.Shared.re b_.Shared.im),.d (.int .i64 b_.Kind),.d (.cx .f32 b_.Load.A.re b_.Load.A.im),.d (.cx .f32 b_.Load.B.re b_.Load.B.im),.d (.cx .f32 b_.Load.C.re b_.Load.C.im),.d (.int .i64 b_.qap)],.agg [.d (.cx .f32 voltage_.A.re voltage_.A.im),.d (.cx .f32 voltage_.B.re voltage_.B.im),.d (.cx .f32 voltage_.C.re voltage_.C.im)]] [] (fun v o new=>v = .agg [.d (.cx .f32 r.A.re r.A.im),.d (.cx .f32 r.B.re r.B.im),.d (.cx .f32 r.C.re r.C.im)]∧o = []∧new = []):=impl_LoadCurrentOf_ok_fr0 false n b_ voltage_ h
def qbl (n:Nat) (f_:qak) (voltages_:List qa5):Nat→List qa5→Int→Option (List qa5)
  | 0,_,_=>none
  | m25 + 1,v17,v18 =>
    if v18 < (f_.qa8.length:Int) then
      (getI f_.qa8 v18).bind fun x28 =>
      (getI voltages_ v18).bind fun x29 =>
      (qcn n x28 x29).bind fun x30 =>
      grd (room (v17.length + 1) 24) <|
      (qbl n f_ voltages_ m25) (v17 ++ [x30]) (w64 (v18 + (1:Int)))
    else
      some v17
def qey (n:Nat) (f_:qak) (voltages_:List qa5):Option (List qa5) :=
  qbl n f_ voltages_ n ([]:List qa5) (0:Int)
theorem impl_Feeder_loads_ok (n:Nat) (f_:qak) (voltages_:List qa5) {r:List qa5} (h:qey n f_ voltages_ = some r):qay prog false 127 [.ptr 0 0,.d (.sl false (voltages_.map qa6))] [.box [.d (.cx .f32 f_.Source.A.re f_.Source.A.im),.d (.cx .f32 f_.Source.B.re f_.Source.B.im),.d (.cx .f32 f_.Source.C.re f_.Source.C.im),.d (.sl false (f_.qa8.map qae))]] (fun v o new=>v = .row 1 r.length 0 r.length∧o = [.box [.d (.cx .f32 f_.Source.A.re f_.Source.A.im),.d (.cx .f32 f_.Source.B.re f_.Source.B.im),.d (.cx .f32 f_.Source.C.re f_.Source.C.im),.d (.sl false (f_.qa8.map qae))]]∧new = [.row 3 (r.map qa6)]):=by
  refine qai hτ func127 rfl (by simp) (by simp) ?_
  unfold qey at h
  refine qa7 ?_
  refine qa2 ?_
  refine qa0 hτ rfl rfl rfl ?_
  refine qa4 ?_
  refine qa7 ?_
  refine qa2 ?_
  refine qaj hτ rfl rfl rfl ?_
  refine qa0 hτ rfl rfl rfl ?_
  refine qa4 ?_
  refine qa7 ?_
  refine qa7 ?_
  refine qa2 ?_
  refine qa0 hτ rfl rfl rfl ?_
  refine qa0 hτ rfl rfl rfl ?_
  refine qa0 hτ rfl rfl rfl ?_
  refine qa0 hτ rfl rfl rfl ?_
  refine qa0 hτ (v:=.d (.int .i64 (f_.qa8.length:Int))) rfl rfl (Eq.trans rfl (qfb (f:=qae) f_.qa8)) ?_
  refine qa0 hτ rfl rfl rfl ?_
  refine qa4 ?_
  refine qbo ?_
  refine qgj (ι:=Nat × List qa5 × Int) (fun (m25,v17,v18)=>St.of [(1,.d (.sl false (voltages_.map qa6))),(5,.row 1 v17.length 0 v17.length),(12,.d (.sl false (f_.qa8.map qae))),(13,.d (.int .i64 (f_.qa8.length:Int))),(14,.d (.int .i64 v18))] [.box [.d (.cx .f32 f_.Source.A.re f_.Source.A.im),.d (.cx .f32 f_.Source.B.re f_.Source.B.im),.d (.cx .f32 f_.Source.C.re f_.Source.C.im),.d (.sl false (f_.qa8.map qae))],.row 3 (v17.map qa6)] f127.ntmps 1) (fun (m25,v17,v18)=>qbl n f_ voltages_ m25 v17 v18 = some r) (fun x=>x.1) (n,([]:List qa5),(0:Int)) h (qa3 [0,1] (l:=[(1,.d (.sl false (voltages_.map qa6))),(5,.row 1 (([]:List qa5).length) 0 (([]:List qa5).length)),(12,.d (.sl false (f_.qa8.map qae))),(13,.d (.int .i64 (f_.qa8.length:Int))),(14,.d (.int .i64 (0:Int)))]) (objs:=[.box [.d (.cx .f32 f_.Source.A.re f_.Source.A.im),.d (.cx .f32 f_.Source.B.re f_.Source.B.im),.d (.cx .f32 f_.Source.C.re f_.Source.C.im),.d (.sl false (f_.qa8.map qae))],.row 3 (([]:List qa5).map qa6)]) rfl (by simp) rfl (by trivial) ⟨rfl,trivial,rfl,trivial,rfl,trivial,rfl,trivial,rfl,trivial,trivial⟩) ?_
  rintro ⟨m25,v17,v18⟩ h
  replace h:qbl n f_ voltages_ m25 v17 v18 = some r:=h
  rcases m25 with _ | m25
  · rw [qbl] at h;cases h
  rw [qbl] at h
  refine qa7 ?_
  refine qa2 ?_
  refine qa0 hτ rfl rfl rfl ?_
  refine qa4 ?_
  refine qa7 ?_
  refine qaz rfl (fun hc27=>?_) (fun hc27=>?_)
  · have h:=if_t h hc27
    refine qb4 ?_
    refine qa7 ?_
    refine qbo ?_
    refine qa7 ?_
    refine qa2 ?_
    refine qa0 hτ rfl rfl rfl ?_
    refine qab h fun x28 hx28 h=>?_
    refine qh0 hτ rfl rfl rfl (qei hx28).1 (qfz hx28) rfl ?_
    refine qa0 hτ rfl rfl rfl ?_
    refine qaj hτ rfl rfl rfl ?_
    refine qa0 hτ rfl rfl rfl ?_
    refine qaj hτ rfl rfl rfl ?_
    refine qa4 ?_
    refine qa9 (qa3 [0,1,2] (l:=[(1,.d (.sl false (voltages_.map qa6))),(5,.row 1 v17.length 0 v17.length),(6,.d (.int .i64 v18)),(7,.ptr 2 0),(12,.d (.sl false (f_.qa8.map qae))),(13,.d (.int .i64 (f_.qa8.length:Int))),(14,.d (.int .i64 v18))]) (objs:=[.box [.d (.cx .f32 f_.Source.A.re f_.Source.A.im),.d (.cx .f32 f_.Source.B.re f_.Source.B.im),.d (.cx .f32 f_.Source.C.re f_.Source.C.im),.d (.sl false (f_.qa8.map qae))],.row 3 (v17.map qa6),.box [.d (.int .i64 x28.qaw),.d (.cx .f32 x28.Own.re x28.Own.im),.d (.cx .f32 x28.Shared.re x28.Shared.im),.d (.int .i64 x28.Kind),.d (.cx .f32 x28.Load.A.re x28.Load.A.im),.d (.cx .f32 x28.Load.B.re x28.Load.B.im),.d (.cx .f32 x28.Load.C.re x28.Load.C.im),.d (.int .i64 x28.qap)]]) rfl (by simp) rfl (by trivial) ⟨rfl,trivial,rfl,trivial,rfl,trivial,rfl,trivial,rfl,trivial,rfl,trivial,rfl,trivial,trivial⟩) ?_
    refine qdj ?_
    refine qac hτ [] 0 rfl rfl rfl rfl rfl ?_
    refine qac hτ [2] 1 rfl rfl rfl rfl rfl ?_
    refine qac hτ [] 2 rfl rfl rfl rfl rfl ?_
    refine qac hτ [] 3 rfl rfl rfl rfl rfl ?_
    refine qab h fun x29 hx29 h=>?_
    refine qgg hτ [] 4 rfl rfl rfl rfl rfl (qei hx29).1 (qfz hx29) rfl ?_
    refine qac hτ [] 5 rfl rfl rfl rfl rfl ?_
    refine qab h fun x30 hx30 h=>?_
    refine qb8 hτ false [] [0,1,2] 6 rfl rfl rfl rfl (qaf func160 rfl rfl) rfl rfl (by simp) ⟨(by trivial),(by trivial),trivial⟩ (by trivial) (impl_LoadCurrentOf_ok n x28 x29 hx30) ⟨rfl,rfl,rfl,trivial⟩ ?_
    refine qbs hτ [0,1,2] 7 rfl rfl rfl rfl ⟨rfl,rfl,rfl,trivial⟩ ?_
    refine qcq h fun hg31 h=>?_
    refine qg7 hτ [0,2,3] 8 rfl rfl rfl (Eq.trans rfl (or_append (f:=qa6) v17 [x30] rfl)) ⟨⟨rfl,Nat.le_of_ble_eq_true rfl⟩,qbu _,rfl,rfl,hg31,by decide,(all1 rfl)⟩ ⟨rfl,rfl,rfl,trivial⟩ ?_
    refine qac hτ [] 9 rfl rfl rfl rfl rfl ?_
    refine qe1 mixed (by kernel_rfl) ?_
    refine qa9 (qa3 [0,1] (l:=[(1,.d (.sl false (voltages_.map qa6))),(5,.row 1 ((v17 ++ [x30]).length) 0 ((v17 ++ [x30]).length)),(12,.d (.sl false (f_.qa8.map qae))),(13,.d (.int .i64 (f_.qa8.length:Int))),(14,.d (.int .i64 v18))]) (objs:=[.box [.d (.cx .f32 f_.Source.A.re f_.Source.A.im),.d (.cx .f32 f_.Source.B.re f_.Source.B.im),.d (.cx .f32 f_.Source.C.re f_.Source.C.im),.d (.sl false (f_.qa8.map qae))],.row 3 ((v17 ++ [x30]).map qa6)]) rfl (by simp) rfl (by trivial) ⟨rfl,trivial,rfl,trivial,rfl,trivial,rfl,trivial,rfl,trivial,trivial⟩) ?_
    refine qa2 ?_
    refine qa0 hτ rfl rfl rfl ?_
    refine qa0 hτ rfl rfl rfl ?_
    refine qa4 ?_
    exact ⟨(m25,(v17 ++ [x30]),(w64 (v18 + (1:Int)))),h,Nat.lt_succ_self m25,(qa3 [0,1] (l:=[(1,.d (.sl false (voltages_.map qa6))),(5,.row 1 ((v17 ++ [x30]).length) 0 ((v17 ++ [x30]).length)),(12,.d (.sl false (f_.qa8.map qae))),(13,.d (.int .i64 (f_.qa8.length:Int))),(14,.d (.int .i64 (w64 (v18 + (1:Int)))))]) (objs:=[.box [.d (.cx .f32 f_.Source.A.re f_.Source.A.im),.d (.cx .f32 f_.Source.B.re f_.Source.B.im),.d (.cx .f32 f_.Source.C.re f_.Source.C.im),.d (.sl false (f_.qa8.map qae))],.row 3 ((v17 ++ [x30]).map qa6)]) rfl (by simp) rfl (by trivial) ⟨rfl,trivial,rfl,trivial,rfl,trivial,rfl,trivial,rfl,trivial,trivial⟩)⟩
  · have h:=if_f h hc27
    refine qgi ?_
    refine qa7 ?_
    refine qa2 ?_
    refine qa0 hτ rfl rfl rfl ?_
    refine qa0 hτ rfl rfl rfl ?_
    refine qa4 ?_
    refine qa9 (qa3 [0,1] (l:=[(4,.row 1 v17.length 0 v17.length)]) (objs:=[.box [.d (.cx .f32 f_.Source.A.re f_.Source.A.im),.d (.cx .f32 f_.Source.B.re f_.Source.B.im),.d (.cx .f32 f_.Source.C.re f_.Source.C.im),.d (.sl false (f_.qa8.map qae))],.row 3 (v17.map qa6)]) rfl (by simp) rfl (by trivial) ⟨rfl,trivial,trivial⟩) ?_
    refine qar ?_
    have hr:=Option.some.inj h
    subst hr
    exact qah (.inr rfl) [1] (objs':=[.box [.d (.cx .f32 f_.Source.A.re f_.Source.A.im),.d (.cx .f32 f_.Source.B.re f_.Source.B.im),.d (.cx .f32 f_.Source.C.re f_.Source.C.im),.d (.sl false (f_.qa8.map qae))]]) (new:=[.row 3 (v17.map qa6)]) rfl (by simp) (by simp) rfl (by trivial) rfl rfl (by trivial) (fun h=>nomatch h) ⟨rfl,rfl,rfl⟩
def qg4 (n:Nat) (__:Int) (p_:qa5):Option qa5 :=
  some p_
theorem impl_same_ok_fr0 (fr:Bool) (n:Nat) (__:Int) (p_:qa5) {r:qa5} (h:qg4 n __ p_ = some r):qay prog fr 62 [.d (.int .i64 __),.agg [.d (.cx .f32 p_.A.re p_.A.im),.d (.cx .f32 p_.B.re p_.B.im),.d (.cx .f32 p_.C.re p_.C.im)]] [] (fun v o new=>v = .agg [.d (.cx .f32 r.A.re r.A.im),.d (.cx .f32 r.B.re r.B.im),.d (.cx .f32 r.C.re r.C.im)]∧o = []∧new = []):=by
  refine qai hτ func62 rfl (by simp) (by simp) ?_
  unfold qg4 at h
  refine qa7 ?_
  refine qa2 ?_
  refine qaj hτ rfl rfl rfl ?_
  refine qaj hτ rfl rfl rfl ?_
  refine qa4 ?_
  refine qa7 ?_
  refine qa2 ?_
  refine qa0 hτ rfl rfl rfl ?_
  refine qaj hτ rfl rfl rfl ?_
  refine qa4 ?_
  refine qa9 (qa3 [1] (l:=[(4,.ptr 0 0)]) (objs:=[.box [.d (.cx .f32 p_.A.re p_.A.im),.d (.cx .f32 p_.B.re p_.B.im),.d (.cx .f32 p_.C.re p_.C.im)]]) rfl (by simp) rfl (by trivial) ⟨rfl,trivial,trivial⟩) ?_
  refine qar ?_
  have hr:=Option.some.inj h
  subst hr
  exact qah (.inr rfl) [] (objs':=[]) (new:=[]) rfl (by simp) (by simp) rfl (by trivial) rfl rfl (by trivial) (fun _=>⟨by simp [V.flat,V.qbd,V.qb6,D.flat],qal⟩) ⟨rfl,rfl,rfl⟩
theorem qkr (n:Nat) (__:Int) (p_:qa5) {r:qa5} (h:qg4 n __ p_ = some r):qay prog false 62 [.d (.int .i64 __),.agg [.d (.cx .f32 p_.A.re p_.A.im),.d (.cx .f32 p_.B.re p_.B.im),.d (.cx .f32 p_.C.re p_.C.im)]] [] (fun v o new=>v = .agg [.d (.cx .f32 r.A.re r.A.im),.d (.cx .f32 r.B.re r.B.im),.d (.cx .f32 r.C.re r.C.im)]∧o = []∧new = []):=impl_same_ok_fr0 false n __ p_ h
def qgw (n:Nat) (x_:Cx) (y_:Cx):Option Cx :=
  some (Cx.mk (qa1 .add .f32 x_.re y_.re) (qa1 .add .f32 x_.im y_.im))
theorem impl_plus_ok_fr0 (fr:Bool) (n:Nat) (x_:Cx) (y_:Cx) {r:Cx} (h:qgw n x_ y_ = some r):qay prog fr 176 [.d (.cx .f32 x_.re x_.im),.d (.cx .f32 y_.re y_.im)] [] (fun v o new=>v = .d (.cx .f32 r.re r.im)∧o = []∧new = []):=by
  refine qai hτ func176 rfl (by simp) (by simp) ?_
  unfold qgw at h
  refine qa7 ?_
  refine qa2 ?_
  refine qa0 hτ rfl rfl rfl ?_
  refine qa4 ?_
  refine qa7 ?_
  refine qa2 ?_
  refine qa0 hτ rfl rfl rfl ?_
  refine qa0 hτ rfl rfl rfl ?_
  refine qa0 hτ rfl rfl rfl ?_
  refine qa0 hτ rfl rfl rfl ?_
  refine qa4 ?_
  refine qa9 (qa3 [] (l:=[(4,.d (.cx .f32 (qa1 .add .f32 x_.re y_.re) (qa1 .add .f32 x_.im y_.im)))]) (objs:=[]) rfl (by simp) rfl (by trivial) ⟨rfl,trivial,trivial⟩) ?_
  refine qar ?_
  have hr:=Option.some.inj h
  subst hr
  exact qah (.inr rfl) [] (objs':=[]) (new:=[]) rfl (by simp) (by simp) rfl (by trivial) rfl rfl (by trivial) (fun _=>⟨by simp [V.flat,V.qbd,V.qb6,D.flat],qal⟩) ⟨rfl,rfl,rfl⟩
theorem qj1 (n:Nat) (x_:Cx) (y_:Cx) {r:Cx} (h:qgw n x_ y_ = some r):qay prog false 176 [.d (.cx .f32 x_.re x_.im),.d (.cx .f32 y_.re y_.im)] [] (fun v o new=>v = .d (.cx .f32 r.re r.im)∧o = []∧new = []):=impl_plus_ok_fr0 false n x_ y_ h
def qhn (n:Nat) (a_:qa5) (b_:qa5):Option qa5 :=
  (qgw n a_.A b_.A).bind fun x4 =>
  (qgw n a_.B b_.B).bind fun x5 =>
  (qgw n a_.C b_.C).bind fun x6 =>
  some (qa5.mk x4 x5 x6)
theorem impl_each_2_ok_fr0 (fr:Bool) (n:Nat) (a_:qa5) (b_:qa5) {r:qa5} (h:qhn n a_ b_ = some r):qay prog fr 157 [.agg [.d (.cx .f32 a_.A.re a_.A.im),.d (.cx .f32 a_.B.re a_.B.im),.d (.cx .f32 a_.C.re a_.C.im)],.agg [.d (.cx .f32 b_.A.re b_.A.im),.d (.cx .f32 b_.B.re b_.B.im),.d (.cx .f32 b_.C.re b_.C.im)],.func 176 [] []] [] (fun v o new=>v = .agg [.d (.cx .f32 r.A.re r.A.im),.d (.cx .f32 r.B.re r.B.im),.d (.cx .f32 r.C.re r.C.im)]∧o = []∧new = []):=by
  refine qai hτ func157 rfl (by simp) (by simp) ?_
  unfold qhn at h
  refine qa7 ?_
  refine qa2 ?_
  refine qaj hτ rfl rfl rfl ?_
  refine qaj hτ rfl rfl rfl ?_
  refine qaj hτ rfl rfl rfl ?_
  refine qa4 ?_
  refine qa7 ?_
  refine qdj ?_
  refine qac hτ [] 0 rfl rfl rfl rfl rfl ?_
  refine qac hτ [0] 1 rfl rfl rfl rfl rfl ?_
  refine qac hτ [0] 2 rfl rfl rfl rfl rfl ?_
  refine qac hτ [1] 3 rfl rfl rfl rfl rfl ?_
  refine qac hτ [1] 4 rfl rfl rfl rfl rfl ?_
  refine qac hτ [] 6 rfl rfl rfl rfl rfl ?_
  refine qac hτ [0] 7 rfl rfl rfl rfl rfl ?_
  refine qac hτ [0] 8 rfl rfl rfl rfl rfl ?_
  refine qac hτ [1] 9 rfl rfl rfl rfl rfl ?_
  refine qac hτ [1] 10 rfl rfl rfl rfl rfl ?_
  refine qac hτ [] 12 rfl rfl rfl rfl rfl ?_
  refine qac hτ [0] 13 rfl rfl rfl rfl rfl ?_
  refine qac hτ [0] 14 rfl rfl rfl rfl rfl ?_
  refine qac hτ [1] 15 rfl rfl rfl rfl rfl ?_
  refine qac hτ [1] 16 rfl rfl rfl rfl rfl ?_
  refine qab h fun x4 hx4 h=>?_
  refine qb8 hτ false [] [0,1,2] 5 rfl rfl rfl rfl (qaf func176 rfl rfl) rfl rfl (by simp) ⟨trivial,trivial,trivial⟩ (by trivial) (qj1 n a_.A b_.A hx4) ⟨rfl,rfl,rfl,trivial⟩ ?_
  refine qab h fun x5 hx5 h=>?_
  refine qb8 hτ false [] [0,1,2] 11 rfl rfl rfl rfl (qaf func176 rfl rfl) rfl rfl (by simp) ⟨trivial,trivial,trivial⟩ (by trivial) (qj1 n a_.B b_.B hx5) ⟨rfl,rfl,rfl,trivial⟩ ?_
  refine qab h fun x6 hx6 h=>?_
  refine qb8 hτ false [] [0,1,2] 17 rfl rfl rfl rfl (qaf func176 rfl rfl) rfl rfl (by simp) ⟨trivial,trivial,trivial⟩ (by trivial) (qj1 n a_.C b_.C hx6) ⟨rfl,rfl,rfl,trivial⟩ ?_
  refine qac hτ [] 18 rfl rfl rfl rfl rfl ?_
  refine qbs hτ [0,1] 19 rfl rfl rfl rfl ⟨rfl,rfl,trivial⟩ ?_
  refine qe1 mixed (by kernel_rfl) ?_
  refine qa9 (qa3 [2] (l:=[(6,.ptr 0 0)]) (objs:=[.box [.d (.cx .f32 x4.re x4.im),.d (.cx .f32 x5.re x5.im),.d (.cx .f32 x6.re x6.im)]]) rfl (by simp) rfl (by trivial) ⟨rfl,trivial,trivial⟩) ?_
  refine qar ?_
  have hr:=Option.some.inj h
  subst hr
  exact qah (.inr rfl) [] (objs':=[]) (new:=[]) rfl (by simp) (by simp) rfl (by trivial) rfl rfl (by trivial) (fun _=>⟨by simp [V.flat,V.qbd,V.qb6,D.flat],qal⟩) ⟨rfl,rfl,rfl⟩
theorem impl_each_2_ok (n:Nat) (a_:qa5) (b_:qa5) {r:qa5} (h:qhn n a_ b_ = some r):qay prog false 157 [.agg [.d (.cx .f32 a_.A.re a_.A.im),.d (.cx .f32 a_.B.re a_.B.im),.d (.cx .f32 a_.C.re a_.C.im)],.agg [.d (.cx .f32 b_.A.re b_.A.im),.d (.cx .f32 b_.B.re b_.B.im),.d (.cx .f32 b_.C.re b_.C.im)],.func 176 [] []] [] (fun v o new=>v = .agg [.d (.cx .f32 r.A.re r.A.im),.d (.cx .f32 r.B.re r.B.im),.d (.cx .f32 r.C.re r.C.im)]∧o = []∧new = []):=impl_each_2_ok_fr0 false n a_ b_ h
def qf2 (n:Nat) (a_:qa5) (b_:qa5):Option qa5 :=
  (qhn n a_ b_).bind fun x2 =>
  some x2
theorem impl_AddPhases_ok_fr0 (fr:Bool) (n:Nat) (a_:qa5) (b_:qa5) {r:qa5} (h:qf2 n a_ b_ = some r):qay prog fr 159 [.agg [.d (.cx .f32 a_.A.re a_.A.im),.d (.cx .f32 a_.B.re a_.B.im),.d (.cx .f32 a_.C.re a_.C.im)],.agg [.d (.cx .f32 b_.A.re b_.A.im),.d (.cx .f32 b_.B.re b_.B.im),.d (.cx .f32 b_.C.re b_.C.im)]] [] (fun v o new=>v = .agg [.d (.cx .f32 r.A.re r.A.im),.d (.cx .f32 r.B.re r.B.im),.d (.cx .f32 r.C.re r.C.im)]∧o = []∧new = []):=by
  refine qai hτ func159 rfl (by simp) (by simp) ?_
  unfold qf2 at h
  refine qa7 ?_
  refine qa2 ?_
  refine qaj hτ rfl rfl rfl ?_
  refine qaj hτ rfl rfl rfl ?_
  refine qaj hτ rfl rfl rfl ?_
  refine qa4 ?_
  refine qa7 ?_
  refine qa2 ?_
  refine qa0 hτ rfl rfl rfl ?_
  refine qa0 hτ rfl rfl rfl ?_
  refine qab h fun x2 hx2 h=>?_
  refine qad hτ false [] rfl rfl rfl (qaf func157 rfl rfl) rfl rfl (by simp) ⟨(by trivial),(by trivial),(by trivial),trivial⟩ (by trivial) (impl_each_2_ok n a_ b_ hx2) ?_
  rintro r0 o0 n0 ⟨rfl,rfl,rfl⟩ -
  refine qaj hτ rfl rfl rfl ?_
  refine qa4 ?_
  refine qa9 (qa3 [2] (l:=[(4,.ptr 0 0)]) (objs:=[.box [.d (.cx .f32 x2.A.re x2.A.im),.d (.cx .f32 x2.B.re x2.B.im),.d (.cx .f32 x2.C.re x2.C.im)]]) rfl (by simp) rfl (by trivial) ⟨rfl,trivial,trivial⟩) ?_
  refine qar ?_
  have hr:=Option.some.inj h
  subst hr
  exact qah (.inr rfl) [] (objs':=[]) (new:=[]) rfl (by simp) (by simp) rfl (by trivial) rfl rfl (by trivial) (fun _=>⟨by simp [V.flat,V.qbd,V.qb6,D.flat],qal⟩) ⟨rfl,rfl,rfl⟩
theorem impl_AddPhases_ok (n:Nat) (a_:qa5) (b_:qa5) {r:qa5} (h:qf2 n a_ b_ = some r):qay prog false 159 [.agg [.d (.cx .f32 a_.A.re a_.A.im),.d (.cx .f32 a_.B.re a_.B.im),.d (.cx .f32 a_.C.re a_.C.im)],.agg [.d (.cx .f32 b_.A.re b_.A.im),.d (.cx .f32 b_.B.re b_.B.im),.d (.cx .f32 b_.C.re b_.C.im)]] [] (fun v o new=>v = .agg [.d (.cx .f32 r.A.re r.A.im),.d (.cx .f32 r.B.re r.B.im),.d (.cx .f32 r.C.re r.C.im)]∧o = []∧new = []):=impl_AddPhases_ok_fr0 false n a_ b_ h
def qbn (n:Nat) (f_:qak):Nat→List qa5→Int→Option (List qa5)
  | 0,_,_=>none
  | m35 + 1,v25,v26 =>
    if v26 > (0:Int) then
      (getI v25 v26).bind fun x38 =>
      (qg4 n v26 x38).bind fun x39 =>
      (getI f_.qa8 v26).bind fun x40 =>
      (getI (v25.set v26.toNat x39) x40.qaw).bind fun x41 =>
      (getI (v25.set v26.toNat x39) v26).bind fun x42 =>
      (qf2 n x41 x42).bind fun x43 =>
      (qbn n f_ m35) ((v25.set v26.toNat x39).set x40.qaw.toNat x43) (w64 (v26 - (1:Int)))
    else
      some v25
def qe6 (n:Nat) (f_:qak) (loads_:List qa5):Option (List qa5) :=
  (qca n loads_).bind fun x18 =>
  qbn n f_ n x18 (w64 ((x18.length:Int) - (1:Int)))
theorem impl_Feeder_back_ok (n:Nat) (f_:qak) (loads_:List qa5) {r:List qa5} (h:qe6 n f_ loads_ = some r):qay prog false 126 [.ptr 0 0,.d (.sl false (loads_.map qa6)),.func 62 [] []] [.box [.d (.cx .f32 f_.Source.A.re f_.Source.A.im),.d (.cx .f32 f_.Source.B.re f_.Source.B.im),.d (.cx .f32 f_.Source.C.re f_.Source.C.im),.d (.sl false (f_.qa8.map qae))]] (fun v o new=>v = .row 1 r.length 0 r.length∧o = [.box [.d (.cx .f32 f_.Source.A.re f_.Source.A.im),.d (.cx .f32 f_.Source.B.re f_.Source.B.im),.d (.cx .f32 f_.Source.C.re f_.Source.C.im),.d (.sl false (f_.qa8.map qae))]]∧new = [.row 3 (r.map qa6)]):=by
  refine qai hτ func126 rfl (by simp) (by simp) ?_
  unfold qe6 at h
  refine qa7 ?_
  refine qa2 ?_
  refine qa0 hτ rfl rfl rfl ?_
  refine qa4 ?_
  refine qa7 ?_
  refine qa2 ?_
  refine qa0 hτ rfl rfl rfl ?_
  refine qab h fun x18 hx18 h=>?_
  refine qad hτ false [] rfl rfl rfl (qaf func113 rfl rfl) rfl rfl (by simp) ⟨trivial,trivial⟩ (by trivial) (qdu n loads_ hx18) ?_
  rintro r0 o0 n0 ⟨rfl,rfl,rfl⟩ -
  refine qa0 hτ rfl rfl rfl ?_
  refine qa4 ?_
  refine qa7 ?_
  refine qa7 ?_
  refine qa2 ?_
  refine qa0 hτ rfl rfl rfl ?_
  refine qda hτ rfl rfl rfl (qbu _) ?_
  refine qa0 hτ rfl rfl rfl ?_
  refine qa0 hτ rfl rfl rfl ?_
  refine qa4 ?_
  refine qbo ?_
  refine qgj (ι:=Nat × List qa5 × Int) (fun (m35,v25,v26)=>St.of [(0,.ptr 0 0),(2,.func 62 [] []),(7,.row 1 v25.length 0 v25.length),(8,.d (.int .i64 v26))] [.box [.d (.cx .f32 f_.Source.A.re f_.Source.A.im),.d (.cx .f32 f_.Source.B.re f_.Source.B.im),.d (.cx .f32 f_.Source.C.re f_.Source.C.im),.d (.sl false (f_.qa8.map qae))],.row 3 (v25.map qa6)] f126.ntmps 1) (fun (m35,v25,v26)=>qbn n f_ m35 v25 v26 = some r) (fun x=>x.1) (n,x18,(w64 ((x18.length:Int) - (1:Int)))) h (qa3 [0,1] (l:=[(0,.ptr 0 0),(2,.func 62 [] []),(7,.row 1 x18.length 0 x18.length),(8,.d (.int .i64 (w64 ((x18.length:Int) - (1:Int)))))]) (objs:=[.box [.d (.cx .f32 f_.Source.A.re f_.Source.A.im),.d (.cx .f32 f_.Source.B.re f_.Source.B.im),.d (.cx .f32 f_.Source.C.re f_.Source.C.im),.d (.sl false (f_.qa8.map qae))],.row 3 (x18.map qa6)]) rfl (by simp) rfl (by trivial) ⟨rfl,trivial,rfl,(by trivial),rfl,trivial,rfl,trivial,trivial⟩) ?_
  rintro ⟨m35,v25,v26⟩ h
  replace h:qbn n f_ m35 v25 v26 = some r:=h
  rcases m35 with _ | m35
  · rw [qbn] at h;cases h
  rw [qbn] at h
  refine qa7 ?_
  refine qa7 ?_
  refine qa2 ?_
  refine qa0 hτ rfl rfl rfl ?_
  refine qa0 hτ rfl rfl rfl ?_
  refine qa4 ?_
  refine qaz rfl (fun hc37=>?_) (fun hc37=>?_)
  · have h:=if_t h hc37
    refine qb4 ?_
    refine qa7 ?_
    refine qbo ?_
    refine qa7 ?_
    refine qa2 ?_
    refine qa0 hτ rfl rfl rfl ?_
    refine qa0 hτ rfl rfl rfl ?_
    refine qa0 hτ rfl rfl rfl ?_
    refine qa0 hτ rfl rfl rfl ?_
    refine qa0 hτ rfl rfl rfl ?_
    refine qa0 hτ rfl rfl rfl ?_
    refine qab h fun x38 hx38 h=>?_
    refine qda hτ rfl rfl rfl (qg0 hx38) ?_
    refine qh0 hτ rfl rfl rfl (qbu _) (qhi hx38) rfl ?_
    refine qab h fun x39 hx39 h=>?_
    refine qad hτ false [] rfl rfl rfl (qaf func62 rfl rfl) rfl rfl (by simp) ⟨trivial,(by trivial),trivial⟩ (by trivial) (qkr n v26 x38 hx39) ?_
    rintro r0 o0 n0 ⟨rfl,rfl,rfl⟩ -
    refine qda hτ rfl rfl rfl (qg0 hx38) ?_
    refine qb2 (qa3 [0,1] (l:=[(0,.ptr 0 0),(2,.func 62 [] []),(7,.row 1 v25.length 0 v25.length),(8,.d (.int .i64 v26)),(27,.agg [.d (.cx .f32 x39.A.re x39.A.im),.d (.cx .f32 x39.B.re x39.B.im),.d (.cx .f32 x39.C.re x39.C.im)]),(28,.eptr 1 v25.length (0 + v26.toNat) 0)]) (objs:=[.box [.d (.cx .f32 f_.Source.A.re f_.Source.A.im),.d (.cx .f32 f_.Source.B.re f_.Source.B.im),.d (.cx .f32 f_.Source.C.re f_.Source.C.im),.d (.sl false (f_.qa8.map qae))],.row 3 (v25.map qa6)]) rfl (by simp) rfl (by trivial) ⟨rfl,trivial,rfl,(by trivial),rfl,trivial,rfl,trivial,rfl,(by trivial),rfl,trivial,trivial⟩) ?_
    refine awl_elemH hτ rfl rfl rfl (qbu _) (qhi hx38) (qrm (f:=qa6) (l:=v25) (i:=v26) (y:=x39) rfl) ?_
    refine qa4 ?_
    refine qa7 ?_
    refine qa2 ?_
    refine qa0 hτ rfl rfl rfl ?_
    refine qa0 hτ rfl rfl rfl ?_
    refine qa0 hτ rfl rfl rfl ?_
    refine qa0 hτ rfl rfl rfl ?_
    refine qa0 hτ rfl rfl rfl ?_
    refine qab h fun x40 hx40 h=>?_
    refine qh0 hτ rfl rfl rfl (qei hx40).1 (qfz hx40) rfl ?_
    refine qa0 hτ rfl rfl rfl ?_
    refine qa0 hτ rfl rfl rfl ?_
    refine qa0 hτ rfl rfl rfl ?_
    refine qa4 ?_
    refine qa9 (qa3 [0,1] (l:=[(0,.ptr 0 0),(2,.func 62 [] []),(7,.row 1 ((v25.set v26.toNat x39).length) 0 ((v25.set v26.toNat x39).length)),(8,.d (.int .i64 v26)),(9,.d (.int .i64 x40.qaw))]) (objs:=[.box [.d (.cx .f32 f_.Source.A.re f_.Source.A.im),.d (.cx .f32 f_.Source.B.re f_.Source.B.im),.d (.cx .f32 f_.Source.C.re f_.Source.C.im),.d (.sl false (f_.qa8.map qae))],.row 3 ((v25.set v26.toNat x39).map qa6)]) rfl (by simp) rfl (by trivial) ⟨rfl,trivial,rfl,(by trivial),(ql0 rfl (by simp)),trivial,rfl,trivial,rfl,trivial,trivial⟩) ?_
    refine qdj ?_
    refine qac hτ [] 0 rfl rfl rfl rfl rfl ?_
    refine qac hτ [] 1 rfl rfl rfl rfl rfl ?_
    refine qac hτ [] 2 rfl rfl rfl rfl rfl ?_
    refine qac hτ [] 3 rfl rfl rfl rfl rfl ?_
    refine qab h fun x41 hx41 h=>?_
    refine qgh hτ [1] 4 rfl rfl rfl rfl rfl (qg0 hx41) ?_
    refine qgg hτ [1] 5 rfl rfl rfl rfl rfl (qbu _) (qhi hx41) rfl ?_
    refine qac hτ [] 6 rfl rfl rfl rfl rfl ?_
    refine qac hτ [] 7 rfl rfl rfl rfl rfl ?_
    refine qab h fun x42 hx42 h=>?_
    refine qgh hτ [1] 8 rfl rfl rfl rfl rfl (qg0 hx42) ?_
    refine qgg hτ [1] 9 rfl rfl rfl rfl rfl (qbu _) (qhi hx42) rfl ?_
    refine qab h fun x43 hx43 h=>?_
    refine qb8 hτ false [] [0,1] 10 rfl rfl rfl rfl (qaf func159 rfl rfl) rfl rfl (by simp) ⟨(by trivial),(by trivial),trivial⟩ (by trivial) (impl_AddPhases_ok n x41 x42 hx43) ⟨rfl,rfl,trivial⟩ ?_
    refine qgh hτ [1] 11 rfl rfl rfl rfl rfl (qg0 hx41) ?_
    refine any_elemHP hτ [0] 12 rfl rfl rfl rfl (qbu _) (qhi hx41) (qrm (f:=qa6) (l:=(v25.set v26.toNat x39)) (i:=x40.qaw) (y:=x43) rfl) ⟨rfl,trivial⟩ ?_
    refine qe1 mixed (by kernel_rfl) ?_
    refine qa9 (qa3 [0,1] (l:=[(0,.ptr 0 0),(2,.func 62 [] []),(7,.row 1 (((v25.set v26.toNat x39).set x40.qaw.toNat x43).length) 0 (((v25.set v26.toNat x39).set x40.qaw.toNat x43).length)),(8,.d (.int .i64 v26))]) (objs:=[.box [.d (.cx .f32 f_.Source.A.re f_.Source.A.im),.d (.cx .f32 f_.Source.B.re f_.Source.B.im),.d (.cx .f32 f_.Source.C.re f_.Source.C.im),.d (.sl false (f_.qa8.map qae))],.row 3 (((v25.set v26.toNat x39).set x40.qaw.toNat x43).map qa6)]) rfl (by simp) rfl (by trivial) ⟨rfl,trivial,rfl,(by trivial),(ql0 rfl (by simp)),trivial,rfl,trivial,trivial⟩) ?_
    refine qa2 ?_
    refine qa0 hτ rfl rfl rfl ?_
    refine qa0 hτ rfl rfl rfl ?_
    refine qa0 hτ rfl rfl rfl ?_
    refine qa4 ?_
    exact ⟨(m35,((v25.set v26.toNat x39).set x40.qaw.toNat x43),(w64 (v26 - (1:Int)))),h,Nat.lt_succ_self m35,(qa3 [0,1] (l:=[(0,.ptr 0 0),(2,.func 62 [] []),(7,.row 1 (((v25.set v26.toNat x39).set x40.qaw.toNat x43).length) 0 (((v25.set v26.toNat x39).set x40.qaw.toNat x43).length)),(8,.d (.int .i64 (w64 (v26 - (1:Int)))))]) (objs:=[.box [.d (.cx .f32 f_.Source.A.re f_.Source.A.im),.d (.cx .f32 f_.Source.B.re f_.Source.B.im),.d (.cx .f32 f_.Source.C.re f_.Source.C.im),.d (.sl false (f_.qa8.map qae))],.row 3 (((v25.set v26.toNat x39).set x40.qaw.toNat x43).map qa6)]) rfl (by simp) rfl (by trivial) ⟨rfl,trivial,rfl,(by trivial),rfl,trivial,rfl,trivial,trivial⟩)⟩
  · have h:=if_f h hc37
    refine qgi ?_
    refine qa7 ?_
    refine qa2 ?_
    refine qa0 hτ rfl rfl rfl ?_
    refine qa0 hτ rfl rfl rfl ?_
    refine qa4 ?_
    refine qa9 (qa3 [0,1] (l:=[(6,.row 1 v25.length 0 v25.length)]) (objs:=[.box [.d (.cx .f32 f_.Source.A.re f_.Source.A.im),.d (.cx .f32 f_.Source.B.re f_.Source.B.im),.d (.cx .f32 f_.Source.C.re f_.Source.C.im),.d (.sl false (f_.qa8.map qae))],.row 3 (v25.map qa6)]) rfl (by simp) rfl (by trivial) ⟨rfl,trivial,trivial⟩) ?_
    refine qar ?_
    have hr:=Option.some.inj h
    subst hr
    exact qah (.inr rfl) [1] (objs':=[.box [.d (.cx .f32 f_.Source.A.re f_.Source.A.im),.d (.cx .f32 f_.Source.B.re f_.Source.B.im),.d (.cx .f32 f_.Source.C.re f_.Source.C.im),.d (.sl false (f_.qa8.map qae))]]) (new:=[.row 3 (v25.map qa6)]) rfl (by simp) (by simp) rfl (by trivial) rfl rfl (by trivial) (fun h=>nomatch h) ⟨rfl,rfl,rfl⟩
def qbz (n:Nat) (x_:Cx) (y_:Cx):Option Cx :=
  (qeg n x_).bind fun x5 =>
  (qeg n y_).bind fun x6 =>
  (qhg .f64 .f32 (qa1 .sub .f64 (qa1 .mul .f64 x5.1 x6.1) (qa1 .mul .f64 x5.2 x6.2))).bind fun x7 =>
  (qhg .f64 .f32 (qa1 .add .f64 (qa1 .mul .f64 x5.1 x6.2) (qa1 .mul .f64 x5.2 x6.1))).bind fun x8 =>
  some (Cx.mk x7 x8)
theorem impl_MulComplex_ok_fr0 (fr:Bool) (n:Nat) (x_:Cx) (y_:Cx) {r:Cx} (h:qbz n x_ y_ = some r):qay prog fr 52 [.d (.cx .f32 x_.re x_.im),.d (.cx .f32 y_.re y_.im)] [] (fun v o new=>v = .d (.cx .f32 r.re r.im)∧o = []∧new = []):=by
  refine qai hτ func52 rfl (by simp) (by simp) ?_
  unfold qbz at h
  refine qa7 ?_
  refine qa2 ?_
  refine qa0 hτ rfl rfl rfl ?_
  refine qa4 ?_
  refine qa7 ?_
  refine qa2 ?_
  refine qa0 hτ rfl rfl rfl ?_
  refine qab h fun x5 hx5 h=>?_
  refine qad hτ false [] rfl rfl rfl (qaf func109 rfl rfl) rfl rfl (by simp) ⟨trivial,trivial⟩ (by trivial) (qhc n x_ hx5) ?_
  rintro r0 o0 n0 ⟨rfl,rfl,rfl⟩ -
  refine qa0 hτ rfl rfl rfl ?_
  refine qa0 hτ rfl rfl rfl ?_
  refine qa0 hτ rfl rfl rfl ?_
  refine qa0 hτ rfl rfl rfl ?_
  refine qa0 hτ rfl rfl rfl ?_
  refine qa4 ?_
  refine qa7 ?_
  refine qa9 (qa3 [] (l:=[(1,.d (.cx .f32 y_.re y_.im)),(5,.d (.fl .f64 x5.1)),(6,.d (.fl .f64 x5.2))]) (objs:=[]) rfl (by simp) rfl (by trivial) ⟨rfl,trivial,rfl,trivial,rfl,trivial,trivial⟩) ?_
  refine qa2 ?_
  refine qa0 hτ rfl rfl rfl ?_
  refine qab h fun x6 hx6 h=>?_
  refine qad hτ false [] rfl rfl rfl (qaf func109 rfl rfl) rfl rfl (by simp) ⟨trivial,trivial⟩ (by trivial) (qhc n y_ hx6) ?_
  rintro r0 o0 n0 ⟨rfl,rfl,rfl⟩ -
  refine qa0 hτ rfl rfl rfl ?_
  refine qa0 hτ rfl rfl rfl ?_
  refine qa0 hτ rfl rfl rfl ?_
  refine qa0 hτ rfl rfl rfl ?_
  refine qa0 hτ rfl rfl rfl ?_
  refine qa4 ?_
  refine qa7 ?_
  refine qa9 (qa3 [] (l:=[(5,.d (.fl .f64 x5.1)),(6,.d (.fl .f64 x5.2)),(7,.d (.fl .f64 x6.1)),(8,.d (.fl .f64 x6.2))]) (objs:=[]) rfl (by simp) rfl (by trivial) ⟨rfl,trivial,rfl,trivial,rfl,trivial,rfl,trivial,trivial⟩) ?_
  refine qa2 ?_
  refine qa0 hτ rfl rfl rfl ?_
  refine qa0 hτ rfl rfl rfl ?_
  refine qa0 hτ rfl rfl rfl ?_
  refine qa0 hτ rfl rfl rfl ?_
  refine qa0 hτ rfl rfl rfl ?_
  refine qa0 hτ rfl rfl rfl ?_
  refine qa0 hτ rfl rfl rfl ?_
  refine qab h fun x7 hx7 h=>?_
  refine qa0 hτ (v:=.d (.fl .f32 x7)) rfl rfl (qh1 hx7) ?_
  refine qa0 hτ rfl rfl rfl ?_
  refine qa0 hτ rfl rfl rfl ?_
  refine qa0 hτ rfl rfl rfl ?_
  refine qa0 hτ rfl rfl rfl ?_
  refine qb2 (qa3 [] (l:=[(7,.d (.fl .f64 x6.1)),(26,.d (.fl .f32 x7)),(29,.d (.fl .f64 (qa1 .mul .f64 x5.1 x6.2))),(30,.d (.fl .f64 x5.2))]) (objs:=[]) rfl (by simp) rfl (by trivial) ⟨rfl,trivial,rfl,trivial,rfl,trivial,rfl,trivial,trivial⟩) ?_
  refine qa0 hτ rfl rfl rfl ?_
  refine qa0 hτ rfl rfl rfl ?_
  refine qa0 hτ rfl rfl rfl ?_
  refine qab h fun x8 hx8 h=>?_
  refine qa0 hτ (v:=.d (.fl .f32 x8)) rfl rfl (qh1 hx8) ?_
  refine qa0 hτ rfl rfl rfl ?_
  refine qa0 hτ rfl rfl rfl ?_
  refine qa4 ?_
  refine qa9 (qa3 [] (l:=[(4,.d (.cx .f32 x7 x8))]) (objs:=[]) rfl (by simp) rfl (by trivial) ⟨rfl,trivial,trivial⟩) ?_
  refine qar ?_
  have hr:=Option.some.inj h
  subst hr
  exact qah (.inr rfl) [] (objs':=[]) (new:=[]) rfl (by simp) (by simp) rfl (by trivial) rfl rfl (by trivial) (fun _=>⟨by simp [V.flat,V.qbd,V.qb6,D.flat],qal⟩) ⟨rfl,rfl,rfl⟩
theorem qid (n:Nat) (x_:Cx) (y_:Cx) {r:Cx} (h:qbz n x_ y_ = some r):qay prog false 52 [.d (.cx .f32 x_.re x_.im),.d (.cx .f32 y_.re y_.im)] [] (fun v o new=>v = .d (.cx .f32 r.re r.im)∧o = []∧new = []):=impl_MulComplex_ok_fr0 false n x_ y_ h
def qd3 (n:Nat) (own_:Cx) (one_:Cx) (two_:Cx) (a3_:SBus):Option Cx :=
  (qbz n a3_.Own own_).bind fun x3 =>
  (qbz n a3_.Shared (Cx.mk (qa1 .add .f32 one_.re two_.re) (qa1 .add .f32 one_.im two_.im))).bind fun x4 =>
  some (Cx.mk (qa1 .add .f32 x3.re x4.re) (qa1 .add .f32 x3.im x4.im))
theorem impl_DropOf_1_ok_fr0 (fr:Bool) (n:Nat) (own_:Cx) (one_:Cx) (two_:Cx) (a3_:SBus) {r:Cx} (h:qd3 n own_ one_ two_ a3_ = some r):qay prog fr 178 [.d (.cx .f32 own_.re own_.im),.d (.cx .f32 one_.re one_.im),.d (.cx .f32 two_.re two_.im),.ptr 0 0] [.box [.d (.int .i64 a3_.qaw),.d (.cx .f32 a3_.Own.re a3_.Own.im),.d (.cx .f32 a3_.Shared.re a3_.Shared.im),.d (.int .i64 a3_.Kind),.d (.cx .f32 a3_.Load.A.re a3_.Load.A.im),.d (.cx .f32 a3_.Load.B.re a3_.Load.B.im),.d (.cx .f32 a3_.Load.C.re a3_.Load.C.im),.d (.int .i64 a3_.qap)]] (fun v o new=>v = .d (.cx .f32 r.re r.im)∧o = [.box [.d (.int .i64 a3_.qaw),.d (.cx .f32 a3_.Own.re a3_.Own.im),.d (.cx .f32 a3_.Shared.re a3_.Shared.im),.d (.int .i64 a3_.Kind),.d (.cx .f32 a3_.Load.A.re a3_.Load.A.im),.d (.cx .f32 a3_.Load.B.re a3_.Load.B.im),.d (.cx .f32 a3_.Load.C.re a3_.Load.C.im),.d (.int .i64 a3_.qap)]]∧new = []):=by
  refine qai hτ func178 rfl (by simp) (by simp) ?_
  unfold qd3 at h
  refine qa7 ?_
  refine qa2 ?_
  refine qa0 hτ rfl rfl rfl ?_
  refine qa4 ?_
  refine qa7 ?_
  refine qdj ?_
  refine qac hτ [0] 0 rfl rfl rfl rfl rfl ?_
  refine qac hτ [0] 1 rfl rfl rfl rfl rfl ?_
  refine qac hτ [] 2 rfl rfl rfl rfl rfl ?_
  refine qac hτ [0] 4 rfl rfl rfl rfl rfl ?_
  refine qac hτ [0] 5 rfl rfl rfl rfl rfl ?_
  refine qac hτ [] 6 rfl rfl rfl rfl rfl ?_
  refine qac hτ [] 7 rfl rfl rfl rfl rfl ?_
  refine qac hτ [] 8 rfl rfl rfl rfl rfl ?_
  refine qab h fun x3 hx3 h=>?_
  refine qb8 hτ false [] [0] 3 rfl rfl rfl rfl (qaf func52 rfl rfl) rfl rfl (by simp) ⟨trivial,trivial,trivial⟩ (by trivial) (qid n a3_.Own own_ hx3) ⟨rfl,trivial⟩ ?_
  refine qab h fun x4 hx4 h=>?_
  refine qb8 hτ false [] [0] 9 rfl rfl rfl rfl (qaf func52 rfl rfl) rfl rfl (by simp) ⟨trivial,trivial,trivial⟩ (by trivial) (qid n a3_.Shared (Cx.mk (qa1 .add .f32 one_.re two_.re) (qa1 .add .f32 one_.im two_.im)) hx4) ⟨rfl,trivial⟩ ?_
  refine qac hτ [] 10 rfl rfl rfl rfl rfl ?_
  refine qac hτ [] 11 rfl rfl rfl rfl rfl ?_
  refine qe1 mixed (by kernel_rfl) ?_
  refine qa9 (qa3 [0] (l:=[(7,.d (.cx .f32 (qa1 .add .f32 x3.re x4.re) (qa1 .add .f32 x3.im x4.im)))]) (objs:=[.box [.d (.int .i64 a3_.qaw),.d (.cx .f32 a3_.Own.re a3_.Own.im),.d (.cx .f32 a3_.Shared.re a3_.Shared.im),.d (.int .i64 a3_.Kind),.d (.cx .f32 a3_.Load.A.re a3_.Load.A.im),.d (.cx .f32 a3_.Load.B.re a3_.Load.B.im),.d (.cx .f32 a3_.Load.C.re a3_.Load.C.im),.d (.int .i64 a3_.qap)]]) rfl (by simp) rfl (by trivial) ⟨rfl,trivial,trivial⟩) ?_
  refine qar ?_
  have hr:=Option.some.inj h
  subst hr
  exact qah (.inr rfl) [] (objs':=[.box [.d (.int .i64 a3_.qaw),.d (.cx .f32 a3_.Own.re a3_.Own.im),.d (.cx .f32 a3_.Shared.re a3_.Shared.im),.d (.int .i64 a3_.Kind),.d (.cx .f32 a3_.Load.A.re a3_.Load.A.im),.d (.cx .f32 a3_.Load.B.re a3_.Load.B.im),.d (.cx .f32 a3_.Load.C.re a3_.Load.C.im),.d (.int .i64 a3_.qap)]]) (new:=[]) rfl (by simp) (by simp) rfl (by trivial) rfl rfl (by trivial) (fun _=>⟨by simp [V.flat,V.qbd,V.qb6,D.flat],(qd1 (by simp [AObj.flat,V.qb6,D.flat]) qal)⟩) ⟨rfl,rfl,rfl⟩
theorem qhh (n:Nat) (own_:Cx) (one_:Cx) (two_:Cx) (a3_:SBus) {r:Cx} (h:qd3 n own_ one_ two_ a3_ = some r):qay prog false 178 [.d (.cx .f32 own_.re own_.im),.d (.cx .f32 one_.re one_.im),.d (.cx .f32 two_.re two_.im),.ptr 0 0] [.box [.d (.int .i64 a3_.qaw),.d (.cx .f32 a3_.Own.re a3_.Own.im),.d (.cx .f32 a3_.Shared.re a3_.Shared.im),.d (.int .i64 a3_.Kind),.d (.cx .f32 a3_.Load.A.re a3_.Load.A.im),.d (.cx .f32 a3_.Load.B.re a3_.Load.B.im),.d (.cx .f32 a3_.Load.C.re a3_.Load.C.im),.d (.int .i64 a3_.qap)]] (fun v o new=>v = .d (.cx .f32 r.re r.im)∧o = [.box [.d (.int .i64 a3_.qaw),.d (.cx .f32 a3_.Own.re a3_.Own.im),.d (.cx .f32 a3_.Shared.re a3_.Shared.im),.d (.int .i64 a3_.Kind),.d (.cx .f32 a3_.Load.A.re a3_.Load.A.im),.d (.cx .f32 a3_.Load.B.re a3_.Load.B.im),.d (.cx .f32 a3_.Load.C.re a3_.Load.C.im),.d (.int .i64 a3_.qap)]]∧new = []):=impl_DropOf_1_ok_fr0 false n own_ one_ two_ a3_ h
def qfl (n:Nat) (b_:SBus) (current_:qa5):Option qa5 :=
  (qd3 n current_.A current_.B current_.C b_).bind fun x4 =>
  (qd3 n current_.B current_.C current_.A b_).bind fun x5 =>
  (qd3 n current_.C current_.A current_.B b_).bind fun x6 =>
  some (qa5.mk x4 x5 x6)
theorem impl_DropOf_ok_fr0 (fr:Bool) (n:Nat) (b_:SBus) (current_:qa5) {r:qa5} (h:qfl n b_ current_ = some r):qay prog fr 161 [.agg [.d (.int .i64 b_.qaw),.d (.cx .f32 b_.Own.re b_.Own.im),.d (.cx .f32 b_.Shared.re b_.Shared.im),.d (.int .i64 b_.Kind),.d (.cx .f32 b_.Load.A.re b_.Load.A.im),.d (.cx .f32 b_.Load.B.re b_.Load.B.im),.d (.cx .f32 b_.Load.C.re b_.Load.C.im),.d (.int .i64 b_.qap)],.agg [.d (.cx .f32 current_.A.re current_.A.im),.d (.cx .f32 current_.B.re current_.B.im),.d (.cx .f32 current_.C.re current_.C.im)]] [] (fun v o new=>v = .agg [.d (.cx .f32 r.A.re r.A.im),.d (.cx .f32 r.B.re r.B.im),.d (.cx .f32 r.C.re r.C.im)]∧o = []∧new = []):=by
  refine qai hτ func161 rfl (by simp) (by simp) ?_
  unfold qfl at h
  refine qa7 ?_
  refine qa2 ?_
  refine qaj hτ rfl rfl rfl ?_
  refine qaj hτ rfl rfl rfl ?_
  refine qaj hτ rfl rfl rfl ?_
  refine qa4 ?_
  refine qa7 ?_
  refine qa2 ?_
  refine qa0 hτ rfl rfl rfl ?_
  refine qa0 hτ rfl rfl rfl ?_
  refine qa4 ?_
  refine qa7 ?_
  refine qa2 ?_
  refine qa0 hτ rfl rfl rfl ?_
  refine qaj hτ rfl rfl rfl ?_
  refine qaj hτ rfl rfl rfl ?_
  refine qa4 ?_
  refine qa7 ?_
  refine qa9 (qa3 [2,0,3] (l:=[(4,.ptr 0 0),(5,.func 178 [] [.ptr 1 0]),(6,.ptr 2 0)]) (objs:=[.box [.d (.cx .f32 (0:Nat) (0:Nat)),.d (.cx .f32 (0:Nat) (0:Nat)),.d (.cx .f32 (0:Nat) (0:Nat))],.box [.d (.int .i64 b_.qaw),.d (.cx .f32 b_.Own.re b_.Own.im),.d (.cx .f32 b_.Shared.re b_.Shared.im),.d (.int .i64 b_.Kind),.d (.cx .f32 b_.Load.A.re b_.Load.A.im),.d (.cx .f32 b_.Load.B.re b_.Load.B.im),.d (.cx .f32 b_.Load.C.re b_.Load.C.im),.d (.int .i64 b_.qap)],.box [.d (.cx .f32 current_.A.re current_.A.im),.d (.cx .f32 current_.B.re current_.B.im),.d (.cx .f32 current_.C.re current_.C.im)]]) rfl (by simp) rfl (by trivial) ⟨rfl,trivial,rfl,(by trivial),rfl,trivial,trivial⟩) ?_
  refine qdj ?_
  refine qac hτ [] 0 rfl rfl rfl rfl rfl ?_
  refine qac hτ [2] 1 rfl rfl rfl rfl rfl ?_
  refine qac hτ [2] 2 rfl rfl rfl rfl rfl ?_
  refine qac hτ [2] 3 rfl rfl rfl rfl rfl ?_
  refine qac hτ [2] 4 rfl rfl rfl rfl rfl ?_
  refine qac hτ [2] 5 rfl rfl rfl rfl rfl ?_
  refine qac hτ [2] 6 rfl rfl rfl rfl rfl ?_
  refine qac hτ [] 8 rfl rfl rfl rfl rfl ?_
  refine qac hτ [2] 9 rfl rfl rfl rfl rfl ?_
  refine qac hτ [2] 10 rfl rfl rfl rfl rfl ?_
  refine qac hτ [2] 11 rfl rfl rfl rfl rfl ?_
  refine qac hτ [2] 12 rfl rfl rfl rfl rfl ?_
  refine qac hτ [2] 13 rfl rfl rfl rfl rfl ?_
  refine qac hτ [2] 14 rfl rfl rfl rfl rfl ?_
  refine qac hτ [] 16 rfl rfl rfl rfl rfl ?_
  refine qac hτ [2] 17 rfl rfl rfl rfl rfl ?_
  refine qac hτ [2] 18 rfl rfl rfl rfl rfl ?_
  refine qac hτ [2] 19 rfl rfl rfl rfl rfl ?_
  refine qac hτ [2] 20 rfl rfl rfl rfl rfl ?_
  refine qac hτ [2] 21 rfl rfl rfl rfl rfl ?_
  refine qac hτ [2] 22 rfl rfl rfl rfl rfl ?_
  refine qab h fun x4 hx4 h=>?_
  refine qb8 hτ false [1] [0,1,2] 7 rfl rfl rfl rfl (qaf func178 rfl rfl) rfl rfl (by simp) ⟨trivial,trivial,trivial,trivial,trivial⟩ (by trivial) (qhh n current_.A current_.B current_.C b_ hx4) ⟨rfl,rfl,rfl,trivial⟩ ?_
  refine qab h fun x5 hx5 h=>?_
  refine qb8 hτ false [1] [0,1,2] 15 rfl rfl rfl rfl (qaf func178 rfl rfl) rfl rfl (by simp) ⟨trivial,trivial,trivial,trivial,trivial⟩ (by trivial) (qhh n current_.B current_.C current_.A b_ hx5) ⟨rfl,rfl,rfl,trivial⟩ ?_
  refine qab h fun x6 hx6 h=>?_
  refine qb8 hτ false [1] [0,1,2] 23 rfl rfl rfl rfl (qaf func178 rfl rfl) rfl rfl (by simp) ⟨trivial,trivial,trivial,trivial,trivial⟩ (by trivial) (qhh n current_.C current_.A current_.B b_ hx6) ⟨rfl,rfl,rfl,trivial⟩ ?_
  refine qac hτ [] 24 rfl rfl rfl rfl rfl ?_
  refine qbs hτ [1,2] 25 rfl rfl rfl rfl ⟨rfl,rfl,trivial⟩ ?_
  refine qe1 mixed (by kernel_rfl) ?_
  refine qa9 (qa3 [0] (l:=[(4,.ptr 0 0)]) (objs:=[.box [.d (.cx .f32 x4.re x4.im),.d (.cx .f32 x5.re x5.im),.d (.cx .f32 x6.re x6.im)]]) rfl (by simp) rfl (by trivial) ⟨rfl,trivial,trivial⟩) ?_
  refine qar ?_
  have hr:=Option.some.inj h
  subst hr
  exact qah (.inr rfl) [] (objs':=[]) (new:=[]) rfl (by simp) (by simp) rfl (by trivial) rfl rfl (by trivial) (fun _=>⟨by simp [V.flat,V.qbd,V.qb6,D.flat],qal⟩) ⟨rfl,rfl,rfl⟩
theorem impl_DropOf_ok (n:Nat) (b_:SBus) (current_:qa5) {r:qa5} (h:qfl n b_ current_ = some r):qay prog false 161 [.agg [.d (.int .i64 b_.qaw),.d (.cx .f32 b_.Own.re b_.Own.im),.d (.cx .f32 b_.Shared.re b_.Shared.im),.d (.int .i64 b_.Kind),.d (.cx .f32 b_.Load.A.re b_.Load.A.im),.d (.cx .f32 b_.Load.B.re b_.Load.B.im),.d (.cx .f32 b_.Load.C.re b_.Load.C.im),.d (.int .i64 b_.qap)],.agg [.d (.cx .f32 current_.A.re current_.A.im),.d (.cx .f32 current_.B.re current_.B.im),.d (.cx .f32 current_.C.re current_.C.im)]] [] (fun v o new=>v = .agg [.d (.cx .f32 r.A.re r.A.im),.d (.cx .f32 r.B.re r.B.im),.d (.cx .f32 r.C.re r.C.im)]∧o = []∧new = []):=impl_DropOf_ok_fr0 false n b_ current_ h
def qgb (n:Nat) (x_:Cx) (y_:Cx):Option Cx :=
  some (Cx.mk (qa1 .sub .f32 x_.re y_.re) (qa1 .sub .f32 x_.im y_.im))
theorem impl_minus_ok_fr0 (fr:Bool) (n:Nat) (x_:Cx) (y_:Cx) {r:Cx} (h:qgb n x_ y_ = some r):qay prog fr 158 [.d (.cx .f32 x_.re x_.im),.d (.cx .f32 y_.re y_.im)] [] (fun v o new=>v = .d (.cx .f32 r.re r.im)∧o = []∧new = []):=by
  refine qai hτ func158 rfl (by simp) (by simp) ?_
  unfold qgb at h
  refine qa7 ?_
  refine qa2 ?_
  refine qa0 hτ rfl rfl rfl ?_
  refine qa4 ?_
  refine qa7 ?_
  refine qa2 ?_
  refine qa0 hτ rfl rfl rfl ?_
  refine qa0 hτ rfl rfl rfl ?_
  refine qa0 hτ rfl rfl rfl ?_
  refine qa0 hτ rfl rfl rfl ?_
  refine qa4 ?_
  refine qa9 (qa3 [] (l:=[(4,.d (.cx .f32 (qa1 .sub .f32 x_.re y_.re) (qa1 .sub .f32 x_.im y_.im)))]) (objs:=[]) rfl (by simp) rfl (by trivial) ⟨rfl,trivial,trivial⟩) ?_
  refine qar ?_
  have hr:=Option.some.inj h
  subst hr
  exact qah (.inr rfl) [] (objs':=[]) (new:=[]) rfl (by simp) (by simp) rfl (by trivial) rfl rfl (by trivial) (fun _=>⟨by simp [V.flat,V.qbd,V.qb6,D.flat],qal⟩) ⟨rfl,rfl,rfl⟩
theorem qiv (n:Nat) (x_:Cx) (y_:Cx) {r:Cx} (h:qgb n x_ y_ = some r):qay prog false 158 [.d (.cx .f32 x_.re x_.im),.d (.cx .f32 y_.re y_.im)] [] (fun v o new=>v = .d (.cx .f32 r.re r.im)∧o = []∧new = []):=impl_minus_ok_fr0 false n x_ y_ h
def qho (n:Nat) (a_:qa5) (b_:qa5):Option qa5 :=
  (qgb n a_.A b_.A).bind fun x4 =>
  (qgb n a_.B b_.B).bind fun x5 =>
  (qgb n a_.C b_.C).bind fun x6 =>
  some (qa5.mk x4 x5 x6)
theorem impl_each_3_ok_fr0 (fr:Bool) (n:Nat) (a_:qa5) (b_:qa5) {r:qa5} (h:qho n a_ b_ = some r):qay prog fr 157 [.agg [.d (.cx .f32 a_.A.re a_.A.im),.d (.cx .f32 a_.B.re a_.B.im),.d (.cx .f32 a_.C.re a_.C.im)],.agg [.d (.cx .f32 b_.A.re b_.A.im),.d (.cx .f32 b_.B.re b_.B.im),.d (.cx .f32 b_.C.re b_.C.im)],.func 158 [] []] [] (fun v o new=>v = .agg [.d (.cx .f32 r.A.re r.A.im),.d (.cx .f32 r.B.re r.B.im),.d (.cx .f32 r.C.re r.C.im)]∧o = []∧new = []):=by
  refine qai hτ func157 rfl (by simp) (by simp) ?_
  unfold qho at h
  refine qa7 ?_
  refine qa2 ?_
  refine qaj hτ rfl rfl rfl ?_
  refine qaj hτ rfl rfl rfl ?_
  refine qaj hτ rfl rfl rfl ?_
  refine qa4 ?_
  refine qa7 ?_
  refine qdj ?_
  refine qac hτ [] 0 rfl rfl rfl rfl rfl ?_
  refine qac hτ [0] 1 rfl rfl rfl rfl rfl ?_
  refine qac hτ [0] 2 rfl rfl rfl rfl rfl ?_
  refine qac hτ [1] 3 rfl rfl rfl rfl rfl ?_
  refine qac hτ [1] 4 rfl rfl rfl rfl rfl ?_
  refine qac hτ [] 6 rfl rfl rfl rfl rfl ?_
  refine qac hτ [0] 7 rfl rfl rfl rfl rfl ?_
  refine qac hτ [0] 8 rfl rfl rfl rfl rfl ?_
  refine qac hτ [1] 9 rfl rfl rfl rfl rfl ?_
  refine qac hτ [1] 10 rfl rfl rfl rfl rfl ?_
  refine qac hτ [] 12 rfl rfl rfl rfl rfl ?_
  refine qac hτ [0] 13 rfl rfl rfl rfl rfl ?_
  refine qac hτ [0] 14 rfl rfl rfl rfl rfl ?_
  refine qac hτ [1] 15 rfl rfl rfl rfl rfl ?_
  refine qac hτ [1] 16 rfl rfl rfl rfl rfl ?_
  refine qab h fun x4 hx4 h=>?_
  refine qb8 hτ false [] [0,1,2] 5 rfl rfl rfl rfl (qaf func158 rfl rfl) rfl rfl (by simp) ⟨trivial,trivial,trivial⟩ (by trivial) (qiv n a_.A b_.A hx4) ⟨rfl,rfl,rfl,trivial⟩ ?_
  refine qab h fun x5 hx5 h=>?_
  refine qb8 hτ false [] [0,1,2] 11 rfl rfl rfl rfl (qaf func158 rfl rfl) rfl rfl (by simp) ⟨trivial,trivial,trivial⟩ (by trivial) (qiv n a_.B b_.B hx5) ⟨rfl,rfl,rfl,trivial⟩ ?_
  refine qab h fun x6 hx6 h=>?_
  refine qb8 hτ false [] [0,1,2] 17 rfl rfl rfl rfl (qaf func158 rfl rfl) rfl rfl (by simp) ⟨trivial,trivial,trivial⟩ (by trivial) (qiv n a_.C b_.C hx6) ⟨rfl,rfl,rfl,trivial⟩ ?_
  refine qac hτ [] 18 rfl rfl rfl rfl rfl ?_
  refine qbs hτ [0,1] 19 rfl rfl rfl rfl ⟨rfl,rfl,trivial⟩ ?_
  refine qe1 mixed (by kernel_rfl) ?_
  refine qa9 (qa3 [2] (l:=[(6,.ptr 0 0)]) (objs:=[.box [.d (.cx .f32 x4.re x4.im),.d (.cx .f32 x5.re x5.im),.d (.cx .f32 x6.re x6.im)]]) rfl (by simp) rfl (by trivial) ⟨rfl,trivial,trivial⟩) ?_
  refine qar ?_
  have hr:=Option.some.inj h
  subst hr
  exact qah (.inr rfl) [] (objs':=[]) (new:=[]) rfl (by simp) (by simp) rfl (by trivial) rfl rfl (by trivial) (fun _=>⟨by simp [V.flat,V.qbd,V.qb6,D.flat],qal⟩) ⟨rfl,rfl,rfl⟩
theorem impl_each_3_ok (n:Nat) (a_:qa5) (b_:qa5) {r:qa5} (h:qho n a_ b_ = some r):qay prog false 157 [.agg [.d (.cx .f32 a_.A.re a_.A.im),.d (.cx .f32 a_.B.re a_.B.im),.d (.cx .f32 a_.C.re a_.C.im)],.agg [.d (.cx .f32 b_.A.re b_.A.im),.d (.cx .f32 b_.B.re b_.B.im),.d (.cx .f32 b_.C.re b_.C.im)],.func 158 [] []] [] (fun v o new=>v = .agg [.d (.cx .f32 r.A.re r.A.im),.d (.cx .f32 r.B.re r.B.im),.d (.cx .f32 r.C.re r.C.im)]∧o = []∧new = []):=impl_each_3_ok_fr0 false n a_ b_ h
def qem (n:Nat) (a_:qa5) (b_:qa5):Option qa5 :=
  (qho n a_ b_).bind fun x2 =>
  some x2
theorem impl_LessPhases_ok_fr0 (fr:Bool) (n:Nat) (a_:qa5) (b_:qa5) {r:qa5} (h:qem n a_ b_ = some r):qay prog fr 124 [.agg [.d (.cx .f32 a_.A.re a_.A.im),.d (.cx .f32 a_.B.re a_.B.im),.d (.cx .f32 a_.C.re a_.C.im)],.agg [.d (.cx .f32 b_.A.re b_.A.im),.d (.cx .f32 b_.B.re b_.B.im),.d (.cx .f32 b_.C.re b_.C.im)]] [] (fun v o new=>v = .agg [.d (.cx .f32 r.A.re r.A.im),.d (.cx .f32 r.B.re r.B.im),.d (.cx .f32 r.C.re r.C.im)]∧o = []∧new = []):=by
  refine qai hτ func124 rfl (by simp) (by simp) ?_
  unfold qem at h
  refine qa7 ?_
  refine qa2 ?_
  refine qaj hτ rfl rfl rfl ?_
  refine qaj hτ rfl rfl rfl ?_
  refine qaj hτ rfl rfl rfl ?_
  refine qa4 ?_
  refine qa7 ?_
  refine qa2 ?_
  refine qa0 hτ rfl rfl rfl ?_
  refine qa0 hτ rfl rfl rfl ?_
  refine qab h fun x2 hx2 h=>?_
  refine qad hτ false [] rfl rfl rfl (qaf func157 rfl rfl) rfl rfl (by simp) ⟨(by trivial),(by trivial),(by trivial),trivial⟩ (by trivial) (impl_each_3_ok n a_ b_ hx2) ?_
  rintro r0 o0 n0 ⟨rfl,rfl,rfl⟩ -
  refine qaj hτ rfl rfl rfl ?_
  refine qa4 ?_
  refine qa9 (qa3 [2] (l:=[(4,.ptr 0 0)]) (objs:=[.box [.d (.cx .f32 x2.A.re x2.A.im),.d (.cx .f32 x2.B.re x2.B.im),.d (.cx .f32 x2.C.re x2.C.im)]]) rfl (by simp) rfl (by trivial) ⟨rfl,trivial,trivial⟩) ?_
  refine qar ?_
  have hr:=Option.some.inj h
  subst hr
  exact qah (.inr rfl) [] (objs':=[]) (new:=[]) rfl (by simp) (by simp) rfl (by trivial) rfl rfl (by trivial) (fun _=>⟨by simp [V.flat,V.qbd,V.qb6,D.flat],qal⟩) ⟨rfl,rfl,rfl⟩
theorem impl_LessPhases_ok (n:Nat) (a_:qa5) (b_:qa5) {r:qa5} (h:qem n a_ b_ = some r):qay prog false 124 [.agg [.d (.cx .f32 a_.A.re a_.A.im),.d (.cx .f32 a_.B.re a_.B.im),.d (.cx .f32 a_.C.re a_.C.im)],.agg [.d (.cx .f32 b_.A.re b_.A.im),.d (.cx .f32 b_.B.re b_.B.im),.d (.cx .f32 b_.C.re b_.C.im)]] [] (fun v o new=>v = .agg [.d (.cx .f32 r.A.re r.A.im),.d (.cx .f32 r.B.re r.B.im),.d (.cx .f32 r.C.re r.C.im)]∧o = []∧new = []):=impl_LessPhases_ok_fr0 false n a_ b_ h
def qbk (n:Nat) (f_:qak) (currents_:List qa5):Nat→List qa5→Int→Option (List qa5)
  | 0,_,_=>none
  | m37 + 1,v26,v27 =>
    if v27 < (f_.qa8.length:Int) then
      (getI f_.qa8 v27).bind fun x40 =>
      (getI v26 x40.qaw).bind fun x41 =>
      (getI currents_ v27).bind fun x42 =>
      (qfl n x40 x42).bind fun x43 =>
      (qem n x41 x43).bind fun x44 =>
      (qg4 n v27 x44).bind fun x45 =>
      grd (room (v26.length + 1) 24) <|
      (qbk n f_ currents_ m37) (v26 ++ [x45]) (w64 (v27 + (1:Int)))
    else
      some v26
def qex (n:Nat) (f_:qak) (currents_:List qa5):Option (List qa5) :=
  qbk n f_ currents_ n [f_.Source] (1:Int)
theorem impl_Feeder_forth_ok (n:Nat) (f_:qak) (currents_:List qa5) {r:List qa5} (h:qex n f_ currents_ = some r):qay prog false 128 [.ptr 0 0,.d (.sl false (currents_.map qa6)),.func 62 [] []] [.box [.d (.cx .f32 f_.Source.A.re f_.Source.A.im),.d (.cx .f32 f_.Source.B.re f_.Source.B.im),.d (.cx .f32 f_.Source.C.re f_.Source.C.im),.d (.sl false (f_.qa8.map qae))]] (fun v o new=>v = .row 1 r.length 0 r.length∧o = [.box [.d (.cx .f32 f_.Source.A.re f_.Source.A.im),.d (.cx .f32 f_.Source.B.re f_.Source.B.im),.d (.cx .f32 f_.Source.C.re f_.Source.C.im),.d (.sl false (f_.qa8.map qae))]]∧new = [.row 3 (r.map qa6)]):=by
  refine qai hτ func128 rfl (by simp) (by simp) ?_
  unfold qex at h
  refine qa7 ?_
  refine qa2 ?_
  refine qa0 hτ rfl rfl rfl ?_
  refine qa4 ?_
  refine qa7 ?_
  refine qa2 ?_
  refine qa0 hτ rfl rfl rfl ?_
  refine qa0 hτ rfl rfl rfl ?_
  refine qa0 hτ rfl rfl rfl ?_
  refine qa0 hτ rfl rfl rfl ?_
  refine qaj hτ rfl rfl rfl ?_
  refine qa0 hτ rfl rfl rfl ?_
  refine qa4 ?_
  refine qa7 ?_
  refine qa7 ?_
  refine qa9 (qa3 [0,1] (l:=[(0,.ptr 0 0),(1,.d (.sl false (currents_.map qa6))),(2,.func 62 [] []),(7,.row 1 ([f_.Source].length) 0 ([f_.Source].length))]) (objs:=[.box [.d (.cx .f32 f_.Source.A.re f_.Source.A.im),.d (.cx .f32 f_.Source.B.re f_.Source.B.im),.d (.cx .f32 f_.Source.C.re f_.Source.C.im),.d (.sl false (f_.qa8.map qae))],.row 3 ([f_.Source].map qa6)]) rfl (by simp) rfl (by trivial) ⟨rfl,trivial,rfl,trivial,rfl,(by trivial),rfl,trivial,trivial⟩) ?_
  refine qa2 ?_
  refine qa0 hτ rfl rfl rfl ?_
  refine qa4 ?_
  refine qbo ?_
  refine qgj (ι:=Nat × List qa5 × Int) (fun (m37,v26,v27)=>St.of [(0,.ptr 0 0),(1,.d (.sl false (currents_.map qa6))),(2,.func 62 [] []),(7,.row 1 v26.length 0 v26.length),(8,.d (.int .i64 v27))] [.box [.d (.cx .f32 f_.Source.A.re f_.Source.A.im),.d (.cx .f32 f_.Source.B.re f_.Source.B.im),.d (.cx .f32 f_.Source.C.re f_.Source.C.im),.d (.sl false (f_.qa8.map qae))],.row 3 (v26.map qa6)] f128.ntmps 1) (fun (m37,v26,v27)=>qbk n f_ currents_ m37 v26 v27 = some r) (fun x=>x.1) (n,[f_.Source],(1:Int)) h (qa3 [0,1] (l:=[(0,.ptr 0 0),(1,.d (.sl false (currents_.map qa6))),(2,.func 62 [] []),(7,.row 1 ([f_.Source].length) 0 ([f_.Source].length)),(8,.d (.int .i64 (1:Int)))]) (objs:=[.box [.d (.cx .f32 f_.Source.A.re f_.Source.A.im),.d (.cx .f32 f_.Source.B.re f_.Source.B.im),.d (.cx .f32 f_.Source.C.re f_.Source.C.im),.d (.sl false (f_.qa8.map qae))],.row 3 ([f_.Source].map qa6)]) rfl (by simp) rfl (by trivial) ⟨rfl,trivial,rfl,trivial,rfl,(by trivial),rfl,trivial,rfl,trivial,trivial⟩) ?_
  rintro ⟨m37,v26,v27⟩ h
  replace h:qbk n f_ currents_ m37 v26 v27 = some r:=h
  rcases m37 with _ | m37
  · rw [qbk] at h;cases h
  rw [qbk] at h
  refine qa7 ?_
  refine qa7 ?_
  refine qa2 ?_
  refine qa0 hτ rfl rfl rfl ?_
  refine qa0 hτ rfl rfl rfl ?_
  refine qa0 hτ rfl rfl rfl ?_
  refine qa0 hτ rfl rfl rfl ?_
  refine qa0 hτ rfl rfl rfl ?_
  refine qa0 hτ (v:=.d (.int .i64 (f_.qa8.length:Int))) rfl rfl (Eq.trans rfl (qfb (f:=qae) f_.qa8)) ?_
  refine qa0 hτ rfl rfl rfl ?_
  refine qa4 ?_
  refine qa9 (qa3 [0,1] (l:=[(0,.ptr 0 0),(1,.d (.sl false (currents_.map qa6))),(2,.func 62 [] []),(7,.row 1 v26.length 0 v26.length),(8,.d (.int .i64 v27)),(21,.d (.bool (decide (v27 < (f_.qa8.length:Int)))))]) (objs:=[.box [.d (.cx .f32 f_.Source.A.re f_.Source.A.im),.d (.cx .f32 f_.Source.B.re f_.Source.B.im),.d (.cx .f32 f_.Source.C.re f_.Source.C.im),.d (.sl false (f_.qa8.map qae))],.row 3 (v26.map qa6)]) rfl (by simp) rfl (by trivial) ⟨rfl,trivial,rfl,trivial,rfl,(by trivial),rfl,trivial,rfl,trivial,rfl,trivial,trivial⟩) ?_
  refine qaz rfl (fun hc39=>?_) (fun hc39=>?_)
  · have h:=if_t h hc39
    refine qb4 ?_
    refine qa7 ?_
    refine qbo ?_
    refine qa7 ?_
    refine qa2 ?_
    refine qa0 hτ rfl rfl rfl ?_
    refine qa0 hτ rfl rfl rfl ?_
    refine qa0 hτ rfl rfl rfl ?_
    refine qa0 hτ rfl rfl rfl ?_
    refine qa0 hτ rfl rfl rfl ?_
    refine qab h fun x40 hx40 h=>?_
    refine qh0 hτ rfl rfl rfl (qei hx40).1 (qfz hx40) rfl ?_
    refine qa0 hτ rfl rfl rfl ?_
    refine qaj hτ rfl rfl rfl ?_
    refine qaj hτ rfl rfl rfl ?_
    refine qa4 ?_
    refine qa9 (qa3 [0,1,2] (l:=[(0,.ptr 0 0),(1,.d (.sl false (currents_.map qa6))),(2,.func 62 [] []),(7,.row 1 v26.length 0 v26.length),(8,.d (.int .i64 v27)),(9,.ptr 2 0)]) (objs:=[.box [.d (.cx .f32 f_.Source.A.re f_.Source.A.im),.d (.cx .f32 f_.Source.B.re f_.Source.B.im),.d (.cx .f32 f_.Source.C.re f_.Source.C.im),.d (.sl false (f_.qa8.map qae))],.row 3 (v26.map qa6),.box [.d (.int .i64 x40.qaw),.d (.cx .f32 x40.Own.re x40.Own.im),.d (.cx .f32 x40.Shared.re x40.Shared.im),.d (.int .i64 x40.Kind),.d (.cx .f32 x40.Load.A.re x40.Load.A.im),.d (.cx .f32 x40.Load.B.re x40.Load.B.im),.d (.cx .f32 x40.Load.C.re x40.Load.C.im),.d (.int .i64 x40.qap)]]) rfl (by simp) rfl (by trivial) ⟨rfl,trivial,rfl,trivial,rfl,(by trivial),rfl,trivial,rfl,trivial,rfl,trivial,trivial⟩) ?_
    refine qdj ?_
    refine qac hτ [] 0 rfl rfl rfl rfl rfl ?_
    refine qac hτ [] 1 rfl rfl rfl rfl rfl ?_
    refine qac hτ [] 2 rfl rfl rfl rfl rfl ?_
    refine qac hτ [] 3 rfl rfl rfl rfl rfl ?_
    refine qac hτ [2] 4 rfl rfl rfl rfl rfl ?_
    refine qac hτ [2] 5 rfl rfl rfl rfl rfl ?_
    refine qab h fun x41 hx41 h=>?_
    refine qgh hτ [1] 6 rfl rfl rfl rfl rfl (qg0 hx41) ?_
    refine qgg hτ [1] 7 rfl rfl rfl rfl rfl (qbu _) (qhi hx41) rfl ?_
    refine qac hτ [2] 8 rfl rfl rfl rfl rfl ?_
    refine qac hτ [] 9 rfl rfl rfl rfl rfl ?_
    refine qac hτ [] 10 rfl rfl rfl rfl rfl ?_
    refine qab h fun x42 hx42 h=>?_
    refine qgg hτ [] 11 rfl rfl rfl rfl rfl (qei hx42).1 (qfz hx42) rfl ?_
    refine qac hτ [] 12 rfl rfl rfl rfl rfl ?_
    refine qab h fun x43 hx43 h=>?_
    refine qb8 hτ false [] [0,1,2] 13 rfl rfl rfl rfl (qaf func161 rfl rfl) rfl rfl (by simp) ⟨(by trivial),(by trivial),trivial⟩ (by trivial) (impl_DropOf_ok n x40 x42 hx43) ⟨rfl,rfl,rfl,trivial⟩ ?_
    refine qab h fun x44 hx44 h=>?_
    refine qb8 hτ false [] [0,1,2] 14 rfl rfl rfl rfl (qaf func124 rfl rfl) rfl rfl (by simp) ⟨(by trivial),(by trivial),trivial⟩ (by trivial) (impl_LessPhases_ok n x41 x43 hx44) ⟨rfl,rfl,rfl,trivial⟩ ?_
    refine qab h fun x45 hx45 h=>?_
    refine qb8 hτ false [] [0,1,2] 15 rfl rfl rfl rfl (qaf func62 rfl rfl) rfl rfl (by simp) ⟨trivial,(by trivial),trivial⟩ (by trivial) (qkr n v27 x44 hx45) ⟨rfl,rfl,rfl,trivial⟩ ?_
    refine qbs hτ [0,1,2] 16 rfl rfl rfl rfl ⟨rfl,rfl,rfl,trivial⟩ ?_
    refine qcq h fun hg46 h=>?_
    refine qg7 hτ [0,2,3] 17 rfl rfl rfl (Eq.trans rfl (or_append (f:=qa6) v26 [x45] rfl)) ⟨⟨rfl,Nat.le_of_ble_eq_true rfl⟩,qbu _,rfl,rfl,hg46,by decide,(all1 rfl)⟩ ⟨rfl,rfl,rfl,trivial⟩ ?_
    refine qac hτ [] 18 rfl rfl rfl rfl rfl ?_
    refine qe1 mixed (by kernel_rfl) ?_
    refine qa9 (qa3 [0,1] (l:=[(0,.ptr 0 0),(1,.d (.sl false (currents_.map qa6))),(2,.func 62 [] []),(7,.row 1 ((v26 ++ [x45]).length) 0 ((v26 ++ [x45]).length)),(8,.d (.int .i64 v27))]) (objs:=[.box [.d (.cx .f32 f_.Source.A.re f_.Source.A.im),.d (.cx .f32 f_.Source.B.re f_.Source.B.im),.d (.cx .f32 f_.Source.C.re f_.Source.C.im),.d (.sl false (f_.qa8.map qae))],.row 3 ((v26 ++ [x45]).map qa6)]) rfl (by simp) rfl (by trivial) ⟨rfl,trivial,rfl,trivial,rfl,(by trivial),rfl,trivial,rfl,trivial,trivial⟩) ?_
    refine qa2 ?_
    refine qa0 hτ rfl rfl rfl ?_
    refine qa0 hτ rfl rfl rfl ?_
    refine qa0 hτ rfl rfl rfl ?_
    refine qa4 ?_
    exact ⟨(m37,(v26 ++ [x45]),(w64 (v27 + (1:Int)))),h,Nat.lt_succ_self m37,(qa3 [0,1] (l:=[(0,.ptr 0 0),(1,.d (.sl false (currents_.map qa6))),(2,.func 62 [] []),(7,.row 1 ((v26 ++ [x45]).length) 0 ((v26 ++ [x45]).length)),(8,.d (.int .i64 (w64 (v27 + (1:Int)))))]) (objs:=[.box [.d (.cx .f32 f_.Source.A.re f_.Source.A.im),.d (.cx .f32 f_.Source.B.re f_.Source.B.im),.d (.cx .f32 f_.Source.C.re f_.Source.C.im),.d (.sl false (f_.qa8.map qae))],.row 3 ((v26 ++ [x45]).map qa6)]) rfl (by simp) rfl (by trivial) ⟨rfl,trivial,rfl,trivial,rfl,(by trivial),rfl,trivial,rfl,trivial,trivial⟩)⟩
  · have h:=if_f h hc39
    refine qgi ?_
    refine qa7 ?_
    refine qa2 ?_
    refine qa0 hτ rfl rfl rfl ?_
    refine qa0 hτ rfl rfl rfl ?_
    refine qa4 ?_
    refine qa9 (qa3 [0,1] (l:=[(6,.row 1 v26.length 0 v26.length)]) (objs:=[.box [.d (.cx .f32 f_.Source.A.re f_.Source.A.im),.d (.cx .f32 f_.Source.B.re f_.Source.B.im),.d (.cx .f32 f_.Source.C.re f_.Source.C.im),.d (.sl false (f_.qa8.map qae))],.row 3 (v26.map qa6)]) rfl (by simp) rfl (by trivial) ⟨rfl,trivial,trivial⟩) ?_
    refine qar ?_
    have hr:=Option.some.inj h
    subst hr
    exact qah (.inr rfl) [1] (objs':=[.box [.d (.cx .f32 f_.Source.A.re f_.Source.A.im),.d (.cx .f32 f_.Source.B.re f_.Source.B.im),.d (.cx .f32 f_.Source.C.re f_.Source.C.im),.d (.sl false (f_.qa8.map qae))]]) (new:=[.row 3 (v26.map qa6)]) rfl (by simp) (by simp) rfl (by trivial) rfl rfl (by trivial) (fun h=>nomatch h) ⟨rfl,rfl,rfl⟩
def qdw (n:Nat) (f_:qak) (voltages_:List qa5):Option qg1 :=
  (qey n f_ voltages_).bind fun x4 =>
  (qe6 n f_ x4).bind fun x5 =>
  (qex n f_ x5).bind fun x6 =>
  some (qg1.mk x6 x5 (1:Int) false)
theorem impl_Feeder_sweep_ok (n:Nat) (f_:qak) (voltages_:List qa5) {r:qg1} (h:qdw n f_ voltages_ = some r):qay prog false 83 [.ptr 0 0,.d (.sl false (voltages_.map qa6)),.func 62 [] []] [.box [.d (.cx .f32 f_.Source.A.re f_.Source.A.im),.d (.cx .f32 f_.Source.B.re f_.Source.B.im),.d (.cx .f32 f_.Source.C.re f_.Source.C.im),.d (.sl false (f_.qa8.map qae))]] (fun v o new=>v = .agg [.row 1 r.qat.length 0 r.qat.length,.d (.sl false (r.qbj.map qa6)),.d (.int .i64 r.Rounds),.d (.bool r.qgf)]∧o = [.box [.d (.cx .f32 f_.Source.A.re f_.Source.A.im),.d (.cx .f32 f_.Source.B.re f_.Source.B.im),.d (.cx .f32 f_.Source.C.re f_.Source.C.im),.d (.sl false (f_.qa8.map qae))]]∧new = [.row 3 (r.qat.map qa6)]):=by
  refine qai hτ func83 rfl (by simp) (by simp) ?_
  unfold qdw at h
  refine qa7 ?_
  refine qa2 ?_
  refine qaj hτ rfl rfl rfl ?_
  refine qa4 ?_
  refine qa7 ?_
  refine qa2 ?_
  refine qa0 hτ rfl rfl rfl ?_
  refine qa0 hτ rfl rfl rfl ?_
  refine qa0 hτ rfl rfl rfl ?_
  refine qab h fun x4 hx4 h=>?_
  refine qad hτ false [0] rfl rfl rfl (qaf func127 rfl rfl) rfl rfl (by simp) ⟨trivial,trivial,trivial⟩ (by trivial) (impl_Feeder_loads_ok n f_ voltages_ hx4) ?_
  rintro r0 o0 n0 ⟨rfl,rfl,rfl⟩ -
  refine qa0 hτ rfl rfl rfl ?_
  refine qb2 (qa3 [0,1] (l:=[(0,.ptr 0 0),(2,.func 62 [] []),(6,.ptr 1 0),(8,.ptr 0 0),(11,.d (.sl false (x4.map qa6))),(12,.func 62 [] [])]) (objs:=[.box [.d (.cx .f32 f_.Source.A.re f_.Source.A.im),.d (.cx .f32 f_.Source.B.re f_.Source.B.im),.d (.cx .f32 f_.Source.C.re f_.Source.C.im),.d (.sl false (f_.qa8.map qae))],.box [.d (.nils),.d (.nils),.d (.int .i64 (0:Int)),.d (.bool false)]]) rfl (by simp) rfl (by trivial) ⟨rfl,trivial,rfl,(by trivial),rfl,trivial,rfl,trivial,(qhl (f:=qa6) (j:=2) (sz:=3) x4 rfl rfl rfl),(qgl (f:=qa6) (j:=2) (sz:=3) x4 rfl rfl rfl),rfl,(by trivial),trivial⟩) ?_
  refine qab h fun x5 hx5 h=>?_
  refine qad hτ false [0] rfl rfl rfl (qaf func126 rfl rfl) rfl rfl (by simp) ⟨trivial,trivial,(by trivial),trivial⟩ (by trivial) (impl_Feeder_back_ok n f_ x4 hx5) ?_
  rintro r0 o0 n0 ⟨rfl,rfl,rfl⟩ -
  refine qa0 hτ rfl rfl rfl ?_
  refine qa4 ?_
  refine qa7 ?_
  refine qa2 ?_
  refine qa0 hτ rfl rfl rfl ?_
  refine qa0 hτ rfl rfl rfl ?_
  refine qa0 hτ rfl rfl rfl ?_
  refine qb2 (qa3 [0,1] (l:=[(6,.ptr 1 0),(7,.d (.sl false (x5.map qa6))),(14,.ptr 0 0),(15,.d (.sl false (x5.map qa6))),(16,.func 62 [] [])]) (objs:=[.box [.d (.cx .f32 f_.Source.A.re f_.Source.A.im),.d (.cx .f32 f_.Source.B.re f_.Source.B.im),.d (.cx .f32 f_.Source.C.re f_.Source.C.im),.d (.sl false (f_.qa8.map qae))],.box [.d (.nils),.d (.nils),.d (.int .i64 (0:Int)),.d (.bool false)]]) rfl (by simp) rfl (by trivial) ⟨rfl,trivial,(qhl (f:=qa6) (j:=2) (sz:=3) x5 rfl rfl rfl),(qgl (f:=qa6) (j:=2) (sz:=3) x5 rfl rfl rfl),rfl,trivial,(qhl (f:=qa6) (j:=2) (sz:=3) x5 rfl rfl rfl),(qgl (f:=qa6) (j:=2) (sz:=3) x5 rfl rfl rfl),rfl,(by trivial),trivial⟩) ?_
  refine qab h fun x6 hx6 h=>?_
  refine qad hτ false [0] rfl rfl rfl (qaf func128 rfl rfl) rfl rfl (by simp) ⟨trivial,trivial,(by trivial),trivial⟩ (by trivial) (impl_Feeder_forth_ok n f_ x5 hx6) ?_
  rintro r0 o0 n0 ⟨rfl,rfl,rfl⟩ -
  refine qa0 hτ rfl rfl rfl ?_
  refine qa0 hτ rfl rfl rfl ?_
  refine qaj hτ rfl rfl rfl ?_
  refine qa4 ?_
  refine qa9 (qa3 [0,1,2] (l:=[(6,.ptr 1 0)]) (objs:=[.box [.d (.cx .f32 f_.Source.A.re f_.Source.A.im),.d (.cx .f32 f_.Source.B.re f_.Source.B.im),.d (.cx .f32 f_.Source.C.re f_.Source.C.im),.d (.sl false (f_.qa8.map qae))],.box [.row 2 x6.length 0 x6.length,.d (.sl false (x5.map qa6)),.d (.int .i64 (1:Int)),.d (.bool false)],.row 3 (x6.map qa6)]) rfl (by simp) rfl (by trivial) ⟨rfl,trivial,trivial⟩) ?_
  refine qar ?_
  have hr:=Option.some.inj h
  subst hr
  exact qah (.inr rfl) [2] (objs':=[.box [.d (.cx .f32 f_.Source.A.re f_.Source.A.im),.d (.cx .f32 f_.Source.B.re f_.Source.B.im),.d (.cx .f32 f_.Source.C.re f_.Source.C.im),.d (.sl false (f_.qa8.map qae))]]) (new:=[.row 3 (x6.map qa6)]) rfl (by simp) (by simp) rfl (by trivial) rfl rfl (by trivial) (fun h=>nomatch h) ⟨rfl,rfl,rfl⟩
def qdn (n:Nat) (rounds_:Int) (v40:List qa5) (v41:List qa5) (v42:Int) (v43:Bool):Option qg1 :=
  some (qg1.mk v40 v41 rounds_ v43)
def qbg (n:Nat) (f_:qak) (rounds_:Int):Nat→List qa5→List qa5→Int→Bool→Int→Option qg1
  | 0,_,_,_,_,_=>none
  | m57 + 1,v46,v47,v48,v49,v50 =>
    if v50 < rounds_ then
      (qdw n f_ v46).bind fun x60 =>
      (qbg n f_ rounds_ m57) x60.qat x60.qbj x60.Rounds x60.qgf (w64 (v50 + (1:Int)))
    else
      qdn n rounds_ v46 v47 v48 v49
def qdm (n:Nat) (f_:qak) (rounds_:Int) (v27:List qa5):Option qg1 :=
  qbg n f_ rounds_ n v27 (List.replicate (f_.qa8.length:Int).toNat (qa5.mk (Cx.mk (0:Nat) (0:Nat)) (Cx.mk (0:Nat) (0:Nat)) (Cx.mk (0:Nat) (0:Nat)))) (0:Int) false (0:Int)
def qc7 (n:Nat) (f_:qak) (voltages_:List qa5) (rounds_:Int):Option qg1 :=
  (qca n voltages_).bind fun x62 =>
  grd (0 ≤ (f_.qa8.length:Int)∧room (f_.qa8.length:Int).toNat 24) <|
  qdm n f_ rounds_ x62
theorem qhb (n:Nat) (f_:qak) (voltages_:List qa5) (rounds_:Int) {r:qg1} (h:qc7 n f_ voltages_ rounds_ = some r):qay prog false 60 [.ptr 0 0,.d (.sl false (voltages_.map qa6)),.d (.int .i64 rounds_),.func 62 [] []] [.box [.d (.cx .f32 f_.Source.A.re f_.Source.A.im),.d (.cx .f32 f_.Source.B.re f_.Source.B.im),.d (.cx .f32 f_.Source.C.re f_.Source.C.im),.d (.sl false (f_.qa8.map qae))]] (fun v o new=>v = .agg [.row 1 r.qat.length 0 r.qat.length,.d (.sl false (r.qbj.map qa6)),.d (.int .i64 r.Rounds),.d (.bool r.qgf)]∧o = [.box [.d (.cx .f32 f_.Source.A.re f_.Source.A.im),.d (.cx .f32 f_.Source.B.re f_.Source.B.im),.d (.cx .f32 f_.Source.C.re f_.Source.C.im),.d (.sl false (f_.qa8.map qae))]]∧new = [.row 3 (r.qat.map qa6)]):=by
  refine qai hτ func60 rfl (by simp) (by simp) ?_
  unfold qc7 at h
  refine qa7 ?_
  refine qa2 ?_
  refine qaj hτ rfl rfl rfl ?_
  refine qa4 ?_
  refine qc0 (ι:=List qa5) (fun v27=>St.of [(0,.ptr 0 0),(2,.d (.int .i64 rounds_)),(3,.func 62 [] []),(8,.ptr 1 0),(9,.ptr 2 0)] [.box [.d (.cx .f32 f_.Source.A.re f_.Source.A.im),.d (.cx .f32 f_.Source.B.re f_.Source.B.im),.d (.cx .f32 f_.Source.C.re f_.Source.C.im),.d (.sl false (f_.qa8.map qae))],.box [.d (.nils),.d (.nils),.d (.int .i64 (0:Int)),.d (.bool false)],.box [.row 3 v27.length 0 v27.length,.row 4 ((List.replicate (f_.qa8.length:Int).toNat (qa5.mk (Cx.mk (0:Nat) (0:Nat)) (Cx.mk (0:Nat) (0:Nat)) (Cx.mk (0:Nat) (0:Nat)))).length) 0 ((List.replicate (f_.qa8.length:Int).toNat (qa5.mk (Cx.mk (0:Nat) (0:Nat)) (Cx.mk (0:Nat) (0:Nat)) (Cx.mk (0:Nat) (0:Nat)))).length),.d (.int .i64 (0:Int)),.d (.bool false)],.row 3 (v27.map qa6),.row 3 ((List.replicate (f_.qa8.length:Int).toNat (qa5.mk (Cx.mk (0:Nat) (0:Nat)) (Cx.mk (0:Nat) (0:Nat)) (Cx.mk (0:Nat) (0:Nat)))).map qa6)] f60.ntmps 1) (fun v27=>qdm n f_ rounds_ v27 = some r) ?_ (fun hk61=>?_)
  · rintro v27 h
    replace h:qdm n f_ rounds_ v27 = some r:=h
    unfold qdm at h
    refine qc0 (ι:=List qa5 × List qa5 × Int × Bool) (fun (v40,v41,v42,v43)=>St.of [(2,.d (.int .i64 rounds_)),(8,.ptr 1 0),(9,.ptr 2 0)] [.box [.d (.cx .f32 f_.Source.A.re f_.Source.A.im),.d (.cx .f32 f_.Source.B.re f_.Source.B.im),.d (.cx .f32 f_.Source.C.re f_.Source.C.im),.d (.sl false (f_.qa8.map qae))],.box [.d (.nils),.d (.nils),.d (.int .i64 (0:Int)),.d (.bool false)],.box [.row 3 v40.length 0 v40.length,.d (.sl false (v41.map qa6)),.d (.int .i64 v42),.d (.bool v43)],.row 3 (v40.map qa6)] f60.ntmps 1) (fun (v40,v41,v42,v43)=>qdn n rounds_ v40 v41 v42 v43 = some r) ?_ (fun hk44=>?_)
    · rintro ⟨v40,v41,v42,v43⟩ h
      replace h:qdn n rounds_ v40 v41 v42 v43 = some r:=h
      unfold qdn at h
      refine qa7 ?_
      refine qa2 ?_
      refine qa0 hτ rfl rfl rfl ?_
      refine qa0 hτ rfl rfl rfl ?_
      refine qaj hτ rfl rfl rfl ?_
      refine qa4 ?_
      refine qa7 ?_
      refine qa2 ?_
      refine qa0 hτ rfl rfl rfl ?_
      refine qaj hτ rfl rfl rfl ?_
      refine qa4 ?_
      refine qa9 (qa3 [0,1,3] (l:=[(8,.ptr 1 0)]) (objs:=[.box [.d (.cx .f32 f_.Source.A.re f_.Source.A.im),.d (.cx .f32 f_.Source.B.re f_.Source.B.im),.d (.cx .f32 f_.Source.C.re f_.Source.C.im),.d (.sl false (f_.qa8.map qae))],.box [.row 2 v40.length 0 v40.length,.d (.sl false (v41.map qa6)),.d (.int .i64 rounds_),.d (.bool v43)],.row 3 (v40.map qa6)]) rfl (by simp) rfl (by trivial) ⟨rfl,trivial,trivial⟩) ?_
      refine qar ?_
      have hr:=Option.some.inj h
      subst hr
      exact qah (.inr rfl) [2] (objs':=[.box [.d (.cx .f32 f_.Source.A.re f_.Source.A.im),.d (.cx .f32 f_.Source.B.re f_.Source.B.im),.d (.cx .f32 f_.Source.C.re f_.Source.C.im),.d (.sl false (f_.qa8.map qae))]]) (new:=[.row 3 (v40.map qa6)]) rfl (by simp) (by simp) rfl (by trivial) rfl rfl (by trivial) (fun h=>nomatch h) ⟨rfl,rfl,rfl⟩
    · refine qa7 ?_
      refine qa7 ?_
      refine qa2 ?_
      refine qa0 hτ rfl rfl rfl ?_
      refine qa0 hτ rfl rfl rfl ?_
      refine qa4 ?_
      refine qbo ?_
      refine qgj (ι:=Nat × List qa5 × List qa5 × Int × Bool × Int) (fun (m57,v46,v47,v48,v49,v50)=>St.of [(0,.ptr 0 0),(2,.d (.int .i64 rounds_)),(3,.func 62 [] []),(8,.ptr 1 0),(9,.ptr 2 0),(19,.d (.int .i64 rounds_)),(20,.d (.int .i64 v50))] [.box [.d (.cx .f32 f_.Source.A.re f_.Source.A.im),.d (.cx .f32 f_.Source.B.re f_.Source.B.im),.d (.cx .f32 f_.Source.C.re f_.Source.C.im),.d (.sl false (f_.qa8.map qae))],.box [.d (.nils),.d (.nils),.d (.int .i64 (0:Int)),.d (.bool false)],.box [.row 3 v46.length 0 v46.length,.d (.sl false (v47.map qa6)),.d (.int .i64 v48),.d (.bool v49)],.row 3 (v46.map qa6)] f60.ntmps 1) (fun (m57,v46,v47,v48,v49,v50)=>qbg n f_ rounds_ m57 v46 v47 v48 v49 v50 = some r) (fun x=>x.1) (n,v27,(List.replicate (f_.qa8.length:Int).toNat (qa5.mk (Cx.mk (0:Nat) (0:Nat)) (Cx.mk (0:Nat) (0:Nat)) (Cx.mk (0:Nat) (0:Nat)))),(0:Int),false,(0:Int)) h (qa3 [0,1,2,3] (l:=[(0,.ptr 0 0),(2,.d (.int .i64 rounds_)),(3,.func 62 [] []),(8,.ptr 1 0),(9,.ptr 2 0),(19,.d (.int .i64 rounds_)),(20,.d (.int .i64 (0:Int)))]) (objs:=[.box [.d (.cx .f32 f_.Source.A.re f_.Source.A.im),.d (.cx .f32 f_.Source.B.re f_.Source.B.im),.d (.cx .f32 f_.Source.C.re f_.Source.C.im),.d (.sl false (f_.qa8.map qae))],.box [.d (.nils),.d (.nils),.d (.int .i64 (0:Int)),.d (.bool false)],.box [.row 3 v27.length 0 v27.length,.d (.sl false ((List.replicate (f_.qa8.length:Int).toNat (qa5.mk (Cx.mk (0:Nat) (0:Nat)) (Cx.mk (0:Nat) (0:Nat)) (Cx.mk (0:Nat) (0:Nat)))).map qa6)),.d (.int .i64 (0:Int)),.d (.bool false)],.row 3 (v27.map qa6)]) rfl (by simp) (qax rfl (qax rfl (qax (qp9 (qax rfl (qax (qit (f:=qa6) (j:=4) (sz:=3) (List.replicate (f_.qa8.length:Int).toNat (qa5.mk (Cx.mk (0:Nat) (0:Nat)) (Cx.mk (0:Nat) (0:Nat)) (Cx.mk (0:Nat) (0:Nat)))) rfl rfl rfl) (qax rfl (qax rfl qfp))))) (qax rfl qfp)))) ⟨(by trivial),(by trivial),⟨trivial,(qiu (f:=qa6) (j:=4) (sz:=3) (List.replicate (f_.qa8.length:Int).toNat (qa5.mk (Cx.mk (0:Nat) (0:Nat)) (Cx.mk (0:Nat) (0:Nat)) (Cx.mk (0:Nat) (0:Nat)))) rfl rfl rfl),trivial,trivial⟩,trivial,trivial⟩ ⟨rfl,trivial,rfl,trivial,rfl,(by trivial),rfl,trivial,rfl,trivial,rfl,trivial,rfl,trivial,trivial⟩) ?_
      rintro ⟨m57,v46,v47,v48,v49,v50⟩ h
      replace h:qbg n f_ rounds_ m57 v46 v47 v48 v49 v50 = some r:=h
      rcases m57 with _ | m57
      · rw [qbg] at h;cases h
      rw [qbg] at h
      refine qa7 ?_
      refine qa2 ?_
      refine qa0 hτ rfl rfl rfl ?_
      refine qa4 ?_
      refine qa7 ?_
      refine qaz rfl (fun hc59=>?_) (fun hc59=>?_)
      · have h:=if_t h hc59
        refine qb4 ?_
        refine qa7 ?_
        refine qbo ?_
        refine qa2 ?_
        refine qa0 hτ rfl rfl rfl ?_
        refine qa0 hτ rfl rfl rfl ?_
        refine qa0 hτ rfl rfl rfl ?_
        refine qa0 hτ rfl rfl rfl ?_
        refine qb2 (qa3 [0,1,2] (l:=[(0,.ptr 0 0),(2,.d (.int .i64 rounds_)),(3,.func 62 [] []),(8,.ptr 1 0),(9,.ptr 2 0),(19,.d (.int .i64 rounds_)),(20,.d (.int .i64 v50)),(22,.ptr 0 0),(24,.d (.sl false (v46.map qa6))),(25,.func 62 [] [])]) (objs:=[.box [.d (.cx .f32 f_.Source.A.re f_.Source.A.im),.d (.cx .f32 f_.Source.B.re f_.Source.B.im),.d (.cx .f32 f_.Source.C.re f_.Source.C.im),.d (.sl false (f_.qa8.map qae))],.box [.d (.nils),.d (.nils),.d (.int .i64 (0:Int)),.d (.bool false)],.box [.d (.sl false (v46.map qa6)),.d (.sl false (v47.map qa6)),.d (.int .i64 v48),.d (.bool v49)]]) rfl (by simp) (qax rfl (qax rfl (qax (qp9 (qax (qit (f:=qa6) (j:=3) (sz:=3) v46 rfl rfl rfl) (qax rfl (qax rfl (qax rfl qfp))))) qfp))) ⟨(by trivial),(by trivial),⟨(qiu (f:=qa6) (j:=3) (sz:=3) v46 rfl rfl rfl),trivial,trivial,trivial⟩,trivial⟩ ⟨rfl,trivial,rfl,trivial,rfl,(by trivial),rfl,trivial,rfl,trivial,rfl,trivial,rfl,trivial,rfl,trivial,(qhl (f:=qa6) (j:=3) (sz:=3) v46 rfl rfl rfl),(qgl (f:=qa6) (j:=3) (sz:=3) v46 rfl rfl rfl),rfl,(by trivial),trivial⟩) ?_
        refine qab h fun x60 hx60 h=>?_
        refine qad hτ false [0] rfl rfl rfl (qaf func83 rfl rfl) rfl rfl (by simp) ⟨trivial,trivial,(by trivial),trivial⟩ (by trivial) (impl_Feeder_sweep_ok n f_ v46 hx60) ?_
        rintro r0 o0 n0 ⟨rfl,rfl,rfl⟩ -
        refine qaj hτ rfl rfl rfl ?_
        refine qa4 ?_
        refine qa2 ?_
        refine qa0 hτ rfl rfl rfl ?_
        refine qa0 hτ rfl rfl rfl ?_
        refine qa4 ?_
        exact ⟨(m57,x60.qat,x60.qbj,x60.Rounds,x60.qgf,(w64 (v50 + (1:Int)))),h,Nat.lt_succ_self m57,(qa3 [0,1,2,3] (l:=[(0,.ptr 0 0),(2,.d (.int .i64 rounds_)),(3,.func 62 [] []),(8,.ptr 1 0),(9,.ptr 2 0),(19,.d (.int .i64 rounds_)),(20,.d (.int .i64 (w64 (v50 + (1:Int)))))]) (objs:=[.box [.d (.cx .f32 f_.Source.A.re f_.Source.A.im),.d (.cx .f32 f_.Source.B.re f_.Source.B.im),.d (.cx .f32 f_.Source.C.re f_.Source.C.im),.d (.sl false (f_.qa8.map qae))],.box [.d (.nils),.d (.nils),.d (.int .i64 (0:Int)),.d (.bool false)],.box [.row 3 x60.qat.length 0 x60.qat.length,.d (.sl false (x60.qbj.map qa6)),.d (.int .i64 x60.Rounds),.d (.bool x60.qgf)],.row 3 (x60.qat.map qa6)]) rfl (by simp) rfl (by trivial) ⟨rfl,trivial,rfl,trivial,rfl,(by trivial),rfl,trivial,rfl,trivial,rfl,trivial,rfl,trivial,trivial⟩)⟩
      · have h:=if_f h hc59
        refine qgi ?_
        refine qa9 (qa3 [0,1,2,3] (l:=[(2,.d (.int .i64 rounds_)),(8,.ptr 1 0),(9,.ptr 2 0)]) (objs:=[.box [.d (.cx .f32 f_.Source.A.re f_.Source.A.im),.d (.cx .f32 f_.Source.B.re f_.Source.B.im),.d (.cx .f32 f_.Source.C.re f_.Source.C.im),.d (.sl false (f_.qa8.map qae))],.box [.d (.nils),.d (.nils),.d (.int .i64 (0:Int)),.d (.bool false)],.box [.row 3 v46.length 0 v46.length,.d (.sl false (v47.map qa6)),.d (.int .i64 v48),.d (.bool v49)],.row 3 (v46.map qa6)]) rfl (by simp) rfl (by trivial) ⟨rfl,trivial,rfl,trivial,rfl,trivial,trivial⟩) ?_
        exact hk44 (v46,v47,v48,v49) h
  · refine qa7 ?_
    refine qme mixed ?_
    refine qac hτ [] 0 rfl rfl rfl rfl rfl ?_
    refine qac hτ [] 2 rfl rfl rfl rfl rfl ?_
    refine qac hτ [] 3 rfl rfl rfl rfl rfl ?_
    refine qac hτ [0] 4 rfl rfl rfl rfl rfl ?_
    refine qac hτ [0] 5 rfl rfl rfl rfl rfl ?_
    refine qac hτ (v:=.d (.int .i64 (f_.qa8.length:Int))) [] 6 rfl rfl rfl rfl (Eq.trans rfl (qfb (f:=qae) f_.qa8)) ?_
    refine qjv [1,7,9] (by kernel_rfl) fun _ hfs=>⟨?_,?_,?_,trivial⟩
    · refine qab h fun x62 hx62 h=>?_
      refine qb8 hτ false [] [0,1] 1 rfl rfl rfl rfl (qaf func113 rfl rfl) rfl rfl (by simp) ⟨trivial,trivial⟩ (by trivial) (qdu n voltages_ hx62) ⟨rfl,rfl,trivial⟩ ?_
      refine qfc hfs (by kernel_rfl) fun _=>?_
      refine qjv [7,9] (by kernel_rfl) fun _ hfs=>⟨?_,?_,trivial⟩
      · refine qcq h fun hg63 h=>?_
        refine qg7 hτ [0,1,2] 7 rfl rfl rfl (Eq.trans rfl (qkg (f:=qa6) (x:=(qa5.mk (Cx.mk (0:Nat) (0:Nat)) (Cx.mk (0:Nat) (0:Nat)) (Cx.mk (0:Nat) (0:Nat)))) rfl)) (qii hg63 (by decide)) ⟨rfl,rfl,rfl,trivial⟩ ?_
        refine qfc hfs (by kernel_rfl) fun _=>?_
        refine qac hτ [] 8 rfl rfl rfl rfl rfl ?_
        refine qbs hτ [0,1,2,3] 9 rfl rfl rfl rfl ⟨rfl,rfl,rfl,rfl,trivial⟩ ?_
        refine qbs hτ [0,1,2,3] 10 rfl rfl rfl rfl ⟨rfl,rfl,rfl,rfl,trivial⟩ ?_
        refine qh8 (by kernel_rfl) ?_
        refine qa9 (qa3 [0,1,4,2,3] (l:=[(0,.ptr 0 0),(2,.d (.int .i64 rounds_)),(3,.func 62 [] []),(8,.ptr 1 0),(9,.ptr 2 0)]) (objs:=[.box [.d (.cx .f32 f_.Source.A.re f_.Source.A.im),.d (.cx .f32 f_.Source.B.re f_.Source.B.im),.d (.cx .f32 f_.Source.C.re f_.Source.C.im),.d (.sl false (f_.qa8.map qae))],.box [.d (.nils),.d (.nils),.d (.int .i64 (0:Int)),.d (.bool false)],.box [.row 3 x62.length 0 x62.length,.row 4 ((List.replicate (f_.qa8.length:Int).toNat (qa5.mk (Cx.mk (0:Nat) (0:Nat)) (Cx.mk (0:Nat) (0:Nat)) (Cx.mk (0:Nat) (0:Nat)))).length) 0 ((List.replicate (f_.qa8.length:Int).toNat (qa5.mk (Cx.mk (0:Nat) (0:Nat)) (Cx.mk (0:Nat) (0:Nat)) (Cx.mk (0:Nat) (0:Nat)))).length),.d (.int .i64 (0:Int)),.d (.bool false)],.row 3 (x62.map qa6),.row 3 ((List.replicate (f_.qa8.length:Int).toNat (qa5.mk (Cx.mk (0:Nat) (0:Nat)) (Cx.mk (0:Nat) (0:Nat)) (Cx.mk (0:Nat) (0:Nat)))).map qa6)]) rfl (by simp) rfl (by trivial) ⟨rfl,trivial,rfl,trivial,rfl,(by trivial),rfl,trivial,rfl,trivial,trivial⟩) ?_
        exact hk61 x62 h
      · refine qbs hτ [0,1,2] 9 rfl rfl rfl rfl ⟨rfl,rfl,rfl,trivial⟩ ?_
        refine qfc hfs (by kernel_rfl) fun _=>?_
        refine qcq h fun hg63 h=>?_
        refine qg7 hτ [0,1,2,3] 7 rfl rfl rfl (Eq.trans rfl (qkg (f:=qa6) (x:=(qa5.mk (Cx.mk (0:Nat) (0:Nat)) (Cx.mk (0:Nat) (0:Nat)) (Cx.mk (0:Nat) (0:Nat)))) rfl)) (qii hg63 (by decide)) ⟨rfl,rfl,rfl,rfl,trivial⟩ ?_
        refine qac hτ [] 8 rfl rfl rfl rfl rfl ?_
        refine qbs hτ [0,1,2,4] 10 rfl rfl rfl rfl ⟨rfl,rfl,rfl,rfl,trivial⟩ ?_
        refine qh8 (by kernel_rfl) ?_
        refine qa9 (qa3 [0,1,3,2,4] (l:=[(0,.ptr 0 0),(2,.d (.int .i64 rounds_)),(3,.func 62 [] []),(8,.ptr 1 0),(9,.ptr 2 0)]) (objs:=[.box [.d (.cx .f32 f_.Source.A.re f_.Source.A.im),.d (.cx .f32 f_.Source.B.re f_.Source.B.im),.d (.cx .f32 f_.Source.C.re f_.Source.C.im),.d (.sl false (f_.qa8.map qae))],.box [.d (.nils),.d (.nils),.d (.int .i64 (0:Int)),.d (.bool false)],.box [.row 3 x62.length 0 x62.length,.row 4 ((List.replicate (f_.qa8.length:Int).toNat (qa5.mk (Cx.mk (0:Nat) (0:Nat)) (Cx.mk (0:Nat) (0:Nat)) (Cx.mk (0:Nat) (0:Nat)))).length) 0 ((List.replicate (f_.qa8.length:Int).toNat (qa5.mk (Cx.mk (0:Nat) (0:Nat)) (Cx.mk (0:Nat) (0:Nat)) (Cx.mk (0:Nat) (0:Nat)))).length),.d (.int .i64 (0:Int)),.d (.bool false)],.row 3 (x62.map qa6),.row 3 ((List.replicate (f_.qa8.length:Int).toNat (qa5.mk (Cx.mk (0:Nat) (0:Nat)) (Cx.mk (0:Nat) (0:Nat)) (Cx.mk (0:Nat) (0:Nat)))).map qa6)]) rfl (by simp) rfl (by trivial) ⟨rfl,trivial,rfl,trivial,rfl,(by trivial),rfl,trivial,rfl,trivial,trivial⟩) ?_
        exact hk61 x62 h
    · refine qab h fun x63 hx63 h=>?_
      refine qcq h fun hg62 h=>?_
      refine qg7 hτ [0,1] 7 rfl rfl rfl (Eq.trans rfl (qkg (f:=qa6) (x:=(qa5.mk (Cx.mk (0:Nat) (0:Nat)) (Cx.mk (0:Nat) (0:Nat)) (Cx.mk (0:Nat) (0:Nat)))) rfl)) (qii hg62 (by decide)) ⟨rfl,rfl,trivial⟩ ?_
      refine qfc hfs (by kernel_rfl) fun _=>?_
      refine qjv [1,9] (by kernel_rfl) fun _ hfs=>⟨?_,?_,trivial⟩
      · refine qb8 hτ false [] [0,1,2] 1 rfl rfl rfl rfl (qaf func113 rfl rfl) rfl rfl (by simp) ⟨trivial,trivial⟩ (by trivial) (qdu n voltages_ hx63) ⟨rfl,rfl,rfl,trivial⟩ ?_
        refine qfc hfs (by kernel_rfl) fun _=>?_
        refine qac hτ [] 8 rfl rfl rfl rfl rfl ?_
        refine qbs hτ [0,1,2,3] 9 rfl rfl rfl rfl ⟨rfl,rfl,rfl,rfl,trivial⟩ ?_
        refine qbs hτ [0,1,2,3] 10 rfl rfl rfl rfl ⟨rfl,rfl,rfl,rfl,trivial⟩ ?_
        refine qh8 (by kernel_rfl) ?_
        refine qa9 (qa3 [0,1,4,3,2] (l:=[(0,.ptr 0 0),(2,.d (.int .i64 rounds_)),(3,.func 62 [] []),(8,.ptr 1 0),(9,.ptr 2 0)]) (objs:=[.box [.d (.cx .f32 f_.Source.A.re f_.Source.A.im),.d (.cx .f32 f_.Source.B.re f_.Source.B.im),.d (.cx .f32 f_.Source.C.re f_.Source.C.im),.d (.sl false (f_.qa8.map qae))],.box [.d (.nils),.d (.nils),.d (.int .i64 (0:Int)),.d (.bool false)],.box [.row 3 x63.length 0 x63.length,.row 4 ((List.replicate (f_.qa8.length:Int).toNat (qa5.mk (Cx.mk (0:Nat) (0:Nat)) (Cx.mk (0:Nat) (0:Nat)) (Cx.mk (0:Nat) (0:Nat)))).length) 0 ((List.replicate (f_.qa8.length:Int).toNat (qa5.mk (Cx.mk (0:Nat) (0:Nat)) (Cx.mk (0:Nat) (0:Nat)) (Cx.mk (0:Nat) (0:Nat)))).length),.d (.int .i64 (0:Int)),.d (.bool false)],.row 3 (x63.map qa6),.row 3 ((List.replicate (f_.qa8.length:Int).toNat (qa5.mk (Cx.mk (0:Nat) (0:Nat)) (Cx.mk (0:Nat) (0:Nat)) (Cx.mk (0:Nat) (0:Nat)))).map qa6)]) rfl (by simp) rfl (by trivial) ⟨rfl,trivial,rfl,trivial,rfl,(by trivial),rfl,trivial,rfl,trivial,trivial⟩) ?_
        exact hk61 x63 h
      · refine qbs hτ [0,1,2] 9 rfl rfl rfl rfl ⟨rfl,rfl,rfl,trivial⟩ ?_
        refine qfc hfs (by kernel_rfl) fun _=>?_
        refine qb8 hτ false [] [0,1,2,3] 1 rfl rfl rfl rfl (qaf func113 rfl rfl) rfl rfl (by simp) ⟨trivial,trivial⟩ (by trivial) (qdu n voltages_ hx63) ⟨rfl,rfl,rfl,rfl,trivial⟩ ?_
        refine qac hτ [] 8 rfl rfl rfl rfl rfl ?_
        refine qbs hτ [0,1,2,4] 10 rfl rfl rfl rfl ⟨rfl,rfl,rfl,rfl,trivial⟩ ?_
        refine qh8 (by kernel_rfl) ?_
        refine qa9 (qa3 [0,1,3,4,2] (l:=[(0,.ptr 0 0),(2,.d (.int .i64 rounds_)),(3,.func 62 [] []),(8,.ptr 1 0),(9,.ptr 2 0)]) (objs:=[.box [.d (.cx .f32 f_.Source.A.re f_.Source.A.im),.d (.cx .f32 f_.Source.B.re f_.Source.B.im),.d (.cx .f32 f_.Source.C.re f_.Source.C.im),.d (.sl false (f_.qa8.map qae))],.box [.d (.nils),.d (.nils),.d (.int .i64 (0:Int)),.d (.bool false)],.box [.row 3 x63.length 0 x63.length,.row 4 ((List.replicate (f_.qa8.length:Int).toNat (qa5.mk (Cx.mk (0:Nat) (0:Nat)) (Cx.mk (0:Nat) (0:Nat)) (Cx.mk (0:Nat) (0:Nat)))).length) 0 ((List.replicate (f_.qa8.length:Int).toNat (qa5.mk (Cx.mk (0:Nat) (0:Nat)) (Cx.mk (0:Nat) (0:Nat)) (Cx.mk (0:Nat) (0:Nat)))).length),.d (.int .i64 (0:Int)),.d (.bool false)],.row 3 (x63.map qa6),.row 3 ((List.replicate (f_.qa8.length:Int).toNat (qa5.mk (Cx.mk (0:Nat) (0:Nat)) (Cx.mk (0:Nat) (0:Nat)) (Cx.mk (0:Nat) (0:Nat)))).map qa6)]) rfl (by simp) rfl (by trivial) ⟨rfl,trivial,rfl,trivial,rfl,(by trivial),rfl,trivial,rfl,trivial,trivial⟩) ?_
        exact hk61 x63 h
    · refine qbs hτ [0,1] 9 rfl rfl rfl rfl ⟨rfl,rfl,trivial⟩ ?_
      refine qfc hfs (by kernel_rfl) fun _=>?_
      refine qjv [1,7] (by kernel_rfl) fun _ hfs=>⟨?_,?_,trivial⟩
      · refine qab h fun x62 hx62 h=>?_
        refine qb8 hτ false [] [0,1,2] 1 rfl rfl rfl rfl (qaf func113 rfl rfl) rfl rfl (by simp) ⟨trivial,trivial⟩ (by trivial) (qdu n voltages_ hx62) ⟨rfl,rfl,rfl,trivial⟩ ?_
        refine qfc hfs (by kernel_rfl) fun _=>?_
        refine qcq h fun hg63 h=>?_
        refine qg7 hτ [0,1,2,3] 7 rfl rfl rfl (Eq.trans rfl (qkg (f:=qa6) (x:=(qa5.mk (Cx.mk (0:Nat) (0:Nat)) (Cx.mk (0:Nat) (0:Nat)) (Cx.mk (0:Nat) (0:Nat)))) rfl)) (qii hg63 (by decide)) ⟨rfl,rfl,rfl,rfl,trivial⟩ ?_
        refine qac hτ [] 8 rfl rfl rfl rfl rfl ?_
        refine qbs hτ [0,1,3,4] 10 rfl rfl rfl rfl ⟨rfl,rfl,rfl,rfl,trivial⟩ ?_
        refine qh8 (by kernel_rfl) ?_
        refine qa9 (qa3 [0,1,2,3,4] (l:=[(0,.ptr 0 0),(2,.d (.int .i64 rounds_)),(3,.func 62 [] []),(8,.ptr 1 0),(9,.ptr 2 0)]) (objs:=[.box [.d (.cx .f32 f_.Source.A.re f_.Source.A.im),.d (.cx .f32 f_.Source.B.re f_.Source.B.im),.d (.cx .f32 f_.Source.C.re f_.Source.C.im),.d (.sl false (f_.qa8.map qae))],.box [.d (.nils),.d (.nils),.d (.int .i64 (0:Int)),.d (.bool false)],.box [.row 3 x62.length 0 x62.length,.row 4 ((List.replicate (f_.qa8.length:Int).toNat (qa5.mk (Cx.mk (0:Nat) (0:Nat)) (Cx.mk (0:Nat) (0:Nat)) (Cx.mk (0:Nat) (0:Nat)))).length) 0 ((List.replicate (f_.qa8.length:Int).toNat (qa5.mk (Cx.mk (0:Nat) (0:Nat)) (Cx.mk (0:Nat) (0:Nat)) (Cx.mk (0:Nat) (0:Nat)))).length),.d (.int .i64 (0:Int)),.d (.bool false)],.row 3 (x62.map qa6),.row 3 ((List.replicate (f_.qa8.length:Int).toNat (qa5.mk (Cx.mk (0:Nat) (0:Nat)) (Cx.mk (0:Nat) (0:Nat)) (Cx.mk (0:Nat) (0:Nat)))).map qa6)]) rfl (by simp) rfl (by trivial) ⟨rfl,trivial,rfl,trivial,rfl,(by trivial),rfl,trivial,rfl,trivial,trivial⟩) ?_
        exact hk61 x62 h
      · refine qab h fun x63 hx63 h=>?_
        refine qcq h fun hg62 h=>?_
        refine qg7 hτ [0,1,2] 7 rfl rfl rfl (Eq.trans rfl (qkg (f:=qa6) (x:=(qa5.mk (Cx.mk (0:Nat) (0:Nat)) (Cx.mk (0:Nat) (0:Nat)) (Cx.mk (0:Nat) (0:Nat)))) rfl)) (qii hg62 (by decide)) ⟨rfl,rfl,rfl,trivial⟩ ?_
        refine qfc hfs (by kernel_rfl) fun _=>?_
        refine qb8 hτ false [] [0,1,2,3] 1 rfl rfl rfl rfl (qaf func113 rfl rfl) rfl rfl (by simp) ⟨trivial,trivial⟩ (by trivial) (qdu n voltages_ hx63) ⟨rfl,rfl,rfl,rfl,trivial⟩ ?_
        refine qac hτ [] 8 rfl rfl rfl rfl rfl ?_
        refine qbs hτ [0,1,3,4] 10 rfl rfl rfl rfl ⟨rfl,rfl,rfl,rfl,trivial⟩ ?_
        refine qh8 (by kernel_rfl) ?_
        refine qa9 (qa3 [0,1,2,4,3] (l:=[(0,.ptr 0 0),(2,.d (.int .i64 rounds_)),(3,.func 62 [] []),(8,.ptr 1 0),(9,.ptr 2 0)]) (objs:=[.box [.d (.cx .f32 f_.Source.A.re f_.Source.A.im),.d (.cx .f32 f_.Source.B.re f_.Source.B.im),.d (.cx .f32 f_.Source.C.re f_.Source.C.im),.d (.sl false (f_.qa8.map qae))],.box [.d (.nils),.d (.nils),.d (.int .i64 (0:Int)),.d (.bool false)],.box [.row 3 x63.length 0 x63.length,.row 4 ((List.replicate (f_.qa8.length:Int).toNat (qa5.mk (Cx.mk (0:Nat) (0:Nat)) (Cx.mk (0:Nat) (0:Nat)) (Cx.mk (0:Nat) (0:Nat)))).length) 0 ((List.replicate (f_.qa8.length:Int).toNat (qa5.mk (Cx.mk (0:Nat) (0:Nat)) (Cx.mk (0:Nat) (0:Nat)) (Cx.mk (0:Nat) (0:Nat)))).length),.d (.int .i64 (0:Int)),.d (.bool false)],.row 3 (x63.map qa6),.row 3 ((List.replicate (f_.qa8.length:Int).toNat (qa5.mk (Cx.mk (0:Nat) (0:Nat)) (Cx.mk (0:Nat) (0:Nat)) (Cx.mk (0:Nat) (0:Nat)))).map qa6)]) rfl (by simp) rfl (by trivial) ⟨rfl,trivial,rfl,trivial,rfl,(by trivial),rfl,trivial,rfl,trivial,trivial⟩) ?_
        exact hk61 x63 h
def qi2 (n:Nat) (x_:Nat):Option Nat :=
  some (qjz x_)
theorem math_Sqrt_ok_fr0 (fr:Bool) (n:Nat) (x_:Nat) {r:Nat} (h:qi2 n x_ = some r):qay prog fr 123 [.d (.fl .f64 x_)] [] (fun v o new=>v = .d (.fl .f64 r)∧o = []∧new = []):=by
  refine qai hτ func123 rfl (by simp) (by simp) ?_
  unfold qi2 at h
  refine qa7 ?_
  refine qa2 ?_
  refine qa0 hτ rfl rfl rfl ?_
  refine qa4 ?_
  refine qa7 ?_
  refine qa2 ?_
  refine qa0 hτ rfl rfl rfl ?_
  refine qp5 hτ rfl rfl rfl ext156 ?_
  refine qa0 hτ rfl rfl rfl ?_
  refine qa4 ?_
  refine qa9 (qa3 [] (l:=[(2,.d (.fl .f64 (qjz x_)))]) (objs:=[]) rfl (by simp) rfl (by trivial) ⟨rfl,trivial,trivial⟩) ?_
  refine qar ?_
  have hr:=Option.some.inj h
  subst hr
  exact qah (.inr rfl) [] (objs':=[]) (new:=[]) rfl (by simp) (by simp) rfl (by trivial) rfl rfl (by trivial) (fun _=>⟨by simp [V.flat,V.qbd,V.qb6,D.flat],qal⟩) ⟨rfl,rfl,rfl⟩
theorem math_Sqrt_ok (n:Nat) (x_:Nat) {r:Nat} (h:qi2 n x_ = some r):qay prog false 123 [.d (.fl .f64 x_)] [] (fun v o new=>v = .d (.fl .f64 r)∧o = []∧new = []):=math_Sqrt_ok_fr0 false n x_ h
def qbt (n:Nat) (x_:Cx):Option Nat :=
  (qff n x_).bind fun x4 =>
  (qi2 n x4).bind fun x5 =>
  (qhg .f64 .f32 x5).bind fun x6 =>
  some x6
theorem impl_LongOf_ok_fr0 (fr:Bool) (n:Nat) (x_:Cx) {r:Nat} (h:qbt n x_ = some r):qay prog fr 79 [.d (.cx .f32 x_.re x_.im)] [] (fun v o new=>v = .d (.fl .f32 r)∧o = []∧new = []):=by
  refine qai hτ func79 rfl (by simp) (by simp) ?_
  unfold qbt at h
  refine qa7 ?_
  refine qa2 ?_
  refine qa0 hτ rfl rfl rfl ?_
  refine qa4 ?_
  refine qa7 ?_
  refine qa2 ?_
  refine qa0 hτ rfl rfl rfl ?_
  refine qab h fun x4 hx4 h=>?_
  refine qad hτ false [] rfl rfl rfl (qaf func117 rfl rfl) rfl rfl (by simp) ⟨trivial,trivial⟩ (by trivial) (qk0 n x_ hx4) ?_
  rintro r0 o0 n0 ⟨rfl,rfl,rfl⟩ -
  refine qab h fun x5 hx5 h=>?_
  refine qad hτ false [] rfl rfl rfl (qaf func123 rfl rfl) rfl rfl (by simp) ⟨trivial,trivial⟩ (by trivial) (math_Sqrt_ok n x4 hx5) ?_
  rintro r0 o0 n0 ⟨rfl,rfl,rfl⟩ -
  refine qab h fun x6 hx6 h=>?_
  refine qa0 hτ (v:=.d (.fl .f32 x6)) rfl rfl (qh1 hx6) ?_
  refine qa0 hτ rfl rfl rfl ?_
  refine qa4 ?_
  refine qa9 (qa3 [] (l:=[(2,.d (.fl .f32 x6))]) (objs:=[]) rfl (by simp) rfl (by trivial) ⟨rfl,trivial,trivial⟩) ?_
  refine qar ?_
  have hr:=Option.some.inj h
  subst hr
  exact qah (.inr rfl) [] (objs':=[]) (new:=[]) rfl (by simp) (by simp) rfl (by trivial) rfl rfl (by trivial) (fun _=>⟨by simp [V.flat,V.qbd,V.qb6,D.flat],qal⟩) ⟨rfl,rfl,rfl⟩
theorem qig (n:Nat) (x_:Cx) {r:Nat} (h:qbt n x_ = some r):qay prog false 79 [.d (.cx .f32 x_.re x_.im)] [] (fun v o new=>v = .d (.fl .f32 r)∧o = []∧new = []):=impl_LongOf_ok_fr0 false n x_ h
def qcu (n:Nat) (p_:qa5):Option (List Nat) :=
  (qbt n p_.A).bind fun x4 =>
  (qbt n p_.B).bind fun x5 =>
  (qbt n p_.C).bind fun x6 =>
  some [x4,x5,x6]
theorem impl_Phases_longs_ok_fr0 (fr:Bool) (n:Nat) (p_:qa5) {r:List Nat} (h:qcu n p_ = some r):qay prog fr 81 [.agg [.d (.cx .f32 p_.A.re p_.A.im),.d (.cx .f32 p_.B.re p_.B.im),.d (.cx .f32 p_.C.re p_.C.im)]] [] (fun v o new=>v = .row 0 r.length 0 r.length∧o = []∧new = [.row 1 (r.map qag)]):=by
  refine qai hτ func81 rfl (by simp) (by simp) ?_
  unfold qcu at h
  refine qa7 ?_
  refine qa2 ?_
  refine qaj hτ rfl rfl rfl ?_
  refine qa0 hτ rfl rfl rfl ?_
  refine qa4 ?_
  refine qa7 ?_
  refine qdj ?_
  refine qac hτ [0] 0 rfl rfl rfl rfl rfl ?_
  refine qac hτ [0] 1 rfl rfl rfl rfl rfl ?_
  refine qac hτ [0] 3 rfl rfl rfl rfl rfl ?_
  refine qac hτ [0] 4 rfl rfl rfl rfl rfl ?_
  refine qac hτ [0] 6 rfl rfl rfl rfl rfl ?_
  refine qac hτ [0] 7 rfl rfl rfl rfl rfl ?_
  refine qab h fun x4 hx4 h=>?_
  refine qb8 hτ false [] [0] 2 rfl rfl rfl rfl (qaf func79 rfl rfl) rfl rfl (by simp) ⟨trivial,trivial⟩ (by trivial) (qig n p_.A hx4) ⟨rfl,trivial⟩ ?_
  refine qab h fun x5 hx5 h=>?_
  refine qb8 hτ false [] [0] 5 rfl rfl rfl rfl (qaf func79 rfl rfl) rfl rfl (by simp) ⟨trivial,trivial⟩ (by trivial) (qig n p_.B hx5) ⟨rfl,trivial⟩ ?_
  refine qab h fun x6 hx6 h=>?_
  refine qb8 hτ false [] [0] 8 rfl rfl rfl rfl (qaf func79 rfl rfl) rfl rfl (by simp) ⟨trivial,trivial⟩ (by trivial) (qig n p_.C hx6) ⟨rfl,trivial⟩ ?_
  refine qbs hτ [0] 9 rfl rfl rfl rfl ⟨rfl,trivial⟩ ?_
  refine qac hτ [] 10 rfl rfl rfl rfl rfl ?_
  refine qe1 mixed (by kernel_rfl) ?_
  refine qa9 (qa3 [1] (l:=[(2,.row 0 ([x4,x5,x6].length) 0 ([x4,x5,x6].length))]) (objs:=[.row 1 ([x4,x5,x6].map qag)]) rfl (by simp) rfl (by trivial) ⟨rfl,trivial,trivial⟩) ?_
  refine qar ?_
  have hr:=Option.some.inj h
  subst hr
  exact qah (.inr rfl) [0] (objs':=[]) (new:=[.row 1 ([x4,x5,x6].map qag)]) rfl (by simp) (by simp) rfl (by trivial) rfl rfl (by trivial) (fun _=>⟨by simp [V.flat,V.qbd,V.qb6,D.flat],(qd1 (qh2 eNatf32_flat _) qal)⟩) ⟨rfl,rfl,rfl⟩
theorem impl_Phases_longs_ok (n:Nat) (p_:qa5) {r:List Nat} (h:qcu n p_ = some r):qay prog false 81 [.agg [.d (.cx .f32 p_.A.re p_.A.im),.d (.cx .f32 p_.B.re p_.B.im),.d (.cx .f32 p_.C.re p_.C.im)]] [] (fun v o new=>v = .row 0 r.length 0 r.length∧o = []∧new = [.row 1 (r.map qag)]):=impl_Phases_longs_ok_fr0 false n p_ h
def qga (n:Nat) (x_:Nat):Option Bool :=
  some (fcmp .neq .f32 x_ x_)
theorem impl_isNaN_ok_fr0 (fr:Bool) (n:Nat) (x_:Nat) {r:Bool} (h:qga n x_ = some r):qay prog fr 85 [.d (.fl .f32 x_)] [] (fun v o new=>v = .d (.bool r)∧o = []∧new = []):=by
  refine qai hτ func85 rfl (by simp) (by simp) ?_
  unfold qga at h
  refine qa7 ?_
  refine qa2 ?_
  refine qa0 hτ rfl rfl rfl ?_
  refine qa4 ?_
  refine qa7 ?_
  refine qa2 ?_
  refine qa0 hτ rfl rfl rfl ?_
  refine qa0 hτ rfl rfl rfl ?_
  refine qa0 hτ rfl rfl rfl ?_
  refine qa0 hτ rfl rfl rfl ?_
  refine qa4 ?_
  refine qa9 (qa3 [] (l:=[(2,.d (.bool (fcmp .neq .f32 x_ x_)))]) (objs:=[]) rfl (by simp) rfl (by trivial) ⟨rfl,trivial,trivial⟩) ?_
  refine qar ?_
  have hr:=Option.some.inj h
  subst hr
  exact qah (.inr rfl) [] (objs':=[]) (new:=[]) rfl (by simp) (by simp) rfl (by trivial) rfl rfl (by trivial) (fun _=>⟨by simp [V.flat,V.qbd,V.qb6,D.flat],qal⟩) ⟨rfl,rfl,rfl⟩
theorem impl_isNaN_ok (n:Nat) (x_:Nat) {r:Bool} (h:qga n x_ = some r):qay prog false 85 [.d (.fl .f32 x_)] [] (fun v o new=>v = .d (.bool r)∧o = []∧new = []):=impl_isNaN_ok_fr0 false n x_ h
def qdh (n:Nat) (v109:Int) (v110:Nat):Option (Int × Nat × Bool) :=
  if v109 < (0:Int) then
    some ((0:Int),(0:Nat),false)
  else
    some (v109,v110,true)
def qfy (n:Nat) (k168:Int→Nat→Int→Option (Int × Nat × Bool)) (v139:Int) (v194:Int) (v195:Nat):Option (Int × Nat × Bool) :=
  k168 v194 v195 (w64 (v139 + (1:Int)))
def qf4 (n:Nat) (k222:Int→Nat→Int→Option (Int × Nat × Bool)) (v209:Int) (v232:Int) (v233:Nat):Option (Int × Nat × Bool) :=
  k222 v232 v233 (w64 (v209 + (1:Int)))
def qbp (n:Nat) (v139:Int) (k222:Int→Nat→Int→Option (Int × Nat × Bool)) (v207:Int) (v208:Nat) (v209:Int) (x235:Nat) (v241:Bool):Option (Int × Nat × Bool) :=
  if v241 = true then
    qf4 n k222 v209 v139 x235
  else
    qf4 n k222 v209 v207 v208
def qb1 (n:Nat) (k168:Int→Nat→Int→Option (Int × Nat × Bool)) (v139:Int) (x198:List Nat):Nat→Int→Nat→Int→Option (Int × Nat × Bool)
  | 0,_,_,_=>none
  | m221 + 1,v207,v208,v209 =>
    if v209 < (x198.length:Int) then
      (getI x198 v209).bind fun x235 =>
      (qga n x235).bind fun x244 =>
      if x244 = true then
        qbp n v139 (qb1 n k168 v139 x198 m221) v207 v208 v209 x235 false
      else
        if v207 < (0:Int) then
          qbp n v139 (qb1 n k168 v139 x198 m221) v207 v208 v209 x235 true
        else
          qbp n v139 (qb1 n k168 v139 x198 m221) v207 v208 v209 x235 (fcmp .lss .f32 x235 v208)
    else
      qfy n k168 v139 v207 v208
def qb0 (n:Nat) (voltages_:List qa5):Nat→Int→Nat→Int→Option (Int × Nat × Bool)
  | 0,_,_,_=>none
  | m167 + 1,v137,v138,v139 =>
    if v139 < (voltages_.length:Int) then
      (getI voltages_ v139).bind fun x197 =>
      (qcu n x197).bind fun x198 =>
      qb1 n (qb0 n voltages_ m167) v139 x198 n v137 v138 (0:Int)
    else
      qdh n v137 v138
def qdo (n:Nat) (voltages_:List qa5):Option (Int × Nat × Bool) :=
  qb0 n voltages_ n (-1:Int) (0:Nat) (0:Int)
theorem qie (fr:Bool) (n:Nat) (voltages_:List qa5) {r:Int × Nat × Bool} (h:qdo n voltages_ = some r):qay prog fr 59 [.d (.sl false (voltages_.map qa6))] [] (fun v o new=>v = .tup [.d (.int .i64 r.1),.d (.fl .f32 r.2.1),.d (.bool r.2.2)]∧o = []∧new = []):=by
  refine qai hτ func59 rfl (by simp) (by simp) ?_
  unfold qdo at h
  refine qa7 ?_
  refine qa2 ?_
  refine qa0 hτ rfl rfl rfl ?_
  refine qa0 hτ rfl rfl rfl ?_
  refine qa0 hτ rfl rfl rfl ?_
  refine qa4 ?_
  refine qa7 ?_
  refine qa2 ?_
  refine qa0 hτ rfl rfl rfl ?_
  refine qa0 hτ rfl rfl rfl ?_
  refine qa4 ?_
  refine qc0 (ι:=Int × Nat) (fun (v109,v110)=>St.of [(5,.d (.int .i64 v109)),(6,.d (.fl .f32 v110))] [] f59.ntmps 0) (fun (v109,v110)=>qdh n v109 v110 = some r) ?_ (fun hk112=>?_)
  · rintro ⟨v109,v110⟩ h
    replace h:qdh n v109 v110 = some r:=h
    unfold qdh at h
    refine qa7 ?_
    refine qa7 ?_
    refine qa2 ?_
    refine qa0 hτ rfl rfl rfl ?_
    refine qa0 hτ rfl rfl rfl ?_
    refine qa4 ?_
    refine qaz rfl (fun hc111=>?_) (fun hc111=>?_)
    · have h:=if_t h hc111
      refine qa7 ?_
      refine qa2 ?_
      refine qa0 hτ rfl rfl rfl ?_
      refine qa0 hτ rfl rfl rfl ?_
      refine qa0 hτ rfl rfl rfl ?_
      refine qa4 ?_
      refine qa9 (qa3 [] (l:=[(2,.d (.int .i64 (0:Int))),(3,.d (.fl .f32 (0:Nat))),(4,.d (.bool false))]) (objs:=[]) rfl (by simp) rfl (by trivial) ⟨rfl,trivial,rfl,trivial,rfl,trivial,trivial⟩) ?_
      refine qar ?_
      have hr:=Option.some.inj h
      subst hr
      exact qah (.inr rfl) [] (objs':=[]) (new:=[]) rfl (by simp) (by simp) rfl (by trivial) rfl rfl (by trivial) (fun _=>⟨by simp [V.flat,V.qbd,V.qb6,D.flat],qal⟩) ⟨rfl,rfl,rfl⟩
    · have h:=if_f h hc111
      refine qb4 ?_
      refine qa7 ?_
      refine qa2 ?_
      refine qa0 hτ rfl rfl rfl ?_
      refine qa0 hτ rfl rfl rfl ?_
      refine qa0 hτ rfl rfl rfl ?_
      refine qa0 hτ rfl rfl rfl ?_
      refine qa0 hτ rfl rfl rfl ?_
      refine qa4 ?_
      refine qa9 (qa3 [] (l:=[(2,.d (.int .i64 v109)),(3,.d (.fl .f32 v110)),(4,.d (.bool true))]) (objs:=[]) rfl (by simp) rfl (by trivial) ⟨rfl,trivial,rfl,trivial,rfl,trivial,trivial⟩) ?_
      refine qar ?_
      have hr:=Option.some.inj h
      subst hr
      exact qah (.inr rfl) [] (objs':=[]) (new:=[]) rfl (by simp) (by simp) rfl (by trivial) rfl rfl (by trivial) (fun _=>⟨by simp [V.flat,V.qbd,V.qb6,D.flat],qal⟩) ⟨rfl,rfl,rfl⟩
  · refine qa7 ?_
    refine qa7 ?_
    refine qa2 ?_
    refine qa0 hτ rfl rfl rfl ?_
    refine qa0 hτ (v:=.d (.int .i64 (voltages_.length:Int))) rfl rfl (Eq.trans rfl (qfb (f:=qa6) voltages_)) ?_
    refine qa0 hτ rfl rfl rfl ?_
    refine qa4 ?_
    refine qbo ?_
    refine qgj (ι:=Nat × Int × Nat × Int) (fun (m167,v137,v138,v139)=>St.of [(5,.d (.int .i64 v137)),(6,.d (.fl .f32 v138)),(11,.d (.sl false (voltages_.map qa6))),(12,.d (.int .i64 (voltages_.length:Int))),(13,.d (.int .i64 v139))] [] f59.ntmps 0) (fun (m167,v137,v138,v139)=>qb0 n voltages_ m167 v137 v138 v139 = some r) (fun x=>x.1) (n,(-1:Int),(0:Nat),(0:Int)) h (qa3 [] (l:=[(5,.d (.int .i64 (-1:Int))),(6,.d (.fl .f32 (0:Nat))),(11,.d (.sl false (voltages_.map qa6))),(12,.d (.int .i64 (voltages_.length:Int))),(13,.d (.int .i64 (0:Int)))]) (objs:=[]) rfl (by simp) rfl (by trivial) ⟨rfl,trivial,rfl,trivial,rfl,trivial,rfl,trivial,rfl,trivial,trivial⟩) ?_
    rintro ⟨m167,v137,v138,v139⟩ h
    replace h:qb0 n voltages_ m167 v137 v138 v139 = some r:=h
    rcases m167 with _ | m167
    · rw [qb0] at h;cases h
    rw [qb0] at h
    refine qa7 ?_
    refine qa2 ?_
    refine qa0 hτ rfl rfl rfl ?_
    refine qa4 ?_
    refine qa7 ?_
    refine qaz rfl (fun hc169=>?_) (fun hc169=>?_)
    · have h:=if_t h hc169
      refine qb4 ?_
      refine qc0 (ι:=Int × Nat) (fun (v194,v195)=>St.of [(5,.d (.int .i64 v194)),(6,.d (.fl .f32 v195)),(11,.d (.sl false (voltages_.map qa6))),(12,.d (.int .i64 (voltages_.length:Int))),(13,.d (.int .i64 v139))] [] f59.ntmps 0) (fun (v194,v195)=>qfy n (qb0 n voltages_ m167) v139 v194 v195 = some r) ?_ (fun hk196=>?_)
      · rintro ⟨v194,v195⟩ h
        replace h:qfy n (qb0 n voltages_ m167) v139 v194 v195 = some r:=h
        unfold qfy at h
        refine qa2 ?_
        refine qa0 hτ rfl rfl rfl ?_
        refine qa0 hτ rfl rfl rfl ?_
        refine qa4 ?_
        exact ⟨(m167,v194,v195,(w64 (v139 + (1:Int)))),h,Nat.lt_succ_self m167,(qa3 [] (l:=[(5,.d (.int .i64 v194)),(6,.d (.fl .f32 v195)),(11,.d (.sl false (voltages_.map qa6))),(12,.d (.int .i64 (voltages_.length:Int))),(13,.d (.int .i64 (w64 (v139 + (1:Int)))))]) (objs:=[]) rfl (by simp) rfl (by trivial) ⟨rfl,trivial,rfl,trivial,rfl,trivial,rfl,trivial,rfl,trivial,trivial⟩)⟩
      · refine qa7 ?_
        refine qbo ?_
        refine qa7 ?_
        refine qa2 ?_
        refine qa0 hτ rfl rfl rfl ?_
        refine qab h fun x197 hx197 h=>?_
        refine qh0 hτ rfl rfl rfl (qei hx197).1 (qfz hx197) rfl ?_
        refine qa0 hτ rfl rfl rfl ?_
        refine qaj hτ rfl rfl rfl ?_
        refine qa0 hτ rfl rfl rfl ?_
        refine qaj hτ rfl rfl rfl ?_
        refine qa4 ?_
        refine qa7 ?_
        refine qa9 (qa3 [0] (l:=[(5,.d (.int .i64 v137)),(6,.d (.fl .f32 v138)),(7,.d (.int .i64 v139)),(8,.ptr 0 0),(11,.d (.sl false (voltages_.map qa6))),(12,.d (.int .i64 (voltages_.length:Int))),(13,.d (.int .i64 v139))]) (objs:=[.box [.d (.cx .f32 x197.A.re x197.A.im),.d (.cx .f32 x197.B.re x197.B.im),.d (.cx .f32 x197.C.re x197.C.im)]]) rfl (by simp) rfl (by trivial) ⟨rfl,trivial,rfl,trivial,rfl,trivial,rfl,trivial,rfl,trivial,rfl,trivial,rfl,trivial,trivial⟩) ?_
        refine qa2 ?_
        refine qa0 hτ rfl rfl rfl ?_
        refine qab h fun x198 hx198 h=>?_
        refine qad hτ false [] rfl rfl rfl (qaf func81 rfl rfl) rfl rfl (by simp) ⟨(by trivial),trivial⟩ (by trivial) (impl_Phases_longs_ok n x197 hx198) ?_
        rintro r0 o0 n0 ⟨rfl,rfl,rfl⟩ -
        refine qda hτ rfl rfl rfl (qbu _) ?_
        refine qa0 hτ rfl rfl rfl ?_
        refine qa4 ?_
        refine qbo ?_
        refine qgj (ι:=Nat × Int × Nat × Int) (fun (m221,v207,v208,v209)=>St.of [(5,.d (.int .i64 v207)),(6,.d (.fl .f32 v208)),(7,.d (.int .i64 v139)),(11,.d (.sl false (voltages_.map qa6))),(12,.d (.int .i64 (voltages_.length:Int))),(13,.d (.int .i64 v139)),(19,.row 0 x198.length 0 x198.length),(20,.d (.int .i64 (x198.length:Int))),(21,.d (.int .i64 v209))] [.row 1 (x198.map qag)] f59.ntmps 0) (fun (m221,v207,v208,v209)=>qb1 n (qb0 n voltages_ m167) v139 x198 m221 v207 v208 v209 = some r) (fun x=>x.1) (n,v137,v138,(0:Int)) h (qa3 [1] (l:=[(5,.d (.int .i64 v137)),(6,.d (.fl .f32 v138)),(7,.d (.int .i64 v139)),(11,.d (.sl false (voltages_.map qa6))),(12,.d (.int .i64 (voltages_.length:Int))),(13,.d (.int .i64 v139)),(19,.row 0 x198.length 0 x198.length),(20,.d (.int .i64 (x198.length:Int))),(21,.d (.int .i64 (0:Int)))]) (objs:=[.row 1 (x198.map qag)]) rfl (by simp) rfl (by trivial) ⟨rfl,trivial,rfl,trivial,rfl,trivial,rfl,trivial,rfl,trivial,rfl,trivial,rfl,trivial,rfl,trivial,rfl,trivial,trivial⟩) ?_
        rintro ⟨m221,v207,v208,v209⟩ h
        replace h:qb1 n (qb0 n voltages_ m167) v139 x198 m221 v207 v208 v209 = some r:=h
        rcases m221 with _ | m221
        · rw [qb1] at h;cases h
        rw [qb1] at h
        refine qa7 ?_
        refine qa2 ?_
        refine qa0 hτ rfl rfl rfl ?_
        refine qa4 ?_
        refine qa7 ?_
        refine qaz rfl (fun hc223=>?_) (fun hc223=>?_)
        · have h:=if_t h hc223
          refine qb4 ?_
          refine qc0 (ι:=Int × Nat) (fun (v232,v233)=>St.of [(5,.d (.int .i64 v232)),(6,.d (.fl .f32 v233)),(7,.d (.int .i64 v139)),(11,.d (.sl false (voltages_.map qa6))),(12,.d (.int .i64 (voltages_.length:Int))),(13,.d (.int .i64 v139)),(19,.row 0 x198.length 0 x198.length),(20,.d (.int .i64 (x198.length:Int))),(21,.d (.int .i64 v209))] [.row 1 (x198.map qag)] f59.ntmps 0) (fun (v232,v233)=>qf4 n (qb1 n (qb0 n voltages_ m167) v139 x198 m221) v209 v232 v233 = some r) ?_ (fun hk234=>?_)
          · rintro ⟨v232,v233⟩ h
            replace h:qf4 n (qb1 n (qb0 n voltages_ m167) v139 x198 m221) v209 v232 v233 = some r:=h
            unfold qf4 at h
            refine qa2 ?_
            refine qa0 hτ rfl rfl rfl ?_
            refine qa0 hτ rfl rfl rfl ?_
            refine qa4 ?_
            exact ⟨(m221,v232,v233,(w64 (v209 + (1:Int)))),h,Nat.lt_succ_self m221,(qa3 [0] (l:=[(5,.d (.int .i64 v232)),(6,.d (.fl .f32 v233)),(7,.d (.int .i64 v139)),(11,.d (.sl false (voltages_.map qa6))),(12,.d (.int .i64 (voltages_.length:Int))),(13,.d (.int .i64 v139)),(19,.row 0 x198.length 0 x198.length),(20,.d (.int .i64 (x198.length:Int))),(21,.d (.int .i64 (w64 (v209 + (1:Int)))))]) (objs:=[.row 1 (x198.map qag)]) rfl (by simp) rfl (by trivial) ⟨rfl,trivial,rfl,trivial,rfl,trivial,rfl,trivial,rfl,trivial,rfl,trivial,rfl,trivial,rfl,trivial,rfl,trivial,trivial⟩)⟩
          · refine qa7 ?_
            refine qbo ?_
            refine qa7 ?_
            refine qa2 ?_
            refine qab h fun x235 hx235 h=>?_
            refine qda hτ rfl rfl rfl (qg0 hx235) ?_
            refine qh0 hτ rfl rfl rfl (qbu _) (qhi hx235) rfl ?_
            refine qa0 hτ rfl rfl rfl ?_
            refine qa4 ?_
            refine qc0 (ι:=Bool) (fun v241=>St.of [(5,.d (.int .i64 v207)),(6,.d (.fl .f32 v208)),(7,.d (.int .i64 v139)),(10,.d (.fl .f32 x235)),(11,.d (.sl false (voltages_.map qa6))),(12,.d (.int .i64 (voltages_.length:Int))),(13,.d (.int .i64 v139)),(19,.row 0 x198.length 0 x198.length),(20,.d (.int .i64 (x198.length:Int))),(21,.d (.int .i64 v209)),(36,.d (.bool v241))] [.row 1 (x198.map qag)] f59.ntmps 0) (fun v241=>qbp n v139 (qb1 n (qb0 n voltages_ m167) v139 x198 m221) v207 v208 v209 x235 v241 = some r) ?_ (fun hk243=>?_)
            · rintro v241 h
              replace h:qbp n v139 (qb1 n (qb0 n voltages_ m167) v139 x198 m221) v207 v208 v209 x235 v241 = some r:=h
              unfold qbp at h
              refine qaz rfl (fun hc242=>?_) (fun hc242=>?_)
              · have h:=qdl h hc242
                refine qa2 ?_
                refine qa0 hτ rfl rfl rfl ?_
                refine qa0 hτ rfl rfl rfl ?_
                refine qa0 hτ rfl rfl rfl ?_
                refine qa0 hτ rfl rfl rfl ?_
                refine qa4 ?_
                refine qa9 (qa3 [0] (l:=[(5,.d (.int .i64 v139)),(6,.d (.fl .f32 x235)),(7,.d (.int .i64 v139)),(11,.d (.sl false (voltages_.map qa6))),(12,.d (.int .i64 (voltages_.length:Int))),(13,.d (.int .i64 v139)),(19,.row 0 x198.length 0 x198.length),(20,.d (.int .i64 (x198.length:Int))),(21,.d (.int .i64 v209))]) (objs:=[.row 1 (x198.map qag)]) rfl (by simp) rfl (by trivial) ⟨rfl,trivial,rfl,trivial,rfl,trivial,rfl,trivial,rfl,trivial,rfl,trivial,rfl,trivial,rfl,trivial,rfl,trivial,trivial⟩) ?_
                exact hk234 (v139,x235) h
              · have h:=qdk h hc242
                refine qb4 ?_
                refine qa9 (qa3 [0] (l:=[(5,.d (.int .i64 v207)),(6,.d (.fl .f32 v208)),(7,.d (.int .i64 v139)),(11,.d (.sl false (voltages_.map qa6))),(12,.d (.int .i64 (voltages_.length:Int))),(13,.d (.int .i64 v139)),(19,.row 0 x198.length 0 x198.length),(20,.d (.int .i64 (x198.length:Int))),(21,.d (.int .i64 v209))]) (objs:=[.row 1 (x198.map qag)]) rfl (by simp) rfl (by trivial) ⟨rfl,trivial,rfl,trivial,rfl,trivial,rfl,trivial,rfl,trivial,rfl,trivial,rfl,trivial,rfl,trivial,rfl,trivial,trivial⟩) ?_
                exact hk234 (v207,v208) h
            · refine qa7 ?_
              refine qa2 ?_
              refine qa0 hτ rfl rfl rfl ?_
              refine qab h fun x244 hx244 h=>?_
              refine qad hτ false [] rfl rfl rfl (qaf func85 rfl rfl) rfl rfl (by simp) ⟨trivial,trivial⟩ (by trivial) (impl_isNaN_ok n x235 hx244) ?_
              rintro r0 o0 n0 ⟨rfl,rfl,rfl⟩ -
              refine qa0 hτ rfl rfl rfl ?_
              refine qa0 hτ rfl rfl rfl ?_
              refine qba 28 rfl (fun hb245=>?_) (fun hb245=>?_)
              · have hb245:=qil hb245
                have h:=qdk h hb245
                refine qa0 hτ rfl rfl rfl ?_
                refine qa0 hτ rfl rfl rfl ?_
                refine qa0 hτ rfl rfl rfl ?_
                refine qba 31 rfl (fun hb246=>?_) (fun hb246=>?_)
                · have h:=if_t h hb246
                  refine qaa rfl rfl ?_
                  refine qb2 (qa3 [0] (l:=[(5,.d (.int .i64 v207)),(6,.d (.fl .f32 v208)),(7,.d (.int .i64 v139)),(10,.d (.fl .f32 x235)),(11,.d (.sl false (voltages_.map qa6))),(12,.d (.int .i64 (voltages_.length:Int))),(13,.d (.int .i64 v139)),(19,.row 0 x198.length 0 x198.length),(20,.d (.int .i64 (x198.length:Int))),(21,.d (.int .i64 v209)),(28,.d (.bool true)),(31,.d (.bool true)),(32,.und)]) (objs:=[.row 1 (x198.map qag)]) rfl (by simp) rfl (by trivial) ⟨rfl,trivial,rfl,trivial,rfl,trivial,rfl,trivial,rfl,trivial,rfl,trivial,rfl,trivial,rfl,trivial,rfl,trivial,rfl,trivial,rfl,trivial,rfl,trivial,rfl,trivial,trivial⟩) ?_
                  refine qaa rfl rfl ?_
                  refine qaa rfl rfl ?_
                  refine qa0 hτ rfl rfl rfl ?_
                  refine qa0 hτ rfl rfl rfl ?_
                  refine qa4 ?_
                  refine qa9 (qa3 [0] (l:=[(5,.d (.int .i64 v207)),(6,.d (.fl .f32 v208)),(7,.d (.int .i64 v139)),(10,.d (.fl .f32 x235)),(11,.d (.sl false (voltages_.map qa6))),(12,.d (.int .i64 (voltages_.length:Int))),(13,.d (.int .i64 v139)),(19,.row 0 x198.length 0 x198.length),(20,.d (.int .i64 (x198.length:Int))),(21,.d (.int .i64 v209)),(36,.d (.bool true))]) (objs:=[.row 1 (x198.map qag)]) rfl (by simp) rfl (by trivial) ⟨rfl,trivial,rfl,trivial,rfl,trivial,rfl,trivial,rfl,trivial,rfl,trivial,rfl,trivial,rfl,trivial,rfl,trivial,rfl,trivial,rfl,trivial,trivial⟩) ?_
                  exact hk243 true h
                · have h:=if_f h hb246
                  refine qa0 hτ rfl rfl rfl ?_
                  refine qb2 (qa3 [0] (l:=[(5,.d (.int .i64 v207)),(6,.d (.fl .f32 v208)),(7,.d (.int .i64 v139)),(10,.d (.fl .f32 x235)),(11,.d (.sl false (voltages_.map qa6))),(12,.d (.int .i64 (voltages_.length:Int))),(13,.d (.int .i64 v139)),(19,.row 0 x198.length 0 x198.length),(20,.d (.int .i64 (x198.length:Int))),(21,.d (.int .i64 v209)),(28,.d (.bool true)),(31,.d (.bool false)),(32,.d (.fl .f32 x235))]) (objs:=[.row 1 (x198.map qag)]) rfl (by simp) rfl (by trivial) ⟨rfl,trivial,rfl,trivial,rfl,trivial,rfl,trivial,rfl,trivial,rfl,trivial,rfl,trivial,rfl,trivial,rfl,trivial,rfl,trivial,rfl,trivial,rfl,trivial,rfl,trivial,trivial⟩) ?_
                  refine qa0 hτ rfl rfl rfl ?_
                  refine qa0 hτ rfl rfl rfl ?_
                  refine qa0 hτ rfl rfl rfl ?_
                  refine qa0 hτ rfl rfl rfl ?_
                  refine qa4 ?_
                  refine qa9 (qa3 [0] (l:=[(5,.d (.int .i64 v207)),(6,.d (.fl .f32 v208)),(7,.d (.int .i64 v139)),(10,.d (.fl .f32 x235)),(11,.d (.sl false (voltages_.map qa6))),(12,.d (.int .i64 (voltages_.length:Int))),(13,.d (.int .i64 v139)),(19,.row 0 x198.length 0 x198.length),(20,.d (.int .i64 (x198.length:Int))),(21,.d (.int .i64 v209)),(36,.d (.bool (fcmp .lss .f32 x235 v208)))]) (objs:=[.row 1 (x198.map qag)]) rfl (by simp) rfl (by trivial) ⟨rfl,trivial,rfl,trivial,rfl,trivial,rfl,trivial,rfl,trivial,rfl,trivial,rfl,trivial,rfl,trivial,rfl,trivial,rfl,trivial,rfl,trivial,trivial⟩) ?_
                  exact hk243 (fcmp .lss .f32 x235 v208) h
              · have hb245:=qik hb245
                have h:=qdl h hb245
                refine qaa rfl rfl ?_
                refine qaa rfl rfl ?_
                refine qaa rfl rfl ?_
                refine qaa rfl rfl ?_
                refine qb2 (qa3 [0] (l:=[(5,.d (.int .i64 v207)),(6,.d (.fl .f32 v208)),(7,.d (.int .i64 v139)),(10,.d (.fl .f32 x235)),(11,.d (.sl false (voltages_.map qa6))),(12,.d (.int .i64 (voltages_.length:Int))),(13,.d (.int .i64 v139)),(19,.row 0 x198.length 0 x198.length),(20,.d (.int .i64 (x198.length:Int))),(21,.d (.int .i64 v209)),(28,.d (.bool false)),(31,.und),(32,.und)]) (objs:=[.row 1 (x198.map qag)]) rfl (by simp) rfl (by trivial) ⟨rfl,trivial,rfl,trivial,rfl,trivial,rfl,trivial,rfl,trivial,rfl,trivial,rfl,trivial,rfl,trivial,rfl,trivial,rfl,trivial,rfl,trivial,rfl,trivial,rfl,trivial,trivial⟩) ?_
                refine qaa rfl rfl ?_
                refine qaa rfl rfl ?_
                refine qaa rfl rfl ?_
                refine qa0 hτ rfl rfl rfl ?_
                refine qa4 ?_
                refine qa9 (qa3 [0] (l:=[(5,.d (.int .i64 v207)),(6,.d (.fl .f32 v208)),(7,.d (.int .i64 v139)),(10,.d (.fl .f32 x235)),(11,.d (.sl false (voltages_.map qa6))),(12,.d (.int .i64 (voltages_.length:Int))),(13,.d (.int .i64 v139)),(19,.row 0 x198.length 0 x198.length),(20,.d (.int .i64 (x198.length:Int))),(21,.d (.int .i64 v209)),(36,.d (.bool false))]) (objs:=[.row 1 (x198.map qag)]) rfl (by simp) rfl (by trivial) ⟨rfl,trivial,rfl,trivial,rfl,trivial,rfl,trivial,rfl,trivial,rfl,trivial,rfl,trivial,rfl,trivial,rfl,trivial,rfl,trivial,rfl,trivial,trivial⟩) ?_
                exact hk243 false h
        · have h:=if_f h hc223
          refine qgi ?_
          refine qa9 (qa3 [] (l:=[(5,.d (.int .i64 v207)),(6,.d (.fl .f32 v208)),(11,.d (.sl false (voltages_.map qa6))),(12,.d (.int .i64 (voltages_.length:Int))),(13,.d (.int .i64 v139))]) (objs:=[]) rfl (by simp) rfl (by trivial) ⟨rfl,trivial,rfl,trivial,rfl,trivial,rfl,trivial,rfl,trivial,trivial⟩) ?_
          exact hk196 (v207,v208) h
    · have h:=if_f h hc169
      refine qgi ?_
      refine qa9 (qa3 [] (l:=[(5,.d (.int .i64 v137)),(6,.d (.fl .f32 v138))]) (objs:=[]) rfl (by simp) rfl (by trivial) ⟨rfl,trivial,rfl,trivial,trivial⟩) ?_
      exact hk112 (v137,v138) h
theorem impl_lowest_ok (n:Nat) (voltages_:List qa5) {r:Int × Nat × Bool} (h:qdo n voltages_ = some r):qay prog false 59 [.d (.sl false (voltages_.map qa6))] [] (fun v o new=>v = .tup [.d (.int .i64 r.1),.d (.fl .f32 r.2.1),.d (.bool r.2.2)]∧o = []∧new = []):=qie false n voltages_ h
theorem impl_lowest_ok_fr (n:Nat) (voltages_:List qa5) {r:Int × Nat × Bool} (h:qdo n voltages_ = some r):qay prog true 59 [.d (.sl false (voltages_.map qa6))] [] (fun v o new=>v = .tup [.d (.int .i64 r.1),.d (.fl .f32 r.2.1),.d (.bool r.2.2)]∧o = []∧new = []):=qie true n voltages_ h
def qdb (n:Nat) (k82:Int→Nat→Int→Option (Int × Bool)) (v68:Int) (v93:Int) (v94:Nat):Option (Int × Bool) :=
  k82 v93 v94 (w64 (v68 + (1:Int)))
def qdc (n:Nat) (k82:Int→Nat→Int→Option (Int × Bool)) (v66:Int) (v67:Nat) (v68:Int) (x101:Int × Nat × Bool) (v105:Bool):Option (Int × Bool) :=
  if v105 = true then
    qdb n k82 v68 v68 x101.2.1
  else
    qdb n k82 v68 v66 v67
def qao (n:Nat) (f_:qak) (bus_:Int) (sizes_:List Nat) (rounds_:Int):Nat→Int→Nat→Int→Option (Int × Bool)
  | 0,_,_,_=>none
  | m81 + 1,v66,v67,v68 =>
    if v68 < (sizes_.length:Int) then
      (getI sizes_ v68).bind fun x96 =>
      (qdp n f_ bus_ x96).bind fun x97 =>
      if x97.2 = true then
        (qcj n x97.1).bind fun x99 =>
        (qc7 n x97.1 x99 rounds_).bind fun x100 =>
        (qdo n x100.qat).bind fun x101 =>
        if x101.2.2 = true then
          if v68 = (0:Int) then
            qdc n (qao n f_ bus_ sizes_ rounds_ m81) v66 v67 v68 x101 true
          else
            qdc n (qao n f_ bus_ sizes_ rounds_ m81) v66 v67 v68 x101 (fcmp .gtr .f32 x101.2.1 v67)
        else
          some ((0:Int),false)
      else
        some ((0:Int),false)
    else
      some (v66,true)
def qe5 (n:Nat) (f_:qak) (bus_:Int) (sizes_:List Nat) (rounds_:Int):Option (Int × Bool) :=
  qao n f_ bus_ sizes_ rounds_ n (0:Int) (0:Nat) (0:Int)
def qch (n:Nat) (f_:qak) (bus_:Int) (sizes_:List Nat) (rounds_:Int) (v116:Bool):Option (Int × Bool) :=
  if v116 = true then
    some ((0:Int),false)
  else
    qe5 n f_ bus_ sizes_ rounds_
def qek (n:Nat) (f_:qak) (bus_:Int) (sizes_:List Nat) (rounds_:Int):Option (Int × Bool) :=
  (qds n f_ bus_).bind fun x119 =>
  if x119 = true then
    (qck n (sizes_.length:Int) (1:Int) (16:Int)).bind fun x121 =>
    if x121 = true then
      (qck n rounds_ (0:Int) (50:Int)).bind fun x123 =>
      qch n f_ bus_ sizes_ rounds_ (!x123)
    else
      qch n f_ bus_ sizes_ rounds_ true
  else
    qch n f_ bus_ sizes_ rounds_ true
theorem impl_BestBank_ok_fr0 (fr:Bool) (n:Nat) (f_:qak) (bus_:Int) (sizes_:List Nat) (rounds_:Int) {r:Int × Bool} (h:qek n f_ bus_ sizes_ rounds_ = some r):qay prog fr 11 [.agg [.d (.cx .f32 f_.Source.A.re f_.Source.A.im),.d (.cx .f32 f_.Source.B.re f_.Source.B.im),.d (.cx .f32 f_.Source.C.re f_.Source.C.im),.d (.sl false (f_.qa8.map qae))],.d (.int .i64 bus_),.d (.sl false (sizes_.map qag)),.d (.int .i64 rounds_)] [] (fun v o new=>v = .tup [.d (.int .i64 r.1),.d (.bool r.2)]∧o = []∧new = []):=by
  refine qai hτ func11 rfl (by simp) (by simp) ?_
  unfold qek at h
  refine qa7 ?_
  refine qa2 ?_
  refine qaj hτ rfl rfl rfl ?_
  refine qa0 hτ rfl rfl rfl ?_
  refine qa0 hτ rfl rfl rfl ?_
  refine qa4 ?_
  refine qc0 (ι:=Unit) (fun _=>St.of [(1,.d (.int .i64 bus_)),(2,.d (.sl false (sizes_.map qag))),(3,.d (.int .i64 rounds_)),(4,.ptr 0 0)] [.box [.d (.cx .f32 f_.Source.A.re f_.Source.A.im),.d (.cx .f32 f_.Source.B.re f_.Source.B.im),.d (.cx .f32 f_.Source.C.re f_.Source.C.im),.d (.sl false (f_.qa8.map qae))]] f11.ntmps 0) (fun _=>qe5 n f_ bus_ sizes_ rounds_ = some r) ?_ (fun hk109=>?_)
  · rintro ⟨⟩ h
    replace h:qe5 n f_ bus_ sizes_ rounds_ = some r:=h
    unfold qe5 at h
    refine qa7 ?_
    refine qa2 ?_
    refine qa0 hτ rfl rfl rfl ?_
    refine qa0 hτ rfl rfl rfl ?_
    refine qa4 ?_
    refine qa7 ?_
    refine qa7 ?_
    refine qa2 ?_
    refine qa0 hτ rfl rfl rfl ?_
    refine qa0 hτ (v:=.d (.int .i64 (sizes_.length:Int))) rfl rfl (Eq.trans rfl (qfb (f:=qag) sizes_)) ?_
    refine qa0 hτ rfl rfl rfl ?_
    refine qa4 ?_
    refine qbo ?_
    refine qgj (ι:=Nat × Int × Nat × Int) (fun (m81,v66,v67,v68)=>St.of [(1,.d (.int .i64 bus_)),(3,.d (.int .i64 rounds_)),(4,.ptr 0 0),(10,.d (.int .i64 v66)),(11,.d (.fl .f32 v67)),(32,.d (.sl false (sizes_.map qag))),(33,.d (.int .i64 (sizes_.length:Int))),(34,.d (.int .i64 v68))] [.box [.d (.cx .f32 f_.Source.A.re f_.Source.A.im),.d (.cx .f32 f_.Source.B.re f_.Source.B.im),.d (.cx .f32 f_.Source.C.re f_.Source.C.im),.d (.sl false (f_.qa8.map qae))]] f11.ntmps 0) (fun (m81,v66,v67,v68)=>qao n f_ bus_ sizes_ rounds_ m81 v66 v67 v68 = some r) (fun x=>x.1) (n,(0:Int),(0:Nat),(0:Int)) h (qa3 [0] (l:=[(1,.d (.int .i64 bus_)),(3,.d (.int .i64 rounds_)),(4,.ptr 0 0),(10,.d (.int .i64 (0:Int))),(11,.d (.fl .f32 (0:Nat))),(32,.d (.sl false (sizes_.map qag))),(33,.d (.int .i64 (sizes_.length:Int))),(34,.d (.int .i64 (0:Int)))]) (objs:=[.box [.d (.cx .f32 f_.Source.A.re f_.Source.A.im),.d (.cx .f32 f_.Source.B.re f_.Source.B.im),.d (.cx .f32 f_.Source.C.re f_.Source.C.im),.d (.sl false (f_.qa8.map qae))]]) rfl (by simp) rfl (by trivial) ⟨rfl,trivial,rfl,trivial,rfl,trivial,rfl,trivial,rfl,trivial,rfl,trivial,rfl,trivial,rfl,trivial,trivial⟩) ?_
    rintro ⟨m81,v66,v67,v68⟩ h
    replace h:qao n f_ bus_ sizes_ rounds_ m81 v66 v67 v68 = some r:=h
    rcases m81 with _ | m81
    · rw [qao] at h;cases h
    rw [qao] at h
    refine qa7 ?_
    refine qa2 ?_
    refine qa0 hτ rfl rfl rfl ?_
    refine qa4 ?_
    refine qa7 ?_
    refine qaz rfl (fun hc83=>?_) (fun hc83=>?_)
    · have h:=if_t h hc83
      refine qb4 ?_
      refine qc0 (ι:=Int × Nat) (fun (v93,v94)=>St.of [(1,.d (.int .i64 bus_)),(3,.d (.int .i64 rounds_)),(4,.ptr 0 0),(10,.d (.int .i64 v93)),(11,.d (.fl .f32 v94)),(32,.d (.sl false (sizes_.map qag))),(33,.d (.int .i64 (sizes_.length:Int))),(34,.d (.int .i64 v68))] [.box [.d (.cx .f32 f_.Source.A.re f_.Source.A.im),.d (.cx .f32 f_.Source.B.re f_.Source.B.im),.d (.cx .f32 f_.Source.C.re f_.Source.C.im),.d (.sl false (f_.qa8.map qae))]] f11.ntmps 0) (fun (v93,v94)=>qdb n (qao n f_ bus_ sizes_ rounds_ m81) v68 v93 v94 = some r) ?_ (fun hk95=>?_)
      · rintro ⟨v93,v94⟩ h
        replace h:qdb n (qao n f_ bus_ sizes_ rounds_ m81) v68 v93 v94 = some r:=h
        unfold qdb at h
        refine qa2 ?_
        refine qa0 hτ rfl rfl rfl ?_
        refine qa0 hτ rfl rfl rfl ?_
        refine qa4 ?_
        exact ⟨(m81,v93,v94,(w64 (v68 + (1:Int)))),h,Nat.lt_succ_self m81,(qa3 [0] (l:=[(1,.d (.int .i64 bus_)),(3,.d (.int .i64 rounds_)),(4,.ptr 0 0),(10,.d (.int .i64 v93)),(11,.d (.fl .f32 v94)),(32,.d (.sl false (sizes_.map qag))),(33,.d (.int .i64 (sizes_.length:Int))),(34,.d (.int .i64 (w64 (v68 + (1:Int)))))]) (objs:=[.box [.d (.cx .f32 f_.Source.A.re f_.Source.A.im),.d (.cx .f32 f_.Source.B.re f_.Source.B.im),.d (.cx .f32 f_.Source.C.re f_.Source.C.im),.d (.sl false (f_.qa8.map qae))]]) rfl (by simp) rfl (by trivial) ⟨rfl,trivial,rfl,trivial,rfl,trivial,rfl,trivial,rfl,trivial,rfl,trivial,rfl,trivial,rfl,trivial,trivial⟩)⟩
      · refine qa7 ?_
        refine qbo ?_
        refine qa7 ?_
        refine qa2 ?_
        refine qa0 hτ rfl rfl rfl ?_
        refine qab h fun x96 hx96 h=>?_
        refine qh0 hτ rfl rfl rfl (qei hx96).1 (qfz hx96) rfl ?_
        refine qa0 hτ rfl rfl rfl ?_
        refine qa0 hτ rfl rfl rfl ?_
        refine qa0 hτ rfl rfl rfl ?_
        refine qa4 ?_
        refine qa7 ?_
        refine qa9 (qa3 [0] (l:=[(1,.d (.int .i64 bus_)),(3,.d (.int .i64 rounds_)),(4,.ptr 0 0),(10,.d (.int .i64 v66)),(11,.d (.fl .f32 v67)),(12,.d (.int .i64 v68)),(13,.d (.fl .f32 x96)),(32,.d (.sl false (sizes_.map qag))),(33,.d (.int .i64 (sizes_.length:Int))),(34,.d (.int .i64 v68))]) (objs:=[.box [.d (.cx .f32 f_.Source.A.re f_.Source.A.im),.d (.cx .f32 f_.Source.B.re f_.Source.B.im),.d (.cx .f32 f_.Source.C.re f_.Source.C.im),.d (.sl false (f_.qa8.map qae))]]) rfl (by simp) rfl (by trivial) ⟨rfl,trivial,rfl,trivial,rfl,trivial,rfl,trivial,rfl,trivial,rfl,trivial,rfl,trivial,rfl,trivial,rfl,trivial,rfl,trivial,trivial⟩) ?_
        refine qa2 ?_
        refine qa0 hτ rfl rfl rfl ?_
        refine qa0 hτ rfl rfl rfl ?_
        refine qa0 hτ rfl rfl rfl ?_
        refine qab h fun x97 hx97 h=>?_
        refine qad hτ false [] rfl rfl rfl (qaf func12 rfl rfl) rfl rfl (by simp) ⟨(by trivial),trivial,trivial,trivial⟩ (by trivial) (qhx n f_ bus_ x96 hx97) ?_
        rintro r0 o0 n0 ⟨rfl,rfl,rfl⟩ -
        refine qa0 hτ rfl rfl rfl ?_
        refine qa0 hτ rfl rfl rfl ?_
        refine qa0 hτ rfl rfl rfl ?_
        refine qaj hτ rfl rfl rfl ?_
        refine qaj hτ rfl rfl rfl ?_
        refine qa0 hτ rfl rfl rfl ?_
        refine qa4 ?_
        refine qa7 ?_
        refine qa7 ?_
        refine qa9 (qa3 [0,1] (l:=[(1,.d (.int .i64 bus_)),(3,.d (.int .i64 rounds_)),(4,.ptr 0 0),(10,.d (.int .i64 v66)),(11,.d (.fl .f32 v67)),(12,.d (.int .i64 v68)),(14,.ptr 1 0),(15,.d (.bool x97.2)),(32,.d (.sl false (sizes_.map qag))),(33,.d (.int .i64 (sizes_.length:Int))),(34,.d (.int .i64 v68))]) (objs:=[.box [.d (.cx .f32 f_.Source.A.re f_.Source.A.im),.d (.cx .f32 f_.Source.B.re f_.Source.B.im),.d (.cx .f32 f_.Source.C.re f_.Source.C.im),.d (.sl false (f_.qa8.map qae))],.box [.d (.cx .f32 x97.1.Source.A.re x97.1.Source.A.im),.d (.cx .f32 x97.1.Source.B.re x97.1.Source.B.im),.d (.cx .f32 x97.1.Source.C.re x97.1.Source.C.im),.d (.sl false (x97.1.qa8.map qae))]]) rfl (by simp) rfl (by trivial) ⟨rfl,trivial,rfl,trivial,rfl,trivial,rfl,trivial,rfl,trivial,rfl,trivial,rfl,trivial,rfl,trivial,rfl,trivial,rfl,trivial,rfl,trivial,trivial⟩) ?_
        refine qa2 ?_
        refine qa0 hτ rfl rfl rfl ?_
        refine qa0 hτ rfl rfl rfl ?_
        refine qa4 ?_
        refine qaz rfl (fun hc98=>?_) (fun hc98=>?_)
        · have hc98:=qil hc98
          have h:=qdk h hc98
          refine qa7 ?_
          refine qa2 ?_
          refine qa0 hτ rfl rfl rfl ?_
          refine qa0 hτ rfl rfl rfl ?_
          refine qa4 ?_
          refine qa9 (qa3 [] (l:=[(8,.d (.int .i64 (0:Int))),(9,.d (.bool false))]) (objs:=[]) rfl (by simp) rfl (by trivial) ⟨rfl,trivial,rfl,trivial,trivial⟩) ?_
          refine qar ?_
          have hr:=Option.some.inj h
          subst hr
          exact qah (.inr rfl) [] (objs':=[]) (new:=[]) rfl (by simp) (by simp) rfl (by trivial) rfl rfl (by trivial) (fun _=>⟨by simp [V.flat,V.qbd,V.qb6,D.flat],qal⟩) ⟨rfl,rfl,rfl⟩
        · have hc98:=qik hc98
          have h:=qdl h hc98
          refine qb4 ?_
          refine qa7 ?_
          refine qa2 ?_
          refine qab h fun x99 hx99 h=>?_
          refine qad hτ false [1] rfl rfl rfl (qaf func61 rfl rfl) rfl rfl (by simp) ⟨trivial,trivial⟩ (by trivial) (qhz n x97.1 hx99) ?_
          rintro r0 o0 n0 ⟨rfl,rfl,rfl⟩ -
          refine qa0 hτ rfl rfl rfl ?_
          refine qb2 (qa3 [0,1] (l:=[(1,.d (.int .i64 bus_)),(3,.d (.int .i64 rounds_)),(4,.ptr 0 0),(10,.d (.int .i64 v66)),(11,.d (.fl .f32 v67)),(12,.d (.int .i64 v68)),(14,.ptr 1 0),(32,.d (.sl false (sizes_.map qag))),(33,.d (.int .i64 (sizes_.length:Int))),(34,.d (.int .i64 v68)),(49,.d (.sl false (x99.map qa6))),(50,.d (.int .i64 rounds_))]) (objs:=[.box [.d (.cx .f32 f_.Source.A.re f_.Source.A.im),.d (.cx .f32 f_.Source.B.re f_.Source.B.im),.d (.cx .f32 f_.Source.C.re f_.Source.C.im),.d (.sl false (f_.qa8.map qae))],.box [.d (.cx .f32 x97.1.Source.A.re x97.1.Source.A.im),.d (.cx .f32 x97.1.Source.B.re x97.1.Source.B.im),.d (.cx .f32 x97.1.Source.C.re x97.1.Source.C.im),.d (.sl false (x97.1.qa8.map qae))]]) rfl (by simp) rfl (by trivial) ⟨rfl,trivial,rfl,trivial,rfl,trivial,rfl,trivial,rfl,trivial,rfl,trivial,rfl,trivial,rfl,trivial,rfl,trivial,rfl,trivial,(qhl (f:=qa6) (j:=2) (sz:=3) x99 rfl rfl rfl),(qgl (f:=qa6) (j:=2) (sz:=3) x99 rfl rfl rfl),rfl,trivial,trivial⟩) ?_
          refine qab h fun x100 hx100 h=>?_
          refine qad hτ false [1] rfl rfl rfl (qaf func60 rfl rfl) rfl rfl (by simp) ⟨trivial,trivial,trivial,(by trivial),trivial⟩ (by trivial) (qhb n x97.1 x99 rounds_ hx100) ?_
          rintro r0 o0 n0 ⟨rfl,rfl,rfl⟩ -
          refine qa0 hτ rfl rfl rfl ?_
          refine qb2 (qa3 [0,2] (l:=[(1,.d (.int .i64 bus_)),(3,.d (.int .i64 rounds_)),(4,.ptr 0 0),(10,.d (.int .i64 v66)),(11,.d (.fl .f32 v67)),(12,.d (.int .i64 v68)),(32,.d (.sl false (sizes_.map qag))),(33,.d (.int .i64 (sizes_.length:Int))),(34,.d (.int .i64 v68)),(52,.row 1 x100.qat.length 0 x100.qat.length)]) (objs:=[.box [.d (.cx .f32 f_.Source.A.re f_.Source.A.im),.d (.cx .f32 f_.Source.B.re f_.Source.B.im),.d (.cx .f32 f_.Source.C.re f_.Source.C.im),.d (.sl false (f_.qa8.map qae))],.row 3 (x100.qat.map qa6)]) rfl (by simp) rfl (by trivial) ⟨rfl,trivial,rfl,trivial,rfl,trivial,rfl,trivial,rfl,trivial,rfl,trivial,rfl,trivial,rfl,trivial,rfl,trivial,rfl,trivial,trivial⟩) ?_
          refine qab h fun x101 hx101 h=>?_
          refine qad hτ true [] rfl rfl rfl (qaf func59 rfl rfl) (qax (qhl (f:=qa6) (j:=1) (sz:=3) x100.qat rfl rfl rfl) qfp) rfl (by simp) ⟨(qgl (f:=qa6) (j:=1) (sz:=3) x100.qat rfl rfl rfl),trivial⟩ (by trivial) (impl_lowest_ok_fr n x100.qat hx101) ?_
          rintro r0 o0 n0 ⟨rfl,rfl,rfl⟩ -
          refine qa0 hτ rfl rfl rfl ?_
          refine qa0 hτ rfl rfl rfl ?_
          refine qa0 hτ rfl rfl rfl ?_
          refine qa0 hτ rfl rfl rfl ?_
          refine qa0 hτ rfl rfl rfl ?_
          refine qa0 hτ rfl rfl rfl ?_
          refine qa0 hτ rfl rfl rfl ?_
          refine qa4 ?_
          refine qa7 ?_
          refine qa7 ?_
          refine qa9 (qa3 [0] (l:=[(1,.d (.int .i64 bus_)),(3,.d (.int .i64 rounds_)),(4,.ptr 0 0),(10,.d (.int .i64 v66)),(11,.d (.fl .f32 v67)),(12,.d (.int .i64 v68)),(15,.d (.bool x101.2.2)),(17,.d (.fl .f32 x101.2.1)),(32,.d (.sl false (sizes_.map qag))),(33,.d (.int .i64 (sizes_.length:Int))),(34,.d (.int .i64 v68))]) (objs:=[.box [.d (.cx .f32 f_.Source.A.re f_.Source.A.im),.d (.cx .f32 f_.Source.B.re f_.Source.B.im),.d (.cx .f32 f_.Source.C.re f_.Source.C.im),.d (.sl false (f_.qa8.map qae))]]) rfl (by simp) rfl (by trivial) ⟨rfl,trivial,rfl,trivial,rfl,trivial,rfl,trivial,rfl,trivial,rfl,trivial,rfl,trivial,rfl,trivial,rfl,trivial,rfl,trivial,rfl,trivial,trivial⟩) ?_
          refine qa2 ?_
          refine qa0 hτ rfl rfl rfl ?_
          refine qa0 hτ rfl rfl rfl ?_
          refine qa4 ?_
          refine qaz rfl (fun hc102=>?_) (fun hc102=>?_)
          · have hc102:=qil hc102
            have h:=qdk h hc102
            refine qa7 ?_
            refine qa2 ?_
            refine qa0 hτ rfl rfl rfl ?_
            refine qa0 hτ rfl rfl rfl ?_
            refine qa4 ?_
            refine qa9 (qa3 [] (l:=[(8,.d (.int .i64 (0:Int))),(9,.d (.bool false))]) (objs:=[]) rfl (by simp) rfl (by trivial) ⟨rfl,trivial,rfl,trivial,trivial⟩) ?_
            refine qar ?_
            have hr:=Option.some.inj h
            subst hr
            exact qah (.inr rfl) [] (objs':=[]) (new:=[]) rfl (by simp) (by simp) rfl (by trivial) rfl rfl (by trivial) (fun _=>⟨by simp [V.flat,V.qbd,V.qb6,D.flat],qal⟩) ⟨rfl,rfl,rfl⟩
          · have hc102:=qik hc102
            have h:=qdl h hc102
            refine qb4 ?_
            refine qc0 (ι:=Bool) (fun v105=>St.of [(1,.d (.int .i64 bus_)),(3,.d (.int .i64 rounds_)),(4,.ptr 0 0),(10,.d (.int .i64 v66)),(11,.d (.fl .f32 v67)),(12,.d (.int .i64 v68)),(17,.d (.fl .f32 x101.2.1)),(32,.d (.sl false (sizes_.map qag))),(33,.d (.int .i64 (sizes_.length:Int))),(34,.d (.int .i64 v68)),(65,.d (.bool v105))] [.box [.d (.cx .f32 f_.Source.A.re f_.Source.A.im),.d (.cx .f32 f_.Source.B.re f_.Source.B.im),.d (.cx .f32 f_.Source.C.re f_.Source.C.im),.d (.sl false (f_.qa8.map qae))]] f11.ntmps 0) (fun v105=>qdc n (qao n f_ bus_ sizes_ rounds_ m81) v66 v67 v68 x101 v105 = some r) ?_ (fun hk107=>?_)
            · rintro v105 h
              replace h:qdc n (qao n f_ bus_ sizes_ rounds_ m81) v66 v67 v68 x101 v105 = some r:=h
              unfold qdc at h
              refine qaz rfl (fun hc106=>?_) (fun hc106=>?_)
              · have h:=qdl h hc106
                refine qa2 ?_
                refine qa0 hτ rfl rfl rfl ?_
                refine qa0 hτ rfl rfl rfl ?_
                refine qa0 hτ rfl rfl rfl ?_
                refine qa0 hτ rfl rfl rfl ?_
                refine qa4 ?_
                refine qa9 (qa3 [0] (l:=[(1,.d (.int .i64 bus_)),(3,.d (.int .i64 rounds_)),(4,.ptr 0 0),(10,.d (.int .i64 v68)),(11,.d (.fl .f32 x101.2.1)),(32,.d (.sl false (sizes_.map qag))),(33,.d (.int .i64 (sizes_.length:Int))),(34,.d (.int .i64 v68))]) (objs:=[.box [.d (.cx .f32 f_.Source.A.re f_.Source.A.im),.d (.cx .f32 f_.Source.B.re f_.Source.B.im),.d (.cx .f32 f_.Source.C.re f_.Source.C.im),.d (.sl false (f_.qa8.map qae))]]) rfl (by simp) rfl (by trivial) ⟨rfl,trivial,rfl,trivial,rfl,trivial,rfl,trivial,rfl,trivial,rfl,trivial,rfl,trivial,rfl,trivial,trivial⟩) ?_
                exact hk95 (v68,x101.2.1) h
              · have h:=qdk h hc106
                refine qb4 ?_
                refine qa9 (qa3 [0] (l:=[(1,.d (.int .i64 bus_)),(3,.d (.int .i64 rounds_)),(4,.ptr 0 0),(10,.d (.int .i64 v66)),(11,.d (.fl .f32 v67)),(32,.d (.sl false (sizes_.map qag))),(33,.d (.int .i64 (sizes_.length:Int))),(34,.d (.int .i64 v68))]) (objs:=[.box [.d (.cx .f32 f_.Source.A.re f_.Source.A.im),.d (.cx .f32 f_.Source.B.re f_.Source.B.im),.d (.cx .f32 f_.Source.C.re f_.Source.C.im),.d (.sl false (f_.qa8.map qae))]]) rfl (by simp) rfl (by trivial) ⟨rfl,trivial,rfl,trivial,rfl,trivial,rfl,trivial,rfl,trivial,rfl,trivial,rfl,trivial,rfl,trivial,trivial⟩) ?_
                exact hk95 (v66,v67) h
            · refine qa7 ?_
              refine qa2 ?_
              refine qa0 hτ rfl rfl rfl ?_
              refine qa0 hτ (v:=.d (.bool (decide (v68 = (0:Int))))) rfl rfl (qj3 _ _) ?_
              refine qa0 hτ rfl rfl rfl ?_
              refine qba 61 rfl (fun hb108=>?_) (fun hb108=>?_)
              · have h:=if_t h hb108
                refine qaa rfl rfl ?_
                refine qaa rfl rfl ?_
                refine qaa rfl rfl ?_
                refine qa0 hτ rfl rfl rfl ?_
                refine qa4 ?_
                refine qa9 (qa3 [0] (l:=[(1,.d (.int .i64 bus_)),(3,.d (.int .i64 rounds_)),(4,.ptr 0 0),(10,.d (.int .i64 v66)),(11,.d (.fl .f32 v67)),(12,.d (.int .i64 v68)),(17,.d (.fl .f32 x101.2.1)),(32,.d (.sl false (sizes_.map qag))),(33,.d (.int .i64 (sizes_.length:Int))),(34,.d (.int .i64 v68)),(65,.d (.bool true))]) (objs:=[.box [.d (.cx .f32 f_.Source.A.re f_.Source.A.im),.d (.cx .f32 f_.Source.B.re f_.Source.B.im),.d (.cx .f32 f_.Source.C.re f_.Source.C.im),.d (.sl false (f_.qa8.map qae))]]) rfl (by simp) rfl (by trivial) ⟨rfl,trivial,rfl,trivial,rfl,trivial,rfl,trivial,rfl,trivial,rfl,trivial,rfl,trivial,rfl,trivial,rfl,trivial,rfl,trivial,rfl,trivial,trivial⟩) ?_
                exact hk107 true h
              · have h:=if_f h hb108
                refine qa0 hτ rfl rfl rfl ?_
                refine qa0 hτ rfl rfl rfl ?_
                refine qa0 hτ rfl rfl rfl ?_
                refine qa0 hτ rfl rfl rfl ?_
                refine qa4 ?_
                refine qa9 (qa3 [0] (l:=[(1,.d (.int .i64 bus_)),(3,.d (.int .i64 rounds_)),(4,.ptr 0 0),(10,.d (.int .i64 v66)),(11,.d (.fl .f32 v67)),(12,.d (.int .i64 v68)),(17,.d (.fl .f32 x101.2.1)),(32,.d (.sl false (sizes_.map qag))),(33,.d (.int .i64 (sizes_.length:Int))),(34,.d (.int .i64 v68)),(65,.d (.bool (fcmp .gtr .f32 x101.2.1 v67)))]) (objs:=[.box [.d (.cx .f32 f_.Source.A.re f_.Source.A.im),.d (.cx .f32 f_.Source.B.re f_.Source.B.im),.d (.cx .f32 f_.Source.C.re f_.Source.C.im),.d (.sl false (f_.qa8.map qae))]]) rfl (by simp) rfl (by trivial) ⟨rfl,trivial,rfl,trivial,rfl,trivial,rfl,trivial,rfl,trivial,rfl,trivial,rfl,trivial,rfl,trivial,rfl,trivial,rfl,trivial,rfl,trivial,trivial⟩) ?_
                exact hk107 (fcmp .gtr .f32 x101.2.1 v67) h
    · have h:=if_f h hc83
      refine qgi ?_
      refine qa7 ?_
      refine qa2 ?_
      refine qa0 hτ rfl rfl rfl ?_
      refine qa0 hτ rfl rfl rfl ?_
      refine qa0 hτ rfl rfl rfl ?_
      refine qa4 ?_
      refine qa9 (qa3 [] (l:=[(8,.d (.int .i64 v66)),(9,.d (.bool true))]) (objs:=[]) rfl (by simp) rfl (by trivial) ⟨rfl,trivial,rfl,trivial,trivial⟩) ?_
      refine qar ?_
      have hr:=Option.some.inj h
      subst hr
      exact qah (.inr rfl) [] (objs':=[]) (new:=[]) rfl (by simp) (by simp) rfl (by trivial) rfl rfl (by trivial) (fun _=>⟨by simp [V.flat,V.qbd,V.qb6,D.flat],qal⟩) ⟨rfl,rfl,rfl⟩
  · refine qa7 ?_
    refine qc0 (ι:=Bool) (fun v116=>St.of [(1,.d (.int .i64 bus_)),(2,.d (.sl false (sizes_.map qag))),(3,.d (.int .i64 rounds_)),(4,.ptr 0 0),(31,.d (.bool v116))] [.box [.d (.cx .f32 f_.Source.A.re f_.Source.A.im),.d (.cx .f32 f_.Source.B.re f_.Source.B.im),.d (.cx .f32 f_.Source.C.re f_.Source.C.im),.d (.sl false (f_.qa8.map qae))]] f11.ntmps 0) (fun v116=>qch n f_ bus_ sizes_ rounds_ v116 = some r) ?_ (fun hk118=>?_)
    · rintro v116 h
      replace h:qch n f_ bus_ sizes_ rounds_ v116 = some r:=h
      unfold qch at h
      refine qaz rfl (fun hc117=>?_) (fun hc117=>?_)
      · have h:=qdl h hc117
        refine qa7 ?_
        refine qa2 ?_
        refine qa0 hτ rfl rfl rfl ?_
        refine qa0 hτ rfl rfl rfl ?_
        refine qa4 ?_
        refine qa9 (qa3 [] (l:=[(8,.d (.int .i64 (0:Int))),(9,.d (.bool false))]) (objs:=[]) rfl (by simp) rfl (by trivial) ⟨rfl,trivial,rfl,trivial,trivial⟩) ?_
        refine qar ?_
        have hr:=Option.some.inj h
        subst hr
        exact qah (.inr rfl) [] (objs':=[]) (new:=[]) rfl (by simp) (by simp) rfl (by trivial) rfl rfl (by trivial) (fun _=>⟨by simp [V.flat,V.qbd,V.qb6,D.flat],qal⟩) ⟨rfl,rfl,rfl⟩
      · have h:=qdk h hc117
        refine qb4 ?_
        refine qa9 (qa3 [0] (l:=[(1,.d (.int .i64 bus_)),(2,.d (.sl false (sizes_.map qag))),(3,.d (.int .i64 rounds_)),(4,.ptr 0 0)]) (objs:=[.box [.d (.cx .f32 f_.Source.A.re f_.Source.A.im),.d (.cx .f32 f_.Source.B.re f_.Source.B.im),.d (.cx .f32 f_.Source.C.re f_.Source.C.im),.d (.sl false (f_.qa8.map qae))]]) rfl (by simp) rfl (by trivial) ⟨rfl,trivial,rfl,trivial,rfl,trivial,rfl,trivial,trivial⟩) ?_
        exact hk109 () h
    · refine qa7 ?_
      refine qa2 ?_
      refine qa0 hτ rfl rfl rfl ?_
      refine qab h fun x119 hx119 h=>?_
      refine qad hτ false [0] rfl rfl rfl (qaf func57 rfl rfl) rfl rfl (by simp) ⟨trivial,trivial,trivial⟩ (by trivial) (qic n f_ bus_ hx119) ?_
      rintro r0 o0 n0 ⟨rfl,rfl,rfl⟩ -
      refine qa0 hτ rfl rfl rfl ?_
      refine qa0 hτ rfl rfl rfl ?_
      refine qba 21 rfl (fun hb120=>?_) (fun hb120=>?_)
      · have hb120:=qil hb120
        have h:=qdk h hb120
        refine qaa rfl rfl ?_
        refine qaa rfl rfl ?_
        refine qaa rfl rfl ?_
        refine qaa rfl rfl ?_
        refine qa0 hτ rfl rfl rfl ?_
        refine qb2 (qa3 [0] (l:=[(1,.d (.int .i64 bus_)),(2,.d (.sl false (sizes_.map qag))),(3,.d (.int .i64 rounds_)),(4,.ptr 0 0),(26,.d (.bool true))]) (objs:=[.box [.d (.cx .f32 f_.Source.A.re f_.Source.A.im),.d (.cx .f32 f_.Source.B.re f_.Source.B.im),.d (.cx .f32 f_.Source.C.re f_.Source.C.im),.d (.sl false (f_.qa8.map qae))]]) rfl (by simp) rfl (by trivial) ⟨rfl,trivial,rfl,trivial,rfl,trivial,rfl,trivial,rfl,trivial,trivial⟩) ?_
        refine qa0 hτ rfl rfl rfl ?_
        refine qaa rfl rfl ?_
        refine qaa rfl rfl ?_
        refine qaa rfl rfl ?_
        refine qa0 hτ rfl rfl rfl ?_
        refine qa4 ?_
        refine qa9 (qa3 [0] (l:=[(1,.d (.int .i64 bus_)),(2,.d (.sl false (sizes_.map qag))),(3,.d (.int .i64 rounds_)),(4,.ptr 0 0),(31,.d (.bool true))]) (objs:=[.box [.d (.cx .f32 f_.Source.A.re f_.Source.A.im),.d (.cx .f32 f_.Source.B.re f_.Source.B.im),.d (.cx .f32 f_.Source.C.re f_.Source.C.im),.d (.sl false (f_.qa8.map qae))]]) rfl (by simp) rfl (by trivial) ⟨rfl,trivial,rfl,trivial,rfl,trivial,rfl,trivial,rfl,trivial,trivial⟩) ?_
        exact hk118 true h
      · have hb120:=qik hb120
        have h:=qdl h hb120
        refine qa0 hτ rfl rfl rfl ?_
        refine qa0 hτ (v:=.d (.int .i64 (sizes_.length:Int))) rfl rfl (Eq.trans rfl (qfb (f:=qag) sizes_)) ?_
        refine qab h fun x121 hx121 h=>?_
        refine qad hτ false [] rfl rfl rfl (qaf func58 rfl rfl) rfl rfl (by simp) ⟨trivial,trivial,trivial,trivial⟩ (by trivial) (qfk n (sizes_.length:Int) (1:Int) (16:Int) hx121) ?_
        rintro r0 o0 n0 ⟨rfl,rfl,rfl⟩ -
        refine qa0 hτ rfl rfl rfl ?_
        refine qa0 hτ rfl rfl rfl ?_
        refine qb2 (qa3 [0] (l:=[(1,.d (.int .i64 bus_)),(2,.d (.sl false (sizes_.map qag))),(3,.d (.int .i64 rounds_)),(4,.ptr 0 0),(26,.d (.bool (!x121)))]) (objs:=[.box [.d (.cx .f32 f_.Source.A.re f_.Source.A.im),.d (.cx .f32 f_.Source.B.re f_.Source.B.im),.d (.cx .f32 f_.Source.C.re f_.Source.C.im),.d (.sl false (f_.qa8.map qae))]]) rfl (by simp) rfl (by trivial) ⟨rfl,trivial,rfl,trivial,rfl,trivial,rfl,trivial,rfl,trivial,trivial⟩) ?_
        refine qa0 hτ rfl rfl rfl ?_
        refine qba 27 rfl (fun hb122=>?_) (fun hb122=>?_)
        · have hb122:=qil hb122
          have h:=qdk h hb122
          refine qaa rfl rfl ?_
          refine qaa rfl rfl ?_
          refine qaa rfl rfl ?_
          refine qa0 hτ rfl rfl rfl ?_
          refine qa4 ?_
          refine qa9 (qa3 [0] (l:=[(1,.d (.int .i64 bus_)),(2,.d (.sl false (sizes_.map qag))),(3,.d (.int .i64 rounds_)),(4,.ptr 0 0),(31,.d (.bool true))]) (objs:=[.box [.d (.cx .f32 f_.Source.A.re f_.Source.A.im),.d (.cx .f32 f_.Source.B.re f_.Source.B.im),.d (.cx .f32 f_.Source.C.re f_.Source.C.im),.d (.sl false (f_.qa8.map qae))]]) rfl (by simp) rfl (by trivial) ⟨rfl,trivial,rfl,trivial,rfl,trivial,rfl,trivial,rfl,trivial,trivial⟩) ?_
          exact hk118 true h
        · have hb122:=qik hb122
          have h:=qdl h hb122
          refine qa0 hτ rfl rfl rfl ?_
          refine qab h fun x123 hx123 h=>?_
          refine qad hτ false [] rfl rfl rfl (qaf func58 rfl rfl) rfl rfl (by simp) ⟨trivial,trivial,trivial,trivial⟩ (by trivial) (qfk n rounds_ (0:Int) (50:Int) hx123) ?_
          rintro r0 o0 n0 ⟨rfl,rfl,rfl⟩ -
          refine qa0 hτ rfl rfl rfl ?_
          refine qa0 hτ rfl rfl rfl ?_
          refine qa4 ?_
          refine qa9 (qa3 [0] (l:=[(1,.d (.int .i64 bus_)),(2,.d (.sl false (sizes_.map qag))),(3,.d (.int .i64 rounds_)),(4,.ptr 0 0),(31,.d (.bool (!x123)))]) (objs:=[.box [.d (.cx .f32 f_.Source.A.re f_.Source.A.im),.d (.cx .f32 f_.Source.B.re f_.Source.B.im),.d (.cx .f32 f_.Source.C.re f_.Source.C.im),.d (.sl false (f_.qa8.map qae))]]) rfl (by simp) rfl (by trivial) ⟨rfl,trivial,rfl,trivial,rfl,trivial,rfl,trivial,rfl,trivial,trivial⟩) ?_
          exact hk118 (!x123) h
theorem impl_BestBank_ok_fr (n:Nat) (f_:qak) (bus_:Int) (sizes_:List Nat) (rounds_:Int) {r:Int × Bool} (h:qek n f_ bus_ sizes_ rounds_ = some r):qay prog true 11 [.agg [.d (.cx .f32 f_.Source.A.re f_.Source.A.im),.d (.cx .f32 f_.Source.B.re f_.Source.B.im),.d (.cx .f32 f_.Source.C.re f_.Source.C.im),.d (.sl false (f_.qa8.map qae))],.d (.int .i64 bus_),.d (.sl false (sizes_.map qag)),.d (.int .i64 rounds_)] [] (fun v o new=>v = .tup [.d (.int .i64 r.1),.d (.bool r.2)]∧o = []∧new = []):=impl_BestBank_ok_fr0 true n f_ bus_ sizes_ rounds_ h
def qct (n:Nat) (f_:qak):Option (List qa5 × Bool) :=
  (qbh n f_).bind fun x4 =>
  if x4 = true then
    (qcj n f_).bind fun x6 =>
    some (x6,true)
  else
    some (([]:List qa5),false)
theorem impl_FlatVoltages_ok_fr0 (fr:Bool) (n:Nat) (f_:qak) {r:List qa5 × Bool} (h:qct n f_ = some r):qay prog fr 14 [.agg [.d (.cx .f32 f_.Source.A.re f_.Source.A.im),.d (.cx .f32 f_.Source.B.re f_.Source.B.im),.d (.cx .f32 f_.Source.C.re f_.Source.C.im),.d (.sl false (f_.qa8.map qae))]] [] (fun v o new=>v = .tup [.row 0 r.1.length 0 r.1.length,.d (.bool r.2)]∧o = []∧new = [.row 3 (r.1.map qa6)]):=by
  refine qai hτ func14 rfl (by simp) (by simp) ?_
  unfold qct at h
  refine qa7 ?_
  refine qa2 ?_
  refine qaj hτ rfl rfl rfl ?_
  refine qa0 hτ rfl rfl rfl ?_
  refine qa0 hτ rfl rfl rfl ?_
  refine qa4 ?_
  refine qa7 ?_
  refine qa7 ?_
  refine qa2 ?_
  refine qa0 hτ rfl rfl rfl ?_
  refine qab h fun x4 hx4 h=>?_
  refine qad hτ false [] rfl rfl rfl (qaf func13 rfl rfl) rfl rfl (by simp) ⟨(by trivial),trivial⟩ (by trivial) (qcr n f_ hx4) ?_
  rintro r0 o0 n0 ⟨rfl,rfl,rfl⟩ -
  refine qa0 hτ rfl rfl rfl ?_
  refine qa4 ?_
  refine qa9 (qa3 [0] (l:=[(1,.ptr 0 0),(6,.d (.bool (!x4)))]) (objs:=[.box [.d (.cx .f32 f_.Source.A.re f_.Source.A.im),.d (.cx .f32 f_.Source.B.re f_.Source.B.im),.d (.cx .f32 f_.Source.C.re f_.Source.C.im),.d (.sl false (f_.qa8.map qae))]]) rfl (by simp) rfl (by trivial) ⟨rfl,trivial,rfl,trivial,trivial⟩) ?_
  refine qaz rfl (fun hc5=>?_) (fun hc5=>?_)
  · have hc5:=qil hc5
    have h:=qdk h hc5
    refine qa7 ?_
    refine qa2 ?_
    refine qa0 hτ rfl rfl rfl ?_
    refine qa0 hτ rfl rfl rfl ?_
    refine qa4 ?_
    refine qa9 (qa3 [] (l:=[(2,.d (.nils)),(3,.d (.bool false))]) (objs:=[]) rfl (by simp) rfl (by trivial) ⟨rfl,trivial,rfl,trivial,trivial⟩) ?_
    refine qa9 (qhq [3] (l':=[(2,.row 0 (([]:List qa5).length) 0 (([]:List qa5).length)),(3,.d (.bool false))]) (objs':=[]) (.cons (.c (.ghost ⟨Nat.le_of_ble_eq_true rfl,Nat.le_of_ble_eq_true rfl⟩)) (.cons (.c (.refl _)) .nil)) .nil) ?_
    refine qar ?_
    have hr:=Option.some.inj h
    subst hr
    exact qah (.inr rfl) [0] (objs':=[]) (new:=[.row 3 (([]:List qa5).map qa6)]) rfl (by simp) (by simp) rfl (by trivial) rfl rfl (by trivial) (fun _=>⟨by simp [V.flat,V.qbd,V.qb6,D.flat],(qd1 (qh2 qgk _) qal)⟩) ⟨rfl,rfl,rfl⟩
  · have hc5:=qik hc5
    have h:=qdl h hc5
    refine qb4 ?_
    refine qa7 ?_
    refine qa2 ?_
    refine qab h fun x6 hx6 h=>?_
    refine qad hτ false [0] rfl rfl rfl (qaf func61 rfl rfl) rfl rfl (by simp) ⟨trivial,trivial⟩ (by trivial) (qhz n f_ hx6) ?_
    rintro r0 o0 n0 ⟨rfl,rfl,rfl⟩ -
    refine qa0 hτ rfl rfl rfl ?_
    refine qa0 hτ rfl rfl rfl ?_
    refine qa4 ?_
    refine qa9 (qa3 [1] (l:=[(2,.row 0 x6.length 0 x6.length),(3,.d (.bool true))]) (objs:=[.row 3 (x6.map qa6)]) rfl (by simp) rfl (by trivial) ⟨rfl,trivial,rfl,trivial,trivial⟩) ?_
    refine qar ?_
    have hr:=Option.some.inj h
    subst hr
    exact qah (.inr rfl) [0] (objs':=[]) (new:=[.row 3 (x6.map qa6)]) rfl (by simp) (by simp) rfl (by trivial) rfl rfl (by trivial) (fun _=>⟨by simp [V.flat,V.qbd,V.qb6,D.flat],(qd1 (qh2 qgk _) qal)⟩) ⟨rfl,rfl,rfl⟩
theorem impl_FlatVoltages_ok (n:Nat) (f_:qak) {r:List qa5 × Bool} (h:qct n f_ = some r):qay prog false 14 [.agg [.d (.cx .f32 f_.Source.A.re f_.Source.A.im),.d (.cx .f32 f_.Source.B.re f_.Source.B.im),.d (.cx .f32 f_.Source.C.re f_.Source.C.im),.d (.sl false (f_.qa8.map qae))]] [] (fun v o new=>v = .tup [.row 0 r.1.length 0 r.1.length,.d (.bool r.2)]∧o = []∧new = [.row 3 (r.1.map qa6)]):=impl_FlatVoltages_ok_fr0 false n f_ h
def qft (n:Nat) (f_:qak) (list_:List qa5):Option Bool :=
  (qbh n f_).bind fun x4 =>
  if x4 = true then
    some (decide ((list_.length:Int) = (f_.qa8.length:Int)))
  else
    some false
theorem impl_listFor_ok_fr0 (fr:Bool) (n:Nat) (f_:qak) (list_:List qa5) {r:Bool} (h:qft n f_ list_ = some r):qay prog fr 68 [.agg [.d (.cx .f32 f_.Source.A.re f_.Source.A.im),.d (.cx .f32 f_.Source.B.re f_.Source.B.im),.d (.cx .f32 f_.Source.C.re f_.Source.C.im),.d (.sl false (f_.qa8.map qae))],.d (.sl false (list_.map qa6))] [] (fun v o new=>v = .d (.bool r)∧o = []∧new = []):=by
  refine qai hτ func68 rfl (by simp) (by simp) ?_
  unfold qft at h
  refine qa7 ?_
  refine qa2 ?_
  refine qaj hτ rfl rfl rfl ?_
  refine qa0 hτ rfl rfl rfl ?_
  refine qa4 ?_
  refine qa7 ?_
  refine qa2 ?_
  refine qa0 hτ rfl rfl rfl ?_
  refine qab h fun x4 hx4 h=>?_
  refine qad hτ false [] rfl rfl rfl (qaf func13 rfl rfl) rfl rfl (by simp) ⟨(by trivial),trivial⟩ (by trivial) (qcr n f_ hx4) ?_
  rintro r0 o0 n0 ⟨rfl,rfl,rfl⟩ -
  refine qa0 hτ rfl rfl rfl ?_
  refine qba 7 rfl (fun hb5=>?_) (fun hb5=>?_)
  · have h:=qdl h hb5
    refine qa0 hτ rfl rfl rfl ?_
    refine qa0 hτ (v:=.d (.int .i64 (list_.length:Int))) rfl rfl (Eq.trans rfl (qfb (f:=qa6) list_)) ?_
    refine qa0 hτ rfl rfl rfl ?_
    refine qa0 hτ rfl rfl rfl ?_
    refine qa0 hτ (v:=.d (.int .i64 (f_.qa8.length:Int))) rfl rfl (Eq.trans rfl (qfb (f:=qae) f_.qa8)) ?_
    refine qa0 hτ (v:=.d (.bool (decide ((list_.length:Int) = (f_.qa8.length:Int))))) rfl rfl (qj3 _ _) ?_
    refine qa0 hτ rfl rfl rfl ?_
    refine qb2 (qa3 [] (l:=[(14,.d (.bool (decide ((list_.length:Int) = (f_.qa8.length:Int)))))]) (objs:=[]) rfl (by simp) rfl (by trivial) ⟨rfl,trivial,trivial⟩) ?_
    refine qa0 hτ rfl rfl rfl ?_
    refine qa4 ?_
    refine qa9 (qa3 [] (l:=[(4,.d (.bool (decide ((list_.length:Int) = (f_.qa8.length:Int)))))]) (objs:=[]) rfl (by simp) rfl (by trivial) ⟨rfl,trivial,trivial⟩) ?_
    refine qar ?_
    have hr:=Option.some.inj h
    subst hr
    exact qah (.inr rfl) [] (objs':=[]) (new:=[]) rfl (by simp) (by simp) rfl (by trivial) rfl rfl (by trivial) (fun _=>⟨by simp [V.flat,V.qbd,V.qb6,D.flat],qal⟩) ⟨rfl,rfl,rfl⟩
  · have h:=qdk h hb5
    refine qaa rfl rfl ?_
    refine qaa rfl rfl ?_
    refine qaa rfl rfl ?_
    refine qaa rfl rfl ?_
    refine qaa rfl rfl ?_
    refine qaa rfl rfl ?_
    refine qa0 hτ rfl rfl rfl ?_
    refine qb2 (qa3 [] (l:=[(14,.d (.bool false))]) (objs:=[]) rfl (by simp) rfl (by trivial) ⟨rfl,trivial,trivial⟩) ?_
    refine qa0 hτ rfl rfl rfl ?_
    refine qa4 ?_
    refine qa9 (qa3 [] (l:=[(4,.d (.bool false))]) (objs:=[]) rfl (by simp) rfl (by trivial) ⟨rfl,trivial,trivial⟩) ?_
    refine qar ?_
    have hr:=Option.some.inj h
    subst hr
    exact qah (.inr rfl) [] (objs':=[]) (new:=[]) rfl (by simp) (by simp) rfl (by trivial) rfl rfl (by trivial) (fun _=>⟨by simp [V.flat,V.qbd,V.qb6,D.flat],qal⟩) ⟨rfl,rfl,rfl⟩
theorem impl_listFor_ok (n:Nat) (f_:qak) (list_:List qa5) {r:Bool} (h:qft n f_ list_ = some r):qay prog false 68 [.agg [.d (.cx .f32 f_.Source.A.re f_.Source.A.im),.d (.cx .f32 f_.Source.B.re f_.Source.B.im),.d (.cx .f32 f_.Source.C.re f_.Source.C.im),.d (.sl false (f_.qa8.map qae))],.d (.sl false (list_.map qa6))] [] (fun v o new=>v = .d (.bool r)∧o = []∧new = []):=impl_listFor_ok_fr0 false n f_ list_ h
def qdx (n:Nat) (f_:qak) (voltages_:List qa5) (rounds_:Int):Option (qg1 × Bool) :=
  (qc7 n f_ voltages_ rounds_).bind fun x10 =>
  some ((qg1.mk x10.qat x10.qbj x10.Rounds x10.qgf),true)
def qcv (n:Nat) (f_:qak) (voltages_:List qa5) (rounds_:Int) (v16:Bool):Option (qg1 × Bool) :=
  if v16 = true then
    some ((qg1.mk ([]:List qa5) ([]:List qa5) (0:Int) false),false)
  else
    qdx n f_ voltages_ rounds_
def qf3 (n:Nat) (f_:qak) (voltages_:List qa5) (rounds_:Int):Option (qg1 × Bool) :=
  (qft n f_ voltages_).bind fun x19 =>
  if x19 = true then
    (qck n rounds_ (0:Int) (50:Int)).bind fun x21 =>
    qcv n f_ voltages_ rounds_ (!x21)
  else
    qcv n f_ voltages_ rounds_ true
theorem impl_RunSweeps_ok (n:Nat) (f_:qak) (voltages_:List qa5) (rounds_:Int) {r:qg1 × Bool} (h:qf3 n f_ voltages_ rounds_ = some r):qay prog false 15 [.agg [.d (.cx .f32 f_.Source.A.re f_.Source.A.im),.d (.cx .f32 f_.Source.B.re f_.Source.B.im),.d (.cx .f32 f_.Source.C.re f_.Source.C.im),.d (.sl false (f_.qa8.map qae))],.d (.sl false (voltages_.map qa6)),.d (.int .i64 rounds_)] [] (fun v o new=>v = .tup [.agg [.row 0 r.1.qat.length 0 r.1.qat.length,.d (.sl false (r.1.qbj.map qa6)),.d (.int .i64 r.1.Rounds),.d (.bool r.1.qgf)],.d (.bool r.2)]∧o = []∧new = [.row 3 (r.1.qat.map qa6)]):=by
  refine qai hτ func15 rfl (by simp) (by simp) ?_
  unfold qf3 at h
  refine qa7 ?_
  refine qa2 ?_
  refine qaj hτ rfl rfl rfl ?_
  refine qaj hτ rfl rfl rfl ?_
  refine qa0 hτ rfl rfl rfl ?_
  refine qa4 ?_
  refine qc0 (ι:=Unit) (fun _=>St.of [(1,.d (.sl false (voltages_.map qa6))),(2,.d (.int .i64 rounds_)),(3,.ptr 0 0),(6,.ptr 1 0)] [.box [.d (.cx .f32 f_.Source.A.re f_.Source.A.im),.d (.cx .f32 f_.Source.B.re f_.Source.B.im),.d (.cx .f32 f_.Source.C.re f_.Source.C.im),.d (.sl false (f_.qa8.map qae))],.box [.d (.nils),.d (.nils),.d (.int .i64 (0:Int)),.d (.bool false)]] f15.ntmps 0) (fun _=>qdx n f_ voltages_ rounds_ = some r) ?_ (fun hk11=>?_)
  · rintro ⟨⟩ h
    replace h:qdx n f_ voltages_ rounds_ = some r:=h
    unfold qdx at h
    refine qa7 ?_
    refine qa2 ?_
    refine qa0 hτ rfl rfl rfl ?_
    refine qa0 hτ rfl rfl rfl ?_
    refine qab h fun x10 hx10 h=>?_
    refine qad hτ false [0] rfl rfl rfl (qaf func60 rfl rfl) rfl rfl (by simp) ⟨trivial,trivial,trivial,(by trivial),trivial⟩ (by trivial) (qhb n f_ voltages_ rounds_ hx10) ?_
    rintro r0 o0 n0 ⟨rfl,rfl,rfl⟩ -
    refine qaj hτ rfl rfl rfl ?_
    refine qa0 hτ rfl rfl rfl ?_
    refine qa4 ?_
    refine qa9 (qa3 [1,2] (l:=[(6,.ptr 0 0),(7,.d (.bool true))]) (objs:=[.box [.row 1 x10.qat.length 0 x10.qat.length,.d (.sl false (x10.qbj.map qa6)),.d (.int .i64 x10.Rounds),.d (.bool x10.qgf)],.row 3 (x10.qat.map qa6)]) rfl (by simp) rfl (by trivial) ⟨rfl,trivial,rfl,trivial,trivial⟩) ?_
    refine qar ?_
    have hr:=Option.some.inj h
    subst hr
    exact qah (.inr rfl) [1] (objs':=[]) (new:=[.row 3 (x10.qat.map qa6)]) rfl (by simp) (by simp) rfl (by trivial) rfl rfl (by trivial) (fun h=>nomatch h) ⟨rfl,rfl,rfl⟩
  · refine qa7 ?_
    refine qc0 (ι:=Bool) (fun v16=>St.of [(1,.d (.sl false (voltages_.map qa6))),(2,.d (.int .i64 rounds_)),(3,.ptr 0 0),(6,.ptr 1 0),(16,.d (.bool v16))] [.box [.d (.cx .f32 f_.Source.A.re f_.Source.A.im),.d (.cx .f32 f_.Source.B.re f_.Source.B.im),.d (.cx .f32 f_.Source.C.re f_.Source.C.im),.d (.sl false (f_.qa8.map qae))],.box [.d (.nils),.d (.nils),.d (.int .i64 (0:Int)),.d (.bool false)]] f15.ntmps 0) (fun v16=>qcv n f_ voltages_ rounds_ v16 = some r) ?_ (fun hk18=>?_)
    · rintro v16 h
      replace h:qcv n f_ voltages_ rounds_ v16 = some r:=h
      unfold qcv at h
      refine qaz rfl (fun hc17=>?_) (fun hc17=>?_)
      · have h:=qdl h hc17
        refine qa7 ?_
        refine qa2 ?_
        refine qa0 hτ rfl rfl rfl ?_
        refine qaj hτ rfl rfl rfl ?_
        refine qa0 hτ rfl rfl rfl ?_
        refine qa4 ?_
        refine qa9 (qa3 [1] (l:=[(6,.ptr 0 0),(7,.d (.bool false))]) (objs:=[.box [.d (.nils),.d (.nils),.d (.int .i64 (0:Int)),.d (.bool false)]]) rfl (by simp) rfl (by trivial) ⟨rfl,trivial,rfl,trivial,trivial⟩) ?_
        refine qa9 (qhq [3] (l':=[(6,.ptr 0 0),(7,.d (.bool false))]) (objs':=[.box [.row 1 (([]:List qa5).length) 0 (([]:List qa5).length),.d (.sl false (([]:List qa5).map qa6)),.d (.int .i64 (0:Int)),.d (.bool false)]]) (.cons (.c (.refl _)) (.cons (.c (.refl _)) .nil)) (.cons (.box (.cons (.ghost ⟨Nat.le_of_ble_eq_true rfl,Nat.le_of_ble_eq_true rfl⟩) (.cons (.d .nil) (.cons (.refl _) (.cons (.refl _) .nil))))) .nil)) ?_
        refine qar ?_
        have hr:=Option.some.inj h
        subst hr
        exact qah (.inr rfl) [1] (objs':=[]) (new:=[.row 3 (([]:List qa5).map qa6)]) rfl (by simp) (by simp) rfl (by trivial) rfl rfl (by trivial) (fun h=>nomatch h) ⟨rfl,rfl,rfl⟩
      · have h:=qdk h hc17
        refine qb4 ?_
        refine qa9 (qa3 [0,1] (l:=[(1,.d (.sl false (voltages_.map qa6))),(2,.d (.int .i64 rounds_)),(3,.ptr 0 0),(6,.ptr 1 0)]) (objs:=[.box [.d (.cx .f32 f_.Source.A.re f_.Source.A.im),.d (.cx .f32 f_.Source.B.re f_.Source.B.im),.d (.cx .f32 f_.Source.C.re f_.Source.C.im),.d (.sl false (f_.qa8.map qae))],.box [.d (.nils),.d (.nils),.d (.int .i64 (0:Int)),.d (.bool false)]]) rfl (by simp) rfl (by trivial) ⟨rfl,trivial,rfl,trivial,rfl,trivial,rfl,trivial,trivial⟩) ?_
        exact hk11 () h
    · refine qa7 ?_
      refine qa2 ?_
      refine qa0 hτ rfl rfl rfl ?_
      refine qa0 hτ rfl rfl rfl ?_
      refine qab h fun x19 hx19 h=>?_
      refine qad hτ false [] rfl rfl rfl (qaf func68 rfl rfl) rfl rfl (by simp) ⟨(by trivial),trivial,trivial⟩ (by trivial) (impl_listFor_ok n f_ voltages_ hx19) ?_
      rintro r0 o0 n0 ⟨rfl,rfl,rfl⟩ -
      refine qa0 hτ rfl rfl rfl ?_
      refine qa0 hτ rfl rfl rfl ?_
      refine qba 12 rfl (fun hb20=>?_) (fun hb20=>?_)
      · have hb20:=qil hb20
        have h:=qdk h hb20
        refine qaa rfl rfl ?_
        refine qaa rfl rfl ?_
        refine qaa rfl rfl ?_
        refine qa0 hτ rfl rfl rfl ?_
        refine qa4 ?_
        refine qa9 (qa3 [0,1] (l:=[(1,.d (.sl false (voltages_.map qa6))),(2,.d (.int .i64 rounds_)),(3,.ptr 0 0),(6,.ptr 1 0),(16,.d (.bool true))]) (objs:=[.box [.d (.cx .f32 f_.Source.A.re f_.Source.A.im),.d (.cx .f32 f_.Source.B.re f_.Source.B.im),.d (.cx .f32 f_.Source.C.re f_.Source.C.im),.d (.sl false (f_.qa8.map qae))],.box [.d (.nils),.d (.nils),.d (.int .i64 (0:Int)),.d (.bool false)]]) rfl (by simp) rfl (by trivial) ⟨rfl,trivial,rfl,trivial,rfl,trivial,rfl,trivial,rfl,trivial,trivial⟩) ?_
        exact hk18 true h
      · have hb20:=qik hb20
        have h:=qdl h hb20
        refine qa0 hτ rfl rfl rfl ?_
        refine qab h fun x21 hx21 h=>?_
        refine qad hτ false [] rfl rfl rfl (qaf func58 rfl rfl) rfl rfl (by simp) ⟨trivial,trivial,trivial,trivial⟩ (by trivial) (qfk n rounds_ (0:Int) (50:Int) hx21) ?_
        rintro r0 o0 n0 ⟨rfl,rfl,rfl⟩ -
        refine qa0 hτ rfl rfl rfl ?_
        refine qa0 hτ rfl rfl rfl ?_
        refine qa4 ?_
        refine qa9 (qa3 [0,1] (l:=[(1,.d (.sl false (voltages_.map qa6))),(2,.d (.int .i64 rounds_)),(3,.ptr 0 0),(6,.ptr 1 0),(16,.d (.bool (!x21)))]) (objs:=[.box [.d (.cx .f32 f_.Source.A.re f_.Source.A.im),.d (.cx .f32 f_.Source.B.re f_.Source.B.im),.d (.cx .f32 f_.Source.C.re f_.Source.C.im),.d (.sl false (f_.qa8.map qae))],.box [.d (.nils),.d (.nils),.d (.int .i64 (0:Int)),.d (.bool false)]]) rfl (by simp) rfl (by trivial) ⟨rfl,trivial,rfl,trivial,rfl,trivial,rfl,trivial,rfl,trivial,trivial⟩) ?_
        exact hk18 (!x21) h
def qh3 (n:Nat) (f_:qak) (flow_:qg1):Option Bool :=
  if (flow_.qat.length:Int) = (f_.qa8.length:Int) then
    if (flow_.qbj.length:Int) = (f_.qa8.length:Int) then
      (qck n flow_.Rounds (0:Int) (50:Int)).bind fun x8 =>
      some x8
    else
      some false
  else
    some false
theorem impl_flowFor_ok (n:Nat) (f_:qak) (flow_:qg1) {r:Bool} (h:qh3 n f_ flow_ = some r):qay prog false 118 [.ptr 0 0,.ptr 1 0] [.box [.d (.cx .f32 f_.Source.A.re f_.Source.A.im),.d (.cx .f32 f_.Source.B.re f_.Source.B.im),.d (.cx .f32 f_.Source.C.re f_.Source.C.im),.d (.sl false (f_.qa8.map qae))],.box [.d (.sl false (flow_.qat.map qa6)),.d (.sl false (flow_.qbj.map qa6)),.d (.int .i64 flow_.Rounds),.d (.bool flow_.qgf)]] (fun v o new=>v = .d (.bool r)∧o = [.box [.d (.cx .f32 f_.Source.A.re f_.Source.A.im),.d (.cx .f32 f_.Source.B.re f_.Source.B.im),.d (.cx .f32 f_.Source.C.re f_.Source.C.im),.d (.sl false (f_.qa8.map qae))],.box [.d (.sl false (flow_.qat.map qa6)),.d (.sl false (flow_.qbj.map qa6)),.d (.int .i64 flow_.Rounds),.d (.bool flow_.qgf)]]∧new = []):=by
  refine qai hτ func118 rfl (by simp) (by simp) ?_
  unfold qh3 at h
  refine qa7 ?_
  refine qa2 ?_
  refine qa0 hτ rfl rfl rfl ?_
  refine qa4 ?_
  refine qa7 ?_
  refine qa2 ?_
  refine qa0 hτ rfl rfl rfl ?_
  refine qa0 hτ rfl rfl rfl ?_
  refine qa0 hτ rfl rfl rfl ?_
  refine qa0 hτ rfl rfl rfl ?_
  refine qa0 hτ (v:=.d (.int .i64 (f_.qa8.length:Int))) rfl rfl (Eq.trans rfl (qfb (f:=qae) f_.qa8)) ?_
  refine qa0 hτ rfl rfl rfl ?_
  refine qa4 ?_
  refine qa7 ?_
  refine qa9 (qa3 [0,1] (l:=[(1,.ptr 1 0),(5,.d (.int .i64 (f_.qa8.length:Int)))]) (objs:=[.box [.d (.cx .f32 f_.Source.A.re f_.Source.A.im),.d (.cx .f32 f_.Source.B.re f_.Source.B.im),.d (.cx .f32 f_.Source.C.re f_.Source.C.im),.d (.sl false (f_.qa8.map qae))],.box [.d (.sl false (flow_.qat.map qa6)),.d (.sl false (flow_.qbj.map qa6)),.d (.int .i64 flow_.Rounds),.d (.bool flow_.qgf)]]) rfl (by simp) rfl (by trivial) ⟨rfl,trivial,rfl,trivial,trivial⟩) ?_
  refine qa2 ?_
  refine qa0 hτ rfl rfl rfl ?_
  refine qa0 hτ rfl rfl rfl ?_
  refine qa0 hτ rfl rfl rfl ?_
  refine qa0 hτ rfl rfl rfl ?_
  refine qa0 hτ (v:=.d (.int .i64 (flow_.qat.length:Int))) rfl rfl (Eq.trans rfl (qfb (f:=qa6) flow_.qat)) ?_
  refine qa0 hτ rfl rfl rfl ?_
  refine qa0 hτ (v:=.d (.bool (decide ((flow_.qat.length:Int) = (f_.qa8.length:Int))))) rfl rfl (qj3 _ _) ?_
  refine qa0 hτ rfl rfl rfl ?_
  refine qba 18 rfl (fun hb6=>?_) (fun hb6=>?_)
  · have h:=if_t h hb6
    refine qa0 hτ rfl rfl rfl ?_
    refine qa0 hτ rfl rfl rfl ?_
    refine qa0 hτ rfl rfl rfl ?_
    refine qa0 hτ rfl rfl rfl ?_
    refine qb2 (qa3 [0,1] (l:=[(1,.ptr 1 0),(5,.d (.int .i64 (f_.qa8.length:Int))),(18,.d (.bool true)),(22,.d (.sl false (flow_.qbj.map qa6)))]) (objs:=[.box [.d (.cx .f32 f_.Source.A.re f_.Source.A.im),.d (.cx .f32 f_.Source.B.re f_.Source.B.im),.d (.cx .f32 f_.Source.C.re f_.Source.C.im),.d (.sl false (f_.qa8.map qae))],.box [.d (.sl false (flow_.qat.map qa6)),.d (.sl false (flow_.qbj.map qa6)),.d (.int .i64 flow_.Rounds),.d (.bool flow_.qgf)]]) rfl (by simp) rfl (by trivial) ⟨rfl,trivial,rfl,trivial,rfl,trivial,rfl,trivial,trivial⟩) ?_
    refine qa0 hτ (v:=.d (.int .i64 (flow_.qbj.length:Int))) rfl rfl (Eq.trans rfl (qfb (f:=qa6) flow_.qbj)) ?_
    refine qa0 hτ rfl rfl rfl ?_
    refine qa0 hτ (v:=.d (.bool (decide ((flow_.qbj.length:Int) = (f_.qa8.length:Int))))) rfl rfl (qj3 _ _) ?_
    refine qa0 hτ rfl rfl rfl ?_
    refine qa0 hτ rfl rfl rfl ?_
    refine qba 27 rfl (fun hb7=>?_) (fun hb7=>?_)
    · have h:=if_t h hb7
      refine qa0 hτ rfl rfl rfl ?_
      refine qa0 hτ rfl rfl rfl ?_
      refine qa0 hτ rfl rfl rfl ?_
      refine qa0 hτ rfl rfl rfl ?_
      refine qab h fun x8 hx8 h=>?_
      refine qad hτ false [] rfl rfl rfl (qaf func58 rfl rfl) rfl rfl (by simp) ⟨trivial,trivial,trivial,trivial⟩ (by trivial) (qfk n flow_.Rounds (0:Int) (50:Int) hx8) ?_
      rintro r0 o0 n0 ⟨rfl,rfl,rfl⟩ -
      refine qa0 hτ rfl rfl rfl ?_
      refine qa0 hτ rfl rfl rfl ?_
      refine qa4 ?_
      refine qa9 (qa3 [0,1] (l:=[(4,.d (.bool x8))]) (objs:=[.box [.d (.cx .f32 f_.Source.A.re f_.Source.A.im),.d (.cx .f32 f_.Source.B.re f_.Source.B.im),.d (.cx .f32 f_.Source.C.re f_.Source.C.im),.d (.sl false (f_.qa8.map qae))],.box [.d (.sl false (flow_.qat.map qa6)),.d (.sl false (flow_.qbj.map qa6)),.d (.int .i64 flow_.Rounds),.d (.bool flow_.qgf)]]) rfl (by simp) rfl (by trivial) ⟨rfl,trivial,trivial⟩) ?_
      refine qar ?_
      have hr:=Option.some.inj h
      subst hr
      exact qah (.inr rfl) [] (objs':=[.box [.d (.cx .f32 f_.Source.A.re f_.Source.A.im),.d (.cx .f32 f_.Source.B.re f_.Source.B.im),.d (.cx .f32 f_.Source.C.re f_.Source.C.im),.d (.sl false (f_.qa8.map qae))],.box [.d (.sl false (flow_.qat.map qa6)),.d (.sl false (flow_.qbj.map qa6)),.d (.int .i64 flow_.Rounds),.d (.bool flow_.qgf)]]) (new:=[]) rfl (by simp) (by simp) rfl (by trivial) rfl rfl (by trivial) (fun h=>nomatch h) ⟨rfl,rfl,rfl⟩
    · have h:=if_f h hb7
      refine qaa rfl rfl ?_
      refine qaa rfl rfl ?_
      refine qaa rfl rfl ?_
      refine qaa rfl rfl ?_
      refine qaa rfl rfl ?_
      refine qa0 hτ rfl rfl rfl ?_
      refine qa0 hτ rfl rfl rfl ?_
      refine qa4 ?_
      refine qa9 (qa3 [0,1] (l:=[(4,.d (.bool false))]) (objs:=[.box [.d (.cx .f32 f_.Source.A.re f_.Source.A.im),.d (.cx .f32 f_.Source.B.re f_.Source.B.im),.d (.cx .f32 f_.Source.C.re f_.Source.C.im),.d (.sl false (f_.qa8.map qae))],.box [.d (.sl false (flow_.qat.map qa6)),.d (.sl false (flow_.qbj.map qa6)),.d (.int .i64 flow_.Rounds),.d (.bool flow_.qgf)]]) rfl (by simp) rfl (by trivial) ⟨rfl,trivial,trivial⟩) ?_
      refine qar ?_
      have hr:=Option.some.inj h
      subst hr
      exact qah (.inr rfl) [] (objs':=[.box [.d (.cx .f32 f_.Source.A.re f_.Source.A.im),.d (.cx .f32 f_.Source.B.re f_.Source.B.im),.d (.cx .f32 f_.Source.C.re f_.Source.C.im),.d (.sl false (f_.qa8.map qae))],.box [.d (.sl false (flow_.qat.map qa6)),.d (.sl false (flow_.qbj.map qa6)),.d (.int .i64 flow_.Rounds),.d (.bool flow_.qgf)]]) (new:=[]) rfl (by simp) (by simp) rfl (by trivial) rfl rfl (by trivial) (fun h=>nomatch h) ⟨rfl,rfl,rfl⟩
  · have h:=if_f h hb6
    refine qaa rfl rfl ?_
    refine qaa rfl rfl ?_
    refine qaa rfl rfl ?_
    refine qaa rfl rfl ?_
    refine qb2 (qa3 [0,1] (l:=[(1,.ptr 1 0),(5,.d (.int .i64 (f_.qa8.length:Int))),(18,.d (.bool false)),(22,.und)]) (objs:=[.box [.d (.cx .f32 f_.Source.A.re f_.Source.A.im),.d (.cx .f32 f_.Source.B.re f_.Source.B.im),.d (.cx .f32 f_.Source.C.re f_.Source.C.im),.d (.sl false (f_.qa8.map qae))],.box [.d (.sl false (flow_.qat.map qa6)),.d (.sl false (flow_.qbj.map qa6)),.d (.int .i64 flow_.Rounds),.d (.bool flow_.qgf)]]) rfl (by simp) rfl (by trivial) ⟨rfl,trivial,rfl,trivial,rfl,trivial,rfl,trivial,trivial⟩) ?_
    refine qaa rfl rfl ?_
    refine qaa rfl rfl ?_
    refine qaa rfl rfl ?_
    refine qa0 hτ rfl rfl rfl ?_
    refine qa0 hτ rfl rfl rfl ?_
    refine qaa rfl rfl ?_
    refine qaa rfl rfl ?_
    refine qaa rfl rfl ?_
    refine qaa rfl rfl ?_
    refine qaa rfl rfl ?_
    refine qa0 hτ rfl rfl rfl ?_
    refine qa0 hτ rfl rfl rfl ?_
    refine qa4 ?_
    refine qa9 (qa3 [0,1] (l:=[(4,.d (.bool false))]) (objs:=[.box [.d (.cx .f32 f_.Source.A.re f_.Source.A.im),.d (.cx .f32 f_.Source.B.re f_.Source.B.im),.d (.cx .f32 f_.Source.C.re f_.Source.C.im),.d (.sl false (f_.qa8.map qae))],.box [.d (.sl false (flow_.qat.map qa6)),.d (.sl false (flow_.qbj.map qa6)),.d (.int .i64 flow_.Rounds),.d (.bool flow_.qgf)]]) rfl (by simp) rfl (by trivial) ⟨rfl,trivial,trivial⟩) ?_
    refine qar ?_
    have hr:=Option.some.inj h
    subst hr
    exact qah (.inr rfl) [] (objs':=[.box [.d (.cx .f32 f_.Source.A.re f_.Source.A.im),.d (.cx .f32 f_.Source.B.re f_.Source.B.im),.d (.cx .f32 f_.Source.C.re f_.Source.C.im),.d (.sl false (f_.qa8.map qae))],.box [.d (.sl false (flow_.qat.map qa6)),.d (.sl false (flow_.qbj.map qa6)),.d (.int .i64 flow_.Rounds),.d (.bool flow_.qgf)]]) (new:=[]) rfl (by simp) (by simp) rfl (by trivial) rfl rfl (by trivial) (fun h=>nomatch h) ⟨rfl,rfl,rfl⟩
def qgn (n:Nat) (f_:qak) (flow_:qg1):Option Bool :=
  (qbh n f_).bind fun x5 =>
  if x5 = true then
    (qh3 n f_ flow_).bind fun x7 =>
    some x7
  else
    some false
theorem impl_IsFlow_ok_fr0 (fr:Bool) (n:Nat) (f_:qak) (flow_:qg1) {r:Bool} (h:qgn n f_ flow_ = some r):qay prog fr 69 [.agg [.d (.cx .f32 f_.Source.A.re f_.Source.A.im),.d (.cx .f32 f_.Source.B.re f_.Source.B.im),.d (.cx .f32 f_.Source.C.re f_.Source.C.im),.d (.sl false (f_.qa8.map qae))],.agg [.d (.sl false (flow_.qat.map qa6)),.d (.sl false (flow_.qbj.map qa6)),.d (.int .i64 flow_.Rounds),.d (.bool flow_.qgf)]] [] (fun v o new=>v = .d (.bool r)∧o = []∧new = []):=by
  refine qai hτ func69 rfl (by simp) (by simp) ?_
  unfold qgn at h
  refine qa7 ?_
  refine qa2 ?_
  refine qaj hτ rfl rfl rfl ?_
  refine qaj hτ rfl rfl rfl ?_
  refine qa0 hτ rfl rfl rfl ?_
  refine qa4 ?_
  refine qa7 ?_
  refine qa2 ?_
  refine qa0 hτ rfl rfl rfl ?_
  refine qab h fun x5 hx5 h=>?_
  refine qad hτ false [] rfl rfl rfl (qaf func13 rfl rfl) rfl rfl (by simp) ⟨(by trivial),trivial⟩ (by trivial) (qcr n f_ hx5) ?_
  rintro r0 o0 n0 ⟨rfl,rfl,rfl⟩ -
  refine qa0 hτ rfl rfl rfl ?_
  refine qba 7 rfl (fun hb6=>?_) (fun hb6=>?_)
  · have h:=qdl h hb6
    refine qab h fun x7 hx7 h=>?_
    refine qad hτ false [0,1] rfl rfl rfl (qaf func118 rfl rfl) rfl rfl (by simp) ⟨trivial,trivial,trivial⟩ (by trivial) (impl_flowFor_ok n f_ flow_ hx7) ?_
    rintro r0 o0 n0 ⟨rfl,rfl,rfl⟩ -
    refine qa0 hτ rfl rfl rfl ?_
    refine qa0 hτ rfl rfl rfl ?_
    refine qa4 ?_
    refine qa9 (qa3 [] (l:=[(4,.d (.bool x7))]) (objs:=[]) rfl (by simp) rfl (by trivial) ⟨rfl,trivial,trivial⟩) ?_
    refine qar ?_
    have hr:=Option.some.inj h
    subst hr
    exact qah (.inr rfl) [] (objs':=[]) (new:=[]) rfl (by simp) (by simp) rfl (by trivial) rfl rfl (by trivial) (fun _=>⟨by simp [V.flat,V.qbd,V.qb6,D.flat],qal⟩) ⟨rfl,rfl,rfl⟩
  · have h:=qdk h hb6
    refine qaa rfl rfl ?_
    refine qa0 hτ rfl rfl rfl ?_
    refine qa0 hτ rfl rfl rfl ?_
    refine qa4 ?_
    refine qa9 (qa3 [] (l:=[(4,.d (.bool false))]) (objs:=[]) rfl (by simp) rfl (by trivial) ⟨rfl,trivial,trivial⟩) ?_
    refine qar ?_
    have hr:=Option.some.inj h
    subst hr
    exact qah (.inr rfl) [] (objs':=[]) (new:=[]) rfl (by simp) (by simp) rfl (by trivial) rfl rfl (by trivial) (fun _=>⟨by simp [V.flat,V.qbd,V.qb6,D.flat],qal⟩) ⟨rfl,rfl,rfl⟩
theorem impl_IsFlow_ok (n:Nat) (f_:qak) (flow_:qg1) {r:Bool} (h:qgn n f_ flow_ = some r):qay prog false 69 [.agg [.d (.cx .f32 f_.Source.A.re f_.Source.A.im),.d (.cx .f32 f_.Source.B.re f_.Source.B.im),.d (.cx .f32 f_.Source.C.re f_.Source.C.im),.d (.sl false (f_.qa8.map qae))],.agg [.d (.sl false (flow_.qat.map qa6)),.d (.sl false (flow_.qbj.map qa6)),.d (.int .i64 flow_.Rounds),.d (.bool flow_.qgf)]] [] (fun v o new=>v = .d (.bool r)∧o = []∧new = []):=impl_IsFlow_ok_fr0 false n f_ flow_ h
def qe4 (n:Nat) (f_:qak) (flow_:qg1):Option (Int × Nat × Bool) :=
  (qgn n f_ flow_).bind fun x4 =>
  if x4 = true then
    (qdo n flow_.qat).bind fun x6 =>
    some (x6.1,x6.2.1,x6.2.2)
  else
    some ((0:Int),(0:Nat),false)
theorem impl_LowestBus_ok_fr0 (fr:Bool) (n:Nat) (f_:qak) (flow_:qg1) {r:Int × Nat × Bool} (h:qe4 n f_ flow_ = some r):qay prog fr 16 [.agg [.d (.cx .f32 f_.Source.A.re f_.Source.A.im),.d (.cx .f32 f_.Source.B.re f_.Source.B.im),.d (.cx .f32 f_.Source.C.re f_.Source.C.im),.d (.sl false (f_.qa8.map qae))],.agg [.d (.sl false (flow_.qat.map qa6)),.d (.sl false (flow_.qbj.map qa6)),.d (.int .i64 flow_.Rounds),.d (.bool flow_.qgf)]] [] (fun v o new=>v = .tup [.d (.int .i64 r.1),.d (.fl .f32 r.2.1),.d (.bool r.2.2)]∧o = []∧new = []):=by
  refine qai hτ func16 rfl (by simp) (by simp) ?_
  unfold qe4 at h
  refine qa7 ?_
  refine qa2 ?_
  refine qaj hτ rfl rfl rfl ?_
  refine qaj hτ rfl rfl rfl ?_
  refine qa0 hτ rfl rfl rfl ?_
  refine qa0 hτ rfl rfl rfl ?_
  refine qa0 hτ rfl rfl rfl ?_
  refine qa4 ?_
  refine qa7 ?_
  refine qa7 ?_
  refine qa2 ?_
  refine qa0 hτ rfl rfl rfl ?_
  refine qa0 hτ rfl rfl rfl ?_
  refine qab h fun x4 hx4 h=>?_
  refine qad hτ false [] rfl rfl rfl (qaf func69 rfl rfl) rfl rfl (by simp) ⟨(by trivial),(by trivial),trivial⟩ (by trivial) (impl_IsFlow_ok n f_ flow_ hx4) ?_
  rintro r0 o0 n0 ⟨rfl,rfl,rfl⟩ -
  refine qa0 hτ rfl rfl rfl ?_
  refine qa4 ?_
  refine qa9 (qa3 [1] (l:=[(3,.ptr 0 0),(10,.d (.bool (!x4)))]) (objs:=[.box [.d (.sl false (flow_.qat.map qa6)),.d (.sl false (flow_.qbj.map qa6)),.d (.int .i64 flow_.Rounds),.d (.bool flow_.qgf)]]) rfl (by simp) rfl (by trivial) ⟨rfl,trivial,rfl,trivial,trivial⟩) ?_
  refine qaz rfl (fun hc5=>?_) (fun hc5=>?_)
  · have hc5:=qil hc5
    have h:=qdk h hc5
    refine qa7 ?_
    refine qa2 ?_
    refine qa0 hτ rfl rfl rfl ?_
    refine qa0 hτ rfl rfl rfl ?_
    refine qa0 hτ rfl rfl rfl ?_
    refine qa4 ?_
    refine qa9 (qa3 [] (l:=[(4,.d (.int .i64 (0:Int))),(5,.d (.fl .f32 (0:Nat))),(6,.d (.bool false))]) (objs:=[]) rfl (by simp) rfl (by trivial) ⟨rfl,trivial,rfl,trivial,rfl,trivial,trivial⟩) ?_
    refine qar ?_
    have hr:=Option.some.inj h
    subst hr
    exact qah (.inr rfl) [] (objs':=[]) (new:=[]) rfl (by simp) (by simp) rfl (by trivial) rfl rfl (by trivial) (fun _=>⟨by simp [V.flat,V.qbd,V.qb6,D.flat],qal⟩) ⟨rfl,rfl,rfl⟩
  · have hc5:=qik hc5
    have h:=qdl h hc5
    refine qb4 ?_
    refine qa7 ?_
    refine qa2 ?_
    refine qa0 hτ rfl rfl rfl ?_
    refine qa0 hτ rfl rfl rfl ?_
    refine qab h fun x6 hx6 h=>?_
    refine qad hτ false [] rfl rfl rfl (qaf func59 rfl rfl) rfl rfl (by simp) ⟨trivial,trivial⟩ (by trivial) (impl_lowest_ok n flow_.qat hx6) ?_
    rintro r0 o0 n0 ⟨rfl,rfl,rfl⟩ -
    refine qa0 hτ rfl rfl rfl ?_
    refine qa0 hτ rfl rfl rfl ?_
    refine qa0 hτ rfl rfl rfl ?_
    refine qa0 hτ rfl rfl rfl ?_
    refine qa0 hτ rfl rfl rfl ?_
    refine qa0 hτ rfl rfl rfl ?_
    refine qa4 ?_
    refine qa9 (qa3 [] (l:=[(4,.d (.int .i64 x6.1)),(5,.d (.fl .f32 x6.2.1)),(6,.d (.bool x6.2.2))]) (objs:=[]) rfl (by simp) rfl (by trivial) ⟨rfl,trivial,rfl,trivial,rfl,trivial,trivial⟩) ?_
    refine qar ?_
    have hr:=Option.some.inj h
    subst hr
    exact qah (.inr rfl) [] (objs':=[]) (new:=[]) rfl (by simp) (by simp) rfl (by trivial) rfl rfl (by trivial) (fun _=>⟨by simp [V.flat,V.qbd,V.qb6,D.flat],qal⟩) ⟨rfl,rfl,rfl⟩
theorem impl_LowestBus_ok_fr (n:Nat) (f_:qak) (flow_:qg1) {r:Int × Nat × Bool} (h:qe4 n f_ flow_ = some r):qay prog true 16 [.agg [.d (.cx .f32 f_.Source.A.re f_.Source.A.im),.d (.cx .f32 f_.Source.B.re f_.Source.B.im),.d (.cx .f32 f_.Source.C.re f_.Source.C.im),.d (.sl false (f_.qa8.map qae))],.agg [.d (.sl false (flow_.qat.map qa6)),.d (.sl false (flow_.qbj.map qa6)),.d (.int .i64 flow_.Rounds),.d (.bool flow_.qgf)]] [] (fun v o new=>v = .tup [.d (.int .i64 r.1),.d (.fl .f32 r.2.1),.d (.bool r.2.2)]∧o = []∧new = []):=impl_LowestBus_ok_fr0 true n f_ flow_ h
end Go.Proofs.Ytdnkjocenbepaaa.AWN
