/- Models and contracts, printed by program. -/
import Derived.Test.YtdnkjocenbepaaaFnLowestD
set_option linter.unusedVariables false
set_option linter.unusedSimpArgs false
set_option linter.unusedSectionVars false
set_option maxHeartbeats 2000000
namespace Go.Proofs.Ytdnkjocenbepaaa.AWN
open Go Go.Proofs.Try
def qdt (n:Nat) (k36:Nat→Int→Option Nat) (v26:Int) (v44:Nat):Option Nat :=
  k36 v44 (w64 (v26 + (1:Int)))
def qcn (n:Nat) (k36:Nat→Int→Option Nat) (v25:Nat) (v26:Int) (x47:Nat) (v51:Bool):Option Nat :=
  if v51 = true then
    qdt n k36 v26 x47
  else
    qdt n k36 v26 v25
def qb8 (n:Nat) (p_:qa7):Nat→Nat→Int→Option Nat
  | 0,_,_=>none
  | m35 + 1,v25,v26 =>
    if v26 < ([(Cx.mk (qa8 .sub .f32 p_.B.re p_.C.re) (qa8 .sub .f32 p_.B.im p_.C.im)),(Cx.mk (qa8 .sub .f32 p_.C.re p_.A.re) (qa8 .sub .f32 p_.C.im p_.A.im))].length:Int) then
      (getI [(Cx.mk (qa8 .sub .f32 p_.B.re p_.C.re) (qa8 .sub .f32 p_.B.im p_.C.im)),(Cx.mk (qa8 .sub .f32 p_.C.re p_.A.re) (qa8 .sub .f32 p_.C.im p_.A.im))] v26).bind fun x46 =>
      (qau n x46).bind fun x47 =>
      if (fcmp .gtr .f32 x47 v25) = true then
        qcn n (qb8 n p_ m35) v25 v26 x47 true
      else
        (qe7 n v25).bind fun x55 =>
        qcn n (qb8 n p_ m35) v25 v26 x47 x55
    else
      some v25
def qey (n:Nat) (p_:qa7):Option Nat :=
  (qau n (Cx.mk (qa8 .sub .f32 p_.A.re p_.B.re) (qa8 .sub .f32 p_.A.im p_.B.im))).bind fun x18 =>
  qb8 n p_ n x18 (0:Int)
theorem impl_WidestPair_ok_fr0 (fr:Bool) (n:Nat) (p_:qa7) {r:Nat} (h:qey n p_ = some r):qb0 prog fr 36 [.agg [.d (.cx .f32 p_.A.re p_.A.im),.d (.cx .f32 p_.B.re p_.B.im),.d (.cx .f32 p_.C.re p_.C.im)]] [] (fun v o new=>v = .d (.fl .f32 r)∧o = []∧new = []):=by
  refine qal hτ func36 rfl (by simp) (by simp) ?_
  unfold qey at h
  refine qaa ?_
  refine qa2 ?_
  refine qak hτ rfl rfl rfl ?_
  refine qa0 hτ rfl rfl rfl ?_
  refine qa6 ?_
  refine qaa ?_
  refine qa2 ?_
  refine qa0 hτ rfl rfl rfl ?_
  refine qa0 hτ rfl rfl rfl ?_
  refine qa0 hτ rfl rfl rfl ?_
  refine qa0 hτ rfl rfl rfl ?_
  refine qa0 hτ rfl rfl rfl ?_
  refine qac h fun x18 hx18 h=>?_
  refine qag hτ false [] rfl rfl rfl (qai func79 rfl rfl) rfl rfl (by simp) ⟨trivial,trivial⟩ (by trivial) (qgv n (Cx.mk (qa8 .sub .f32 p_.A.re p_.B.re) (qa8 .sub .f32 p_.A.im p_.B.im)) hx18) ?_
  rintro r0 o0 n0 ⟨rfl,rfl,rfl⟩ -
  refine qa0 hτ rfl rfl rfl ?_
  refine qa6 ?_
  refine qaa ?_
  refine qaa ?_
  refine qab (qa5 [0] (l:=[(1,.ptr 0 0),(3,.d (.fl .f32 x18))]) (objs:=[.box [.d (.cx .f32 p_.A.re p_.A.im),.d (.cx .f32 p_.B.re p_.B.im),.d (.cx .f32 p_.C.re p_.C.im)]]) rfl (by simp) rfl (by trivial) ⟨rfl,trivial,rfl,trivial,trivial⟩) ?_
  refine qa2 ?_
  refine qa0 hτ rfl rfl rfl ?_
  refine qa0 hτ rfl rfl rfl ?_
  refine qa0 hτ rfl rfl rfl ?_
  refine qa0 hτ rfl rfl rfl ?_
  refine qa0 hτ rfl rfl rfl ?_
  refine qa0 hτ rfl rfl rfl ?_
  refine qa0 hτ rfl rfl rfl ?_
  refine qa0 hτ rfl rfl rfl ?_
  refine qa0 hτ rfl rfl rfl ?_
  refine qa0 hτ rfl rfl rfl ?_
  refine qak hτ rfl rfl rfl ?_
  refine qbl hτ rfl rfl rfl (qb5 _) ?_
  refine qap (qa5 [1] (l:=[(3,.d (.fl .f32 x18)),(23,.row 0 ([(Cx.mk (qa8 .sub .f32 p_.B.re p_.C.re) (qa8 .sub .f32 p_.B.im p_.C.im)),(Cx.mk (qa8 .sub .f32 p_.C.re p_.A.re) (qa8 .sub .f32 p_.C.im p_.A.im))].length) 0 ([(Cx.mk (qa8 .sub .f32 p_.B.re p_.C.re) (qa8 .sub .f32 p_.B.im p_.C.im)),(Cx.mk (qa8 .sub .f32 p_.C.re p_.A.re) (qa8 .sub .f32 p_.C.im p_.A.im))].length)),(24,.d (.int .i64 ([(Cx.mk (qa8 .sub .f32 p_.B.re p_.C.re) (qa8 .sub .f32 p_.B.im p_.C.im)),(Cx.mk (qa8 .sub .f32 p_.C.re p_.A.re) (qa8 .sub .f32 p_.C.im p_.A.im))].length:Int)))]) (objs:=[.row 1 ([(Cx.mk (qa8 .sub .f32 p_.B.re p_.C.re) (qa8 .sub .f32 p_.B.im p_.C.im)),(Cx.mk (qa8 .sub .f32 p_.C.re p_.A.re) (qa8 .sub .f32 p_.C.im p_.A.im))].map ql7)]) rfl (by simp) rfl (by trivial) ⟨rfl,trivial,rfl,trivial,rfl,trivial,trivial⟩) ?_
  refine qa0 hτ rfl rfl rfl ?_
  refine qa6 ?_
  refine qba ?_
  refine qfd (ι:=Nat × Nat × Int) (fun (m35,v25,v26)=>St.of [(3,.d (.fl .f32 v25)),(23,.row 0 ([(Cx.mk (qa8 .sub .f32 p_.B.re p_.C.re) (qa8 .sub .f32 p_.B.im p_.C.im)),(Cx.mk (qa8 .sub .f32 p_.C.re p_.A.re) (qa8 .sub .f32 p_.C.im p_.A.im))].length) 0 ([(Cx.mk (qa8 .sub .f32 p_.B.re p_.C.re) (qa8 .sub .f32 p_.B.im p_.C.im)),(Cx.mk (qa8 .sub .f32 p_.C.re p_.A.re) (qa8 .sub .f32 p_.C.im p_.A.im))].length)),(24,.d (.int .i64 ([(Cx.mk (qa8 .sub .f32 p_.B.re p_.C.re) (qa8 .sub .f32 p_.B.im p_.C.im)),(Cx.mk (qa8 .sub .f32 p_.C.re p_.A.re) (qa8 .sub .f32 p_.C.im p_.A.im))].length:Int))),(25,.d (.int .i64 v26))] [.row 1 ([(Cx.mk (qa8 .sub .f32 p_.B.re p_.C.re) (qa8 .sub .f32 p_.B.im p_.C.im)),(Cx.mk (qa8 .sub .f32 p_.C.re p_.A.re) (qa8 .sub .f32 p_.C.im p_.A.im))].map ql7)] f36.ntmps 0) (fun (m35,v25,v26)=>qb8 n p_ m35 v25 v26 = some r) (fun x=>x.1) (n,x18,(0:Int)) h (qa5 [0] (l:=[(3,.d (.fl .f32 x18)),(23,.row 0 ([(Cx.mk (qa8 .sub .f32 p_.B.re p_.C.re) (qa8 .sub .f32 p_.B.im p_.C.im)),(Cx.mk (qa8 .sub .f32 p_.C.re p_.A.re) (qa8 .sub .f32 p_.C.im p_.A.im))].length) 0 ([(Cx.mk (qa8 .sub .f32 p_.B.re p_.C.re) (qa8 .sub .f32 p_.B.im p_.C.im)),(Cx.mk (qa8 .sub .f32 p_.C.re p_.A.re) (qa8 .sub .f32 p_.C.im p_.A.im))].length)),(24,.d (.int .i64 ([(Cx.mk (qa8 .sub .f32 p_.B.re p_.C.re) (qa8 .sub .f32 p_.B.im p_.C.im)),(Cx.mk (qa8 .sub .f32 p_.C.re p_.A.re) (qa8 .sub .f32 p_.C.im p_.A.im))].length:Int))),(25,.d (.int .i64 (0:Int)))]) (objs:=[.row 1 ([(Cx.mk (qa8 .sub .f32 p_.B.re p_.C.re) (qa8 .sub .f32 p_.B.im p_.C.im)),(Cx.mk (qa8 .sub .f32 p_.C.re p_.A.re) (qa8 .sub .f32 p_.C.im p_.A.im))].map ql7)]) rfl (by simp) rfl (by trivial) ⟨rfl,trivial,rfl,trivial,rfl,trivial,rfl,trivial,trivial⟩) ?_
  rintro ⟨m35,v25,v26⟩ h
  replace h:qb8 n p_ m35 v25 v26 = some r:=h
  rcases m35 with _ | m35
  · rw [qb8] at h;cases h
  rw [qb8] at h
  refine qaa ?_
  refine qa2 ?_
  refine qa0 hτ rfl rfl rfl ?_
  refine qa6 ?_
  refine qaa ?_
  refine qaz rfl (fun hc37=>?_) (fun hc37=>?_)
  · have h:=if_t h hc37
    refine qb3 ?_
    refine qc7 (ι:=Nat) (fun v44=>St.of [(3,.d (.fl .f32 v44)),(23,.row 0 ([(Cx.mk (qa8 .sub .f32 p_.B.re p_.C.re) (qa8 .sub .f32 p_.B.im p_.C.im)),(Cx.mk (qa8 .sub .f32 p_.C.re p_.A.re) (qa8 .sub .f32 p_.C.im p_.A.im))].length) 0 ([(Cx.mk (qa8 .sub .f32 p_.B.re p_.C.re) (qa8 .sub .f32 p_.B.im p_.C.im)),(Cx.mk (qa8 .sub .f32 p_.C.re p_.A.re) (qa8 .sub .f32 p_.C.im p_.A.im))].length)),(24,.d (.int .i64 ([(Cx.mk (qa8 .sub .f32 p_.B.re p_.C.re) (qa8 .sub .f32 p_.B.im p_.C.im)),(Cx.mk (qa8 .sub .f32 p_.C.re p_.A.re) (qa8 .sub .f32 p_.C.im p_.A.im))].length:Int))),(25,.d (.int .i64 v26))] [.row 1 ([(Cx.mk (qa8 .sub .f32 p_.B.re p_.C.re) (qa8 .sub .f32 p_.B.im p_.C.im)),(Cx.mk (qa8 .sub .f32 p_.C.re p_.A.re) (qa8 .sub .f32 p_.C.im p_.A.im))].map ql7)] f36.ntmps 0) (fun v44=>qdt n (qb8 n p_ m35) v26 v44 = some r) ?_ (fun hk45=>?_)
    · rintro v44 h
      replace h:qdt n (qb8 n p_ m35) v26 v44 = some r:=h
      unfold qdt at h
      refine qa2 ?_
      refine qa0 hτ rfl rfl rfl ?_
      refine qa0 hτ rfl rfl rfl ?_
      refine qa6 ?_
      exact ⟨(m35,v44,(w64 (v26 + (1:Int)))),h,Nat.lt_succ_self m35,(qa5 [0] (l:=[(3,.d (.fl .f32 v44)),(23,.row 0 ([(Cx.mk (qa8 .sub .f32 p_.B.re p_.C.re) (qa8 .sub .f32 p_.B.im p_.C.im)),(Cx.mk (qa8 .sub .f32 p_.C.re p_.A.re) (qa8 .sub .f32 p_.C.im p_.A.im))].length) 0 ([(Cx.mk (qa8 .sub .f32 p_.B.re p_.C.re) (qa8 .sub .f32 p_.B.im p_.C.im)),(Cx.mk (qa8 .sub .f32 p_.C.re p_.A.re) (qa8 .sub .f32 p_.C.im p_.A.im))].length)),(24,.d (.int .i64 ([(Cx.mk (qa8 .sub .f32 p_.B.re p_.C.re) (qa8 .sub .f32 p_.B.im p_.C.im)),(Cx.mk (qa8 .sub .f32 p_.C.re p_.A.re) (qa8 .sub .f32 p_.C.im p_.A.im))].length:Int))),(25,.d (.int .i64 (w64 (v26 + (1:Int)))))]) (objs:=[.row 1 ([(Cx.mk (qa8 .sub .f32 p_.B.re p_.C.re) (qa8 .sub .f32 p_.B.im p_.C.im)),(Cx.mk (qa8 .sub .f32 p_.C.re p_.A.re) (qa8 .sub .f32 p_.C.im p_.A.im))].map ql7)]) rfl (by simp) rfl (by trivial) ⟨rfl,trivial,rfl,trivial,rfl,trivial,rfl,trivial,trivial⟩)⟩
    · refine qaa ?_
      refine qba ?_
      refine qaa ?_
      refine qa2 ?_
      refine qac h fun x46 hx46 h=>?_
      refine qbl hτ rfl rfl rfl (qdb hx46) ?_
      refine qfb hτ rfl rfl rfl (qb5 _) (qe0 hx46) rfl ?_
      refine qa0 hτ rfl rfl rfl ?_
      refine qa6 ?_
      refine qaa ?_
      refine qa2 ?_
      refine qa0 hτ rfl rfl rfl ?_
      refine qac h fun x47 hx47 h=>?_
      refine qag hτ false [] rfl rfl rfl (qai func79 rfl rfl) rfl rfl (by simp) ⟨trivial,trivial⟩ (by trivial) (qgv n x46 hx47) ?_
      rintro r0 o0 n0 ⟨rfl,rfl,rfl⟩ -
      refine qa0 hτ rfl rfl rfl ?_
      refine qa6 ?_
      refine qc7 (ι:=Bool) (fun v51=>St.of [(3,.d (.fl .f32 v25)),(6,.d (.fl .f32 x47)),(23,.row 0 ([(Cx.mk (qa8 .sub .f32 p_.B.re p_.C.re) (qa8 .sub .f32 p_.B.im p_.C.im)),(Cx.mk (qa8 .sub .f32 p_.C.re p_.A.re) (qa8 .sub .f32 p_.C.im p_.A.im))].length) 0 ([(Cx.mk (qa8 .sub .f32 p_.B.re p_.C.re) (qa8 .sub .f32 p_.B.im p_.C.im)),(Cx.mk (qa8 .sub .f32 p_.C.re p_.A.re) (qa8 .sub .f32 p_.C.im p_.A.im))].length)),(24,.d (.int .i64 ([(Cx.mk (qa8 .sub .f32 p_.B.re p_.C.re) (qa8 .sub .f32 p_.B.im p_.C.im)),(Cx.mk (qa8 .sub .f32 p_.C.re p_.A.re) (qa8 .sub .f32 p_.C.im p_.A.im))].length:Int))),(25,.d (.int .i64 v26)),(37,.d (.bool v51))] [.row 1 ([(Cx.mk (qa8 .sub .f32 p_.B.re p_.C.re) (qa8 .sub .f32 p_.B.im p_.C.im)),(Cx.mk (qa8 .sub .f32 p_.C.re p_.A.re) (qa8 .sub .f32 p_.C.im p_.A.im))].map ql7)] f36.ntmps 0) (fun v51=>qcn n (qb8 n p_ m35) v25 v26 x47 v51 = some r) ?_ (fun hk53=>?_)
      · rintro v51 h
        replace h:qcn n (qb8 n p_ m35) v25 v26 x47 v51 = some r:=h
        unfold qcn at h
        refine qaz rfl (fun hc52=>?_) (fun hc52=>?_)
        · have h:=qcq h hc52
          refine qa2 ?_
          refine qa0 hτ rfl rfl rfl ?_
          refine qa0 hτ rfl rfl rfl ?_
          refine qa6 ?_
          refine qab (qa5 [0] (l:=[(3,.d (.fl .f32 x47)),(23,.row 0 ([(Cx.mk (qa8 .sub .f32 p_.B.re p_.C.re) (qa8 .sub .f32 p_.B.im p_.C.im)),(Cx.mk (qa8 .sub .f32 p_.C.re p_.A.re) (qa8 .sub .f32 p_.C.im p_.A.im))].length) 0 ([(Cx.mk (qa8 .sub .f32 p_.B.re p_.C.re) (qa8 .sub .f32 p_.B.im p_.C.im)),(Cx.mk (qa8 .sub .f32 p_.C.re p_.A.re) (qa8 .sub .f32 p_.C.im p_.A.im))].length)),(24,.d (.int .i64 ([(Cx.mk (qa8 .sub .f32 p_.B.re p_.C.re) (qa8 .sub .f32 p_.B.im p_.C.im)),(Cx.mk (qa8 .sub .f32 p_.C.re p_.A.re) (qa8 .sub .f32 p_.C.im p_.A.im))].length:Int))),(25,.d (.int .i64 v26))]) (objs:=[.row 1 ([(Cx.mk (qa8 .sub .f32 p_.B.re p_.C.re) (qa8 .sub .f32 p_.B.im p_.C.im)),(Cx.mk (qa8 .sub .f32 p_.C.re p_.A.re) (qa8 .sub .f32 p_.C.im p_.A.im))].map ql7)]) rfl (by simp) rfl (by trivial) ⟨rfl,trivial,rfl,trivial,rfl,trivial,rfl,trivial,trivial⟩) ?_
          exact hk45 x47 h
        · have h:=qcp h hc52
          refine qb3 ?_
          refine qab (qa5 [0] (l:=[(3,.d (.fl .f32 v25)),(23,.row 0 ([(Cx.mk (qa8 .sub .f32 p_.B.re p_.C.re) (qa8 .sub .f32 p_.B.im p_.C.im)),(Cx.mk (qa8 .sub .f32 p_.C.re p_.A.re) (qa8 .sub .f32 p_.C.im p_.A.im))].length) 0 ([(Cx.mk (qa8 .sub .f32 p_.B.re p_.C.re) (qa8 .sub .f32 p_.B.im p_.C.im)),(Cx.mk (qa8 .sub .f32 p_.C.re p_.A.re) (qa8 .sub .f32 p_.C.im p_.A.im))].length)),(24,.d (.int .i64 ([(Cx.mk (qa8 .sub .f32 p_.B.re p_.C.re) (qa8 .sub .f32 p_.B.im p_.C.im)),(Cx.mk (qa8 .sub .f32 p_.C.re p_.A.re) (qa8 .sub .f32 p_.C.im p_.A.im))].length:Int))),(25,.d (.int .i64 v26))]) (objs:=[.row 1 ([(Cx.mk (qa8 .sub .f32 p_.B.re p_.C.re) (qa8 .sub .f32 p_.B.im p_.C.im)),(Cx.mk (qa8 .sub .f32 p_.C.re p_.A.re) (qa8 .sub .f32 p_.C.im p_.A.im))].map ql7)]) rfl (by simp) rfl (by trivial) ⟨rfl,trivial,rfl,trivial,rfl,trivial,rfl,trivial,trivial⟩) ?_
          exact hk45 v25 h
      · refine qaa ?_
        refine qab (qa5 [0] (l:=[(3,.d (.fl .f32 v25)),(6,.d (.fl .f32 x47)),(23,.row 0 ([(Cx.mk (qa8 .sub .f32 p_.B.re p_.C.re) (qa8 .sub .f32 p_.B.im p_.C.im)),(Cx.mk (qa8 .sub .f32 p_.C.re p_.A.re) (qa8 .sub .f32 p_.C.im p_.A.im))].length) 0 ([(Cx.mk (qa8 .sub .f32 p_.B.re p_.C.re) (qa8 .sub .f32 p_.B.im p_.C.im)),(Cx.mk (qa8 .sub .f32 p_.C.re p_.A.re) (qa8 .sub .f32 p_.C.im p_.A.im))].length)),(24,.d (.int .i64 ([(Cx.mk (qa8 .sub .f32 p_.B.re p_.C.re) (qa8 .sub .f32 p_.B.im p_.C.im)),(Cx.mk (qa8 .sub .f32 p_.C.re p_.A.re) (qa8 .sub .f32 p_.C.im p_.A.im))].length:Int))),(25,.d (.int .i64 v26))]) (objs:=[.row 1 ([(Cx.mk (qa8 .sub .f32 p_.B.re p_.C.re) (qa8 .sub .f32 p_.B.im p_.C.im)),(Cx.mk (qa8 .sub .f32 p_.C.re p_.A.re) (qa8 .sub .f32 p_.C.im p_.A.im))].map ql7)]) rfl (by simp) rfl (by trivial) ⟨rfl,trivial,rfl,trivial,rfl,trivial,rfl,trivial,rfl,trivial,trivial⟩) ?_
        refine qa2 ?_
        refine qa0 hτ rfl rfl rfl ?_
        refine qa0 hτ rfl rfl rfl ?_
        refine qa0 hτ rfl rfl rfl ?_
        refine qa0 hτ rfl rfl rfl ?_
        refine qb4 34 rfl (fun hb54=>?_) (fun hb54=>?_)
        · have h:=qcq h hb54
          refine qa4 rfl rfl ?_
          refine qa4 rfl rfl ?_
          refine qa0 hτ rfl rfl rfl ?_
          refine qa6 ?_
          refine qab (qa5 [0] (l:=[(3,.d (.fl .f32 v25)),(6,.d (.fl .f32 x47)),(23,.row 0 ([(Cx.mk (qa8 .sub .f32 p_.B.re p_.C.re) (qa8 .sub .f32 p_.B.im p_.C.im)),(Cx.mk (qa8 .sub .f32 p_.C.re p_.A.re) (qa8 .sub .f32 p_.C.im p_.A.im))].length) 0 ([(Cx.mk (qa8 .sub .f32 p_.B.re p_.C.re) (qa8 .sub .f32 p_.B.im p_.C.im)),(Cx.mk (qa8 .sub .f32 p_.C.re p_.A.re) (qa8 .sub .f32 p_.C.im p_.A.im))].length)),(24,.d (.int .i64 ([(Cx.mk (qa8 .sub .f32 p_.B.re p_.C.re) (qa8 .sub .f32 p_.B.im p_.C.im)),(Cx.mk (qa8 .sub .f32 p_.C.re p_.A.re) (qa8 .sub .f32 p_.C.im p_.A.im))].length:Int))),(25,.d (.int .i64 v26)),(37,.d (.bool true))]) (objs:=[.row 1 ([(Cx.mk (qa8 .sub .f32 p_.B.re p_.C.re) (qa8 .sub .f32 p_.B.im p_.C.im)),(Cx.mk (qa8 .sub .f32 p_.C.re p_.A.re) (qa8 .sub .f32 p_.C.im p_.A.im))].map ql7)]) rfl (by simp) rfl (by trivial) ⟨rfl,trivial,rfl,trivial,rfl,trivial,rfl,trivial,rfl,trivial,rfl,trivial,trivial⟩) ?_
          exact hk53 true h
        · have h:=qcp h hb54
          refine qa0 hτ rfl rfl rfl ?_
          refine qac h fun x55 hx55 h=>?_
          refine qag hτ false [] rfl rfl rfl (qai func85 rfl rfl) rfl rfl (by simp) ⟨trivial,trivial⟩ (by trivial) (qjg n v25 hx55) ?_
          rintro r0 o0 n0 ⟨rfl,rfl,rfl⟩ -
          refine qa0 hτ rfl rfl rfl ?_
          refine qa6 ?_
          refine qab (qa5 [0] (l:=[(3,.d (.fl .f32 v25)),(6,.d (.fl .f32 x47)),(23,.row 0 ([(Cx.mk (qa8 .sub .f32 p_.B.re p_.C.re) (qa8 .sub .f32 p_.B.im p_.C.im)),(Cx.mk (qa8 .sub .f32 p_.C.re p_.A.re) (qa8 .sub .f32 p_.C.im p_.A.im))].length) 0 ([(Cx.mk (qa8 .sub .f32 p_.B.re p_.C.re) (qa8 .sub .f32 p_.B.im p_.C.im)),(Cx.mk (qa8 .sub .f32 p_.C.re p_.A.re) (qa8 .sub .f32 p_.C.im p_.A.im))].length)),(24,.d (.int .i64 ([(Cx.mk (qa8 .sub .f32 p_.B.re p_.C.re) (qa8 .sub .f32 p_.B.im p_.C.im)),(Cx.mk (qa8 .sub .f32 p_.C.re p_.A.re) (qa8 .sub .f32 p_.C.im p_.A.im))].length:Int))),(25,.d (.int .i64 v26)),(37,.d (.bool x55))]) (objs:=[.row 1 ([(Cx.mk (qa8 .sub .f32 p_.B.re p_.C.re) (qa8 .sub .f32 p_.B.im p_.C.im)),(Cx.mk (qa8 .sub .f32 p_.C.re p_.A.re) (qa8 .sub .f32 p_.C.im p_.A.im))].map ql7)]) rfl (by simp) rfl (by trivial) ⟨rfl,trivial,rfl,trivial,rfl,trivial,rfl,trivial,rfl,trivial,rfl,trivial,trivial⟩) ?_
          exact hk53 x55 h
  · have h:=if_f h hc37
    refine qfc ?_
    refine qaa ?_
    refine qa2 ?_
    refine qa0 hτ rfl rfl rfl ?_
    refine qa0 hτ rfl rfl rfl ?_
    refine qa6 ?_
    refine qab (qa5 [] (l:=[(2,.d (.fl .f32 v25))]) (objs:=[]) rfl (by simp) rfl (by trivial) ⟨rfl,trivial,trivial⟩) ?_
    refine qas ?_
    have hr:=Option.some.inj h
    subst hr
    exact qah (.inr rfl) [] (objs':=[]) (new:=[]) rfl (by simp) (by simp) rfl (by trivial) rfl rfl (by trivial) (fun _=>⟨by simp [V.flat,V.qbh,V.qb7,D.flat],qao⟩) ⟨rfl,rfl,rfl⟩
theorem impl_WidestPair_ok (n:Nat) (p_:qa7) {r:Nat} (h:qey n p_ = some r):qb0 prog false 36 [.agg [.d (.cx .f32 p_.A.re p_.A.im),.d (.cx .f32 p_.B.re p_.B.im),.d (.cx .f32 p_.C.re p_.C.im)]] [] (fun v o new=>v = .d (.fl .f32 r)∧o = []∧new = []):=impl_WidestPair_ok_fr0 false n p_ h
def qi7 (n:Nat) (code_:List Int) (i_:Int) (n_:Int):Option Int :=
  if n_ ≤ (1:Int) then
    some (0:Int)
  else
    if i_ < (code_.length:Int) then
      (getI code_ i_).bind fun x8 =>
      grd (n_ ≠ 0) <|
      some ((w64 (x8)).tmod n_)
    else
      grd (n_ ≠ 0) <|
      some ((w64 ((w64 (i_ * (37:Int))) + (11:Int))).tmod n_)
theorem laws_b10At_ok_fr0 (fr:Bool) (n:Nat) (code_:List Int) (i_:Int) (n_:Int) {r:Int} (h:qi7 n code_ i_ n_ = some r):qb0 prog fr 10 [.d (.sl false (code_.map qaq)),.d (.int .i64 i_),.d (.int .i64 n_)] [] (fun v o new=>v = .d (.int .i64 r)∧o = []∧new = []):=by
  refine qal hτ func10 rfl (by simp) (by simp) ?_
  unfold qi7 at h
  refine qaa ?_
  refine qa2 ?_
  refine qa0 hτ rfl rfl rfl ?_
  refine qa6 ?_
  refine qaa ?_
  refine qaa ?_
  refine qa2 ?_
  refine qa0 hτ rfl rfl rfl ?_
  refine qa0 hτ rfl rfl rfl ?_
  refine qa6 ?_
  refine qaz rfl (fun hc4=>?_) (fun hc4=>?_)
  · have h:=if_t h hc4
    refine qaa ?_
    refine qa2 ?_
    refine qa0 hτ rfl rfl rfl ?_
    refine qa6 ?_
    refine qab (qa5 [] (l:=[(6,.d (.int .i64 (0:Int)))]) (objs:=[]) rfl (by simp) rfl (by trivial) ⟨rfl,trivial,trivial⟩) ?_
    refine qas ?_
    have hr:=Option.some.inj h
    subst hr
    exact qah (.inr rfl) [] (objs':=[]) (new:=[]) rfl (by simp) (by simp) rfl (by trivial) rfl rfl (by trivial) (fun _=>⟨by simp [V.flat,V.qbh,V.qb7,D.flat],qao⟩) ⟨rfl,rfl,rfl⟩
  · have h:=if_f h hc4
    refine qb3 ?_
    refine qaa ?_
    refine qaa ?_
    refine qa2 ?_
    refine qa0 hτ rfl rfl rfl ?_
    refine qa0 hτ rfl rfl rfl ?_
    refine qa0 hτ (v:=.d (.int .i64 (code_.length:Int))) rfl rfl (Eq.trans rfl (qfx (f:=qaq) code_)) ?_
    refine qa0 hτ rfl rfl rfl ?_
    refine qa6 ?_
    refine qab (qa5 [] (l:=[(0,.d (.sl false (code_.map qaq))),(1,.d (.int .i64 i_)),(2,.d (.int .i64 n_)),(12,.d (.bool (decide (i_ < (code_.length:Int)))))]) (objs:=[]) rfl (by simp) rfl (by trivial) ⟨rfl,trivial,rfl,trivial,rfl,trivial,rfl,trivial,trivial⟩) ?_
    refine qaz rfl (fun hc7=>?_) (fun hc7=>?_)
    · have h:=if_t h hc7
      refine qaa ?_
      refine qa2 ?_
      refine qa0 hτ rfl rfl rfl ?_
      refine qa0 hτ rfl rfl rfl ?_
      refine qac h fun x8 hx8 h=>?_
      refine qfb hτ rfl rfl rfl (qd3 hx8).1 (qeu hx8) rfl ?_
      refine qa0 hτ rfl rfl rfl ?_
      refine qa0 hτ rfl rfl rfl ?_
      refine qa0 hτ rfl rfl rfl ?_
      refine qd6 h fun hg9 h=>?_
      refine qbl hτ rfl rfl rfl hg9 ?_
      refine qa0 hτ rfl rfl rfl ?_
      refine qa6 ?_
      refine qab (qa5 [] (l:=[(6,.d (.int .i64 ((w64 (x8)).tmod n_)))]) (objs:=[]) rfl (by simp) rfl (by trivial) ⟨rfl,trivial,trivial⟩) ?_
      refine qas ?_
      have hr:=Option.some.inj h
      subst hr
      exact qah (.inr rfl) [] (objs':=[]) (new:=[]) rfl (by simp) (by simp) rfl (by trivial) rfl rfl (by trivial) (fun _=>⟨by simp [V.flat,V.qbh,V.qb7,D.flat],qao⟩) ⟨rfl,rfl,rfl⟩
    · have h:=if_f h hc7
      refine qb3 ?_
      refine qaa ?_
      refine qa2 ?_
      refine qa0 hτ rfl rfl rfl ?_
      refine qa0 hτ rfl rfl rfl ?_
      refine qa0 hτ rfl rfl rfl ?_
      refine qa0 hτ rfl rfl rfl ?_
      refine qd6 h fun hg10 h=>?_
      refine qbl hτ rfl rfl rfl hg10 ?_
      refine qa0 hτ rfl rfl rfl ?_
      refine qa6 ?_
      refine qab (qa5 [] (l:=[(6,.d (.int .i64 ((w64 ((w64 (i_ * (37:Int))) + (11:Int))).tmod n_)))]) (objs:=[]) rfl (by simp) rfl (by trivial) ⟨rfl,trivial,trivial⟩) ?_
      refine qas ?_
      have hr:=Option.some.inj h
      subst hr
      exact qah (.inr rfl) [] (objs':=[]) (new:=[]) rfl (by simp) (by simp) rfl (by trivial) rfl rfl (by trivial) (fun _=>⟨by simp [V.flat,V.qbh,V.qb7,D.flat],qao⟩) ⟨rfl,rfl,rfl⟩
theorem laws_b10At_ok (n:Nat) (code_:List Int) (i_:Int) (n_:Int) {r:Int} (h:qi7 n code_ i_ n_ = some r):qb0 prog false 10 [.d (.sl false (code_.map qaq)),.d (.int .i64 i_),.d (.int .i64 n_)] [] (fun v o new=>v = .d (.int .i64 r)∧o = []∧new = []):=laws_b10At_ok_fr0 false n code_ i_ n_ h
def qgr (n:Nat) (s_:List SBus):Option (List SBus) :=
  grd (room (([]:List SBus).length + s_.length) 64) <|
  some (([]:List SBus) ++ s_)
theorem slices_Clone_2_ok_fr0 (fr:Bool) (n:Nat) (s_:List SBus) {r:List SBus} (h:qgr n s_ = some r):qb0 prog fr 115 [.d (.sl false (s_.map qaf))] [] (fun v o new=>v = .row 0 r.length 0 r.length∧o = []∧new = [.row 8 (r.map qaf)]):=by
  refine qal hτ func115 rfl (by simp) (by simp) ?_
  unfold qgr at h
  refine qaa ?_
  refine qa2 ?_
  refine qa0 hτ rfl rfl rfl ?_
  refine qa6 ?_
  refine qaa ?_
  refine qaa ?_
  refine qa2 ?_
  refine qa0 hτ rfl rfl rfl ?_
  refine qrb rfl rfl (quz hτ rfl rfl rfl rfl rfl) fun q4 hq4=>?_
  refine qa6 ?_
  refine qaz rfl (fun hc5=>?_) (fun hc5=>?_)
  · have hl:=List.map_eq_nil_iff.1 (hq4 (by simpa using hc5))
    subst hl
    replace h:(some ([]:List SBus)) = some r:=by simpa [grd,room] using h
    refine qaa ?_
    refine qa2 ?_
    refine qa0 hτ rfl rfl rfl ?_
    refine qa6 ?_
    refine qab (qa5 [] (l:=[(2,.d (.nils))]) (objs:=[]) rfl (by simp) rfl (by trivial) ⟨rfl,trivial,trivial⟩) ?_
    refine qab (qhl [8] (l':=[(2,.row 0 (([]:List SBus).length) 0 (([]:List SBus).length))]) (objs':=[]) (.cons (.c (.ghost ⟨Nat.le_of_ble_eq_true rfl,Nat.le_of_ble_eq_true rfl⟩)) .nil) .nil) ?_
    refine qas ?_
    have hr:=Option.some.inj h
    subst hr
    exact qah (.inr rfl) [0] (objs':=[]) (new:=[.row 8 (([]:List SBus).map qaf)]) rfl (by simp) (by simp) rfl (by trivial) rfl rfl (by trivial) (fun _=>⟨by simp [V.flat,V.qbh,V.qb7,D.flat],(qcr (qfl qjk _) qao)⟩) ⟨rfl,rfl,rfl⟩
  · refine qb3 ?_
    refine qaa ?_
    refine qa2 ?_
    refine qak hτ rfl rfl rfl ?_
    refine qa0 hτ rfl rfl rfl ?_
    refine qd6 h fun hg6 h=>?_
    refine qjn hτ rfl rfl (Eq.trans rfl (or_append (f:=qaf) ([]:List SBus) s_ rfl)) ⟨trivial,qb5 _,rfl,rfl,(qlu (f:=qaf) hg6),by decide,(qkb (f:=qaf) (fun _=>rfl) _)⟩ ?_
    refine qa0 hτ rfl rfl rfl ?_
    refine qa6 ?_
    refine qab (qa5 [0] (l:=[(2,.row 0 ((([]:List SBus) ++ s_).length) 0 ((([]:List SBus) ++ s_).length))]) (objs:=[.row 8 ((([]:List SBus) ++ s_).map qaf)]) rfl (by simp) rfl (by trivial) ⟨rfl,trivial,trivial⟩) ?_
    refine qas ?_
    have hr:=Option.some.inj h
    subst hr
    exact qah (.inr rfl) [0] (objs':=[]) (new:=[.row 8 ((([]:List SBus) ++ s_).map qaf)]) rfl (by simp) (by simp) rfl (by trivial) rfl rfl (by trivial) (fun _=>⟨by simp [V.flat,V.qbh,V.qb7,D.flat],(qcr (qfl qjk _) qao)⟩) ⟨rfl,rfl,rfl⟩
theorem slices_Clone_2_ok (n:Nat) (s_:List SBus) {r:List SBus} (h:qgr n s_ = some r):qb0 prog false 115 [.d (.sl false (s_.map qaf))] [] (fun v o new=>v = .row 0 r.length 0 r.length∧o = []∧new = [.row 8 (r.map qaf)]):=slices_Clone_2_ok_fr0 false n s_ h
def qej (n:Nat) (f_:qam):Option qam :=
  (qgr n f_.qa9).bind fun x2 =>
  some (qam.mk f_.Source x2)
theorem impl_cloneFeeder_ok_fr0 (fr:Bool) (n:Nat) (f_:qam) {r:qam} (h:qej n f_ = some r):qb0 prog fr 64 [.agg [.d (.cx .f32 f_.Source.A.re f_.Source.A.im),.d (.cx .f32 f_.Source.B.re f_.Source.B.im),.d (.cx .f32 f_.Source.C.re f_.Source.C.im),.d (.sl false (f_.qa9.map qaf))]] [] (fun v o new=>v = .agg [.d (.cx .f32 r.Source.A.re r.Source.A.im),.d (.cx .f32 r.Source.B.re r.Source.B.im),.d (.cx .f32 r.Source.C.re r.Source.C.im),.row 0 r.qa9.length 0 r.qa9.length]∧o = []∧new = [.row 8 (r.qa9.map qaf)]):=by
  refine qal hτ func64 rfl (by simp) (by simp) ?_
  unfold qej at h
  refine qaa ?_
  refine qa2 ?_
  refine qak hτ rfl rfl rfl ?_
  refine qak hτ rfl rfl rfl ?_
  refine qa6 ?_
  refine qaa ?_
  refine qcv ?_
  refine qad hτ [0] 0 rfl rfl rfl rfl rfl ?_
  refine qad hτ [0] 1 rfl rfl rfl rfl rfl ?_
  refine qad hτ [0] 2 rfl rfl rfl rfl rfl ?_
  refine qad hτ [0] 3 rfl rfl rfl rfl rfl ?_
  refine qac h fun x2 hx2 h=>?_
  refine qbd hτ false [] [0,1] 4 rfl rfl rfl rfl (qai func115 rfl rfl) rfl rfl (by simp) ⟨trivial,trivial⟩ (by trivial) (slices_Clone_2_ok n f_.qa9 hx2) ⟨rfl,rfl,trivial⟩ ?_
  refine qad hτ [] 5 rfl rfl rfl rfl rfl ?_
  refine qcd hτ [0,2] 6 rfl rfl rfl rfl ⟨rfl,rfl,trivial⟩ ?_
  refine qd4 mixed (by kernel_rfl) ?_
  refine qab (qa5 [1,2] (l:=[(2,.ptr 0 0)]) (objs:=[.box [.d (.cx .f32 f_.Source.A.re f_.Source.A.im),.d (.cx .f32 f_.Source.B.re f_.Source.B.im),.d (.cx .f32 f_.Source.C.re f_.Source.C.im),.row 1 x2.length 0 x2.length],.row 8 (x2.map qaf)]) rfl (by simp) rfl (by trivial) ⟨rfl,trivial,trivial⟩) ?_
  refine qas ?_
  have hr:=Option.some.inj h
  subst hr
  exact qah (.inr rfl) [1] (objs':=[]) (new:=[.row 8 (x2.map qaf)]) rfl (by simp) (by simp) rfl (by trivial) rfl rfl (by trivial) (fun _=>⟨by simp [V.flat,V.qbh,V.qb7,D.flat],(qcr (qfl qjk _) qao)⟩) ⟨rfl,rfl,rfl⟩
theorem impl_cloneFeeder_ok (n:Nat) (f_:qam) {r:qam} (h:qej n f_ = some r):qb0 prog false 64 [.agg [.d (.cx .f32 f_.Source.A.re f_.Source.A.im),.d (.cx .f32 f_.Source.B.re f_.Source.B.im),.d (.cx .f32 f_.Source.C.re f_.Source.C.im),.d (.sl false (f_.qa9.map qaf))]] [] (fun v o new=>v = .agg [.d (.cx .f32 r.Source.A.re r.Source.A.im),.d (.cx .f32 r.Source.B.re r.Source.B.im),.d (.cx .f32 r.Source.C.re r.Source.C.im),.row 0 r.qa9.length 0 r.qa9.length]∧o = []∧new = [.row 8 (r.qa9.map qaf)]):=impl_cloneFeeder_ok_fr0 false n f_ h
def qkz (n:Nat) (f_:qam):Option (qam × Bool) :=
  (qcs n f_).bind fun x3 =>
  if x3 = true then
    some (f_,true)
  else
    some ((qam.mk (qa7.mk (Cx.mk (0:Nat) (0:Nat)) (Cx.mk (0:Nat) (0:Nat)) (Cx.mk (0:Nat) (0:Nat))) ([]:List SBus)),false)
theorem impl_told_ok (n:Nat) (f_:qam) {r:qam × Bool} (h:qkz n f_ = some r):qb0 prog false 66 [.agg [.d (.cx .f32 f_.Source.A.re f_.Source.A.im),.d (.cx .f32 f_.Source.B.re f_.Source.B.im),.d (.cx .f32 f_.Source.C.re f_.Source.C.im),.d (.sl false (f_.qa9.map qaf))]] [] (fun v o new=>v = .tup [.agg [.d (.cx .f32 r.1.Source.A.re r.1.Source.A.im),.d (.cx .f32 r.1.Source.B.re r.1.Source.B.im),.d (.cx .f32 r.1.Source.C.re r.1.Source.C.im),.d (.sl false (r.1.qa9.map qaf))],.d (.bool r.2)]∧o = []∧new = []):=by
  refine qal hτ func66 rfl (by simp) (by simp) ?_
  unfold qkz at h
  refine qaa ?_
  refine qa2 ?_
  refine qak hτ rfl rfl rfl ?_
  refine qak hτ rfl rfl rfl ?_
  refine qa0 hτ rfl rfl rfl ?_
  refine qa6 ?_
  refine qaa ?_
  refine qaa ?_
  refine qa2 ?_
  refine qa0 hτ rfl rfl rfl ?_
  refine qac h fun x3 hx3 h=>?_
  refine qag hτ false [] rfl rfl rfl (qai func13 rfl rfl) rfl rfl (by simp) ⟨(by trivial),trivial⟩ (by trivial) (qf0 n f_ hx3) ?_
  rintro r0 o0 n0 ⟨rfl,rfl,rfl⟩ -
  refine qa0 hτ rfl rfl rfl ?_
  refine qa6 ?_
  refine qab (qa5 [0,1] (l:=[(1,.ptr 0 0),(2,.ptr 1 0),(6,.d (.bool (!x3)))]) (objs:=[.box [.d (.cx .f32 f_.Source.A.re f_.Source.A.im),.d (.cx .f32 f_.Source.B.re f_.Source.B.im),.d (.cx .f32 f_.Source.C.re f_.Source.C.im),.d (.sl false (f_.qa9.map qaf))],.box [.d (.cx .f32 (0:Nat) (0:Nat)),.d (.cx .f32 (0:Nat) (0:Nat)),.d (.cx .f32 (0:Nat) (0:Nat)),.d (.nils)]]) rfl (by simp) rfl (by trivial) ⟨rfl,trivial,rfl,trivial,rfl,trivial,trivial⟩) ?_
  refine qaz rfl (fun hc4=>?_) (fun hc4=>?_)
  · have hc4:=qhn hc4
    have h:=qcp h hc4
    refine qaa ?_
    refine qa2 ?_
    refine qa0 hτ rfl rfl rfl ?_
    refine qak hτ rfl rfl rfl ?_
    refine qa0 hτ rfl rfl rfl ?_
    refine qa6 ?_
    refine qab (qa5 [1] (l:=[(2,.ptr 0 0),(3,.d (.bool false))]) (objs:=[.box [.d (.cx .f32 (0:Nat) (0:Nat)),.d (.cx .f32 (0:Nat) (0:Nat)),.d (.cx .f32 (0:Nat) (0:Nat)),.d (.nils)]]) rfl (by simp) rfl (by trivial) ⟨rfl,trivial,rfl,trivial,trivial⟩) ?_
    refine qab (qhl [] (l':=[(2,.ptr 0 0),(3,.d (.bool false))]) (objs':=[.box [.d (.cx .f32 (0:Nat) (0:Nat)),.d (.cx .f32 (0:Nat) (0:Nat)),.d (.cx .f32 (0:Nat) (0:Nat)),.d (.sl false (([]:List SBus).map qaf))]]) (.cons (.c (.refl _)) (.cons (.c (.refl _)) .nil)) (.cons (.box (.cons (.refl _) (.cons (.refl _) (.cons (.refl _) (.cons (.d .nil) .nil))))) .nil)) ?_
    refine qas ?_
    have hr:=Option.some.inj h
    subst hr
    exact qah (.inr rfl) [] (objs':=[]) (new:=[]) rfl (by simp) (by simp) rfl (by trivial) rfl rfl (by trivial) (fun h=>nomatch h) ⟨rfl,rfl,rfl⟩
  · have hc4:=qhm hc4
    have h:=qcq h hc4
    refine qb3 ?_
    refine qaa ?_
    refine qa2 ?_
    refine qa0 hτ rfl rfl rfl ?_
    refine qak hτ rfl rfl rfl ?_
    refine qa0 hτ rfl rfl rfl ?_
    refine qa6 ?_
    refine qab (qa5 [1] (l:=[(2,.ptr 0 0),(3,.d (.bool true))]) (objs:=[.box [.d (.cx .f32 f_.Source.A.re f_.Source.A.im),.d (.cx .f32 f_.Source.B.re f_.Source.B.im),.d (.cx .f32 f_.Source.C.re f_.Source.C.im),.d (.sl false (f_.qa9.map qaf))]]) rfl (by simp) rfl (by trivial) ⟨rfl,trivial,rfl,trivial,trivial⟩) ?_
    refine qas ?_
    have hr:=Option.some.inj h
    subst hr
    exact qah (.inr rfl) [] (objs':=[]) (new:=[]) rfl (by simp) (by simp) rfl (by trivial) rfl rfl (by trivial) (fun h=>nomatch h) ⟨rfl,rfl,rfl⟩
def qdf (n:Nat) (x30:qam) (v44:List SBus):Option (qam × Bool) :=
  (qkz n (qam.mk x30.Source v44)).bind fun x45 =>
  some (x45.1,x45.2)
def qdg (n:Nat) (k58:List SBus→Int→Option (qam × Bool)) (v51:Int) (v63:List SBus):Option (qam × Bool) :=
  k58 v63 (w64 (v51 + (1:Int)))
def qbm (n:Nat) (bus_:Int) (x30:qam) (x31:SBus) (x32:SBus):Nat→List SBus→Int→Option (qam × Bool)
  | 0,_,_=>none
  | m57 + 1,v50,v51 =>
    if v51 < (((x30.qa9.set bus_.toNat x31).set (w64 (bus_ + (1:Int))).toNat x32).length:Int) then
      (getI v50 v51).bind fun x65 =>
      if x65.qar = bus_ then
        qdg n (qbm n bus_ x30 x31 x32 m57) v51 (v50.set v51.toNat (SBus.mk (w64 (bus_ + (1:Int))) x65.Own x65.Shared x65.Kind x65.Load x65.qan))
      else
        if x65.qar = (w64 (bus_ + (1:Int))) then
          qdg n (qbm n bus_ x30 x31 x32 m57) v51 (v50.set v51.toNat (SBus.mk bus_ x65.Own x65.Shared x65.Kind x65.Load x65.qan))
        else
          qdg n (qbm n bus_ x30 x31 x32 m57) v51 v50
    else
      qdf n x30 v50
def qf3 (n:Nat) (f_:qam) (bus_:Int):Option (qam × Bool) :=
  (qej n f_).bind fun x30 =>
  (getI x30.qa9 (w64 (bus_ + (1:Int)))).bind fun x31 =>
  (getI x30.qa9 bus_).bind fun x32 =>
  (getI (x30.qa9.set bus_.toNat x31) (w64 (bus_ + (1:Int)))).bind fun x33 =>
  qbm n bus_ x30 x31 x32 n ((x30.qa9.set bus_.toNat x31).set (w64 (bus_ + (1:Int))).toNat x32) (0:Int)
def qbt (n:Nat) (f_:qam) (bus_:Int) (v76:Bool):Option (qam × Bool) :=
  if v76 = true then
    some ((qam.mk (qa7.mk (Cx.mk (0:Nat) (0:Nat)) (Cx.mk (0:Nat) (0:Nat)) (Cx.mk (0:Nat) (0:Nat))) ([]:List SBus)),false)
  else
    qf3 n f_ bus_
def qda (n:Nat) (f_:qam) (bus_:Int):Option (qam × Bool) :=
  (qcj n f_ bus_).bind fun x79 =>
  if x79 = true then
    if bus_ = (0:Int) then
      qbt n f_ bus_ true
    else
      (qcj n f_ (w64 (bus_ + (1:Int)))).bind fun x82 =>
      if x82 = true then
        (getI f_.qa9 (w64 (bus_ + (1:Int)))).bind fun x84 =>
        qbt n f_ bus_ (decide (x84.qar = bus_))
      else
        qbt n f_ bus_ true
  else
    qbt n f_ bus_ true
theorem impl_SwapBuses_ok (n:Nat) (f_:qam) (bus_:Int) {r:qam × Bool} (h:qda n f_ bus_ = some r):qb0 prog false 37 [.agg [.d (.cx .f32 f_.Source.A.re f_.Source.A.im),.d (.cx .f32 f_.Source.B.re f_.Source.B.im),.d (.cx .f32 f_.Source.C.re f_.Source.C.im),.d (.sl false (f_.qa9.map qaf))],.d (.int .i64 bus_)] [] (fun v o new=>v = .tup [.agg [.d (.cx .f32 r.1.Source.A.re r.1.Source.A.im),.d (.cx .f32 r.1.Source.B.re r.1.Source.B.im),.d (.cx .f32 r.1.Source.C.re r.1.Source.C.im),.d (.sl false (r.1.qa9.map qaf))],.d (.bool r.2)]∧o = []∧new = []):=by
  refine qal hτ func37 rfl (by simp) (by simp) ?_
  unfold qda at h
  refine qaa ?_
  refine qa2 ?_
  refine qak hτ rfl rfl rfl ?_
  refine qak hτ rfl rfl rfl ?_
  refine qa0 hτ rfl rfl rfl ?_
  refine qa6 ?_
  refine qc7 (ι:=Unit) (fun _=>St.of [(1,.d (.int .i64 bus_)),(2,.ptr 0 0),(4,.ptr 1 0)] [.box [.d (.cx .f32 f_.Source.A.re f_.Source.A.im),.d (.cx .f32 f_.Source.B.re f_.Source.B.im),.d (.cx .f32 f_.Source.C.re f_.Source.C.im),.d (.sl false (f_.qa9.map qaf))],.box [.d (.cx .f32 (0:Nat) (0:Nat)),.d (.cx .f32 (0:Nat) (0:Nat)),.d (.cx .f32 (0:Nat) (0:Nat)),.d (.nils)]] f37.ntmps 0) (fun _=>qf3 n f_ bus_ = some r) ?_ (fun hk68=>?_)
  · rintro ⟨⟩ h
    replace h:qf3 n f_ bus_ = some r:=h
    unfold qf3 at h
    refine qaa ?_
    refine qa2 ?_
    refine qa0 hτ rfl rfl rfl ?_
    refine qac h fun x30 hx30 h=>?_
    refine qag hτ false [] rfl rfl rfl (qai func64 rfl rfl) rfl rfl (by simp) ⟨(by trivial),trivial⟩ (by trivial) (impl_cloneFeeder_ok n f_ hx30) ?_
    rintro r0 o0 n0 ⟨rfl,rfl,rfl⟩ -
    refine qak hτ rfl rfl rfl ?_
    refine qak hτ rfl rfl rfl ?_
    refine qa6 ?_
    refine qaa ?_
    refine qcv ?_
    refine qad hτ [3] 0 rfl rfl rfl rfl rfl ?_
    refine qad hτ [3] 1 rfl rfl rfl rfl rfl ?_
    refine qad hτ [] 2 rfl rfl rfl rfl rfl ?_
    refine qad hτ [3] 3 rfl rfl rfl rfl rfl ?_
    refine qad hτ [3] 4 rfl rfl rfl rfl rfl ?_
    refine qad hτ [] 5 rfl rfl rfl rfl rfl ?_
    refine qad hτ [] 6 rfl rfl rfl rfl rfl ?_
    refine qad hτ [3] 7 rfl rfl rfl rfl rfl ?_
    refine qad hτ [3] 8 rfl rfl rfl rfl rfl ?_
    refine qad hτ [] 9 rfl rfl rfl rfl rfl ?_
    refine qad hτ [] 10 rfl rfl rfl rfl rfl ?_
    refine qac h fun x31 hx31 h=>?_
    refine qfa hτ [2] 11 rfl rfl rfl rfl rfl (qdb hx31) ?_
    refine qg1 hτ [2] 12 rfl rfl rfl rfl rfl (qb5 _) (qe0 hx31) rfl ?_
    refine qad hτ [3] 13 rfl rfl rfl rfl rfl ?_
    refine qad hτ [3] 14 rfl rfl rfl rfl rfl ?_
    refine qad hτ [] 15 rfl rfl rfl rfl rfl ?_
    refine qac h fun x32 hx32 h=>?_
    refine qfa hτ [2] 16 rfl rfl rfl rfl rfl (qdb hx32) ?_
    refine qg1 hτ [2] 17 rfl rfl rfl rfl rfl (qb5 _) (qe0 hx32) rfl ?_
    refine qfa hτ [2] 18 rfl rfl rfl rfl rfl (qdb hx32) ?_
    refine qij hτ [0,1,3] 19 rfl rfl rfl rfl (qb5 _) (qe0 hx32) (qj9 (f:=qaf) (l:=x30.qa9) (i:=bus_) (y:=x31) rfl) ⟨rfl,rfl,rfl,trivial⟩ ?_
    refine qac h fun x33 hx33 h=>?_
    refine qfa hτ [2] 20 rfl rfl rfl rfl rfl (qs3 hx33 (by simp)) ?_
    refine qij hτ [0,1,3] 21 rfl rfl rfl rfl (by simp) (qe0 hx33) (qj9 (f:=qaf) (l:=(x30.qa9.set bus_.toNat x31)) (i:=(w64 (bus_ + (1:Int)))) (y:=x32) rfl) ⟨rfl,rfl,rfl,trivial⟩ ?_
    refine qd4 mixed (by kernel_rfl) ?_
    refine qc7 (ι:=List SBus) (fun v44=>St.of [(4,.ptr 0 0),(6,.ptr 1 0)] [.box [.d (.cx .f32 (0:Nat) (0:Nat)),.d (.cx .f32 (0:Nat) (0:Nat)),.d (.cx .f32 (0:Nat) (0:Nat)),.d (.nils)],.box [.d (.cx .f32 x30.Source.A.re x30.Source.A.im),.d (.cx .f32 x30.Source.B.re x30.Source.B.im),.d (.cx .f32 x30.Source.C.re x30.Source.C.im),.row 2 v44.length 0 v44.length],.row 8 (v44.map qaf)] f37.ntmps 0) (fun v44=>qdf n x30 v44 = some r) ?_ (fun hk46=>?_)
    · rintro v44 h
      replace h:qdf n x30 v44 = some r:=h
      unfold qdf at h
      refine qaa ?_
      refine qa2 ?_
      refine qa0 hτ rfl rfl rfl ?_
      refine qap (qa5 [0] (l:=[(4,.ptr 0 0),(87,.agg [.d (.cx .f32 x30.Source.A.re x30.Source.A.im),.d (.cx .f32 x30.Source.B.re x30.Source.B.im),.d (.cx .f32 x30.Source.C.re x30.Source.C.im),.d (.sl false (v44.map qaf))])]) (objs:=[.box [.d (.cx .f32 (0:Nat) (0:Nat)),.d (.cx .f32 (0:Nat) (0:Nat)),.d (.cx .f32 (0:Nat) (0:Nat)),.d (.nils)]]) rfl (by simp) rfl (by trivial) ⟨rfl,trivial,(qn0 (qaj rfl (qaj rfl (qaj rfl (qaj (qit (f:=qaf) (j:=2) (sz:=8) v44 rfl rfl rfl) qcc))))),⟨trivial,trivial,trivial,(qiu (f:=qaf) (j:=2) (sz:=8) v44 rfl rfl rfl)⟩,trivial⟩) ?_
      refine qac h fun x45 hx45 h=>?_
      refine qag hτ false [] rfl rfl rfl (qai func66 rfl rfl) rfl rfl (by simp) ⟨(by trivial),trivial⟩ (by trivial) (impl_told_ok n (qam.mk x30.Source v44) hx45) ?_
      rintro r0 o0 n0 ⟨rfl,rfl,rfl⟩ -
      refine qa0 hτ rfl rfl rfl ?_
      refine qa0 hτ rfl rfl rfl ?_
      refine qak hτ rfl rfl rfl ?_
      refine qa0 hτ rfl rfl rfl ?_
      refine qa6 ?_
      refine qab (qa5 [0] (l:=[(4,.ptr 0 0),(5,.d (.bool x45.2))]) (objs:=[.box [.d (.cx .f32 x45.1.Source.A.re x45.1.Source.A.im),.d (.cx .f32 x45.1.Source.B.re x45.1.Source.B.im),.d (.cx .f32 x45.1.Source.C.re x45.1.Source.C.im),.d (.sl false (x45.1.qa9.map qaf))]]) rfl (by simp) rfl (by trivial) ⟨rfl,trivial,rfl,trivial,trivial⟩) ?_
      refine qas ?_
      have hr:=Option.some.inj h
      subst hr
      exact qah (.inr rfl) [] (objs':=[]) (new:=[]) rfl (by simp) (by simp) rfl (by trivial) rfl rfl (by trivial) (fun h=>nomatch h) ⟨rfl,rfl,rfl⟩
    · refine qaa ?_
      refine qaa ?_
      refine qab (qa5 [1,3,2] (l:=[(1,.d (.int .i64 bus_)),(4,.ptr 0 0),(6,.ptr 1 0)]) (objs:=[.box [.d (.cx .f32 (0:Nat) (0:Nat)),.d (.cx .f32 (0:Nat) (0:Nat)),.d (.cx .f32 (0:Nat) (0:Nat)),.d (.nils)],.box [.d (.cx .f32 x30.Source.A.re x30.Source.A.im),.d (.cx .f32 x30.Source.B.re x30.Source.B.im),.d (.cx .f32 x30.Source.C.re x30.Source.C.im),.row 2 (((x30.qa9.set bus_.toNat x31).set (w64 (bus_ + (1:Int))).toNat x32).length) 0 (((x30.qa9.set bus_.toNat x31).set (w64 (bus_ + (1:Int))).toNat x32).length)],.row 8 (((x30.qa9.set bus_.toNat x31).set (w64 (bus_ + (1:Int))).toNat x32).map qaf)]) rfl (by simp) (qaj rfl (qaj (qkc (qaj rfl (qaj rfl (qaj rfl (qaj (qk4 rfl (by simp)) qcc))))) (qaj rfl qcc))) ⟨(by trivial),⟨trivial,trivial,trivial,trivial⟩,trivial,trivial⟩ ⟨rfl,trivial,rfl,trivial,rfl,trivial,trivial⟩) ?_
      refine qa2 ?_
      refine qa0 hτ rfl rfl rfl ?_
      refine qa0 hτ rfl rfl rfl ?_
      refine qbl hτ rfl rfl rfl (qb5 _) ?_
      refine qa0 hτ rfl rfl rfl ?_
      refine qa6 ?_
      refine qba ?_
      refine qfd (ι:=Nat × List SBus × Int) (fun (m57,v50,v51)=>St.of [(1,.d (.int .i64 bus_)),(4,.ptr 0 0),(6,.ptr 1 0),(58,.d (.int .i64 (((x30.qa9.set bus_.toNat x31).set (w64 (bus_ + (1:Int))).toNat x32).length:Int))),(59,.d (.int .i64 v51))] [.box [.d (.cx .f32 (0:Nat) (0:Nat)),.d (.cx .f32 (0:Nat) (0:Nat)),.d (.cx .f32 (0:Nat) (0:Nat)),.d (.nils)],.box [.d (.cx .f32 x30.Source.A.re x30.Source.A.im),.d (.cx .f32 x30.Source.B.re x30.Source.B.im),.d (.cx .f32 x30.Source.C.re x30.Source.C.im),.row 2 v50.length 0 v50.length],.row 8 (v50.map qaf)] f37.ntmps 0) (fun (m57,v50,v51)=>qbm n bus_ x30 x31 x32 m57 v50 v51 = some r) (fun x=>x.1) (n,((x30.qa9.set bus_.toNat x31).set (w64 (bus_ + (1:Int))).toNat x32),(0:Int)) h (qa5 [0,1,2] (l:=[(1,.d (.int .i64 bus_)),(4,.ptr 0 0),(6,.ptr 1 0),(58,.d (.int .i64 (((x30.qa9.set bus_.toNat x31).set (w64 (bus_ + (1:Int))).toNat x32).length:Int))),(59,.d (.int .i64 (0:Int)))]) (objs:=[.box [.d (.cx .f32 (0:Nat) (0:Nat)),.d (.cx .f32 (0:Nat) (0:Nat)),.d (.cx .f32 (0:Nat) (0:Nat)),.d (.nils)],.box [.d (.cx .f32 x30.Source.A.re x30.Source.A.im),.d (.cx .f32 x30.Source.B.re x30.Source.B.im),.d (.cx .f32 x30.Source.C.re x30.Source.C.im),.row 2 (((x30.qa9.set bus_.toNat x31).set (w64 (bus_ + (1:Int))).toNat x32).length) 0 (((x30.qa9.set bus_.toNat x31).set (w64 (bus_ + (1:Int))).toNat x32).length)],.row 8 (((x30.qa9.set bus_.toNat x31).set (w64 (bus_ + (1:Int))).toNat x32).map qaf)]) rfl (by simp) rfl (by trivial) ⟨rfl,trivial,rfl,trivial,rfl,trivial,rfl,trivial,rfl,trivial,trivial⟩) ?_
      rintro ⟨m57,v50,v51⟩ h
      replace h:qbm n bus_ x30 x31 x32 m57 v50 v51 = some r:=h
      rcases m57 with _ | m57
      · rw [qbm] at h;cases h
      rw [qbm] at h
      refine qaa ?_
      refine qa2 ?_
      refine qa0 hτ rfl rfl rfl ?_
      refine qa6 ?_
      refine qaa ?_
      refine qaz rfl (fun hc59=>?_) (fun hc59=>?_)
      · have h:=if_t h hc59
        refine qb3 ?_
        refine qc7 (ι:=List SBus) (fun v63=>St.of [(1,.d (.int .i64 bus_)),(4,.ptr 0 0),(6,.ptr 1 0),(58,.d (.int .i64 (((x30.qa9.set bus_.toNat x31).set (w64 (bus_ + (1:Int))).toNat x32).length:Int))),(59,.d (.int .i64 v51))] [.box [.d (.cx .f32 (0:Nat) (0:Nat)),.d (.cx .f32 (0:Nat) (0:Nat)),.d (.cx .f32 (0:Nat) (0:Nat)),.d (.nils)],.box [.d (.cx .f32 x30.Source.A.re x30.Source.A.im),.d (.cx .f32 x30.Source.B.re x30.Source.B.im),.d (.cx .f32 x30.Source.C.re x30.Source.C.im),.row 2 v63.length 0 v63.length],.row 8 (v63.map qaf)] f37.ntmps 0) (fun v63=>qdg n (qbm n bus_ x30 x31 x32 m57) v51 v63 = some r) ?_ (fun hk64=>?_)
        · rintro v63 h
          replace h:qdg n (qbm n bus_ x30 x31 x32 m57) v51 v63 = some r:=h
          unfold qdg at h
          refine qa2 ?_
          refine qa0 hτ rfl rfl rfl ?_
          refine qa0 hτ rfl rfl rfl ?_
          refine qa6 ?_
          exact ⟨(m57,v63,(w64 (v51 + (1:Int)))),h,Nat.lt_succ_self m57,(qa5 [0,1,2] (l:=[(1,.d (.int .i64 bus_)),(4,.ptr 0 0),(6,.ptr 1 0),(58,.d (.int .i64 (((x30.qa9.set bus_.toNat x31).set (w64 (bus_ + (1:Int))).toNat x32).length:Int))),(59,.d (.int .i64 (w64 (v51 + (1:Int)))))]) (objs:=[.box [.d (.cx .f32 (0:Nat) (0:Nat)),.d (.cx .f32 (0:Nat) (0:Nat)),.d (.cx .f32 (0:Nat) (0:Nat)),.d (.nils)],.box [.d (.cx .f32 x30.Source.A.re x30.Source.A.im),.d (.cx .f32 x30.Source.B.re x30.Source.B.im),.d (.cx .f32 x30.Source.C.re x30.Source.C.im),.row 2 v63.length 0 v63.length],.row 8 (v63.map qaf)]) rfl (by simp) rfl (by trivial) ⟨rfl,trivial,rfl,trivial,rfl,trivial,rfl,trivial,rfl,trivial,trivial⟩)⟩
        · refine qaa ?_
          refine qba ?_
          refine qaa ?_
          refine qa2 ?_
          refine qa0 hτ rfl rfl rfl ?_
          refine qa0 hτ rfl rfl rfl ?_
          refine qa6 ?_
          refine qaa ?_
          refine qa2 ?_
          refine qa0 hτ rfl rfl rfl ?_
          refine qa0 hτ rfl rfl rfl ?_
          refine qa0 hτ rfl rfl rfl ?_
          refine qac h fun x65 hx65 h=>?_
          refine qbl hτ rfl rfl rfl (qdb hx65) ?_
          refine qa0 hτ rfl rfl rfl ?_
          refine qa6 ?_
          refine qaa ?_
          refine qab (qa5 [0,1,2] (l:=[(1,.d (.int .i64 bus_)),(4,.ptr 0 0),(6,.ptr 1 0),(8,.eptr 2 v50.length (0 + v51.toNat) 0),(58,.d (.int .i64 (((x30.qa9.set bus_.toNat x31).set (w64 (bus_ + (1:Int))).toNat x32).length:Int))),(59,.d (.int .i64 v51))]) (objs:=[.box [.d (.cx .f32 (0:Nat) (0:Nat)),.d (.cx .f32 (0:Nat) (0:Nat)),.d (.cx .f32 (0:Nat) (0:Nat)),.d (.nils)],.box [.d (.cx .f32 x30.Source.A.re x30.Source.A.im),.d (.cx .f32 x30.Source.B.re x30.Source.B.im),.d (.cx .f32 x30.Source.C.re x30.Source.C.im),.row 2 v50.length 0 v50.length],.row 8 (v50.map qaf)]) rfl (by simp) rfl (by trivial) ⟨rfl,trivial,rfl,trivial,rfl,trivial,rfl,trivial,rfl,trivial,rfl,trivial,trivial⟩) ?_
          refine qa2 ?_
          refine qa0 hτ rfl rfl rfl ?_
          refine qbl hτ rfl rfl rfl (qb5 _) ?_
          refine qbl hτ rfl rfl rfl (qb5 _) ?_
          refine qfb hτ rfl rfl rfl (qb5 _) (qe0 hx65) rfl ?_
          refine qa6 ?_
          refine qba ?_
          refine qaa ?_
          refine qa2 ?_
          refine qa0 hτ rfl rfl rfl ?_
          refine qa0 hτ (v:=.d (.bool (decide (x65.qar = bus_)))) rfl rfl (qhu _ _) ?_
          refine qa0 hτ rfl rfl rfl ?_
          refine qa6 ?_
          refine qab (qa5 [0,1,2] (l:=[(1,.d (.int .i64 bus_)),(4,.ptr 0 0),(6,.ptr 1 0),(8,.eptr 2 v50.length (0 + v51.toNat) 0),(58,.d (.int .i64 (((x30.qa9.set bus_.toNat x31).set (w64 (bus_ + (1:Int))).toNat x32).length:Int))),(59,.d (.int .i64 v51)),(69,.d (.int .i64 x65.qar)),(70,.d (.bool (decide (x65.qar = bus_))))]) (objs:=[.box [.d (.cx .f32 (0:Nat) (0:Nat)),.d (.cx .f32 (0:Nat) (0:Nat)),.d (.cx .f32 (0:Nat) (0:Nat)),.d (.nils)],.box [.d (.cx .f32 x30.Source.A.re x30.Source.A.im),.d (.cx .f32 x30.Source.B.re x30.Source.B.im),.d (.cx .f32 x30.Source.C.re x30.Source.C.im),.row 2 v50.length 0 v50.length],.row 8 (v50.map qaf)]) rfl (by simp) rfl (by trivial) ⟨rfl,trivial,rfl,trivial,rfl,trivial,rfl,trivial,rfl,trivial,rfl,trivial,rfl,trivial,rfl,trivial,trivial⟩) ?_
          refine qaz rfl (fun hc66=>?_) (fun hc66=>?_)
          · have h:=if_t h hc66
            refine qa2 ?_
            refine qa0 hτ rfl rfl rfl ?_
            refine qa0 hτ rfl rfl rfl ?_
            refine qa0 hτ rfl rfl rfl ?_
            refine qbl hτ rfl rfl rfl (qb5 _) ?_
            refine qbl hτ rfl rfl rfl (qb5 _) ?_
            refine ql9 hτ rfl rfl rfl (qb5 _) (qe0 hx65) (qj9 (f:=qaf) (l:=v50) (i:=v51) (y:=(SBus.mk (w64 (bus_ + (1:Int))) x65.Own x65.Shared x65.Kind x65.Load x65.qan)) rfl) ?_
            refine qa6 ?_
            refine qab (qa5 [0,1,2] (l:=[(1,.d (.int .i64 bus_)),(4,.ptr 0 0),(6,.ptr 1 0),(58,.d (.int .i64 (((x30.qa9.set bus_.toNat x31).set (w64 (bus_ + (1:Int))).toNat x32).length:Int))),(59,.d (.int .i64 v51))]) (objs:=[.box [.d (.cx .f32 (0:Nat) (0:Nat)),.d (.cx .f32 (0:Nat) (0:Nat)),.d (.cx .f32 (0:Nat) (0:Nat)),.d (.nils)],.box [.d (.cx .f32 x30.Source.A.re x30.Source.A.im),.d (.cx .f32 x30.Source.B.re x30.Source.B.im),.d (.cx .f32 x30.Source.C.re x30.Source.C.im),.row 2 ((v50.set v51.toNat (SBus.mk (w64 (bus_ + (1:Int))) x65.Own x65.Shared x65.Kind x65.Load x65.qan)).length) 0 ((v50.set v51.toNat (SBus.mk (w64 (bus_ + (1:Int))) x65.Own x65.Shared x65.Kind x65.Load x65.qan)).length)],.row 8 ((v50.set v51.toNat (SBus.mk (w64 (bus_ + (1:Int))) x65.Own x65.Shared x65.Kind x65.Load x65.qan)).map qaf)]) rfl (by simp) (qaj rfl (qaj (qkc (qaj rfl (qaj rfl (qaj rfl (qaj (qk4 rfl (by simp)) qcc))))) (qaj rfl qcc))) ⟨(by trivial),⟨trivial,trivial,trivial,trivial⟩,trivial,trivial⟩ ⟨rfl,trivial,rfl,trivial,rfl,trivial,rfl,trivial,rfl,trivial,trivial⟩) ?_
            exact hk64 (v50.set v51.toNat (SBus.mk (w64 (bus_ + (1:Int))) x65.Own x65.Shared x65.Kind x65.Load x65.qan)) h
          · have h:=if_f h hc66
            refine qaa ?_
            refine qa2 ?_
            refine qa0 hτ rfl rfl rfl ?_
            refine qa0 hτ rfl rfl rfl ?_
            refine qa0 hτ (v:=.d (.bool (decide (x65.qar = (w64 (bus_ + (1:Int))))))) rfl rfl (qhu _ _) ?_
            refine qa0 hτ rfl rfl rfl ?_
            refine qa6 ?_
            refine qaz rfl (fun hc67=>?_) (fun hc67=>?_)
            · have h:=if_t h hc67
              refine qa2 ?_
              refine qa0 hτ rfl rfl rfl ?_
              refine qa0 hτ rfl rfl rfl ?_
              refine qbl hτ rfl rfl rfl (qb5 _) ?_
              refine qbl hτ rfl rfl rfl (qb5 _) ?_
              refine ql9 hτ rfl rfl rfl (qb5 _) (qe0 hx65) (qj9 (f:=qaf) (l:=v50) (i:=v51) (y:=(SBus.mk bus_ x65.Own x65.Shared x65.Kind x65.Load x65.qan)) rfl) ?_
              refine qa6 ?_
              refine qab (qa5 [0,1,2] (l:=[(1,.d (.int .i64 bus_)),(4,.ptr 0 0),(6,.ptr 1 0),(58,.d (.int .i64 (((x30.qa9.set bus_.toNat x31).set (w64 (bus_ + (1:Int))).toNat x32).length:Int))),(59,.d (.int .i64 v51))]) (objs:=[.box [.d (.cx .f32 (0:Nat) (0:Nat)),.d (.cx .f32 (0:Nat) (0:Nat)),.d (.cx .f32 (0:Nat) (0:Nat)),.d (.nils)],.box [.d (.cx .f32 x30.Source.A.re x30.Source.A.im),.d (.cx .f32 x30.Source.B.re x30.Source.B.im),.d (.cx .f32 x30.Source.C.re x30.Source.C.im),.row 2 ((v50.set v51.toNat (SBus.mk bus_ x65.Own x65.Shared x65.Kind x65.Load x65.qan)).length) 0 ((v50.set v51.toNat (SBus.mk bus_ x65.Own x65.Shared x65.Kind x65.Load x65.qan)).length)],.row 8 ((v50.set v51.toNat (SBus.mk bus_ x65.Own x65.Shared x65.Kind x65.Load x65.qan)).map qaf)]) rfl (by simp) (qaj rfl (qaj (qkc (qaj rfl (qaj rfl (qaj rfl (qaj (qk4 rfl (by simp)) qcc))))) (qaj rfl qcc))) ⟨(by trivial),⟨trivial,trivial,trivial,trivial⟩,trivial,trivial⟩ ⟨rfl,trivial,rfl,trivial,rfl,trivial,rfl,trivial,rfl,trivial,trivial⟩) ?_
              exact hk64 (v50.set v51.toNat (SBus.mk bus_ x65.Own x65.Shared x65.Kind x65.Load x65.qan)) h
            · have h:=if_f h hc67
              refine qb3 ?_
              refine qab (qa5 [0,1,2] (l:=[(1,.d (.int .i64 bus_)),(4,.ptr 0 0),(6,.ptr 1 0),(58,.d (.int .i64 (((x30.qa9.set bus_.toNat x31).set (w64 (bus_ + (1:Int))).toNat x32).length:Int))),(59,.d (.int .i64 v51))]) (objs:=[.box [.d (.cx .f32 (0:Nat) (0:Nat)),.d (.cx .f32 (0:Nat) (0:Nat)),.d (.cx .f32 (0:Nat) (0:Nat)),.d (.nils)],.box [.d (.cx .f32 x30.Source.A.re x30.Source.A.im),.d (.cx .f32 x30.Source.B.re x30.Source.B.im),.d (.cx .f32 x30.Source.C.re x30.Source.C.im),.row 2 v50.length 0 v50.length],.row 8 (v50.map qaf)]) rfl (by simp) rfl (by trivial) ⟨rfl,trivial,rfl,trivial,rfl,trivial,rfl,trivial,rfl,trivial,trivial⟩) ?_
              exact hk64 v50 h
      · have h:=if_f h hc59
        refine qfc ?_
        refine qab (qa5 [0,1,2] (l:=[(4,.ptr 0 0),(6,.ptr 1 0)]) (objs:=[.box [.d (.cx .f32 (0:Nat) (0:Nat)),.d (.cx .f32 (0:Nat) (0:Nat)),.d (.cx .f32 (0:Nat) (0:Nat)),.d (.nils)],.box [.d (.cx .f32 x30.Source.A.re x30.Source.A.im),.d (.cx .f32 x30.Source.B.re x30.Source.B.im),.d (.cx .f32 x30.Source.C.re x30.Source.C.im),.row 2 v50.length 0 v50.length],.row 8 (v50.map qaf)]) rfl (by simp) rfl (by trivial) ⟨rfl,trivial,rfl,trivial,trivial⟩) ?_
        exact hk46 v50 h
  · refine qaa ?_
    refine qc7 (ι:=Bool) (fun v76=>St.of [(1,.d (.int .i64 bus_)),(2,.ptr 0 0),(4,.ptr 1 0),(32,.d (.bool v76))] [.box [.d (.cx .f32 f_.Source.A.re f_.Source.A.im),.d (.cx .f32 f_.Source.B.re f_.Source.B.im),.d (.cx .f32 f_.Source.C.re f_.Source.C.im),.d (.sl false (f_.qa9.map qaf))],.box [.d (.cx .f32 (0:Nat) (0:Nat)),.d (.cx .f32 (0:Nat) (0:Nat)),.d (.cx .f32 (0:Nat) (0:Nat)),.d (.nils)]] f37.ntmps 0) (fun v76=>qbt n f_ bus_ v76 = some r) ?_ (fun hk78=>?_)
    · rintro v76 h
      replace h:qbt n f_ bus_ v76 = some r:=h
      unfold qbt at h
      refine qaz rfl (fun hc77=>?_) (fun hc77=>?_)
      · have h:=qcq h hc77
        refine qaa ?_
        refine qa2 ?_
        refine qa0 hτ rfl rfl rfl ?_
        refine qak hτ rfl rfl rfl ?_
        refine qa0 hτ rfl rfl rfl ?_
        refine qa6 ?_
        refine qab (qa5 [1] (l:=[(4,.ptr 0 0),(5,.d (.bool false))]) (objs:=[.box [.d (.cx .f32 (0:Nat) (0:Nat)),.d (.cx .f32 (0:Nat) (0:Nat)),.d (.cx .f32 (0:Nat) (0:Nat)),.d (.nils)]]) rfl (by simp) rfl (by trivial) ⟨rfl,trivial,rfl,trivial,trivial⟩) ?_
        refine qab (qhl [] (l':=[(4,.ptr 0 0),(5,.d (.bool false))]) (objs':=[.box [.d (.cx .f32 (0:Nat) (0:Nat)),.d (.cx .f32 (0:Nat) (0:Nat)),.d (.cx .f32 (0:Nat) (0:Nat)),.d (.sl false (([]:List SBus).map qaf))]]) (.cons (.c (.refl _)) (.cons (.c (.refl _)) .nil)) (.cons (.box (.cons (.refl _) (.cons (.refl _) (.cons (.refl _) (.cons (.d .nil) .nil))))) .nil)) ?_
        refine qas ?_
        have hr:=Option.some.inj h
        subst hr
        exact qah (.inr rfl) [] (objs':=[]) (new:=[]) rfl (by simp) (by simp) rfl (by trivial) rfl rfl (by trivial) (fun h=>nomatch h) ⟨rfl,rfl,rfl⟩
      · have h:=qcp h hc77
        refine qb3 ?_
        refine qab (qa5 [0,1] (l:=[(1,.d (.int .i64 bus_)),(2,.ptr 0 0),(4,.ptr 1 0)]) (objs:=[.box [.d (.cx .f32 f_.Source.A.re f_.Source.A.im),.d (.cx .f32 f_.Source.B.re f_.Source.B.im),.d (.cx .f32 f_.Source.C.re f_.Source.C.im),.d (.sl false (f_.qa9.map qaf))],.box [.d (.cx .f32 (0:Nat) (0:Nat)),.d (.cx .f32 (0:Nat) (0:Nat)),.d (.cx .f32 (0:Nat) (0:Nat)),.d (.nils)]]) rfl (by simp) rfl (by trivial) ⟨rfl,trivial,rfl,trivial,rfl,trivial,trivial⟩) ?_
        exact hk68 () h
    · refine qaa ?_
      refine qa2 ?_
      refine qa0 hτ rfl rfl rfl ?_
      refine qac h fun x79 hx79 h=>?_
      refine qag hτ false [0] rfl rfl rfl (qai func57 rfl rfl) rfl rfl (by simp) ⟨trivial,trivial,trivial⟩ (by trivial) (qh0 n f_ bus_ hx79) ?_
      rintro r0 o0 n0 ⟨rfl,rfl,rfl⟩ -
      refine qa0 hτ rfl rfl rfl ?_
      refine qa0 hτ rfl rfl rfl ?_
      refine qb4 12 rfl (fun hb80=>?_) (fun hb80=>?_)
      · have hb80:=qhn hb80
        have h:=qcp h hb80
        refine qa4 rfl rfl ?_
        refine qa4 rfl rfl ?_
        refine qa0 hτ rfl rfl rfl ?_
        refine qa0 hτ rfl rfl rfl ?_
        refine qa4 rfl rfl ?_
        refine qap (qa5 [0,1] (l:=[(1,.d (.int .i64 bus_)),(2,.ptr 0 0),(4,.ptr 1 0),(16,.d (.bool true)),(17,.und)]) (objs:=[.box [.d (.cx .f32 f_.Source.A.re f_.Source.A.im),.d (.cx .f32 f_.Source.B.re f_.Source.B.im),.d (.cx .f32 f_.Source.C.re f_.Source.C.im),.d (.sl false (f_.qa9.map qaf))],.box [.d (.cx .f32 (0:Nat) (0:Nat)),.d (.cx .f32 (0:Nat) (0:Nat)),.d (.cx .f32 (0:Nat) (0:Nat)),.d (.nils)]]) rfl (by simp) rfl (by trivial) ⟨rfl,trivial,rfl,trivial,rfl,trivial,rfl,trivial,rfl,trivial,trivial⟩) ?_
        refine qa4 rfl rfl ?_
        refine qa4 rfl rfl ?_
        refine qa4 rfl rfl ?_
        refine qa0 hτ rfl rfl rfl ?_
        refine qa0 hτ rfl rfl rfl ?_
        refine qa4 rfl rfl ?_
        refine qa4 rfl rfl ?_
        refine qa4 rfl rfl ?_
        refine qa4 rfl rfl ?_
        refine qa4 rfl rfl ?_
        refine qa4 rfl rfl ?_
        refine qa4 rfl rfl ?_
        refine qap (qa5 [0,1] (l:=[(1,.d (.int .i64 bus_)),(2,.ptr 0 0),(4,.ptr 1 0),(22,.d (.bool true)),(29,.und)]) (objs:=[.box [.d (.cx .f32 f_.Source.A.re f_.Source.A.im),.d (.cx .f32 f_.Source.B.re f_.Source.B.im),.d (.cx .f32 f_.Source.C.re f_.Source.C.im),.d (.sl false (f_.qa9.map qaf))],.box [.d (.cx .f32 (0:Nat) (0:Nat)),.d (.cx .f32 (0:Nat) (0:Nat)),.d (.cx .f32 (0:Nat) (0:Nat)),.d (.nils)]]) rfl (by simp) rfl (by trivial) ⟨rfl,trivial,rfl,trivial,rfl,trivial,rfl,trivial,rfl,trivial,trivial⟩) ?_
        refine qa4 rfl rfl ?_
        refine qa4 rfl rfl ?_
        refine qa0 hτ rfl rfl rfl ?_
        refine qa6 ?_
        refine qab (qa5 [0,1] (l:=[(1,.d (.int .i64 bus_)),(2,.ptr 0 0),(4,.ptr 1 0),(32,.d (.bool true))]) (objs:=[.box [.d (.cx .f32 f_.Source.A.re f_.Source.A.im),.d (.cx .f32 f_.Source.B.re f_.Source.B.im),.d (.cx .f32 f_.Source.C.re f_.Source.C.im),.d (.sl false (f_.qa9.map qaf))],.box [.d (.cx .f32 (0:Nat) (0:Nat)),.d (.cx .f32 (0:Nat) (0:Nat)),.d (.cx .f32 (0:Nat) (0:Nat)),.d (.nils)]]) rfl (by simp) rfl (by trivial) ⟨rfl,trivial,rfl,trivial,rfl,trivial,rfl,trivial,trivial⟩) ?_
        exact hk78 true h
      · have hb80:=qhm hb80
        have h:=qcq h hb80
        refine qa0 hτ rfl rfl rfl ?_
        refine qa0 hτ (v:=.d (.bool (decide (bus_ = (0:Int))))) rfl rfl (qhu _ _) ?_
        refine qa0 hτ rfl rfl rfl ?_
        refine qa0 hτ rfl rfl rfl ?_
        refine qb4 16 rfl (fun hb81=>?_) (fun hb81=>?_)
        · have h:=if_t h hb81
          refine qa4 rfl rfl ?_
          refine qap (qa5 [0,1] (l:=[(1,.d (.int .i64 bus_)),(2,.ptr 0 0),(4,.ptr 1 0),(16,.d (.bool true)),(17,.und)]) (objs:=[.box [.d (.cx .f32 f_.Source.A.re f_.Source.A.im),.d (.cx .f32 f_.Source.B.re f_.Source.B.im),.d (.cx .f32 f_.Source.C.re f_.Source.C.im),.d (.sl false (f_.qa9.map qaf))],.box [.d (.cx .f32 (0:Nat) (0:Nat)),.d (.cx .f32 (0:Nat) (0:Nat)),.d (.cx .f32 (0:Nat) (0:Nat)),.d (.nils)]]) rfl (by simp) rfl (by trivial) ⟨rfl,trivial,rfl,trivial,rfl,trivial,rfl,trivial,rfl,trivial,trivial⟩) ?_
          refine qa4 rfl rfl ?_
          refine qa4 rfl rfl ?_
          refine qa4 rfl rfl ?_
          refine qa0 hτ rfl rfl rfl ?_
          refine qa0 hτ rfl rfl rfl ?_
          refine qa4 rfl rfl ?_
          refine qa4 rfl rfl ?_
          refine qa4 rfl rfl ?_
          refine qa4 rfl rfl ?_
          refine qa4 rfl rfl ?_
          refine qa4 rfl rfl ?_
          refine qa4 rfl rfl ?_
          refine qap (qa5 [0,1] (l:=[(1,.d (.int .i64 bus_)),(2,.ptr 0 0),(4,.ptr 1 0),(22,.d (.bool true)),(29,.und)]) (objs:=[.box [.d (.cx .f32 f_.Source.A.re f_.Source.A.im),.d (.cx .f32 f_.Source.B.re f_.Source.B.im),.d (.cx .f32 f_.Source.C.re f_.Source.C.im),.d (.sl false (f_.qa9.map qaf))],.box [.d (.cx .f32 (0:Nat) (0:Nat)),.d (.cx .f32 (0:Nat) (0:Nat)),.d (.cx .f32 (0:Nat) (0:Nat)),.d (.nils)]]) rfl (by simp) rfl (by trivial) ⟨rfl,trivial,rfl,trivial,rfl,trivial,rfl,trivial,rfl,trivial,trivial⟩) ?_
          refine qa4 rfl rfl ?_
          refine qa4 rfl rfl ?_
          refine qa0 hτ rfl rfl rfl ?_
          refine qa6 ?_
          refine qab (qa5 [0,1] (l:=[(1,.d (.int .i64 bus_)),(2,.ptr 0 0),(4,.ptr 1 0),(32,.d (.bool true))]) (objs:=[.box [.d (.cx .f32 f_.Source.A.re f_.Source.A.im),.d (.cx .f32 f_.Source.B.re f_.Source.B.im),.d (.cx .f32 f_.Source.C.re f_.Source.C.im),.d (.sl false (f_.qa9.map qaf))],.box [.d (.cx .f32 (0:Nat) (0:Nat)),.d (.cx .f32 (0:Nat) (0:Nat)),.d (.cx .f32 (0:Nat) (0:Nat)),.d (.nils)]]) rfl (by simp) rfl (by trivial) ⟨rfl,trivial,rfl,trivial,rfl,trivial,rfl,trivial,trivial⟩) ?_
          exact hk78 true h
        · have h:=if_f h hb81
          refine qa0 hτ rfl rfl rfl ?_
          refine qap (qa5 [0,1] (l:=[(1,.d (.int .i64 bus_)),(2,.ptr 0 0),(4,.ptr 1 0),(16,.d (.bool false)),(17,.d (.int .i64 bus_))]) (objs:=[.box [.d (.cx .f32 f_.Source.A.re f_.Source.A.im),.d (.cx .f32 f_.Source.B.re f_.Source.B.im),.d (.cx .f32 f_.Source.C.re f_.Source.C.im),.d (.sl false (f_.qa9.map qaf))],.box [.d (.cx .f32 (0:Nat) (0:Nat)),.d (.cx .f32 (0:Nat) (0:Nat)),.d (.cx .f32 (0:Nat) (0:Nat)),.d (.nils)]]) rfl (by simp) rfl (by trivial) ⟨rfl,trivial,rfl,trivial,rfl,trivial,rfl,trivial,rfl,trivial,trivial⟩) ?_
          refine qa0 hτ rfl rfl rfl ?_
          refine qac h fun x82 hx82 h=>?_
          refine qag hτ false [0] rfl rfl rfl (qai func57 rfl rfl) rfl rfl (by simp) ⟨trivial,trivial,trivial⟩ (by trivial) (qh0 n f_ (w64 (bus_ + (1:Int))) hx82) ?_
          rintro r0 o0 n0 ⟨rfl,rfl,rfl⟩ -
          refine qa0 hτ rfl rfl rfl ?_
          refine qa0 hτ rfl rfl rfl ?_
          refine qa0 hτ rfl rfl rfl ?_
          refine qb4 22 rfl (fun hb83=>?_) (fun hb83=>?_)
          · have hb83:=qhn hb83
            have h:=qcp h hb83
            refine qa4 rfl rfl ?_
            refine qa4 rfl rfl ?_
            refine qa4 rfl rfl ?_
            refine qa4 rfl rfl ?_
            refine qa4 rfl rfl ?_
            refine qa4 rfl rfl ?_
            refine qa4 rfl rfl ?_
            refine qap (qa5 [0,1] (l:=[(1,.d (.int .i64 bus_)),(2,.ptr 0 0),(4,.ptr 1 0),(22,.d (.bool true)),(29,.und)]) (objs:=[.box [.d (.cx .f32 f_.Source.A.re f_.Source.A.im),.d (.cx .f32 f_.Source.B.re f_.Source.B.im),.d (.cx .f32 f_.Source.C.re f_.Source.C.im),.d (.sl false (f_.qa9.map qaf))],.box [.d (.cx .f32 (0:Nat) (0:Nat)),.d (.cx .f32 (0:Nat) (0:Nat)),.d (.cx .f32 (0:Nat) (0:Nat)),.d (.nils)]]) rfl (by simp) rfl (by trivial) ⟨rfl,trivial,rfl,trivial,rfl,trivial,rfl,trivial,rfl,trivial,trivial⟩) ?_
            refine qa4 rfl rfl ?_
            refine qa4 rfl rfl ?_
            refine qa0 hτ rfl rfl rfl ?_
            refine qa6 ?_
            refine qab (qa5 [0,1] (l:=[(1,.d (.int .i64 bus_)),(2,.ptr 0 0),(4,.ptr 1 0),(32,.d (.bool true))]) (objs:=[.box [.d (.cx .f32 f_.Source.A.re f_.Source.A.im),.d (.cx .f32 f_.Source.B.re f_.Source.B.im),.d (.cx .f32 f_.Source.C.re f_.Source.C.im),.d (.sl false (f_.qa9.map qaf))],.box [.d (.cx .f32 (0:Nat) (0:Nat)),.d (.cx .f32 (0:Nat) (0:Nat)),.d (.cx .f32 (0:Nat) (0:Nat)),.d (.nils)]]) rfl (by simp) rfl (by trivial) ⟨rfl,trivial,rfl,trivial,rfl,trivial,rfl,trivial,trivial⟩) ?_
            exact hk78 true h
          · have hb83:=qhm hb83
            have h:=qcq h hb83
            refine qa0 hτ rfl rfl rfl ?_
            refine qa0 hτ rfl rfl rfl ?_
            refine qa0 hτ rfl rfl rfl ?_
            refine qa0 hτ rfl rfl rfl ?_
            refine qac h fun x84 hx84 h=>?_
            refine qfb hτ rfl rfl rfl (qd3 hx84).1 (qeu hx84) rfl ?_
            refine qa0 hτ rfl rfl rfl ?_
            refine qa0 hτ rfl rfl rfl ?_
            refine qap (qa5 [0,1] (l:=[(1,.d (.int .i64 bus_)),(2,.ptr 0 0),(4,.ptr 1 0),(22,.d (.bool false)),(29,.d (.int .i64 x84.qar))]) (objs:=[.box [.d (.cx .f32 f_.Source.A.re f_.Source.A.im),.d (.cx .f32 f_.Source.B.re f_.Source.B.im),.d (.cx .f32 f_.Source.C.re f_.Source.C.im),.d (.sl false (f_.qa9.map qaf))],.box [.d (.cx .f32 (0:Nat) (0:Nat)),.d (.cx .f32 (0:Nat) (0:Nat)),.d (.cx .f32 (0:Nat) (0:Nat)),.d (.nils)]]) rfl (by simp) rfl (by trivial) ⟨rfl,trivial,rfl,trivial,rfl,trivial,rfl,trivial,rfl,trivial,trivial⟩) ?_
            refine qa0 hτ rfl rfl rfl ?_
            refine qa0 hτ (v:=.d (.bool (decide (x84.qar = bus_)))) rfl rfl (qhu _ _) ?_
            refine qa0 hτ rfl rfl rfl ?_
            refine qa6 ?_
            refine qab (qa5 [0,1] (l:=[(1,.d (.int .i64 bus_)),(2,.ptr 0 0),(4,.ptr 1 0),(32,.d (.bool (decide (x84.qar = bus_))))]) (objs:=[.box [.d (.cx .f32 f_.Source.A.re f_.Source.A.im),.d (.cx .f32 f_.Source.B.re f_.Source.B.im),.d (.cx .f32 f_.Source.C.re f_.Source.C.im),.d (.sl false (f_.qa9.map qaf))],.box [.d (.cx .f32 (0:Nat) (0:Nat)),.d (.cx .f32 (0:Nat) (0:Nat)),.d (.cx .f32 (0:Nat) (0:Nat)),.d (.nils)]]) rfl (by simp) rfl (by trivial) ⟨rfl,trivial,rfl,trivial,rfl,trivial,rfl,trivial,trivial⟩) ?_
            exact hk78 (decide (x84.qar = bus_)) h
def qe9 (n:Nat) (n_:Int) (low_:Int) (high_:Int):Option Bool :=
  if n_ ≥ low_ then
    some (decide (n_ ≤ high_))
  else
    some false
theorem spec_l00In_ok_fr0 (fr:Bool) (n:Nat) (n_:Int) (low_:Int) (high_:Int) {r:Bool} (h:qe9 n n_ low_ high_ = some r):qb0 prog fr 87 [.d (.int .i64 n_),.d (.int .i64 low_),.d (.int .i64 high_)] [] (fun v o new=>v = .d (.bool r)∧o = []∧new = []):=by
  refine qal hτ func87 rfl (by simp) (by simp) ?_
  unfold qe9 at h
  refine qaa ?_
  refine qa2 ?_
  refine qa0 hτ rfl rfl rfl ?_
  refine qa6 ?_
  refine qaa ?_
  refine qa2 ?_
  refine qa0 hτ rfl rfl rfl ?_
  refine qa0 hτ rfl rfl rfl ?_
  refine qa0 hτ rfl rfl rfl ?_
  refine qa0 hτ rfl rfl rfl ?_
  refine qb4 10 rfl (fun hb3=>?_) (fun hb3=>?_)
  · have h:=if_t h hb3
    refine qa0 hτ rfl rfl rfl ?_
    refine qa0 hτ rfl rfl rfl ?_
    refine qa0 hτ rfl rfl rfl ?_
    refine qa0 hτ rfl rfl rfl ?_
    refine qa0 hτ rfl rfl rfl ?_
    refine qa6 ?_
    refine qab (qa5 [] (l:=[(6,.d (.bool (decide (n_ ≤ high_))))]) (objs:=[]) rfl (by simp) rfl (by trivial) ⟨rfl,trivial,trivial⟩) ?_
    refine qas ?_
    have hr:=Option.some.inj h
    subst hr
    exact qah (.inr rfl) [] (objs':=[]) (new:=[]) rfl (by simp) (by simp) rfl (by trivial) rfl rfl (by trivial) (fun _=>⟨by simp [V.flat,V.qbh,V.qb7,D.flat],qao⟩) ⟨rfl,rfl,rfl⟩
  · have h:=if_f h hb3
    refine qa4 rfl rfl ?_
    refine qa4 rfl rfl ?_
    refine qa4 rfl rfl ?_
    refine qa0 hτ rfl rfl rfl ?_
    refine qa0 hτ rfl rfl rfl ?_
    refine qa6 ?_
    refine qab (qa5 [] (l:=[(6,.d (.bool false))]) (objs:=[]) rfl (by simp) rfl (by trivial) ⟨rfl,trivial,trivial⟩) ?_
    refine qas ?_
    have hr:=Option.some.inj h
    subst hr
    exact qah (.inr rfl) [] (objs':=[]) (new:=[]) rfl (by simp) (by simp) rfl (by trivial) rfl rfl (by trivial) (fun _=>⟨by simp [V.flat,V.qbh,V.qb7,D.flat],qao⟩) ⟨rfl,rfl,rfl⟩
theorem qjj (n:Nat) (n_:Int) (low_:Int) (high_:Int) {r:Bool} (h:qe9 n n_ low_ high_ = some r):qb0 prog false 87 [.d (.int .i64 n_),.d (.int .i64 low_),.d (.int .i64 high_)] [] (fun v o new=>v = .d (.bool r)∧o = []∧new = []):=spec_l00In_ok_fr0 false n n_ low_ high_ h
def qgt (n:Nat) (b_:SBus) (index_:Int):Option Bool :=
  if index_ = (0:Int) then
    if b_.qar = (-1:Int) then
      if (fcmp .eql .f32 b_.Own.re (0:Nat) && fcmp .eql .f32 b_.Own.im (0:Nat)) = true then
        some (fcmp .eql .f32 b_.Shared.re (0:Nat) && fcmp .eql .f32 b_.Shared.im (0:Nat))
      else
        some false
    else
      some false
  else
    (qe9 n b_.qar (0:Int) (w64 (index_ - (1:Int)))).bind fun x21 =>
    some x21
def qfk (n:Nat) (b_:SBus) (index_:Int) (v27:Bool):Option Bool :=
  if v27 = true then
    some false
  else
    qgt n b_ index_
def qhh (n:Nat) (b_:SBus) (index_:Int):Option Bool :=
  (qe9 n b_.Kind (0:Int) (2:Int)).bind fun x30 =>
  if x30 = true then
    (qe9 n b_.qan (0:Int) (1000000:Int)).bind fun x32 =>
    qfk n b_ index_ (!x32)
  else
    qfk n b_ index_ true
theorem spec_l02Bus_ok_fr0 (fr:Bool) (n:Nat) (b_:SBus) (index_:Int) {r:Bool} (h:qhh n b_ index_ = some r):qb0 prog fr 131 [.rop [.int .i64 b_.qar,.cx .f32 b_.Own.re b_.Own.im,.cx .f32 b_.Shared.re b_.Shared.im,.int .i64 b_.Kind,.cx .f32 b_.Load.A.re b_.Load.A.im,.cx .f32 b_.Load.B.re b_.Load.B.im,.cx .f32 b_.Load.C.re b_.Load.C.im,.int .i64 b_.qan] 0,.d (.int .i64 index_)] [] (fun v o new=>v = .d (.bool r)∧o = []∧new = []):=by
  refine qal hτ func131 rfl (by simp) (by simp) ?_
  unfold qhh at h
  refine qaa ?_
  refine qa2 ?_
  refine qa0 hτ rfl rfl rfl ?_
  refine qa6 ?_
  refine qc7 (ι:=Unit) (fun _=>St.of [(0,.rop [.int .i64 b_.qar,.cx .f32 b_.Own.re b_.Own.im,.cx .f32 b_.Shared.re b_.Shared.im,.int .i64 b_.Kind,.cx .f32 b_.Load.A.re b_.Load.A.im,.cx .f32 b_.Load.B.re b_.Load.B.im,.cx .f32 b_.Load.C.re b_.Load.C.im,.int .i64 b_.qan] 0),(1,.d (.int .i64 index_))] [] f131.ntmps 0) (fun _=>qgt n b_ index_ = some r) ?_ (fun hk22=>?_)
  · rintro ⟨⟩ h
    replace h:qgt n b_ index_ = some r:=h
    unfold qgt at h
    refine qaa ?_
    refine qaa ?_
    refine qa2 ?_
    refine qa0 hτ rfl rfl rfl ?_
    refine qa0 hτ (v:=.d (.bool (decide (index_ = (0:Int))))) rfl rfl (qhu _ _) ?_
    refine qa6 ?_
    refine qaz rfl (fun hc18=>?_) (fun hc18=>?_)
    · have h:=if_t h hc18
      refine qaa ?_
      refine qa2 ?_
      refine qa0 hτ rfl rfl rfl ?_
      refine qa0 hτ rfl rfl rfl ?_
      refine qa0 hτ rfl rfl rfl ?_
      refine qa0 hτ rfl rfl rfl ?_
      refine qa0 hτ (v:=.d (.bool (decide (b_.qar = (-1:Int))))) rfl rfl (qhu _ _) ?_
      refine qa0 hτ rfl rfl rfl ?_
      refine qb4 26 rfl (fun hb19=>?_) (fun hb19=>?_)
      · have h:=if_t h hb19
        refine qa0 hτ rfl rfl rfl ?_
        refine qa0 hτ rfl rfl rfl ?_
        refine qa0 hτ rfl rfl rfl ?_
        refine qa0 hτ rfl rfl rfl ?_
        refine qap (qa5 [] (l:=[(0,.rop [.int .i64 b_.qar,.cx .f32 b_.Own.re b_.Own.im,.cx .f32 b_.Shared.re b_.Shared.im,.int .i64 b_.Kind,.cx .f32 b_.Load.A.re b_.Load.A.im,.cx .f32 b_.Load.B.re b_.Load.B.im,.cx .f32 b_.Load.C.re b_.Load.C.im,.int .i64 b_.qan] 0),(26,.d (.bool true)),(30,.d (.cx .f32 b_.Own.re b_.Own.im))]) (objs:=[]) rfl (by simp) rfl (by trivial) ⟨rfl,trivial,rfl,trivial,rfl,trivial,trivial⟩) ?_
        refine qa0 hτ rfl rfl rfl ?_
        refine qa0 hτ rfl rfl rfl ?_
        refine qa0 hτ rfl rfl rfl ?_
        refine qb4 33 rfl (fun hb20=>?_) (fun hb20=>?_)
        · have h:=qcq h hb20
          refine qa0 hτ rfl rfl rfl ?_
          refine qa0 hτ rfl rfl rfl ?_
          refine qa0 hτ rfl rfl rfl ?_
          refine qa0 hτ rfl rfl rfl ?_
          refine qa0 hτ rfl rfl rfl ?_
          refine qa0 hτ rfl rfl rfl ?_
          refine qa0 hτ rfl rfl rfl ?_
          refine qa6 ?_
          refine qab (qa5 [] (l:=[(4,.d (.bool (fcmp .eql .f32 b_.Shared.re (0:Nat) && fcmp .eql .f32 b_.Shared.im (0:Nat))))]) (objs:=[]) rfl (by simp) rfl (by trivial) ⟨rfl,trivial,trivial⟩) ?_
          refine qas ?_
          have hr:=Option.some.inj h
          subst hr
          exact qah (.inr rfl) [] (objs':=[]) (new:=[]) rfl (by simp) (by simp) rfl (by trivial) rfl rfl (by trivial) (fun _=>⟨by simp [V.flat,V.qbh,V.qb7,D.flat],qao⟩) ⟨rfl,rfl,rfl⟩
        · have h:=qcp h hb20
          refine qa4 rfl rfl ?_
          refine qa4 rfl rfl ?_
          refine qa4 rfl rfl ?_
          refine qa4 rfl rfl ?_
          refine qa4 rfl rfl ?_
          refine qa0 hτ rfl rfl rfl ?_
          refine qa0 hτ rfl rfl rfl ?_
          refine qa6 ?_
          refine qab (qa5 [] (l:=[(4,.d (.bool false))]) (objs:=[]) rfl (by simp) rfl (by trivial) ⟨rfl,trivial,trivial⟩) ?_
          refine qas ?_
          have hr:=Option.some.inj h
          subst hr
          exact qah (.inr rfl) [] (objs':=[]) (new:=[]) rfl (by simp) (by simp) rfl (by trivial) rfl rfl (by trivial) (fun _=>⟨by simp [V.flat,V.qbh,V.qb7,D.flat],qao⟩) ⟨rfl,rfl,rfl⟩
      · have h:=if_f h hb19
        refine qa4 rfl rfl ?_
        refine qa4 rfl rfl ?_
        refine qa4 rfl rfl ?_
        refine qa4 rfl rfl ?_
        refine qap (qa5 [] (l:=[(0,.rop [.int .i64 b_.qar,.cx .f32 b_.Own.re b_.Own.im,.cx .f32 b_.Shared.re b_.Shared.im,.int .i64 b_.Kind,.cx .f32 b_.Load.A.re b_.Load.A.im,.cx .f32 b_.Load.B.re b_.Load.B.im,.cx .f32 b_.Load.C.re b_.Load.C.im,.int .i64 b_.qan] 0),(26,.d (.bool false)),(30,.und)]) (objs:=[]) rfl (by simp) rfl (by trivial) ⟨rfl,trivial,rfl,trivial,rfl,trivial,trivial⟩) ?_
        refine qa4 rfl rfl ?_
        refine qa0 hτ rfl rfl rfl ?_
        refine qa0 hτ rfl rfl rfl ?_
        refine qa4 rfl rfl ?_
        refine qa4 rfl rfl ?_
        refine qa4 rfl rfl ?_
        refine qa4 rfl rfl ?_
        refine qa4 rfl rfl ?_
        refine qa0 hτ rfl rfl rfl ?_
        refine qa0 hτ rfl rfl rfl ?_
        refine qa6 ?_
        refine qab (qa5 [] (l:=[(4,.d (.bool false))]) (objs:=[]) rfl (by simp) rfl (by trivial) ⟨rfl,trivial,trivial⟩) ?_
        refine qas ?_
        have hr:=Option.some.inj h
        subst hr
        exact qah (.inr rfl) [] (objs':=[]) (new:=[]) rfl (by simp) (by simp) rfl (by trivial) rfl rfl (by trivial) (fun _=>⟨by simp [V.flat,V.qbh,V.qb7,D.flat],qao⟩) ⟨rfl,rfl,rfl⟩
    · have h:=if_f h hc18
      refine qb3 ?_
      refine qaa ?_
      refine qa2 ?_
      refine qa0 hτ rfl rfl rfl ?_
      refine qa0 hτ rfl rfl rfl ?_
      refine qa0 hτ rfl rfl rfl ?_
      refine qa0 hτ rfl rfl rfl ?_
      refine qa0 hτ rfl rfl rfl ?_
      refine qa0 hτ rfl rfl rfl ?_
      refine qac h fun x21 hx21 h=>?_
      refine qag hτ false [] rfl rfl rfl (qai func87 rfl rfl) rfl rfl (by simp) ⟨trivial,trivial,trivial,trivial⟩ (by trivial) (qjj n b_.qar (0:Int) (w64 (index_ - (1:Int))) hx21) ?_
      rintro r0 o0 n0 ⟨rfl,rfl,rfl⟩ -
      refine qa0 hτ rfl rfl rfl ?_
      refine qa6 ?_
      refine qab (qa5 [] (l:=[(4,.d (.bool x21))]) (objs:=[]) rfl (by simp) rfl (by trivial) ⟨rfl,trivial,trivial⟩) ?_
      refine qas ?_
      have hr:=Option.some.inj h
      subst hr
      exact qah (.inr rfl) [] (objs':=[]) (new:=[]) rfl (by simp) (by simp) rfl (by trivial) rfl rfl (by trivial) (fun _=>⟨by simp [V.flat,V.qbh,V.qb7,D.flat],qao⟩) ⟨rfl,rfl,rfl⟩
  · refine qaa ?_
    refine qc7 (ι:=Bool) (fun v27=>St.of [(0,.rop [.int .i64 b_.qar,.cx .f32 b_.Own.re b_.Own.im,.cx .f32 b_.Shared.re b_.Shared.im,.int .i64 b_.Kind,.cx .f32 b_.Load.A.re b_.Load.A.im,.cx .f32 b_.Load.B.re b_.Load.B.im,.cx .f32 b_.Load.C.re b_.Load.C.im,.int .i64 b_.qan] 0),(1,.d (.int .i64 index_)),(18,.d (.bool v27))] [] f131.ntmps 0) (fun v27=>qfk n b_ index_ v27 = some r) ?_ (fun hk29=>?_)
    · rintro v27 h
      replace h:qfk n b_ index_ v27 = some r:=h
      unfold qfk at h
      refine qaz rfl (fun hc28=>?_) (fun hc28=>?_)
      · have h:=qcq h hc28
        refine qaa ?_
        refine qa2 ?_
        refine qa0 hτ rfl rfl rfl ?_
        refine qa6 ?_
        refine qab (qa5 [] (l:=[(4,.d (.bool false))]) (objs:=[]) rfl (by simp) rfl (by trivial) ⟨rfl,trivial,trivial⟩) ?_
        refine qas ?_
        have hr:=Option.some.inj h
        subst hr
        exact qah (.inr rfl) [] (objs':=[]) (new:=[]) rfl (by simp) (by simp) rfl (by trivial) rfl rfl (by trivial) (fun _=>⟨by simp [V.flat,V.qbh,V.qb7,D.flat],qao⟩) ⟨rfl,rfl,rfl⟩
      · have h:=qcp h hc28
        refine qb3 ?_
        refine qab (qa5 [] (l:=[(0,.rop [.int .i64 b_.qar,.cx .f32 b_.Own.re b_.Own.im,.cx .f32 b_.Shared.re b_.Shared.im,.int .i64 b_.Kind,.cx .f32 b_.Load.A.re b_.Load.A.im,.cx .f32 b_.Load.B.re b_.Load.B.im,.cx .f32 b_.Load.C.re b_.Load.C.im,.int .i64 b_.qan] 0),(1,.d (.int .i64 index_))]) (objs:=[]) rfl (by simp) rfl (by trivial) ⟨rfl,trivial,rfl,trivial,trivial⟩) ?_
        exact hk22 () h
    · refine qaa ?_
      refine qa2 ?_
      refine qa0 hτ rfl rfl rfl ?_
      refine qa0 hτ rfl rfl rfl ?_
      refine qa0 hτ rfl rfl rfl ?_
      refine qa0 hτ rfl rfl rfl ?_
      refine qac h fun x30 hx30 h=>?_
      refine qag hτ false [] rfl rfl rfl (qai func87 rfl rfl) rfl rfl (by simp) ⟨trivial,trivial,trivial,trivial⟩ (by trivial) (qjj n b_.Kind (0:Int) (2:Int) hx30) ?_
      rintro r0 o0 n0 ⟨rfl,rfl,rfl⟩ -
      refine qa0 hτ rfl rfl rfl ?_
      refine qa0 hτ rfl rfl rfl ?_
      refine qb4 11 rfl (fun hb31=>?_) (fun hb31=>?_)
      · have hb31:=qhn hb31
        have h:=qcp h hb31
        refine qa4 rfl rfl ?_
        refine qa4 rfl rfl ?_
        refine qa4 rfl rfl ?_
        refine qa4 rfl rfl ?_
        refine qap (qa5 [] (l:=[(0,.rop [.int .i64 b_.qar,.cx .f32 b_.Own.re b_.Own.im,.cx .f32 b_.Shared.re b_.Shared.im,.int .i64 b_.Kind,.cx .f32 b_.Load.A.re b_.Load.A.im,.cx .f32 b_.Load.B.re b_.Load.B.im,.cx .f32 b_.Load.C.re b_.Load.C.im,.int .i64 b_.qan] 0),(1,.d (.int .i64 index_)),(11,.d (.bool true)),(15,.und)]) (objs:=[]) rfl (by simp) rfl (by trivial) ⟨rfl,trivial,rfl,trivial,rfl,trivial,rfl,trivial,trivial⟩) ?_
        refine qa4 rfl rfl ?_
        refine qa4 rfl rfl ?_
        refine qa0 hτ rfl rfl rfl ?_
        refine qa6 ?_
        refine qab (qa5 [] (l:=[(0,.rop [.int .i64 b_.qar,.cx .f32 b_.Own.re b_.Own.im,.cx .f32 b_.Shared.re b_.Shared.im,.int .i64 b_.Kind,.cx .f32 b_.Load.A.re b_.Load.A.im,.cx .f32 b_.Load.B.re b_.Load.B.im,.cx .f32 b_.Load.C.re b_.Load.C.im,.int .i64 b_.qan] 0),(1,.d (.int .i64 index_)),(18,.d (.bool true))]) (objs:=[]) rfl (by simp) rfl (by trivial) ⟨rfl,trivial,rfl,trivial,rfl,trivial,trivial⟩) ?_
        exact hk29 true h
      · have hb31:=qhm hb31
        have h:=qcq h hb31
        refine qa0 hτ rfl rfl rfl ?_
        refine qa0 hτ rfl rfl rfl ?_
        refine qa0 hτ rfl rfl rfl ?_
        refine qa0 hτ rfl rfl rfl ?_
        refine qap (qa5 [] (l:=[(0,.rop [.int .i64 b_.qar,.cx .f32 b_.Own.re b_.Own.im,.cx .f32 b_.Shared.re b_.Shared.im,.int .i64 b_.Kind,.cx .f32 b_.Load.A.re b_.Load.A.im,.cx .f32 b_.Load.B.re b_.Load.B.im,.cx .f32 b_.Load.C.re b_.Load.C.im,.int .i64 b_.qan] 0),(1,.d (.int .i64 index_)),(11,.d (.bool false)),(15,.d (.int .i64 b_.qan))]) (objs:=[]) rfl (by simp) rfl (by trivial) ⟨rfl,trivial,rfl,trivial,rfl,trivial,rfl,trivial,trivial⟩) ?_
        refine qac h fun x32 hx32 h=>?_
        refine qag hτ false [] rfl rfl rfl (qai func87 rfl rfl) rfl rfl (by simp) ⟨trivial,trivial,trivial,trivial⟩ (by trivial) (qjj n b_.qan (0:Int) (1000000:Int) hx32) ?_
        rintro r0 o0 n0 ⟨rfl,rfl,rfl⟩ -
        refine qa0 hτ rfl rfl rfl ?_
        refine qa0 hτ rfl rfl rfl ?_
        refine qa6 ?_
        refine qab (qa5 [] (l:=[(0,.rop [.int .i64 b_.qar,.cx .f32 b_.Own.re b_.Own.im,.cx .f32 b_.Shared.re b_.Shared.im,.int .i64 b_.Kind,.cx .f32 b_.Load.A.re b_.Load.A.im,.cx .f32 b_.Load.B.re b_.Load.B.im,.cx .f32 b_.Load.C.re b_.Load.C.im,.int .i64 b_.qan] 0),(1,.d (.int .i64 index_)),(18,.d (.bool (!x32)))]) (objs:=[]) rfl (by simp) rfl (by trivial) ⟨rfl,trivial,rfl,trivial,rfl,trivial,trivial⟩) ?_
        exact hk29 (!x32) h
theorem spec_l02Bus_ok (n:Nat) (b_:SBus) (index_:Int) {r:Bool} (h:qhh n b_ index_ = some r):qb0 prog false 131 [.rop [.int .i64 b_.qar,.cx .f32 b_.Own.re b_.Own.im,.cx .f32 b_.Shared.re b_.Shared.im,.int .i64 b_.Kind,.cx .f32 b_.Load.A.re b_.Load.A.im,.cx .f32 b_.Load.B.re b_.Load.B.im,.cx .f32 b_.Load.C.re b_.Load.C.im,.int .i64 b_.qan] 0,.d (.int .i64 index_)] [] (fun v o new=>v = .d (.bool r)∧o = []∧new = []):=spec_l02Bus_ok_fr0 false n b_ index_ h
def qef (n:Nat) (f_:qam):Nat→Int→Option Bool
  | 0,_=>none
  | m17 + 1,v13 =>
    if v13 < (f_.qa9.length:Int) then
      (getI f_.qa9 v13).bind fun x22 =>
      (qhh n x22 v13).bind fun x23 =>
      if x23 = true then
        (qef n f_ m17) (w64 (v13 + (1:Int)))
      else
        some false
    else
      some true
def qig (n:Nat) (f_:qam):Option Bool :=
  qef n f_ n (0:Int)
def qg7 (n:Nat) (f_:qam) (v28:Bool):Option Bool :=
  if v28 = true then
    some false
  else
    qig n f_
def qj3 (n:Nat) (f_:qam):Option Bool :=
  if (f_.qa9.length:Int) < (1:Int) then
    qg7 n f_ true
  else
    qg7 n f_ (decide ((f_.qa9.length:Int) > (16:Int)))
theorem spec_l02Is_ok (n:Nat) (f_:qam) {r:Bool} (h:qj3 n f_ = some r):qb0 prog false 86 [.ptr 0 0] [.box [.d (.cx .f32 f_.Source.A.re f_.Source.A.im),.d (.cx .f32 f_.Source.B.re f_.Source.B.im),.d (.cx .f32 f_.Source.C.re f_.Source.C.im),.d (.sl false (f_.qa9.map qaf))]] (fun v o new=>v = .d (.bool r)∧o = [.box [.d (.cx .f32 f_.Source.A.re f_.Source.A.im),.d (.cx .f32 f_.Source.B.re f_.Source.B.im),.d (.cx .f32 f_.Source.C.re f_.Source.C.im),.d (.sl false (f_.qa9.map qaf))]]∧new = []):=by
  refine qal hτ func86 rfl (by simp) (by simp) ?_
  unfold qj3 at h
  refine qaa ?_
  refine qa2 ?_
  refine qa0 hτ rfl rfl rfl ?_
  refine qa6 ?_
  refine qc7 (ι:=Unit) (fun _=>St.of [(0,.ptr 0 0)] [.box [.d (.cx .f32 f_.Source.A.re f_.Source.A.im),.d (.cx .f32 f_.Source.B.re f_.Source.B.im),.d (.cx .f32 f_.Source.C.re f_.Source.C.im),.d (.sl false (f_.qa9.map qaf))]] f86.ntmps 1) (fun _=>qig n f_ = some r) ?_ (fun hk25=>?_)
  · rintro ⟨⟩ h
    replace h:qig n f_ = some r:=h
    unfold qig at h
    refine qaa ?_
    refine qaa ?_
    refine qa2 ?_
    refine qa0 hτ rfl rfl rfl ?_
    refine qa6 ?_
    refine qba ?_
    refine qfd (ι:=Nat × Int) (fun (m17,v13)=>St.of [(0,.ptr 0 0),(3,.d (.int .i64 v13))] [.box [.d (.cx .f32 f_.Source.A.re f_.Source.A.im),.d (.cx .f32 f_.Source.B.re f_.Source.B.im),.d (.cx .f32 f_.Source.C.re f_.Source.C.im),.d (.sl false (f_.qa9.map qaf))]] f86.ntmps 1) (fun (m17,v13)=>qef n f_ m17 v13 = some r) (fun x=>x.1) (n,(0:Int)) h (qa5 [0] (l:=[(0,.ptr 0 0),(3,.d (.int .i64 (0:Int)))]) (objs:=[.box [.d (.cx .f32 f_.Source.A.re f_.Source.A.im),.d (.cx .f32 f_.Source.B.re f_.Source.B.im),.d (.cx .f32 f_.Source.C.re f_.Source.C.im),.d (.sl false (f_.qa9.map qaf))]]) rfl (by simp) rfl (by trivial) ⟨rfl,trivial,rfl,trivial,trivial⟩) ?_
    rintro ⟨m17,v13⟩ h
    replace h:qef n f_ m17 v13 = some r:=h
    rcases m17 with _ | m17
    · rw [qef] at h;cases h
    rw [qef] at h
    refine qaa ?_
    refine qaa ?_
    refine qa2 ?_
    refine qa0 hτ rfl rfl rfl ?_
    refine qa0 hτ rfl rfl rfl ?_
    refine qa0 hτ rfl rfl rfl ?_
    refine qa0 hτ rfl rfl rfl ?_
    refine qa0 hτ rfl rfl rfl ?_
    refine qa0 hτ (v:=.d (.int .i64 (f_.qa9.length:Int))) rfl rfl (Eq.trans rfl (qfx (f:=qaf) f_.qa9)) ?_
    refine qa0 hτ rfl rfl rfl ?_
    refine qa6 ?_
    refine qab (qa5 [0] (l:=[(0,.ptr 0 0),(3,.d (.int .i64 v13)),(24,.d (.bool (decide (v13 < (f_.qa9.length:Int)))))]) (objs:=[.box [.d (.cx .f32 f_.Source.A.re f_.Source.A.im),.d (.cx .f32 f_.Source.B.re f_.Source.B.im),.d (.cx .f32 f_.Source.C.re f_.Source.C.im),.d (.sl false (f_.qa9.map qaf))]]) rfl (by simp) rfl (by trivial) ⟨rfl,trivial,rfl,trivial,rfl,trivial,trivial⟩) ?_
    refine qaz rfl (fun hc19=>?_) (fun hc19=>?_)
    · have h:=if_t h hc19
      refine qb3 ?_
      refine qaa ?_
      refine qba ?_
      refine qaa ?_
      refine qa2 ?_
      refine qa0 hτ rfl rfl rfl ?_
      refine qa0 hτ rfl rfl rfl ?_
      refine qa0 hτ rfl rfl rfl ?_
      refine qa0 hτ rfl rfl rfl ?_
      refine qa0 hτ rfl rfl rfl ?_
      refine qac h fun x22 hx22 h=>?_
      refine qfb hτ rfl rfl rfl (qd3 hx22).1 (qeu hx22) rfl ?_
      refine qa0 hτ rfl rfl rfl ?_
      refine qac h fun x23 hx23 h=>?_
      refine qag hτ false [] rfl rfl rfl (qai func131 rfl rfl) rfl rfl (by simp) ⟨trivial,trivial,trivial⟩ (by trivial) (spec_l02Bus_ok n x22 v13 hx23) ?_
      rintro r0 o0 n0 ⟨rfl,rfl,rfl⟩ -
      refine qa0 hτ rfl rfl rfl ?_
      refine qa6 ?_
      refine qab (qa5 [0] (l:=[(0,.ptr 0 0),(3,.d (.int .i64 v13)),(35,.d (.bool (!x23)))]) (objs:=[.box [.d (.cx .f32 f_.Source.A.re f_.Source.A.im),.d (.cx .f32 f_.Source.B.re f_.Source.B.im),.d (.cx .f32 f_.Source.C.re f_.Source.C.im),.d (.sl false (f_.qa9.map qaf))]]) rfl (by simp) rfl (by trivial) ⟨rfl,trivial,rfl,trivial,rfl,trivial,trivial⟩) ?_
      refine qaz rfl (fun hc24=>?_) (fun hc24=>?_)
      · have hc24:=qhn hc24
        have h:=qcp h hc24
        refine qaa ?_
        refine qa2 ?_
        refine qa0 hτ rfl rfl rfl ?_
        refine qa6 ?_
        refine qab (qa5 [0] (l:=[(2,.d (.bool false))]) (objs:=[.box [.d (.cx .f32 f_.Source.A.re f_.Source.A.im),.d (.cx .f32 f_.Source.B.re f_.Source.B.im),.d (.cx .f32 f_.Source.C.re f_.Source.C.im),.d (.sl false (f_.qa9.map qaf))]]) rfl (by simp) rfl (by trivial) ⟨rfl,trivial,trivial⟩) ?_
        refine qas ?_
        have hr:=Option.some.inj h
        subst hr
        exact qah (.inr rfl) [] (objs':=[.box [.d (.cx .f32 f_.Source.A.re f_.Source.A.im),.d (.cx .f32 f_.Source.B.re f_.Source.B.im),.d (.cx .f32 f_.Source.C.re f_.Source.C.im),.d (.sl false (f_.qa9.map qaf))]]) (new:=[]) rfl (by simp) (by simp) rfl (by trivial) rfl rfl (by trivial) (fun h=>nomatch h) ⟨rfl,rfl,rfl⟩
      · have hc24:=qhm hc24
        have h:=qcq h hc24
        refine qb3 ?_
        refine qa2 ?_
        refine qa0 hτ rfl rfl rfl ?_
        refine qa0 hτ rfl rfl rfl ?_
        refine qa0 hτ rfl rfl rfl ?_
        refine qa6 ?_
        exact ⟨(m17,(w64 (v13 + (1:Int)))),h,Nat.lt_succ_self m17,(qa5 [0] (l:=[(0,.ptr 0 0),(3,.d (.int .i64 (w64 (v13 + (1:Int)))))]) (objs:=[.box [.d (.cx .f32 f_.Source.A.re f_.Source.A.im),.d (.cx .f32 f_.Source.B.re f_.Source.B.im),.d (.cx .f32 f_.Source.C.re f_.Source.C.im),.d (.sl false (f_.qa9.map qaf))]]) rfl (by simp) rfl (by trivial) ⟨rfl,trivial,rfl,trivial,trivial⟩)⟩
    · have h:=if_f h hc19
      refine qfc ?_
      refine qaa ?_
      refine qa2 ?_
      refine qa0 hτ rfl rfl rfl ?_
      refine qa6 ?_
      refine qab (qa5 [0] (l:=[(2,.d (.bool true))]) (objs:=[.box [.d (.cx .f32 f_.Source.A.re f_.Source.A.im),.d (.cx .f32 f_.Source.B.re f_.Source.B.im),.d (.cx .f32 f_.Source.C.re f_.Source.C.im),.d (.sl false (f_.qa9.map qaf))]]) rfl (by simp) rfl (by trivial) ⟨rfl,trivial,trivial⟩) ?_
      refine qas ?_
      have hr:=Option.some.inj h
      subst hr
      exact qah (.inr rfl) [] (objs':=[.box [.d (.cx .f32 f_.Source.A.re f_.Source.A.im),.d (.cx .f32 f_.Source.B.re f_.Source.B.im),.d (.cx .f32 f_.Source.C.re f_.Source.C.im),.d (.sl false (f_.qa9.map qaf))]]) (new:=[]) rfl (by simp) (by simp) rfl (by trivial) rfl rfl (by trivial) (fun h=>nomatch h) ⟨rfl,rfl,rfl⟩
  · refine qaa ?_
    refine qc7 (ι:=Bool) (fun v28=>St.of [(0,.ptr 0 0),(17,.d (.bool v28))] [.box [.d (.cx .f32 f_.Source.A.re f_.Source.A.im),.d (.cx .f32 f_.Source.B.re f_.Source.B.im),.d (.cx .f32 f_.Source.C.re f_.Source.C.im),.d (.sl false (f_.qa9.map qaf))]] f86.ntmps 1) (fun v28=>qg7 n f_ v28 = some r) ?_ (fun hk30=>?_)
    · rintro v28 h
      replace h:qg7 n f_ v28 = some r:=h
      unfold qg7 at h
      refine qaz rfl (fun hc29=>?_) (fun hc29=>?_)
      · have h:=qcq h hc29
        refine qaa ?_
        refine qa2 ?_
        refine qa0 hτ rfl rfl rfl ?_
        refine qa6 ?_
        refine qab (qa5 [0] (l:=[(2,.d (.bool false))]) (objs:=[.box [.d (.cx .f32 f_.Source.A.re f_.Source.A.im),.d (.cx .f32 f_.Source.B.re f_.Source.B.im),.d (.cx .f32 f_.Source.C.re f_.Source.C.im),.d (.sl false (f_.qa9.map qaf))]]) rfl (by simp) rfl (by trivial) ⟨rfl,trivial,trivial⟩) ?_
        refine qas ?_
        have hr:=Option.some.inj h
        subst hr
        exact qah (.inr rfl) [] (objs':=[.box [.d (.cx .f32 f_.Source.A.re f_.Source.A.im),.d (.cx .f32 f_.Source.B.re f_.Source.B.im),.d (.cx .f32 f_.Source.C.re f_.Source.C.im),.d (.sl false (f_.qa9.map qaf))]]) (new:=[]) rfl (by simp) (by simp) rfl (by trivial) rfl rfl (by trivial) (fun h=>nomatch h) ⟨rfl,rfl,rfl⟩
      · have h:=qcp h hc29
        refine qb3 ?_
        refine qab (qa5 [0] (l:=[(0,.ptr 0 0)]) (objs:=[.box [.d (.cx .f32 f_.Source.A.re f_.Source.A.im),.d (.cx .f32 f_.Source.B.re f_.Source.B.im),.d (.cx .f32 f_.Source.C.re f_.Source.C.im),.d (.sl false (f_.qa9.map qaf))]]) rfl (by simp) rfl (by trivial) ⟨rfl,trivial,trivial⟩) ?_
        exact hk25 () h
    · refine qaa ?_
      refine qa2 ?_
      refine qa0 hτ rfl rfl rfl ?_
      refine qa0 hτ rfl rfl rfl ?_
      refine qa0 hτ rfl rfl rfl ?_
      refine qa0 hτ rfl rfl rfl ?_
      refine qa0 hτ (v:=.d (.int .i64 (f_.qa9.length:Int))) rfl rfl (Eq.trans rfl (qfx (f:=qaf) f_.qa9)) ?_
      refine qa0 hτ rfl rfl rfl ?_
      refine qa0 hτ rfl rfl rfl ?_
      refine qb4 10 rfl (fun hb31=>?_) (fun hb31=>?_)
      · have h:=if_t h hb31
        refine qa4 rfl rfl ?_
        refine qa4 rfl rfl ?_
        refine qa4 rfl rfl ?_
        refine qa4 rfl rfl ?_
        refine qap (qa5 [0] (l:=[(0,.ptr 0 0),(10,.d (.bool true)),(14,.und)]) (objs:=[.box [.d (.cx .f32 f_.Source.A.re f_.Source.A.im),.d (.cx .f32 f_.Source.B.re f_.Source.B.im),.d (.cx .f32 f_.Source.C.re f_.Source.C.im),.d (.sl false (f_.qa9.map qaf))]]) rfl (by simp) rfl (by trivial) ⟨rfl,trivial,rfl,trivial,rfl,trivial,trivial⟩) ?_
        refine qa4 rfl rfl ?_
        refine qa4 rfl rfl ?_
        refine qa0 hτ rfl rfl rfl ?_
        refine qa6 ?_
        refine qab (qa5 [0] (l:=[(0,.ptr 0 0),(17,.d (.bool true))]) (objs:=[.box [.d (.cx .f32 f_.Source.A.re f_.Source.A.im),.d (.cx .f32 f_.Source.B.re f_.Source.B.im),.d (.cx .f32 f_.Source.C.re f_.Source.C.im),.d (.sl false (f_.qa9.map qaf))]]) rfl (by simp) rfl (by trivial) ⟨rfl,trivial,rfl,trivial,trivial⟩) ?_
        exact hk30 true h
      · have h:=if_f h hb31
        refine qa0 hτ rfl rfl rfl ?_
        refine qa0 hτ rfl rfl rfl ?_
        refine qa0 hτ rfl rfl rfl ?_
        refine qa0 hτ rfl rfl rfl ?_
        refine qap (qa5 [0] (l:=[(0,.ptr 0 0),(10,.d (.bool false)),(14,.d (.sl false (f_.qa9.map qaf)))]) (objs:=[.box [.d (.cx .f32 f_.Source.A.re f_.Source.A.im),.d (.cx .f32 f_.Source.B.re f_.Source.B.im),.d (.cx .f32 f_.Source.C.re f_.Source.C.im),.d (.sl false (f_.qa9.map qaf))]]) rfl (by simp) rfl (by trivial) ⟨rfl,trivial,rfl,trivial,rfl,trivial,trivial⟩) ?_
        refine qa0 hτ (v:=.d (.int .i64 (f_.qa9.length:Int))) rfl rfl (Eq.trans rfl (qfx (f:=qaf) f_.qa9)) ?_
        refine qa0 hτ rfl rfl rfl ?_
        refine qa0 hτ rfl rfl rfl ?_
        refine qa6 ?_
        refine qab (qa5 [0] (l:=[(0,.ptr 0 0),(17,.d (.bool (decide ((f_.qa9.length:Int) > (16:Int)))))]) (objs:=[.box [.d (.cx .f32 f_.Source.A.re f_.Source.A.im),.d (.cx .f32 f_.Source.B.re f_.Source.B.im),.d (.cx .f32 f_.Source.C.re f_.Source.C.im),.d (.sl false (f_.qa9.map qaf))]]) rfl (by simp) rfl (by trivial) ⟨rfl,trivial,rfl,trivial,trivial⟩) ?_
        exact hk30 (decide ((f_.qa9.length:Int) > (16:Int))) h
def qgi (n:Nat) (f_:qam) (v43:List SBus):Option (qam × Bool) :=
  some ((qam.mk f_.Source v43),true)
def qdh (n:Nat) (k56:List SBus→Int→Option (qam × Bool)) (v49:Int) (v61:List SBus):Option (qam × Bool) :=
  k56 v61 (w64 (v49 + (1:Int)))
def qbu (n:Nat) (f_:qam) (bus_:Int) (x29:SBus) (x31:SBus):Nat→List SBus→Int→Option (qam × Bool)
  | 0,_,_=>none
  | m55 + 1,v48,v49 =>
    if v49 < ((((([]:List SBus) ++ f_.qa9).set bus_.toNat x29).set (w64 (bus_ + (1:Int))).toNat x31).length:Int) then
      (getI v48 v49).bind fun x63 =>
      if x63.qar = bus_ then
        qdh n (qbu n f_ bus_ x29 x31 m55) v49 (v48.set v49.toNat (SBus.mk (w64 (bus_ + (1:Int))) x63.Own x63.Shared x63.Kind x63.Load x63.qan))
      else
        if x63.qar = (w64 (bus_ + (1:Int))) then
          qdh n (qbu n f_ bus_ x29 x31 m55) v49 (v48.set v49.toNat (SBus.mk bus_ x63.Own x63.Shared x63.Kind x63.Load x63.qan))
        else
          qdh n (qbu n f_ bus_ x29 x31 m55) v49 v48
    else
      qgi n f_ v48
def qf5 (n:Nat) (f_:qam) (bus_:Int):Option (qam × Bool) :=
  (getI f_.qa9 (w64 (bus_ + (1:Int)))).bind fun x29 =>
  (getI (([]:List SBus) ++ f_.qa9) bus_).bind fun x30 =>
  (getI f_.qa9 bus_).bind fun x31 =>
  (getI ((([]:List SBus) ++ f_.qa9).set bus_.toNat x29) (w64 (bus_ + (1:Int)))).bind fun x32 =>
  qbu n f_ bus_ x29 x31 n (((([]:List SBus) ++ f_.qa9).set bus_.toNat x29).set (w64 (bus_ + (1:Int))).toNat x31) (0:Int)
def qf4 (n:Nat) (f_:qam) (bus_:Int):Option (qam × Bool) :=
  grd (room (([]:List SBus).length + f_.qa9.length) 64) <|
  qf5 n f_ bus_
def qcb (n:Nat) (f_:qam) (bus_:Int) (v75:Bool):Option (qam × Bool) :=
  if v75 = true then
    some ((qam.mk (qa7.mk (Cx.mk (0:Nat) (0:Nat)) (Cx.mk (0:Nat) (0:Nat)) (Cx.mk (0:Nat) (0:Nat))) ([]:List SBus)),false)
  else
    qf4 n f_ bus_
def qd1 (n:Nat) (f_:qam) (bus_:Int):Option (qam × Bool) :=
  (qj3 n f_).bind fun x78 =>
  if x78 = true then
    (qe9 n bus_ (1:Int) (w64 ((f_.qa9.length:Int) - (2:Int)))).bind fun x80 =>
    if x80 = true then
      (getI f_.qa9 (w64 (bus_ + (1:Int)))).bind fun x82 =>
      qcb n f_ bus_ (decide (x82.qar = bus_))
    else
      qcb n f_ bus_ true
  else
    qcb n f_ bus_ true
theorem spec_SwapBuses_ok_fr0 (fr:Bool) (n:Nat) (f_:qam) (bus_:Int) {r:qam × Bool} (h:qd1 n f_ bus_ = some r):qb0 prog fr 38 [.agg [.d (.cx .f32 f_.Source.A.re f_.Source.A.im),.d (.cx .f32 f_.Source.B.re f_.Source.B.im),.d (.cx .f32 f_.Source.C.re f_.Source.C.im),.d (.sl false (f_.qa9.map qaf))],.d (.int .i64 bus_)] [] (fun v o new=>v = .tup [.agg [.d (.cx .f32 r.1.Source.A.re r.1.Source.A.im),.d (.cx .f32 r.1.Source.B.re r.1.Source.B.im),.d (.cx .f32 r.1.Source.C.re r.1.Source.C.im),.row 0 r.1.qa9.length 0 r.1.qa9.length],.d (.bool r.2)]∧o = []∧new = [.row 8 (r.1.qa9.map qaf)]):=by
  refine qal hτ func38 rfl (by simp) (by simp) ?_
  unfold qd1 at h
  refine qaa ?_
  refine qa2 ?_
  refine qak hτ rfl rfl rfl ?_
  refine qak hτ rfl rfl rfl ?_
  refine qa0 hτ rfl rfl rfl ?_
  refine qa6 ?_
  refine qc7 (ι:=Unit) (fun _=>St.of [(1,.d (.int .i64 bus_)),(2,.ptr 0 0),(4,.ptr 1 0)] [.box [.d (.cx .f32 f_.Source.A.re f_.Source.A.im),.d (.cx .f32 f_.Source.B.re f_.Source.B.im),.d (.cx .f32 f_.Source.C.re f_.Source.C.im),.d (.sl false (f_.qa9.map qaf))],.box [.d (.cx .f32 (0:Nat) (0:Nat)),.d (.cx .f32 (0:Nat) (0:Nat)),.d (.cx .f32 (0:Nat) (0:Nat)),.d (.nils)]] f38.ntmps 0) (fun _=>qf4 n f_ bus_ = some r) ?_ (fun hk68=>?_)
  · rintro ⟨⟩ h
    replace h:qf4 n f_ bus_ = some r:=h
    unfold qf4 at h
    refine qc7 (ι:=Unit) (fun _=>St.of [(1,.d (.int .i64 bus_)),(2,.ptr 0 0),(4,.ptr 1 0),(6,.ptr 2 0)] [.box [.d (.cx .f32 f_.Source.A.re f_.Source.A.im),.d (.cx .f32 f_.Source.B.re f_.Source.B.im),.d (.cx .f32 f_.Source.C.re f_.Source.C.im),.d (.sl false (f_.qa9.map qaf))],.box [.d (.cx .f32 (0:Nat) (0:Nat)),.d (.cx .f32 (0:Nat) (0:Nat)),.d (.cx .f32 (0:Nat) (0:Nat)),.d (.nils)],.box [.d (.cx .f32 f_.Source.A.re f_.Source.A.im),.d (.cx .f32 f_.Source.B.re f_.Source.B.im),.d (.cx .f32 f_.Source.C.re f_.Source.C.im),.row 3 ((([]:List SBus) ++ f_.qa9).length) 0 ((([]:List SBus) ++ f_.qa9).length)],.row 8 ((([]:List SBus) ++ f_.qa9).map qaf)] f38.ntmps 0) (fun _=>qf5 n f_ bus_ = some r) ?_ (fun hk66=>?_)
    · rintro ⟨⟩ h
      replace h:qf5 n f_ bus_ = some r:=h
      unfold qf5 at h
      refine qaa ?_
      refine qcv ?_
      refine qad hτ [2] 0 rfl rfl rfl rfl rfl ?_
      refine qad hτ [2] 1 rfl rfl rfl rfl rfl ?_
      refine qad hτ [] 2 rfl rfl rfl rfl rfl ?_
      refine qad hτ [0] 3 rfl rfl rfl rfl rfl ?_
      refine qad hτ [0] 4 rfl rfl rfl rfl rfl ?_
      refine qad hτ [] 5 rfl rfl rfl rfl rfl ?_
      refine qad hτ [] 6 rfl rfl rfl rfl rfl ?_
      refine qac h fun x29 hx29 h=>?_
      refine qg1 hτ [] 7 rfl rfl rfl rfl rfl (qd3 hx29).1 (qeu hx29) rfl ?_
      refine qad hτ [] 8 rfl rfl rfl rfl rfl ?_
      refine qac h fun x30 hx30 h=>?_
      refine qfa hτ [3] 9 rfl rfl rfl rfl rfl (qdb hx30) ?_
      refine qij hτ [0,1,2] 10 rfl rfl rfl rfl (qb5 _) (qe0 hx30) (qj9 (f:=qaf) (l:=(([]:List SBus) ++ f_.qa9)) (i:=bus_) (y:=x29) rfl) ⟨rfl,rfl,rfl,trivial⟩ ?_
      refine qd4 mixed (by kernel_rfl) ?_
      refine qaa ?_
      refine qab (qa5 [0,1,2,3] (l:=[(1,.d (.int .i64 bus_)),(2,.ptr 0 0),(4,.ptr 1 0),(6,.ptr 2 0)]) (objs:=[.box [.d (.cx .f32 f_.Source.A.re f_.Source.A.im),.d (.cx .f32 f_.Source.B.re f_.Source.B.im),.d (.cx .f32 f_.Source.C.re f_.Source.C.im),.d (.sl false (f_.qa9.map qaf))],.box [.d (.cx .f32 (0:Nat) (0:Nat)),.d (.cx .f32 (0:Nat) (0:Nat)),.d (.cx .f32 (0:Nat) (0:Nat)),.d (.nils)],.box [.d (.cx .f32 f_.Source.A.re f_.Source.A.im),.d (.cx .f32 f_.Source.B.re f_.Source.B.im),.d (.cx .f32 f_.Source.C.re f_.Source.C.im),.row 3 (((([]:List SBus) ++ f_.qa9).set bus_.toNat x29).length) 0 (((([]:List SBus) ++ f_.qa9).set bus_.toNat x29).length)],.row 8 (((([]:List SBus) ++ f_.qa9).set bus_.toNat x29).map qaf)]) rfl (by simp) (qaj rfl (qaj rfl (qaj (qkc (qaj rfl (qaj rfl (qaj rfl (qaj (qk4 rfl (by simp)) qcc))))) (qaj rfl qcc)))) ⟨(by trivial),(by trivial),⟨trivial,trivial,trivial,trivial⟩,trivial,trivial⟩ ⟨rfl,trivial,rfl,trivial,rfl,trivial,rfl,trivial,trivial⟩) ?_
      refine qcv ?_
      refine qad hτ [2] 0 rfl rfl rfl rfl rfl ?_
      refine qad hτ [2] 1 rfl rfl rfl rfl rfl ?_
      refine qad hτ [] 2 rfl rfl rfl rfl rfl ?_
      refine qad hτ [] 3 rfl rfl rfl rfl rfl ?_
      refine qad hτ [0] 4 rfl rfl rfl rfl rfl ?_
      refine qad hτ [0] 5 rfl rfl rfl rfl rfl ?_
      refine qad hτ [] 6 rfl rfl rfl rfl rfl ?_
      refine qac h fun x31 hx31 h=>?_
      refine qg1 hτ [] 7 rfl rfl rfl rfl rfl (qd3 hx31).1 (qeu hx31) rfl ?_
      refine qad hτ [] 8 rfl rfl rfl rfl rfl ?_
      refine qac h fun x32 hx32 h=>?_
      refine qfa hτ [3] 9 rfl rfl rfl rfl rfl (qdb hx32) ?_
      refine qij hτ [0,1,2] 10 rfl rfl rfl rfl (qb5 _) (qe0 hx32) (qj9 (f:=qaf) (l:=((([]:List SBus) ++ f_.qa9).set bus_.toNat x29)) (i:=(w64 (bus_ + (1:Int)))) (y:=x31) rfl) ⟨rfl,rfl,rfl,trivial⟩ ?_
      refine qd4 mixed (by kernel_rfl) ?_
      refine qc7 (ι:=List SBus) (fun v43=>St.of [(4,.ptr 0 0),(6,.ptr 1 0)] [.box [.d (.cx .f32 (0:Nat) (0:Nat)),.d (.cx .f32 (0:Nat) (0:Nat)),.d (.cx .f32 (0:Nat) (0:Nat)),.d (.nils)],.box [.d (.cx .f32 f_.Source.A.re f_.Source.A.im),.d (.cx .f32 f_.Source.B.re f_.Source.B.im),.d (.cx .f32 f_.Source.C.re f_.Source.C.im),.row 2 v43.length 0 v43.length],.row 8 (v43.map qaf)] f38.ntmps 0) (fun v43=>qgi n f_ v43 = some r) ?_ (fun hk44=>?_)
      · rintro v43 h
        replace h:qgi n f_ v43 = some r:=h
        unfold qgi at h
        refine qaa ?_
        refine qa2 ?_
        refine qa0 hτ rfl rfl rfl ?_
        refine qak hτ rfl rfl rfl ?_
        refine qa0 hτ rfl rfl rfl ?_
        refine qa6 ?_
        refine qab (qa5 [0,2] (l:=[(4,.ptr 0 0),(5,.d (.bool true))]) (objs:=[.box [.d (.cx .f32 f_.Source.A.re f_.Source.A.im),.d (.cx .f32 f_.Source.B.re f_.Source.B.im),.d (.cx .f32 f_.Source.C.re f_.Source.C.im),.row 1 v43.length 0 v43.length],.row 8 (v43.map qaf)]) rfl (by simp) rfl (by trivial) ⟨rfl,trivial,rfl,trivial,trivial⟩) ?_
        refine qas ?_
        have hr:=Option.some.inj h
        subst hr
        exact qah (.inr rfl) [1] (objs':=[]) (new:=[.row 8 (v43.map qaf)]) rfl (by simp) (by simp) rfl (by trivial) rfl rfl (by trivial) (fun _=>⟨by simp [V.flat,V.qbh,V.qb7,D.flat],(qcr (qfl qjk _) qao)⟩) ⟨rfl,rfl,rfl⟩
      · refine qaa ?_
        refine qaa ?_
        refine qab (qa5 [1,2,3] (l:=[(1,.d (.int .i64 bus_)),(4,.ptr 0 0),(6,.ptr 1 0)]) (objs:=[.box [.d (.cx .f32 (0:Nat) (0:Nat)),.d (.cx .f32 (0:Nat) (0:Nat)),.d (.cx .f32 (0:Nat) (0:Nat)),.d (.nils)],.box [.d (.cx .f32 f_.Source.A.re f_.Source.A.im),.d (.cx .f32 f_.Source.B.re f_.Source.B.im),.d (.cx .f32 f_.Source.C.re f_.Source.C.im),.row 2 ((((([]:List SBus) ++ f_.qa9).set bus_.toNat x29).set (w64 (bus_ + (1:Int))).toNat x31).length) 0 ((((([]:List SBus) ++ f_.qa9).set bus_.toNat x29).set (w64 (bus_ + (1:Int))).toNat x31).length)],.row 8 ((((([]:List SBus) ++ f_.qa9).set bus_.toNat x29).set (w64 (bus_ + (1:Int))).toNat x31).map qaf)]) rfl (by simp) (qaj rfl (qaj (qkc (qaj rfl (qaj rfl (qaj rfl (qaj (qk4 rfl (by simp)) qcc))))) (qaj rfl qcc))) ⟨(by trivial),⟨trivial,trivial,trivial,trivial⟩,trivial,trivial⟩ ⟨rfl,trivial,rfl,trivial,rfl,trivial,trivial⟩) ?_
        refine qa2 ?_
        refine qa0 hτ rfl rfl rfl ?_
        refine qa0 hτ rfl rfl rfl ?_
        refine qbl hτ rfl rfl rfl (qb5 _) ?_
        refine qa0 hτ rfl rfl rfl ?_
        refine qa6 ?_
        refine qba ?_
        refine qfd (ι:=Nat × List SBus × Int) (fun (m55,v48,v49)=>St.of [(1,.d (.int .i64 bus_)),(4,.ptr 0 0),(6,.ptr 1 0),(60,.d (.int .i64 ((((([]:List SBus) ++ f_.qa9).set bus_.toNat x29).set (w64 (bus_ + (1:Int))).toNat x31).length:Int))),(61,.d (.int .i64 v49))] [.box [.d (.cx .f32 (0:Nat) (0:Nat)),.d (.cx .f32 (0:Nat) (0:Nat)),.d (.cx .f32 (0:Nat) (0:Nat)),.d (.nils)],.box [.d (.cx .f32 f_.Source.A.re f_.Source.A.im),.d (.cx .f32 f_.Source.B.re f_.Source.B.im),.d (.cx .f32 f_.Source.C.re f_.Source.C.im),.row 2 v48.length 0 v48.length],.row 8 (v48.map qaf)] f38.ntmps 0) (fun (m55,v48,v49)=>qbu n f_ bus_ x29 x31 m55 v48 v49 = some r) (fun x=>x.1) (n,(((([]:List SBus) ++ f_.qa9).set bus_.toNat x29).set (w64 (bus_ + (1:Int))).toNat x31),(0:Int)) h (qa5 [0,1,2] (l:=[(1,.d (.int .i64 bus_)),(4,.ptr 0 0),(6,.ptr 1 0),(60,.d (.int .i64 ((((([]:List SBus) ++ f_.qa9).set bus_.toNat x29).set (w64 (bus_ + (1:Int))).toNat x31).length:Int))),(61,.d (.int .i64 (0:Int)))]) (objs:=[.box [.d (.cx .f32 (0:Nat) (0:Nat)),.d (.cx .f32 (0:Nat) (0:Nat)),.d (.cx .f32 (0:Nat) (0:Nat)),.d (.nils)],.box [.d (.cx .f32 f_.Source.A.re f_.Source.A.im),.d (.cx .f32 f_.Source.B.re f_.Source.B.im),.d (.cx .f32 f_.Source.C.re f_.Source.C.im),.row 2 ((((([]:List SBus) ++ f_.qa9).set bus_.toNat x29).set (w64 (bus_ + (1:Int))).toNat x31).length) 0 ((((([]:List SBus) ++ f_.qa9).set bus_.toNat x29).set (w64 (bus_ + (1:Int))).toNat x31).length)],.row 8 ((((([]:List SBus) ++ f_.qa9).set bus_.toNat x29).set (w64 (bus_ + (1:Int))).toNat x31).map qaf)]) rfl (by simp) rfl (by trivial) ⟨rfl,trivial,rfl,trivial,rfl,trivial,rfl,trivial,rfl,trivial,trivial⟩) ?_
        rintro ⟨m55,v48,v49⟩ h
        replace h:qbu n f_ bus_ x29 x31 m55 v48 v49 = some r:=h
        rcases m55 with _ | m55
        · rw [qbu] at h;cases h
        rw [qbu] at h
        refine qaa ?_
        refine qa2 ?_
        refine qa0 hτ rfl rfl rfl ?_
        refine qa6 ?_
        refine qaa ?_
        refine qaz rfl (fun hc57=>?_) (fun hc57=>?_)
        · have h:=if_t h hc57
          refine qb3 ?_
          refine qc7 (ι:=List SBus) (fun v61=>St.of [(1,.d (.int .i64 bus_)),(4,.ptr 0 0),(6,.ptr 1 0),(60,.d (.int .i64 ((((([]:List SBus) ++ f_.qa9).set bus_.toNat x29).set (w64 (bus_ + (1:Int))).toNat x31).length:Int))),(61,.d (.int .i64 v49))] [.box [.d (.cx .f32 (0:Nat) (0:Nat)),.d (.cx .f32 (0:Nat) (0:Nat)),.d (.cx .f32 (0:Nat) (0:Nat)),.d (.nils)],.box [.d (.cx .f32 f_.Source.A.re f_.Source.A.im),.d (.cx .f32 f_.Source.B.re f_.Source.B.im),.d (.cx .f32 f_.Source.C.re f_.Source.C.im),.row 2 v61.length 0 v61.length],.row 8 (v61.map qaf)] f38.ntmps 0) (fun v61=>qdh n (qbu n f_ bus_ x29 x31 m55) v49 v61 = some r) ?_ (fun hk62=>?_)
          · rintro v61 h
            replace h:qdh n (qbu n f_ bus_ x29 x31 m55) v49 v61 = some r:=h
            unfold qdh at h
            refine qa2 ?_
            refine qa0 hτ rfl rfl rfl ?_
            refine qa0 hτ rfl rfl rfl ?_
            refine qa6 ?_
            exact ⟨(m55,v61,(w64 (v49 + (1:Int)))),h,Nat.lt_succ_self m55,(qa5 [0,1,2] (l:=[(1,.d (.int .i64 bus_)),(4,.ptr 0 0),(6,.ptr 1 0),(60,.d (.int .i64 ((((([]:List SBus) ++ f_.qa9).set bus_.toNat x29).set (w64 (bus_ + (1:Int))).toNat x31).length:Int))),(61,.d (.int .i64 (w64 (v49 + (1:Int)))))]) (objs:=[.box [.d (.cx .f32 (0:Nat) (0:Nat)),.d (.cx .f32 (0:Nat) (0:Nat)),.d (.cx .f32 (0:Nat) (0:Nat)),.d (.nils)],.box [.d (.cx .f32 f_.Source.A.re f_.Source.A.im),.d (.cx .f32 f_.Source.B.re f_.Source.B.im),.d (.cx .f32 f_.Source.C.re f_.Source.C.im),.row 2 v61.length 0 v61.length],.row 8 (v61.map qaf)]) rfl (by simp) rfl (by trivial) ⟨rfl,trivial,rfl,trivial,rfl,trivial,rfl,trivial,rfl,trivial,trivial⟩)⟩
          · refine qaa ?_
            refine qba ?_
            refine qaa ?_
            refine qa2 ?_
            refine qa0 hτ rfl rfl rfl ?_
            refine qa0 hτ rfl rfl rfl ?_
            refine qa6 ?_
            refine qaa ?_
            refine qa2 ?_
            refine qa0 hτ rfl rfl rfl ?_
            refine qa0 hτ rfl rfl rfl ?_
            refine qa0 hτ rfl rfl rfl ?_
            refine qac h fun x63 hx63 h=>?_
            refine qbl hτ rfl rfl rfl (qdb hx63) ?_
            refine qbl hτ rfl rfl rfl (qb5 _) ?_
            refine qfb hτ rfl rfl rfl (qb5 _) (qe0 hx63) rfl ?_
            refine qa6 ?_
            refine qba ?_
            refine qaa ?_
            refine qab (qa5 [0,1,2] (l:=[(1,.d (.int .i64 bus_)),(4,.ptr 0 0),(6,.ptr 1 0),(7,.d (.int .i64 v49)),(60,.d (.int .i64 ((((([]:List SBus) ++ f_.qa9).set bus_.toNat x29).set (w64 (bus_ + (1:Int))).toNat x31).length:Int))),(61,.d (.int .i64 v49)),(69,.d (.int .i64 x63.qar))]) (objs:=[.box [.d (.cx .f32 (0:Nat) (0:Nat)),.d (.cx .f32 (0:Nat) (0:Nat)),.d (.cx .f32 (0:Nat) (0:Nat)),.d (.nils)],.box [.d (.cx .f32 f_.Source.A.re f_.Source.A.im),.d (.cx .f32 f_.Source.B.re f_.Source.B.im),.d (.cx .f32 f_.Source.C.re f_.Source.C.im),.row 2 v48.length 0 v48.length],.row 8 (v48.map qaf)]) rfl (by simp) rfl (by trivial) ⟨rfl,trivial,rfl,trivial,rfl,trivial,rfl,trivial,rfl,trivial,rfl,trivial,rfl,trivial,trivial⟩) ?_
            refine qa2 ?_
            refine qa0 hτ rfl rfl rfl ?_
            refine qa0 hτ (v:=.d (.bool (decide (x63.qar = bus_)))) rfl rfl (qhu _ _) ?_
            refine qa0 hτ rfl rfl rfl ?_
            refine qa6 ?_
            refine qaz rfl (fun hc64=>?_) (fun hc64=>?_)
            · have h:=if_t h hc64
              refine qa2 ?_
              refine qa0 hτ rfl rfl rfl ?_
              refine qa0 hτ rfl rfl rfl ?_
              refine qa0 hτ rfl rfl rfl ?_
              refine qa0 hτ rfl rfl rfl ?_
              refine qa0 hτ rfl rfl rfl ?_
              refine qbl hτ rfl rfl rfl (qdb hx63) ?_
              refine qbl hτ rfl rfl rfl (qb5 _) ?_
              refine ql9 hτ rfl rfl rfl (qb5 _) (qe0 hx63) (qj9 (f:=qaf) (l:=v48) (i:=v49) (y:=(SBus.mk (w64 (bus_ + (1:Int))) x63.Own x63.Shared x63.Kind x63.Load x63.qan)) rfl) ?_
              refine qa6 ?_
              refine qab (qa5 [0,1,2] (l:=[(1,.d (.int .i64 bus_)),(4,.ptr 0 0),(6,.ptr 1 0),(60,.d (.int .i64 ((((([]:List SBus) ++ f_.qa9).set bus_.toNat x29).set (w64 (bus_ + (1:Int))).toNat x31).length:Int))),(61,.d (.int .i64 v49))]) (objs:=[.box [.d (.cx .f32 (0:Nat) (0:Nat)),.d (.cx .f32 (0:Nat) (0:Nat)),.d (.cx .f32 (0:Nat) (0:Nat)),.d (.nils)],.box [.d (.cx .f32 f_.Source.A.re f_.Source.A.im),.d (.cx .f32 f_.Source.B.re f_.Source.B.im),.d (.cx .f32 f_.Source.C.re f_.Source.C.im),.row 2 ((v48.set v49.toNat (SBus.mk (w64 (bus_ + (1:Int))) x63.Own x63.Shared x63.Kind x63.Load x63.qan)).length) 0 ((v48.set v49.toNat (SBus.mk (w64 (bus_ + (1:Int))) x63.Own x63.Shared x63.Kind x63.Load x63.qan)).length)],.row 8 ((v48.set v49.toNat (SBus.mk (w64 (bus_ + (1:Int))) x63.Own x63.Shared x63.Kind x63.Load x63.qan)).map qaf)]) rfl (by simp) (qaj rfl (qaj (qkc (qaj rfl (qaj rfl (qaj rfl (qaj (qk4 rfl (by simp)) qcc))))) (qaj rfl qcc))) ⟨(by trivial),⟨trivial,trivial,trivial,trivial⟩,trivial,trivial⟩ ⟨rfl,trivial,rfl,trivial,rfl,trivial,rfl,trivial,rfl,trivial,trivial⟩) ?_
              exact hk62 (v48.set v49.toNat (SBus.mk (w64 (bus_ + (1:Int))) x63.Own x63.Shared x63.Kind x63.Load x63.qan)) h
            · have h:=if_f h hc64
              refine qaa ?_
              refine qa2 ?_
              refine qa0 hτ rfl rfl rfl ?_
              refine qa0 hτ rfl rfl rfl ?_
              refine qa0 hτ (v:=.d (.bool (decide (x63.qar = (w64 (bus_ + (1:Int))))))) rfl rfl (qhu _ _) ?_
              refine qa0 hτ rfl rfl rfl ?_
              refine qa6 ?_
              refine qab (qa5 [0,1,2] (l:=[(1,.d (.int .i64 bus_)),(4,.ptr 0 0),(6,.ptr 1 0),(7,.d (.int .i64 v49)),(60,.d (.int .i64 ((((([]:List SBus) ++ f_.qa9).set bus_.toNat x29).set (w64 (bus_ + (1:Int))).toNat x31).length:Int))),(61,.d (.int .i64 v49)),(80,.d (.bool (decide (x63.qar = (w64 (bus_ + (1:Int)))))))]) (objs:=[.box [.d (.cx .f32 (0:Nat) (0:Nat)),.d (.cx .f32 (0:Nat) (0:Nat)),.d (.cx .f32 (0:Nat) (0:Nat)),.d (.nils)],.box [.d (.cx .f32 f_.Source.A.re f_.Source.A.im),.d (.cx .f32 f_.Source.B.re f_.Source.B.im),.d (.cx .f32 f_.Source.C.re f_.Source.C.im),.row 2 v48.length 0 v48.length],.row 8 (v48.map qaf)]) rfl (by simp) rfl (by trivial) ⟨rfl,trivial,rfl,trivial,rfl,trivial,rfl,trivial,rfl,trivial,rfl,trivial,rfl,trivial,trivial⟩) ?_
              refine qaz rfl (fun hc65=>?_) (fun hc65=>?_)
              · have h:=if_t h hc65
                refine qa2 ?_
                refine qa0 hτ rfl rfl rfl ?_
                refine qa0 hτ rfl rfl rfl ?_
                refine qa0 hτ rfl rfl rfl ?_
                refine qa0 hτ rfl rfl rfl ?_
                refine qbl hτ rfl rfl rfl (qdb hx63) ?_
                refine qbl hτ rfl rfl rfl (qb5 _) ?_
                refine ql9 hτ rfl rfl rfl (qb5 _) (qe0 hx63) (qj9 (f:=qaf) (l:=v48) (i:=v49) (y:=(SBus.mk bus_ x63.Own x63.Shared x63.Kind x63.Load x63.qan)) rfl) ?_
                refine qa6 ?_
                refine qab (qa5 [0,1,2] (l:=[(1,.d (.int .i64 bus_)),(4,.ptr 0 0),(6,.ptr 1 0),(60,.d (.int .i64 ((((([]:List SBus) ++ f_.qa9).set bus_.toNat x29).set (w64 (bus_ + (1:Int))).toNat x31).length:Int))),(61,.d (.int .i64 v49))]) (objs:=[.box [.d (.cx .f32 (0:Nat) (0:Nat)),.d (.cx .f32 (0:Nat) (0:Nat)),.d (.cx .f32 (0:Nat) (0:Nat)),.d (.nils)],.box [.d (.cx .f32 f_.Source.A.re f_.Source.A.im),.d (.cx .f32 f_.Source.B.re f_.Source.B.im),.d (.cx .f32 f_.Source.C.re f_.Source.C.im),.row 2 ((v48.set v49.toNat (SBus.mk bus_ x63.Own x63.Shared x63.Kind x63.Load x63.qan)).length) 0 ((v48.set v49.toNat (SBus.mk bus_ x63.Own x63.Shared x63.Kind x63.Load x63.qan)).length)],.row 8 ((v48.set v49.toNat (SBus.mk bus_ x63.Own x63.Shared x63.Kind x63.Load x63.qan)).map qaf)]) rfl (by simp) (qaj rfl (qaj (qkc (qaj rfl (qaj rfl (qaj rfl (qaj (qk4 rfl (by simp)) qcc))))) (qaj rfl qcc))) ⟨(by trivial),⟨trivial,trivial,trivial,trivial⟩,trivial,trivial⟩ ⟨rfl,trivial,rfl,trivial,rfl,trivial,rfl,trivial,rfl,trivial,trivial⟩) ?_
                exact hk62 (v48.set v49.toNat (SBus.mk bus_ x63.Own x63.Shared x63.Kind x63.Load x63.qan)) h
              · have h:=if_f h hc65
                refine qb3 ?_
                refine qab (qa5 [0,1,2] (l:=[(1,.d (.int .i64 bus_)),(4,.ptr 0 0),(6,.ptr 1 0),(60,.d (.int .i64 ((((([]:List SBus) ++ f_.qa9).set bus_.toNat x29).set (w64 (bus_ + (1:Int))).toNat x31).length:Int))),(61,.d (.int .i64 v49))]) (objs:=[.box [.d (.cx .f32 (0:Nat) (0:Nat)),.d (.cx .f32 (0:Nat) (0:Nat)),.d (.cx .f32 (0:Nat) (0:Nat)),.d (.nils)],.box [.d (.cx .f32 f_.Source.A.re f_.Source.A.im),.d (.cx .f32 f_.Source.B.re f_.Source.B.im),.d (.cx .f32 f_.Source.C.re f_.Source.C.im),.row 2 v48.length 0 v48.length],.row 8 (v48.map qaf)]) rfl (by simp) rfl (by trivial) ⟨rfl,trivial,rfl,trivial,rfl,trivial,rfl,trivial,rfl,trivial,trivial⟩) ?_
                exact hk62 v48 h
        · have h:=if_f h hc57
          refine qfc ?_
          refine qab (qa5 [0,1,2] (l:=[(4,.ptr 0 0),(6,.ptr 1 0)]) (objs:=[.box [.d (.cx .f32 (0:Nat) (0:Nat)),.d (.cx .f32 (0:Nat) (0:Nat)),.d (.cx .f32 (0:Nat) (0:Nat)),.d (.nils)],.box [.d (.cx .f32 f_.Source.A.re f_.Source.A.im),.d (.cx .f32 f_.Source.B.re f_.Source.B.im),.d (.cx .f32 f_.Source.C.re f_.Source.C.im),.row 2 v48.length 0 v48.length],.row 8 (v48.map qaf)]) rfl (by simp) rfl (by trivial) ⟨rfl,trivial,rfl,trivial,trivial⟩) ?_
          exact hk44 v48 h
    · refine qaa ?_
      refine qph mixed ?_
      refine qad hτ [0] 0 rfl rfl rfl rfl rfl ?_
      refine qad hτ [0] 1 rfl rfl rfl rfl rfl ?_
      refine qad hτ [0] 3 rfl rfl rfl rfl rfl ?_
      refine qad hτ [0] 4 rfl rfl rfl rfl rfl ?_
      refine qln [2,7] (by kernel_rfl) fun _ hfs=>⟨?_,?_,trivial⟩
      · refine qcd hτ [0,1] 2 rfl rfl rfl rfl ⟨rfl,rfl,trivial⟩ ?_
        refine qg2 hfs (by kernel_rfl) fun _=>?_
        refine qln [5,7] (by kernel_rfl) fun _ hfs=>⟨?_,?_,trivial⟩
        · refine qd6 h fun hg67 h=>?_
          refine qg3 hτ [0,1] 5 rfl rfl rfl (Eq.trans rfl (or_append (f:=qaf) ([]:List SBus) f_.qa9 rfl)) ⟨trivial,qb5 _,rfl,rfl,(qlu (f:=qaf) hg67),by decide,(qkb (f:=qaf) (fun _=>rfl) _)⟩ ⟨rfl,rfl,trivial⟩ ?_
          refine qg2 hfs (by kernel_rfl) fun _=>?_
          refine qad hτ [] 6 rfl rfl rfl rfl rfl ?_
          refine qcd hτ [0,1,2] 7 rfl rfl rfl rfl ⟨rfl,rfl,rfl,trivial⟩ ?_
          refine qcd hτ [0,1,2] 8 rfl rfl rfl rfl ⟨rfl,rfl,rfl,trivial⟩ ?_
          refine qib (by kernel_rfl) ?_
          refine qab (qa5 [0,1,3,2] (l:=[(1,.d (.int .i64 bus_)),(2,.ptr 0 0),(4,.ptr 1 0),(6,.ptr 2 0)]) (objs:=[.box [.d (.cx .f32 f_.Source.A.re f_.Source.A.im),.d (.cx .f32 f_.Source.B.re f_.Source.B.im),.d (.cx .f32 f_.Source.C.re f_.Source.C.im),.d (.sl false (f_.qa9.map qaf))],.box [.d (.cx .f32 (0:Nat) (0:Nat)),.d (.cx .f32 (0:Nat) (0:Nat)),.d (.cx .f32 (0:Nat) (0:Nat)),.d (.nils)],.box [.d (.cx .f32 f_.Source.A.re f_.Source.A.im),.d (.cx .f32 f_.Source.B.re f_.Source.B.im),.d (.cx .f32 f_.Source.C.re f_.Source.C.im),.row 3 ((([]:List SBus) ++ f_.qa9).length) 0 ((([]:List SBus) ++ f_.qa9).length)],.row 8 ((([]:List SBus) ++ f_.qa9).map qaf)]) rfl (by simp) rfl (by trivial) ⟨rfl,trivial,rfl,trivial,rfl,trivial,rfl,trivial,trivial⟩) ?_
          exact hk66 () h
        · refine qcd hτ [0,1,2] 7 rfl rfl rfl rfl ⟨rfl,rfl,rfl,trivial⟩ ?_
          refine qg2 hfs (by kernel_rfl) fun _=>?_
          refine qd6 h fun hg67 h=>?_
          refine qg3 hτ [0,1,3] 5 rfl rfl rfl (Eq.trans rfl (or_append (f:=qaf) ([]:List SBus) f_.qa9 rfl)) ⟨trivial,qb5 _,rfl,rfl,(qlu (f:=qaf) hg67),by decide,(qkb (f:=qaf) (fun _=>rfl) _)⟩ ⟨rfl,rfl,rfl,trivial⟩ ?_
          refine qad hτ [] 6 rfl rfl rfl rfl rfl ?_
          refine qcd hτ [0,1,2] 8 rfl rfl rfl rfl ⟨rfl,rfl,rfl,trivial⟩ ?_
          refine qib (by kernel_rfl) ?_
          refine qab (qa5 [0,1,3,2] (l:=[(1,.d (.int .i64 bus_)),(2,.ptr 0 0),(4,.ptr 1 0),(6,.ptr 2 0)]) (objs:=[.box [.d (.cx .f32 f_.Source.A.re f_.Source.A.im),.d (.cx .f32 f_.Source.B.re f_.Source.B.im),.d (.cx .f32 f_.Source.C.re f_.Source.C.im),.d (.sl false (f_.qa9.map qaf))],.box [.d (.cx .f32 (0:Nat) (0:Nat)),.d (.cx .f32 (0:Nat) (0:Nat)),.d (.cx .f32 (0:Nat) (0:Nat)),.d (.nils)],.box [.d (.cx .f32 f_.Source.A.re f_.Source.A.im),.d (.cx .f32 f_.Source.B.re f_.Source.B.im),.d (.cx .f32 f_.Source.C.re f_.Source.C.im),.row 3 ((([]:List SBus) ++ f_.qa9).length) 0 ((([]:List SBus) ++ f_.qa9).length)],.row 8 ((([]:List SBus) ++ f_.qa9).map qaf)]) rfl (by simp) rfl (by trivial) ⟨rfl,trivial,rfl,trivial,rfl,trivial,rfl,trivial,trivial⟩) ?_
          exact hk66 () h
      · refine qcd hτ [0,1] 7 rfl rfl rfl rfl ⟨rfl,rfl,trivial⟩ ?_
        refine qg2 hfs (by kernel_rfl) fun _=>?_
        refine qcd hτ [0,1,2] 2 rfl rfl rfl rfl ⟨rfl,rfl,rfl,trivial⟩ ?_
        refine qd6 h fun hg67 h=>?_
        refine qg3 hτ [0,1,2] 5 rfl rfl rfl (Eq.trans rfl (or_append (f:=qaf) ([]:List SBus) f_.qa9 rfl)) ⟨trivial,qb5 _,rfl,rfl,(qlu (f:=qaf) hg67),by decide,(qkb (f:=qaf) (fun _=>rfl) _)⟩ ⟨rfl,rfl,rfl,trivial⟩ ?_
        refine qad hτ [] 6 rfl rfl rfl rfl rfl ?_
        refine qcd hτ [0,1,3] 8 rfl rfl rfl rfl ⟨rfl,rfl,rfl,trivial⟩ ?_
        refine qib (by kernel_rfl) ?_
        refine qab (qa5 [0,1,2,3] (l:=[(1,.d (.int .i64 bus_)),(2,.ptr 0 0),(4,.ptr 1 0),(6,.ptr 2 0)]) (objs:=[.box [.d (.cx .f32 f_.Source.A.re f_.Source.A.im),.d (.cx .f32 f_.Source.B.re f_.Source.B.im),.d (.cx .f32 f_.Source.C.re f_.Source.C.im),.d (.sl false (f_.qa9.map qaf))],.box [.d (.cx .f32 (0:Nat) (0:Nat)),.d (.cx .f32 (0:Nat) (0:Nat)),.d (.cx .f32 (0:Nat) (0:Nat)),.d (.nils)],.box [.d (.cx .f32 f_.Source.A.re f_.Source.A.im),.d (.cx .f32 f_.Source.B.re f_.Source.B.im),.d (.cx .f32 f_.Source.C.re f_.Source.C.im),.row 3 ((([]:List SBus) ++ f_.qa9).length) 0 ((([]:List SBus) ++ f_.qa9).length)],.row 8 ((([]:List SBus) ++ f_.qa9).map qaf)]) rfl (by simp) rfl (by trivial) ⟨rfl,trivial,rfl,trivial,rfl,trivial,rfl,trivial,trivial⟩) ?_
        exact hk66 () h
  · refine qaa ?_
    refine qc7 (ι:=Bool) (fun v75=>St.of [(1,.d (.int .i64 bus_)),(2,.ptr 0 0),(4,.ptr 1 0),(29,.d (.bool v75))] [.box [.d (.cx .f32 f_.Source.A.re f_.Source.A.im),.d (.cx .f32 f_.Source.B.re f_.Source.B.im),.d (.cx .f32 f_.Source.C.re f_.Source.C.im),.d (.sl false (f_.qa9.map qaf))],.box [.d (.cx .f32 (0:Nat) (0:Nat)),.d (.cx .f32 (0:Nat) (0:Nat)),.d (.cx .f32 (0:Nat) (0:Nat)),.d (.nils)]] f38.ntmps 0) (fun v75=>qcb n f_ bus_ v75 = some r) ?_ (fun hk77=>?_)
    · rintro v75 h
      replace h:qcb n f_ bus_ v75 = some r:=h
      unfold qcb at h
      refine qaz rfl (fun hc76=>?_) (fun hc76=>?_)
      · have h:=qcq h hc76
        refine qaa ?_
        refine qa2 ?_
        refine qa0 hτ rfl rfl rfl ?_
        refine qak hτ rfl rfl rfl ?_
        refine qa0 hτ rfl rfl rfl ?_
        refine qa6 ?_
        refine qab (qa5 [1] (l:=[(4,.ptr 0 0),(5,.d (.bool false))]) (objs:=[.box [.d (.cx .f32 (0:Nat) (0:Nat)),.d (.cx .f32 (0:Nat) (0:Nat)),.d (.cx .f32 (0:Nat) (0:Nat)),.d (.nils)]]) rfl (by simp) rfl (by trivial) ⟨rfl,trivial,rfl,trivial,trivial⟩) ?_
        refine qab (qhl [8] (l':=[(4,.ptr 0 0),(5,.d (.bool false))]) (objs':=[.box [.d (.cx .f32 (0:Nat) (0:Nat)),.d (.cx .f32 (0:Nat) (0:Nat)),.d (.cx .f32 (0:Nat) (0:Nat)),.row 1 (([]:List SBus).length) 0 (([]:List SBus).length)]]) (.cons (.c (.refl _)) (.cons (.c (.refl _)) .nil)) (.cons (.box (.cons (.refl _) (.cons (.refl _) (.cons (.refl _) (.cons (.ghost ⟨Nat.le_of_ble_eq_true rfl,Nat.le_of_ble_eq_true rfl⟩) .nil))))) .nil)) ?_
        refine qas ?_
        have hr:=Option.some.inj h
        subst hr
        exact qah (.inr rfl) [1] (objs':=[]) (new:=[.row 8 (([]:List SBus).map qaf)]) rfl (by simp) (by simp) rfl (by trivial) rfl rfl (by trivial) (fun _=>⟨by simp [V.flat,V.qbh,V.qb7,D.flat],(qcr (qfl qjk _) qao)⟩) ⟨rfl,rfl,rfl⟩
      · have h:=qcp h hc76
        refine qb3 ?_
        refine qab (qa5 [0,1] (l:=[(1,.d (.int .i64 bus_)),(2,.ptr 0 0),(4,.ptr 1 0)]) (objs:=[.box [.d (.cx .f32 f_.Source.A.re f_.Source.A.im),.d (.cx .f32 f_.Source.B.re f_.Source.B.im),.d (.cx .f32 f_.Source.C.re f_.Source.C.im),.d (.sl false (f_.qa9.map qaf))],.box [.d (.cx .f32 (0:Nat) (0:Nat)),.d (.cx .f32 (0:Nat) (0:Nat)),.d (.cx .f32 (0:Nat) (0:Nat)),.d (.nils)]]) rfl (by simp) rfl (by trivial) ⟨rfl,trivial,rfl,trivial,rfl,trivial,trivial⟩) ?_
        exact hk68 () h
    · refine qaa ?_
      refine qa2 ?_
      refine qac h fun x78 hx78 h=>?_
      refine qag hτ false [0] rfl rfl rfl (qai func86 rfl rfl) rfl rfl (by simp) ⟨trivial,trivial⟩ (by trivial) (spec_l02Is_ok n f_ hx78) ?_
      rintro r0 o0 n0 ⟨rfl,rfl,rfl⟩ -
      refine qa0 hτ rfl rfl rfl ?_
      refine qa0 hτ rfl rfl rfl ?_
      refine qb4 10 rfl (fun hb79=>?_) (fun hb79=>?_)
      · have hb79:=qhn hb79
        have h:=qcp h hb79
        refine qa4 rfl rfl ?_
        refine qa4 rfl rfl ?_
        refine qa4 rfl rfl ?_
        refine qa4 rfl rfl ?_
        refine qa4 rfl rfl ?_
        refine qa4 rfl rfl ?_
        refine qap (qa5 [0,1] (l:=[(1,.d (.int .i64 bus_)),(2,.ptr 0 0),(4,.ptr 1 0),(10,.d (.bool true)),(16,.und)]) (objs:=[.box [.d (.cx .f32 f_.Source.A.re f_.Source.A.im),.d (.cx .f32 f_.Source.B.re f_.Source.B.im),.d (.cx .f32 f_.Source.C.re f_.Source.C.im),.d (.sl false (f_.qa9.map qaf))],.box [.d (.cx .f32 (0:Nat) (0:Nat)),.d (.cx .f32 (0:Nat) (0:Nat)),.d (.cx .f32 (0:Nat) (0:Nat)),.d (.nils)]]) rfl (by simp) rfl (by trivial) ⟨rfl,trivial,rfl,trivial,rfl,trivial,rfl,trivial,rfl,trivial,trivial⟩) ?_
        refine qa4 rfl rfl ?_
        refine qa0 hτ rfl rfl rfl ?_
        refine qa0 hτ rfl rfl rfl ?_
        refine qa4 rfl rfl ?_
        refine qa4 rfl rfl ?_
        refine qa4 rfl rfl ?_
        refine qa4 rfl rfl ?_
        refine qa4 rfl rfl ?_
        refine qa4 rfl rfl ?_
        refine qa4 rfl rfl ?_
        refine qa4 rfl rfl ?_
        refine qa4 rfl rfl ?_
        refine qap (qa5 [0,1] (l:=[(1,.d (.int .i64 bus_)),(2,.ptr 0 0),(4,.ptr 1 0),(19,.d (.bool true)),(28,.und)]) (objs:=[.box [.d (.cx .f32 f_.Source.A.re f_.Source.A.im),.d (.cx .f32 f_.Source.B.re f_.Source.B.im),.d (.cx .f32 f_.Source.C.re f_.Source.C.im),.d (.sl false (f_.qa9.map qaf))],.box [.d (.cx .f32 (0:Nat) (0:Nat)),.d (.cx .f32 (0:Nat) (0:Nat)),.d (.cx .f32 (0:Nat) (0:Nat)),.d (.nils)]]) rfl (by simp) rfl (by trivial) ⟨rfl,trivial,rfl,trivial,rfl,trivial,rfl,trivial,rfl,trivial,trivial⟩) ?_
        refine qa0 hτ rfl rfl rfl ?_
        refine qa6 ?_
        refine qab (qa5 [0,1] (l:=[(1,.d (.int .i64 bus_)),(2,.ptr 0 0),(4,.ptr 1 0),(29,.d (.bool true))]) (objs:=[.box [.d (.cx .f32 f_.Source.A.re f_.Source.A.im),.d (.cx .f32 f_.Source.B.re f_.Source.B.im),.d (.cx .f32 f_.Source.C.re f_.Source.C.im),.d (.sl false (f_.qa9.map qaf))],.box [.d (.cx .f32 (0:Nat) (0:Nat)),.d (.cx .f32 (0:Nat) (0:Nat)),.d (.cx .f32 (0:Nat) (0:Nat)),.d (.nils)]]) rfl (by simp) rfl (by trivial) ⟨rfl,trivial,rfl,trivial,rfl,trivial,rfl,trivial,trivial⟩) ?_
        exact hk77 true h
      · have hb79:=qhm hb79
        have h:=qcq h hb79
        refine qa0 hτ rfl rfl rfl ?_
        refine qa0 hτ rfl rfl rfl ?_
        refine qa0 hτ rfl rfl rfl ?_
        refine qa0 hτ (v:=.d (.int .i64 (f_.qa9.length:Int))) rfl rfl (Eq.trans rfl (qfx (f:=qaf) f_.qa9)) ?_
        refine qa0 hτ rfl rfl rfl ?_
        refine qac h fun x80 hx80 h=>?_
        refine qag hτ false [] rfl rfl rfl (qai func87 rfl rfl) rfl rfl (by simp) ⟨trivial,trivial,trivial,trivial⟩ (by trivial) (qjj n bus_ (1:Int) (w64 ((f_.qa9.length:Int) - (2:Int))) hx80) ?_
        rintro r0 o0 n0 ⟨rfl,rfl,rfl⟩ -
        refine qap (qa5 [0,1] (l:=[(1,.d (.int .i64 bus_)),(2,.ptr 0 0),(4,.ptr 1 0),(10,.d (.bool false)),(16,.d (.bool x80))]) (objs:=[.box [.d (.cx .f32 f_.Source.A.re f_.Source.A.im),.d (.cx .f32 f_.Source.B.re f_.Source.B.im),.d (.cx .f32 f_.Source.C.re f_.Source.C.im),.d (.sl false (f_.qa9.map qaf))],.box [.d (.cx .f32 (0:Nat) (0:Nat)),.d (.cx .f32 (0:Nat) (0:Nat)),.d (.cx .f32 (0:Nat) (0:Nat)),.d (.nils)]]) rfl (by simp) rfl (by trivial) ⟨rfl,trivial,rfl,trivial,rfl,trivial,rfl,trivial,rfl,trivial,trivial⟩) ?_
        refine qa0 hτ rfl rfl rfl ?_
        refine qa0 hτ rfl rfl rfl ?_
        refine qa0 hτ rfl rfl rfl ?_
        refine qb4 19 rfl (fun hb81=>?_) (fun hb81=>?_)
        · have hb81:=qhn hb81
          have h:=qcp h hb81
          refine qa4 rfl rfl ?_
          refine qa4 rfl rfl ?_
          refine qa4 rfl rfl ?_
          refine qa4 rfl rfl ?_
          refine qa4 rfl rfl ?_
          refine qa4 rfl rfl ?_
          refine qa4 rfl rfl ?_
          refine qa4 rfl rfl ?_
          refine qa4 rfl rfl ?_
          refine qap (qa5 [0,1] (l:=[(1,.d (.int .i64 bus_)),(2,.ptr 0 0),(4,.ptr 1 0),(19,.d (.bool true)),(28,.und)]) (objs:=[.box [.d (.cx .f32 f_.Source.A.re f_.Source.A.im),.d (.cx .f32 f_.Source.B.re f_.Source.B.im),.d (.cx .f32 f_.Source.C.re f_.Source.C.im),.d (.sl false (f_.qa9.map qaf))],.box [.d (.cx .f32 (0:Nat) (0:Nat)),.d (.cx .f32 (0:Nat) (0:Nat)),.d (.cx .f32 (0:Nat) (0:Nat)),.d (.nils)]]) rfl (by simp) rfl (by trivial) ⟨rfl,trivial,rfl,trivial,rfl,trivial,rfl,trivial,rfl,trivial,trivial⟩) ?_
          refine qa0 hτ rfl rfl rfl ?_
          refine qa6 ?_
          refine qab (qa5 [0,1] (l:=[(1,.d (.int .i64 bus_)),(2,.ptr 0 0),(4,.ptr 1 0),(29,.d (.bool true))]) (objs:=[.box [.d (.cx .f32 f_.Source.A.re f_.Source.A.im),.d (.cx .f32 f_.Source.B.re f_.Source.B.im),.d (.cx .f32 f_.Source.C.re f_.Source.C.im),.d (.sl false (f_.qa9.map qaf))],.box [.d (.cx .f32 (0:Nat) (0:Nat)),.d (.cx .f32 (0:Nat) (0:Nat)),.d (.cx .f32 (0:Nat) (0:Nat)),.d (.nils)]]) rfl (by simp) rfl (by trivial) ⟨rfl,trivial,rfl,trivial,rfl,trivial,rfl,trivial,trivial⟩) ?_
          exact hk77 true h
        · have hb81:=qhm hb81
          have h:=qcq h hb81
          refine qa0 hτ rfl rfl rfl ?_
          refine qa0 hτ rfl rfl rfl ?_
          refine qa0 hτ rfl rfl rfl ?_
          refine qa0 hτ rfl rfl rfl ?_
          refine qac h fun x82 hx82 h=>?_
          refine qfb hτ rfl rfl rfl (qd3 hx82).1 (qeu hx82) rfl ?_
          refine qa0 hτ rfl rfl rfl ?_
          refine qa0 hτ rfl rfl rfl ?_
          refine qa0 hτ rfl rfl rfl ?_
          refine qa0 hτ (v:=.d (.bool (decide (x82.qar = bus_)))) rfl rfl (qhu _ _) ?_
          refine qap (qa5 [0,1] (l:=[(1,.d (.int .i64 bus_)),(2,.ptr 0 0),(4,.ptr 1 0),(19,.d (.bool false)),(28,.d (.bool (decide (x82.qar = bus_))))]) (objs:=[.box [.d (.cx .f32 f_.Source.A.re f_.Source.A.im),.d (.cx .f32 f_.Source.B.re f_.Source.B.im),.d (.cx .f32 f_.Source.C.re f_.Source.C.im),.d (.sl false (f_.qa9.map qaf))],.box [.d (.cx .f32 (0:Nat) (0:Nat)),.d (.cx .f32 (0:Nat) (0:Nat)),.d (.cx .f32 (0:Nat) (0:Nat)),.d (.nils)]]) rfl (by simp) rfl (by trivial) ⟨rfl,trivial,rfl,trivial,rfl,trivial,rfl,trivial,rfl,trivial,trivial⟩) ?_
          refine qa0 hτ rfl rfl rfl ?_
          refine qa6 ?_
          refine qab (qa5 [0,1] (l:=[(1,.d (.int .i64 bus_)),(2,.ptr 0 0),(4,.ptr 1 0),(29,.d (.bool (decide (x82.qar = bus_))))]) (objs:=[.box [.d (.cx .f32 f_.Source.A.re f_.Source.A.im),.d (.cx .f32 f_.Source.B.re f_.Source.B.im),.d (.cx .f32 f_.Source.C.re f_.Source.C.im),.d (.sl false (f_.qa9.map qaf))],.box [.d (.cx .f32 (0:Nat) (0:Nat)),.d (.cx .f32 (0:Nat) (0:Nat)),.d (.cx .f32 (0:Nat) (0:Nat)),.d (.nils)]]) rfl (by simp) rfl (by trivial) ⟨rfl,trivial,rfl,trivial,rfl,trivial,rfl,trivial,trivial⟩) ?_
          exact hk77 (decide (x82.qar = bus_)) h
theorem spec_SwapBuses_ok (n:Nat) (f_:qam) (bus_:Int) {r:qam × Bool} (h:qd1 n f_ bus_ = some r):qb0 prog false 38 [.agg [.d (.cx .f32 f_.Source.A.re f_.Source.A.im),.d (.cx .f32 f_.Source.B.re f_.Source.B.im),.d (.cx .f32 f_.Source.C.re f_.Source.C.im),.d (.sl false (f_.qa9.map qaf))],.d (.int .i64 bus_)] [] (fun v o new=>v = .tup [.agg [.d (.cx .f32 r.1.Source.A.re r.1.Source.A.im),.d (.cx .f32 r.1.Source.B.re r.1.Source.B.im),.d (.cx .f32 r.1.Source.C.re r.1.Source.C.im),.row 0 r.1.qa9.length 0 r.1.qa9.length],.d (.bool r.2)]∧o = []∧new = [.row 8 (r.1.qa9.map qaf)]):=spec_SwapBuses_ok_fr0 false n f_ bus_ h
def qiy (n:Nat) (a_:qa7) (b_:qa7):Option qa7 :=
  some (qa7.mk (Cx.mk (qa8 .sub .f32 a_.A.re b_.A.re) (qa8 .sub .f32 a_.A.im b_.A.im)) (Cx.mk (qa8 .sub .f32 a_.B.re b_.B.re) (qa8 .sub .f32 a_.B.im b_.B.im)) (Cx.mk (qa8 .sub .f32 a_.C.re b_.C.re) (qa8 .sub .f32 a_.C.im b_.C.im)))
theorem spec_l02Less_ok_fr0 (fr:Bool) (n:Nat) (a_:qa7) (b_:qa7) {r:qa7} (h:qiy n a_ b_ = some r):qb0 prog fr 132 [.agg [.d (.cx .f32 a_.A.re a_.A.im),.d (.cx .f32 a_.B.re a_.B.im),.d (.cx .f32 a_.C.re a_.C.im)],.agg [.d (.cx .f32 b_.A.re b_.A.im),.d (.cx .f32 b_.B.re b_.B.im),.d (.cx .f32 b_.C.re b_.C.im)]] [] (fun v o new=>v = .agg [.d (.cx .f32 r.A.re r.A.im),.d (.cx .f32 r.B.re r.B.im),.d (.cx .f32 r.C.re r.C.im)]∧o = []∧new = []):=by
  refine qal hτ func132 rfl (by simp) (by simp) ?_
  unfold qiy at h
  refine qaa ?_
  refine qa2 ?_
  refine qak hτ rfl rfl rfl ?_
  refine qak hτ rfl rfl rfl ?_
  refine qak hτ rfl rfl rfl ?_
  refine qa6 ?_
  refine qaa ?_
  refine qa2 ?_
  refine qa0 hτ rfl rfl rfl ?_
  refine qa0 hτ rfl rfl rfl ?_
  refine qa0 hτ rfl rfl rfl ?_
  refine qa0 hτ rfl rfl rfl ?_
  refine qa0 hτ rfl rfl rfl ?_
  refine qa0 hτ rfl rfl rfl ?_
  refine qa0 hτ rfl rfl rfl ?_
  refine qa0 hτ rfl rfl rfl ?_
  refine qa0 hτ rfl rfl rfl ?_
  refine qap (qa5 [0,1,2] (l:=[(2,.ptr 0 0),(3,.ptr 1 0),(4,.ptr 2 0),(9,.d (.cx .f32 (qa8 .sub .f32 a_.A.re b_.A.re) (qa8 .sub .f32 a_.A.im b_.A.im))),(11,.d (.cx .f32 a_.B.re a_.B.im)),(13,.d (.cx .f32 b_.B.re b_.B.im))]) (objs:=[.box [.d (.cx .f32 a_.A.re a_.A.im),.d (.cx .f32 a_.B.re a_.B.im),.d (.cx .f32 a_.C.re a_.C.im)],.box [.d (.cx .f32 b_.A.re b_.A.im),.d (.cx .f32 b_.B.re b_.B.im),.d (.cx .f32 b_.C.re b_.C.im)],.box [.d (.cx .f32 (0:Nat) (0:Nat)),.d (.cx .f32 (0:Nat) (0:Nat)),.d (.cx .f32 (0:Nat) (0:Nat))]]) rfl (by simp) rfl (by trivial) ⟨rfl,trivial,rfl,trivial,rfl,trivial,rfl,trivial,rfl,trivial,rfl,trivial,trivial⟩) ?_
  refine qa0 hτ rfl rfl rfl ?_
  refine qa0 hτ rfl rfl rfl ?_
  refine qa0 hτ rfl rfl rfl ?_
  refine qa0 hτ rfl rfl rfl ?_
  refine qa0 hτ rfl rfl rfl ?_
  refine qa0 hτ rfl rfl rfl ?_
  refine qa0 hτ rfl rfl rfl ?_
  refine qak hτ rfl rfl rfl ?_
  refine qa6 ?_
  refine qab (qa5 [2] (l:=[(4,.ptr 0 0)]) (objs:=[.box [.d (.cx .f32 (qa8 .sub .f32 a_.A.re b_.A.re) (qa8 .sub .f32 a_.A.im b_.A.im)),.d (.cx .f32 (qa8 .sub .f32 a_.B.re b_.B.re) (qa8 .sub .f32 a_.B.im b_.B.im)),.d (.cx .f32 (qa8 .sub .f32 a_.C.re b_.C.re) (qa8 .sub .f32 a_.C.im b_.C.im))]]) rfl (by simp) rfl (by trivial) ⟨rfl,trivial,trivial⟩) ?_
  refine qas ?_
  have hr:=Option.some.inj h
  subst hr
  exact qah (.inr rfl) [] (objs':=[]) (new:=[]) rfl (by simp) (by simp) rfl (by trivial) rfl rfl (by trivial) (fun _=>⟨by simp [V.flat,V.qbh,V.qb7,D.flat],qao⟩) ⟨rfl,rfl,rfl⟩
theorem spec_l02Less_ok (n:Nat) (a_:qa7) (b_:qa7) {r:qa7} (h:qiy n a_ b_ = some r):qb0 prog false 132 [.agg [.d (.cx .f32 a_.A.re a_.A.im),.d (.cx .f32 a_.B.re a_.B.im),.d (.cx .f32 a_.C.re a_.C.im)],.agg [.d (.cx .f32 b_.A.re b_.A.im),.d (.cx .f32 b_.B.re b_.B.im),.d (.cx .f32 b_.C.re b_.C.im)]] [] (fun v o new=>v = .agg [.d (.cx .f32 r.A.re r.A.im),.d (.cx .f32 r.B.re r.B.im),.d (.cx .f32 r.C.re r.C.im)]∧o = []∧new = []):=spec_l02Less_ok_fr0 false n a_ b_ h
def qg6 (n:Nat) (a_:qa7) (b_:qa7):Option qa7 :=
  (qiy n a_ b_).bind fun x2 =>
  some x2
theorem spec_LessPhases_ok_fr0 (fr:Bool) (n:Nat) (a_:qa7) (b_:qa7) {r:qa7} (h:qg6 n a_ b_ = some r):qb0 prog fr 88 [.agg [.d (.cx .f32 a_.A.re a_.A.im),.d (.cx .f32 a_.B.re a_.B.im),.d (.cx .f32 a_.C.re a_.C.im)],.agg [.d (.cx .f32 b_.A.re b_.A.im),.d (.cx .f32 b_.B.re b_.B.im),.d (.cx .f32 b_.C.re b_.C.im)]] [] (fun v o new=>v = .agg [.d (.cx .f32 r.A.re r.A.im),.d (.cx .f32 r.B.re r.B.im),.d (.cx .f32 r.C.re r.C.im)]∧o = []∧new = []):=by
  refine qal hτ func88 rfl (by simp) (by simp) ?_
  unfold qg6 at h
  refine qaa ?_
  refine qa2 ?_
  refine qak hτ rfl rfl rfl ?_
  refine qak hτ rfl rfl rfl ?_
  refine qak hτ rfl rfl rfl ?_
  refine qa6 ?_
  refine qaa ?_
  refine qa2 ?_
  refine qa0 hτ rfl rfl rfl ?_
  refine qa0 hτ rfl rfl rfl ?_
  refine qac h fun x2 hx2 h=>?_
  refine qag hτ false [] rfl rfl rfl (qai func132 rfl rfl) rfl rfl (by simp) ⟨(by trivial),(by trivial),trivial⟩ (by trivial) (spec_l02Less_ok n a_ b_ hx2) ?_
  rintro r0 o0 n0 ⟨rfl,rfl,rfl⟩ -
  refine qak hτ rfl rfl rfl ?_
  refine qa6 ?_
  refine qab (qa5 [2] (l:=[(4,.ptr 0 0)]) (objs:=[.box [.d (.cx .f32 x2.A.re x2.A.im),.d (.cx .f32 x2.B.re x2.B.im),.d (.cx .f32 x2.C.re x2.C.im)]]) rfl (by simp) rfl (by trivial) ⟨rfl,trivial,trivial⟩) ?_
  refine qas ?_
  have hr:=Option.some.inj h
  subst hr
  exact qah (.inr rfl) [] (objs':=[]) (new:=[]) rfl (by simp) (by simp) rfl (by trivial) rfl rfl (by trivial) (fun _=>⟨by simp [V.flat,V.qbh,V.qb7,D.flat],qao⟩) ⟨rfl,rfl,rfl⟩
theorem spec_LessPhases_ok (n:Nat) (a_:qa7) (b_:qa7) {r:qa7} (h:qg6 n a_ b_ = some r):qb0 prog false 88 [.agg [.d (.cx .f32 a_.A.re a_.A.im),.d (.cx .f32 a_.B.re a_.B.im),.d (.cx .f32 a_.C.re a_.C.im)],.agg [.d (.cx .f32 b_.A.re b_.A.im),.d (.cx .f32 b_.B.re b_.B.im),.d (.cx .f32 b_.C.re b_.C.im)]] [] (fun v o new=>v = .agg [.d (.cx .f32 r.A.re r.A.im),.d (.cx .f32 r.B.re r.B.im),.d (.cx .f32 r.C.re r.C.im)]∧o = []∧new = []):=spec_LessPhases_ok_fr0 false n a_ b_ h
def qg5 (n:Nat) (a_:qa7) (b_:qa7) (by_:Nat):Option Bool :=
  (qg6 n a_ b_).bind fun x12 =>
  (qct n x12.A).bind fun x13 =>
  (qgo .f32 .f64 x13).bind fun x14 =>
  if (fcmp .lss .f64 x14 by_) = true then
    (qct n x12.B).bind fun x16 =>
    (qgo .f32 .f64 x16).bind fun x17 =>
    if (fcmp .lss .f64 x17 by_) = true then
      (qct n x12.C).bind fun x19 =>
      (qgo .f32 .f64 x19).bind fun x20 =>
      some (fcmp .lss .f64 x20 by_)
    else
      some false
  else
    some false
theorem laws_b10Close_ok_fr0 (fr:Bool) (n:Nat) (a_:qa7) (b_:qa7) (by_:Nat) {r:Bool} (h:qg5 n a_ b_ by_ = some r):qb0 prog fr 39 [.agg [.d (.cx .f32 a_.A.re a_.A.im),.d (.cx .f32 a_.B.re a_.B.im),.d (.cx .f32 a_.C.re a_.C.im)],.agg [.d (.cx .f32 b_.A.re b_.A.im),.d (.cx .f32 b_.B.re b_.B.im),.d (.cx .f32 b_.C.re b_.C.im)],.d (.fl .f64 by_)] [] (fun v o new=>v = .d (.bool r)∧o = []∧new = []):=by
  refine qal hτ func39 rfl (by simp) (by simp) ?_
  unfold qg5 at h
  refine qaa ?_
  refine qa2 ?_
  refine qak hτ rfl rfl rfl ?_
  refine qak hτ rfl rfl rfl ?_
  refine qa0 hτ rfl rfl rfl ?_
  refine qa6 ?_
  refine qaa ?_
  refine qa2 ?_
  refine qa0 hτ rfl rfl rfl ?_
  refine qa0 hτ rfl rfl rfl ?_
  refine qac h fun x12 hx12 h=>?_
  refine qag hτ false [] rfl rfl rfl (qai func88 rfl rfl) rfl rfl (by simp) ⟨(by trivial),(by trivial),trivial⟩ (by trivial) (spec_LessPhases_ok n a_ b_ hx12) ?_
  rintro r0 o0 n0 ⟨rfl,rfl,rfl⟩ -
  refine qak hτ rfl rfl rfl ?_
  refine qak hτ rfl rfl rfl ?_
  refine qa6 ?_
  refine qaa ?_
  refine qab (qa5 [2] (l:=[(2,.d (.fl .f64 by_)),(7,.ptr 0 0)]) (objs:=[.box [.d (.cx .f32 x12.A.re x12.A.im),.d (.cx .f32 x12.B.re x12.B.im),.d (.cx .f32 x12.C.re x12.C.im)]]) rfl (by simp) rfl (by trivial) ⟨rfl,trivial,rfl,trivial,trivial⟩) ?_
  refine qa2 ?_
  refine qa0 hτ rfl rfl rfl ?_
  refine qa0 hτ rfl rfl rfl ?_
  refine qac h fun x13 hx13 h=>?_
  refine qag hτ false [] rfl rfl rfl (qai func35 rfl rfl) rfl rfl (by simp) ⟨trivial,trivial⟩ (by trivial) (qg0 n x12.A hx13) ?_
  rintro r0 o0 n0 ⟨rfl,rfl,rfl⟩ -
  refine qac h fun x14 hx14 h=>?_
  refine qa0 hτ (v:=.d (.fl .f64 x14)) rfl rfl (qge hx14) ?_
  refine qa0 hτ rfl rfl rfl ?_
  refine qa0 hτ rfl rfl rfl ?_
  refine qa0 hτ rfl rfl rfl ?_
  refine qb4 17 rfl (fun hb15=>?_) (fun hb15=>?_)
  · have h:=qcq h hb15
    refine qa0 hτ rfl rfl rfl ?_
    refine qa0 hτ rfl rfl rfl ?_
    refine qac h fun x16 hx16 h=>?_
    refine qag hτ false [] rfl rfl rfl (qai func35 rfl rfl) rfl rfl (by simp) ⟨trivial,trivial⟩ (by trivial) (qg0 n x12.B hx16) ?_
    rintro r0 o0 n0 ⟨rfl,rfl,rfl⟩ -
    refine qac h fun x17 hx17 h=>?_
    refine qa0 hτ (v:=.d (.fl .f64 x17)) rfl rfl (qge hx17) ?_
    refine qa0 hτ rfl rfl rfl ?_
    refine qap (qa5 [0] (l:=[(2,.d (.fl .f64 by_)),(7,.ptr 0 0),(17,.d (.bool true)),(21,.d (.fl .f64 x17)),(22,.d (.fl .f64 by_))]) (objs:=[.box [.d (.cx .f32 x12.A.re x12.A.im),.d (.cx .f32 x12.B.re x12.B.im),.d (.cx .f32 x12.C.re x12.C.im)]]) rfl (by simp) rfl (by trivial) ⟨rfl,trivial,rfl,trivial,rfl,trivial,rfl,trivial,rfl,trivial,trivial⟩) ?_
    refine qa0 hτ rfl rfl rfl ?_
    refine qa0 hτ rfl rfl rfl ?_
    refine qa0 hτ rfl rfl rfl ?_
    refine qb4 25 rfl (fun hb18=>?_) (fun hb18=>?_)
    · have h:=qcq h hb18
      refine qa0 hτ rfl rfl rfl ?_
      refine qa0 hτ rfl rfl rfl ?_
      refine qac h fun x19 hx19 h=>?_
      refine qag hτ false [] rfl rfl rfl (qai func35 rfl rfl) rfl rfl (by simp) ⟨trivial,trivial⟩ (by trivial) (qg0 n x12.C hx19) ?_
      rintro r0 o0 n0 ⟨rfl,rfl,rfl⟩ -
      refine qac h fun x20 hx20 h=>?_
      refine qa0 hτ (v:=.d (.fl .f64 x20)) rfl rfl (qge hx20) ?_
      refine qa0 hτ rfl rfl rfl ?_
      refine qa0 hτ rfl rfl rfl ?_
      refine qa0 hτ rfl rfl rfl ?_
      refine qa0 hτ rfl rfl rfl ?_
      refine qa6 ?_
      refine qab (qa5 [] (l:=[(6,.d (.bool (fcmp .lss .f64 x20 by_)))]) (objs:=[]) rfl (by simp) rfl (by trivial) ⟨rfl,trivial,trivial⟩) ?_
      refine qas ?_
      have hr:=Option.some.inj h
      subst hr
      exact qah (.inr rfl) [] (objs':=[]) (new:=[]) rfl (by simp) (by simp) rfl (by trivial) rfl rfl (by trivial) (fun _=>⟨by simp [V.flat,V.qbh,V.qb7,D.flat],qao⟩) ⟨rfl,rfl,rfl⟩
    · have h:=qcp h hb18
      refine qa4 rfl rfl ?_
      refine qa4 rfl rfl ?_
      refine qa4 rfl rfl ?_
      refine qa4 rfl rfl ?_
      refine qa4 rfl rfl ?_
      refine qa4 rfl rfl ?_
      refine qa0 hτ rfl rfl rfl ?_
      refine qa0 hτ rfl rfl rfl ?_
      refine qa6 ?_
      refine qab (qa5 [] (l:=[(6,.d (.bool false))]) (objs:=[]) rfl (by simp) rfl (by trivial) ⟨rfl,trivial,trivial⟩) ?_
      refine qas ?_
      have hr:=Option.some.inj h
      subst hr
      exact qah (.inr rfl) [] (objs':=[]) (new:=[]) rfl (by simp) (by simp) rfl (by trivial) rfl rfl (by trivial) (fun _=>⟨by simp [V.flat,V.qbh,V.qb7,D.flat],qao⟩) ⟨rfl,rfl,rfl⟩
  · have h:=qcp h hb15
    refine qa4 rfl rfl ?_
    refine qa4 rfl rfl ?_
    refine qa4 rfl rfl ?_
    refine qa4 rfl rfl ?_
    refine qa4 rfl rfl ?_
    refine qap (qa5 [0] (l:=[(2,.d (.fl .f64 by_)),(7,.ptr 0 0),(17,.d (.bool false)),(21,.und),(22,.und)]) (objs:=[.box [.d (.cx .f32 x12.A.re x12.A.im),.d (.cx .f32 x12.B.re x12.B.im),.d (.cx .f32 x12.C.re x12.C.im)]]) rfl (by simp) rfl (by trivial) ⟨rfl,trivial,rfl,trivial,rfl,trivial,rfl,trivial,rfl,trivial,trivial⟩) ?_
    refine qa4 rfl rfl ?_
    refine qa0 hτ rfl rfl rfl ?_
    refine qa0 hτ rfl rfl rfl ?_
    refine qa4 rfl rfl ?_
    refine qa4 rfl rfl ?_
    refine qa4 rfl rfl ?_
    refine qa4 rfl rfl ?_
    refine qa4 rfl rfl ?_
    refine qa4 rfl rfl ?_
    refine qa0 hτ rfl rfl rfl ?_
    refine qa0 hτ rfl rfl rfl ?_
    refine qa6 ?_
    refine qab (qa5 [] (l:=[(6,.d (.bool false))]) (objs:=[]) rfl (by simp) rfl (by trivial) ⟨rfl,trivial,trivial⟩) ?_
    refine qas ?_
    have hr:=Option.some.inj h
    subst hr
    exact qah (.inr rfl) [] (objs':=[]) (new:=[]) rfl (by simp) (by simp) rfl (by trivial) rfl rfl (by trivial) (fun _=>⟨by simp [V.flat,V.qbh,V.qb7,D.flat],qao⟩) ⟨rfl,rfl,rfl⟩
theorem laws_b10Close_ok (n:Nat) (a_:qa7) (b_:qa7) (by_:Nat) {r:Bool} (h:qg5 n a_ b_ by_ = some r):qb0 prog false 39 [.agg [.d (.cx .f32 a_.A.re a_.A.im),.d (.cx .f32 a_.B.re a_.B.im),.d (.cx .f32 a_.C.re a_.C.im)],.agg [.d (.cx .f32 b_.A.re b_.A.im),.d (.cx .f32 b_.B.re b_.B.im),.d (.cx .f32 b_.C.re b_.C.im)],.d (.fl .f64 by_)] [] (fun v o new=>v = .d (.bool r)∧o = []∧new = []):=laws_b10Close_ok_fr0 false n a_ b_ by_ h
end Go.Proofs.Ytdnkjocenbepaaa.AWN
