/- Models and contracts, printed by program. -/
import Derived.Test.YtdnkjocenbepaaaFnFaultsC
set_option linter.unusedVariables false
set_option linter.unusedSimpArgs false
set_option linter.unusedSectionVars false
set_option maxHeartbeats 2000000
namespace Go.Proofs.Ytdnkjocenbepaaa.AWN
open Go Go.Proofs.Try
def qaz (n:Nat) (f_:qan) (buses_:List Int):Nat→Cx→Cx→Int→Option (Cx × Cx)
  | 0,_,_,_=>none
  | m21 + 1,v13,v14,v15 =>
    if v15 < (buses_.length:Int) then
      (getI buses_ v15).bind fun x24 =>
      (getI f_.qad x24).bind fun x25 =>
      (qaz n f_ buses_ m21) (Cx.mk (qa1 .add .f32 v13.re x25.Own.re) (qa1 .add .f32 v13.im x25.Own.im)) (Cx.mk (qa1 .add .f32 v14.re x25.Shared.re) (qa1 .add .f32 v14.im x25.Shared.im)) (w64 (v15 + (1:Int)))
    else
      some (v13,v14)
def qcc (n:Nat) (f_:qan) (buses_:List Int):Option (Cx × Cx) :=
  qaz n f_ buses_ n (Cx.mk (0:Nat) (0:Nat)) (Cx.mk (0:Nat) (0:Nat)) (0:Int)
theorem qic (n:Nat) (f_:qan) (buses_:List Int) {r:Cx × Cx} (h:qcc n f_ buses_ = some r):qaq prog false 75 [.ptr 0 0,.d (.sl false (buses_.map qav))] [.box [.d (.cx .f32 f_.Source.A.re f_.Source.A.im),.d (.cx .f32 f_.Source.B.re f_.Source.B.im),.d (.cx .f32 f_.Source.C.re f_.Source.C.im),.d (.sl false (f_.qad.map qaj))]] (fun v o new=>v = .tup [.d (.cx .f32 r.1.re r.1.im),.d (.cx .f32 r.2.re r.2.im)]∧o = [.box [.d (.cx .f32 f_.Source.A.re f_.Source.A.im),.d (.cx .f32 f_.Source.B.re f_.Source.B.im),.d (.cx .f32 f_.Source.C.re f_.Source.C.im),.d (.sl false (f_.qad.map qaj))]]∧new = []):=by
  refine qaf hτ func75 rfl (by simp) (by simp) ?_
  unfold qcc at h
  refine qa6 ?_
  refine qa2 ?_
  refine qa0 hτ rfl rfl rfl ?_
  refine qa0 hτ rfl rfl rfl ?_
  refine qa4 ?_
  refine qa6 ?_
  refine qa2 ?_
  refine qa0 hτ rfl rfl rfl ?_
  refine qa0 hτ rfl rfl rfl ?_
  refine qa4 ?_
  refine qa6 ?_
  refine qa6 ?_
  refine qa2 ?_
  refine qa0 hτ rfl rfl rfl ?_
  refine qa0 hτ (v:=.d (.int .i64 (buses_.length:Int))) rfl rfl (Eq.trans rfl (qjj (f:=qav) buses_)) ?_
  refine qa0 hτ rfl rfl rfl ?_
  refine qa4 ?_
  refine qbo ?_
  refine qh3 (ι:=Nat × Cx × Cx × Int) (fun (m21,v13,v14,v15)=>St.of [(0,.ptr 0 0),(6,.d (.cx .f32 v13.re v13.im)),(7,.d (.cx .f32 v14.re v14.im)),(10,.d (.sl false (buses_.map qav))),(11,.d (.int .i64 (buses_.length:Int))),(12,.d (.int .i64 v15))] [.box [.d (.cx .f32 f_.Source.A.re f_.Source.A.im),.d (.cx .f32 f_.Source.B.re f_.Source.B.im),.d (.cx .f32 f_.Source.C.re f_.Source.C.im),.d (.sl false (f_.qad.map qaj))]] f75.ntmps 1) (fun (m21,v13,v14,v15)=>qaz n f_ buses_ m21 v13 v14 v15 = some r) (fun x=>x.1) (n,(Cx.mk (0:Nat) (0:Nat)),(Cx.mk (0:Nat) (0:Nat)),(0:Int)) h (qa3 [0] (l:=[(0,.ptr 0 0),(6,.d (.cx .f32 (0:Nat) (0:Nat))),(7,.d (.cx .f32 (0:Nat) (0:Nat))),(10,.d (.sl false (buses_.map qav))),(11,.d (.int .i64 (buses_.length:Int))),(12,.d (.int .i64 (0:Int)))]) (objs:=[.box [.d (.cx .f32 f_.Source.A.re f_.Source.A.im),.d (.cx .f32 f_.Source.B.re f_.Source.B.im),.d (.cx .f32 f_.Source.C.re f_.Source.C.im),.d (.sl false (f_.qad.map qaj))]]) rfl (by simp) rfl (by trivial) ⟨rfl,trivial,rfl,trivial,rfl,trivial,rfl,trivial,rfl,trivial,rfl,trivial,trivial⟩) ?_
  rintro ⟨m21,v13,v14,v15⟩ h
  replace h:qaz n f_ buses_ m21 v13 v14 v15 = some r:=h
  rcases m21 with _ | m21
  · rw [qaz] at h;cases h
  rw [qaz] at h
  refine qa6 ?_
  refine qa2 ?_
  refine qa0 hτ rfl rfl rfl ?_
  refine qa4 ?_
  refine qa6 ?_
  refine qar rfl (fun hc23=>?_) (fun hc23=>?_)
  · have h:=if_t h hc23
    refine qb9 ?_
    refine qa6 ?_
    refine qbo ?_
    refine qa6 ?_
    refine qa2 ?_
    refine qa7 h fun x24 hx24 h=>?_
    refine qf7 hτ rfl rfl rfl (qd2 hx24).1 (qdv hx24) rfl ?_
    refine qa0 hτ rfl rfl rfl ?_
    refine qa0 hτ rfl rfl rfl ?_
    refine qa4 ?_
    refine qa6 ?_
    refine qa2 ?_
    refine qa0 hτ rfl rfl rfl ?_
    refine qa0 hτ rfl rfl rfl ?_
    refine qa0 hτ rfl rfl rfl ?_
    refine qa0 hτ rfl rfl rfl ?_
    refine qa0 hτ rfl rfl rfl ?_
    refine qa0 hτ rfl rfl rfl ?_
    refine qa7 h fun x25 hx25 h=>?_
    refine qf7 hτ rfl rfl rfl (qd2 hx25).1 (qdv hx25) rfl ?_
    refine qa0 hτ rfl rfl rfl ?_
    refine qas (qa3 [0] (l:=[(0,.ptr 0 0),(7,.d (.cx .f32 v14.re v14.im)),(9,.d (.int .i64 x24)),(10,.d (.sl false (buses_.map qav))),(11,.d (.int .i64 (buses_.length:Int))),(12,.d (.int .i64 v15)),(16,.d (.cx .f32 v13.re v13.im)),(23,.rop [.int .i64 x25.qd1,.cx .f32 x25.Own.re x25.Own.im,.cx .f32 x25.Shared.re x25.Shared.im,.int .i64 x25.Kind,.cx .f32 x25.Load.A.re x25.Load.A.im,.cx .f32 x25.Load.B.re x25.Load.B.im,.cx .f32 x25.Load.C.re x25.Load.C.im,.int .i64 x25.qbb] 1)]) (objs:=[.box [.d (.cx .f32 f_.Source.A.re f_.Source.A.im),.d (.cx .f32 f_.Source.B.re f_.Source.B.im),.d (.cx .f32 f_.Source.C.re f_.Source.C.im),.d (.sl false (f_.qad.map qaj))]]) rfl (by simp) rfl (by trivial) ⟨rfl,trivial,rfl,trivial,rfl,trivial,rfl,trivial,rfl,trivial,rfl,trivial,rfl,trivial,rfl,trivial,trivial⟩) ?_
    refine qa0 hτ rfl rfl rfl ?_
    refine qa0 hτ rfl rfl rfl ?_
    refine qa0 hτ rfl rfl rfl ?_
    refine qa4 ?_
    refine qa2 ?_
    refine qa0 hτ rfl rfl rfl ?_
    refine qa0 hτ rfl rfl rfl ?_
    refine qa0 hτ rfl rfl rfl ?_
    refine qa0 hτ rfl rfl rfl ?_
    refine qa0 hτ rfl rfl rfl ?_
    refine qa0 hτ rfl rfl rfl ?_
    refine qf7 hτ rfl rfl rfl (qd2 hx25).1 (qdv hx25) rfl ?_
    refine qa0 hτ rfl rfl rfl ?_
    refine qa0 hτ rfl rfl rfl ?_
    refine qas (qa3 [0] (l:=[(0,.ptr 0 0),(6,.d (.cx .f32 (qa1 .add .f32 v13.re x25.Own.re) (qa1 .add .f32 v13.im x25.Own.im))),(10,.d (.sl false (buses_.map qav))),(11,.d (.int .i64 (buses_.length:Int))),(12,.d (.int .i64 v15)),(26,.d (.cx .f32 v14.re v14.im)),(34,.d (.cx .f32 x25.Shared.re x25.Shared.im))]) (objs:=[.box [.d (.cx .f32 f_.Source.A.re f_.Source.A.im),.d (.cx .f32 f_.Source.B.re f_.Source.B.im),.d (.cx .f32 f_.Source.C.re f_.Source.C.im),.d (.sl false (f_.qad.map qaj))]]) rfl (by simp) rfl (by trivial) ⟨rfl,trivial,rfl,trivial,rfl,trivial,rfl,trivial,rfl,trivial,rfl,trivial,rfl,trivial,trivial⟩) ?_
    refine qa0 hτ rfl rfl rfl ?_
    refine qa0 hτ rfl rfl rfl ?_
    refine qa4 ?_
    refine qa2 ?_
    refine qa0 hτ rfl rfl rfl ?_
    refine qa0 hτ rfl rfl rfl ?_
    refine qa4 ?_
    exact ⟨(m21,(Cx.mk (qa1 .add .f32 v13.re x25.Own.re) (qa1 .add .f32 v13.im x25.Own.im)),(Cx.mk (qa1 .add .f32 v14.re x25.Shared.re) (qa1 .add .f32 v14.im x25.Shared.im)),(w64 (v15 + (1:Int)))),h,Nat.lt_succ_self m21,(qa3 [0] (l:=[(0,.ptr 0 0),(6,.d (.cx .f32 (qa1 .add .f32 v13.re x25.Own.re) (qa1 .add .f32 v13.im x25.Own.im))),(7,.d (.cx .f32 (qa1 .add .f32 v14.re x25.Shared.re) (qa1 .add .f32 v14.im x25.Shared.im))),(10,.d (.sl false (buses_.map qav))),(11,.d (.int .i64 (buses_.length:Int))),(12,.d (.int .i64 (w64 (v15 + (1:Int)))))]) (objs:=[.box [.d (.cx .f32 f_.Source.A.re f_.Source.A.im),.d (.cx .f32 f_.Source.B.re f_.Source.B.im),.d (.cx .f32 f_.Source.C.re f_.Source.C.im),.d (.sl false (f_.qad.map qaj))]]) rfl (by simp) rfl (by trivial) ⟨rfl,trivial,rfl,trivial,rfl,trivial,rfl,trivial,rfl,trivial,rfl,trivial,trivial⟩)⟩
  · have h:=if_f h hc23
    refine qh2 ?_
    refine qa6 ?_
    refine qa2 ?_
    refine qa0 hτ rfl rfl rfl ?_
    refine qa0 hτ rfl rfl rfl ?_
    refine qa0 hτ rfl rfl rfl ?_
    refine qa0 hτ rfl rfl rfl ?_
    refine qa4 ?_
    refine qa8 (qa3 [0] (l:=[(4,.d (.cx .f32 v13.re v13.im)),(5,.d (.cx .f32 v14.re v14.im))]) (objs:=[.box [.d (.cx .f32 f_.Source.A.re f_.Source.A.im),.d (.cx .f32 f_.Source.B.re f_.Source.B.im),.d (.cx .f32 f_.Source.C.re f_.Source.C.im),.d (.sl false (f_.qad.map qaj))]]) rfl (by simp) rfl (by trivial) ⟨rfl,trivial,rfl,trivial,trivial⟩) ?_
    refine qal ?_
    have hr:=Option.some.inj h
    subst hr
    exact qae (.inr rfl) [] (objs':=[.box [.d (.cx .f32 f_.Source.A.re f_.Source.A.im),.d (.cx .f32 f_.Source.B.re f_.Source.B.im),.d (.cx .f32 f_.Source.C.re f_.Source.C.im),.d (.sl false (f_.qad.map qaj))]]) (new:=[]) rfl (by simp) (by simp) rfl (by trivial) rfl rfl (by trivial) (fun h=>nomatch h) ⟨rfl,rfl,rfl⟩
def qcu (n:Nat) (own_:Cx) (shared_:Cx):Option (Cx × Cx) :=
  some ((Cx.mk (qa1 .add .f32 (qa1 .add .f32 own_.re shared_.re) shared_.re) (qa1 .add .f32 (qa1 .add .f32 own_.im shared_.im) shared_.im)),(Cx.mk (qa1 .sub .f32 own_.re shared_.re) (qa1 .sub .f32 own_.im shared_.im)))
theorem impl_SequenceOf_ok_fr0 (fr:Bool) (n:Nat) (own_:Cx) (shared_:Cx) {r:Cx × Cx} (h:qcu n own_ shared_ = some r):qaq prog fr 26 [.d (.cx .f32 own_.re own_.im),.d (.cx .f32 shared_.re shared_.im)] [] (fun v o new=>v = .tup [.d (.cx .f32 r.1.re r.1.im),.d (.cx .f32 r.2.re r.2.im)]∧o = []∧new = []):=by
  refine qaf hτ func26 rfl (by simp) (by simp) ?_
  unfold qcu at h
  refine qa6 ?_
  refine qa2 ?_
  refine qa0 hτ rfl rfl rfl ?_
  refine qa0 hτ rfl rfl rfl ?_
  refine qa4 ?_
  refine qa6 ?_
  refine qa2 ?_
  refine qa0 hτ rfl rfl rfl ?_
  refine qa0 hτ rfl rfl rfl ?_
  refine qa0 hτ rfl rfl rfl ?_
  refine qa0 hτ rfl rfl rfl ?_
  refine qa0 hτ rfl rfl rfl ?_
  refine qa0 hτ rfl rfl rfl ?_
  refine qa0 hτ rfl rfl rfl ?_
  refine qa0 hτ rfl rfl rfl ?_
  refine qa0 hτ rfl rfl rfl ?_
  refine qa0 hτ rfl rfl rfl ?_
  refine qa4 ?_
  refine qa8 (qa3 [] (l:=[(4,.d (.cx .f32 (qa1 .add .f32 (qa1 .add .f32 own_.re shared_.re) shared_.re) (qa1 .add .f32 (qa1 .add .f32 own_.im shared_.im) shared_.im))),(5,.d (.cx .f32 (qa1 .sub .f32 own_.re shared_.re) (qa1 .sub .f32 own_.im shared_.im)))]) (objs:=[]) rfl (by simp) rfl (by trivial) ⟨rfl,trivial,rfl,trivial,trivial⟩) ?_
  refine qal ?_
  have hr:=Option.some.inj h
  subst hr
  exact qae (.inr rfl) [] (objs':=[]) (new:=[]) rfl (by simp) (by simp) rfl (by trivial) rfl rfl (by trivial) (fun _=>⟨by simp [V.flat,V.qb7,V.qb5,D.flat],qag⟩) ⟨rfl,rfl,rfl⟩
theorem qk8 (n:Nat) (own_:Cx) (shared_:Cx) {r:Cx × Cx} (h:qcu n own_ shared_ = some r):qaq prog false 26 [.d (.cx .f32 own_.re own_.im),.d (.cx .f32 shared_.re shared_.im)] [] (fun v o new=>v = .tup [.d (.cx .f32 r.1.re r.1.im),.d (.cx .f32 r.2.re r.2.im)]∧o = []∧new = []):=impl_SequenceOf_ok_fr0 false n own_ shared_ h
def qke (n:Nat):Option Nat :=
  (qkg n).bind fun x3 =>
  (qh5 .f64 .f32 x3).bind fun x4 =>
  some x4
theorem impl_nan_ok_fr0 (fr:Bool) (n:Nat) {r:Nat} (h:qke n = some r):qaq prog fr 151 [] [] (fun v o new=>v = .d (.fl .f32 r)∧o = []∧new = []):=by
  refine qaf hτ func151 rfl (by simp) (by simp) ?_
  unfold qke at h
  refine qa6 ?_
  refine qa2 ?_
  refine qa0 hτ rfl rfl rfl ?_
  refine qa4 ?_
  refine qa6 ?_
  refine qa2 ?_
  refine qa7 h fun x3 hx3 h=>?_
  refine qab hτ false [] rfl rfl rfl (qac func171 rfl rfl) rfl rfl (by simp) trivial (by trivial) (qo2 n hx3) ?_
  rintro r0 o0 n0 ⟨rfl,rfl,rfl⟩ -
  refine qa7 h fun x4 hx4 h=>?_
  refine qa0 hτ (v:=.d (.fl .f32 x4)) rfl rfl (qfu hx4) ?_
  refine qa0 hτ rfl rfl rfl ?_
  refine qa4 ?_
  refine qa8 (qa3 [] (l:=[(0,.d (.fl .f32 x4))]) (objs:=[]) rfl (by simp) rfl (by trivial) ⟨rfl,trivial,trivial⟩) ?_
  refine qal ?_
  have hr:=Option.some.inj h
  subst hr
  exact qae (.inr rfl) [] (objs':=[]) (new:=[]) rfl (by simp) (by simp) rfl (by trivial) rfl rfl (by trivial) (fun _=>⟨by simp [V.flat,V.qb7,V.qb5,D.flat],qag⟩) ⟨rfl,rfl,rfl⟩
theorem qny (n:Nat) {r:Nat} (h:qke n = some r):qaq prog false 151 [] [] (fun v o new=>v = .d (.fl .f32 r)∧o = []∧new = []):=impl_nan_ok_fr0 false n h
def qlm (n:Nat) (x_:Nat):Option Nat :=
  grd (isnan .f64 x_ = false) <|
  grd ((qkx .andNot .u64 (x_:Int) (9223372036854775808:Int)).toNat < 18446744073709551616) <|
  some (canon .f64 (qkx .andNot .u64 (x_:Int) (9223372036854775808:Int)).toNat)
theorem math_Abs_ok_fr0 (fr:Bool) (n:Nat) (x_:Nat) {r:Nat} (h:qlm n x_ = some r):qaq prog fr 152 [.d (.fl .f64 x_)] [] (fun v o new=>v = .d (.fl .f64 r)∧o = []∧new = []):=by
  refine qaf hτ func152 rfl (by simp) (by simp) ?_
  unfold qlm at h
  refine qa6 ?_
  refine qa2 ?_
  refine qa0 hτ rfl rfl rfl ?_
  refine qa4 ?_
  refine qa6 ?_
  refine qa2 ?_
  refine qa0 hτ rfl rfl rfl ?_
  refine qf8 h fun hg3 h=>?_
  refine qkr hτ rfl rfl rfl (ext174 hg3) ?_
  refine qa0 hτ rfl rfl rfl ?_
  refine qf8 h fun hg4 h=>?_
  refine qkr hτ rfl rfl rfl (qt7 hg4) ?_
  refine qa0 hτ rfl rfl rfl ?_
  refine qa4 ?_
  refine qa8 (qa3 [] (l:=[(2,.d (.fl .f64 (canon .f64 (qkx .andNot .u64 (x_:Int) (9223372036854775808:Int)).toNat)))]) (objs:=[]) rfl (by simp) rfl (by trivial) ⟨rfl,trivial,trivial⟩) ?_
  refine qal ?_
  have hr:=Option.some.inj h
  subst hr
  exact qae (.inr rfl) [] (objs':=[]) (new:=[]) rfl (by simp) (by simp) rfl (by trivial) rfl rfl (by trivial) (fun _=>⟨by simp [V.flat,V.qb7,V.qb5,D.flat],qag⟩) ⟨rfl,rfl,rfl⟩
theorem math_Abs_ok (n:Nat) (x_:Nat) {r:Nat} (h:qlm n x_ = some r):qaq prog false 152 [.d (.fl .f64 x_)] [] (fun v o new=>v = .d (.fl .f64 r)∧o = []∧new = []):=math_Abs_ok_fr0 false n x_ h
def qk9 (n:Nat) (x_:Nat):Option Nat :=
  grd (isnan .f64 x_ = false) <|
  some (fint .zero x_)
theorem math_Trunc_ok_fr0 (fr:Bool) (n:Nat) (x_:Nat) {r:Nat} (h:qk9 n x_ = some r):qaq prog fr 175 [.d (.fl .f64 x_)] [] (fun v o new=>v = .d (.fl .f64 r)∧o = []∧new = []):=by
  refine qaf hτ func175 rfl (by simp) (by simp) ?_
  unfold qk9 at h
  refine qa6 ?_
  refine qa2 ?_
  refine qa0 hτ rfl rfl rfl ?_
  refine qa4 ?_
  refine qa6 ?_
  refine qar (b:=true) rfl (fun _=>?_) (fun hd=>nomatch hd)
  refine qa6 ?_
  refine qa2 ?_
  refine qa0 hτ rfl rfl rfl ?_
  refine qf8 h fun hg3 h=>?_
  refine qkr hτ rfl rfl rfl (ext182 hg3) ?_
  refine qa0 hτ rfl rfl rfl ?_
  refine qa4 ?_
  refine qa8 (qa3 [] (l:=[(2,.d (.fl .f64 (fint .zero x_)))]) (objs:=[]) rfl (by simp) rfl (by trivial) ⟨rfl,trivial,trivial⟩) ?_
  refine qal ?_
  have hr:=Option.some.inj h
  subst hr
  exact qae (.inr rfl) [] (objs':=[]) (new:=[]) rfl (by simp) (by simp) rfl (by trivial) rfl rfl (by trivial) (fun _=>⟨by simp [V.flat,V.qb7,V.qb5,D.flat],qag⟩) ⟨rfl,rfl,rfl⟩
theorem math_Trunc_ok (n:Nat) (x_:Nat) {r:Nat} (h:qk9 n x_ = some r):qaq prog false 175 [.d (.fl .f64 x_)] [] (fun v o new=>v = .d (.fl .f64 r)∧o = []∧new = []):=math_Trunc_ok_fr0 false n x_ h
def qgp (n:Nat) (v6:Nat):Option Nat :=
  if (fcmp .lss .f64 v6 (0:Nat)) = true then
    some (qa1 .add .f64 v6 (4607182418800017408:Nat))
  else
    some v6
def qil (n:Nat) (f_:Nat):Option Nat :=
  (qk9 n f_).bind fun x9 =>
  if (fcmp .neq .f64 x9 (0:Nat)) = true then
    qgp n (qa1 .sub .f64 f_ x9)
  else
    qgp n f_
theorem impl_partOf_ok_fr0 (fr:Bool) (n:Nat) (f_:Nat) {r:Nat} (h:qil n f_ = some r):qaq prog fr 153 [.d (.fl .f64 f_)] [] (fun v o new=>v = .d (.fl .f64 r)∧o = []∧new = []):=by
  refine qaf hτ func153 rfl (by simp) (by simp) ?_
  unfold qil at h
  refine qa6 ?_
  refine qa2 ?_
  refine qa0 hτ rfl rfl rfl ?_
  refine qa4 ?_
  refine qbw (ι:=Nat) (fun v6=>St.of [(0,.d (.fl .f64 v6))] [] f153.ntmps 0) (fun v6=>qgp n v6 = some r) ?_ (fun hk8=>?_)
  · rintro v6 h
    replace h:qgp n v6 = some r:=h
    unfold qgp at h
    refine qa6 ?_
    refine qa6 ?_
    refine qa2 ?_
    refine qa0 hτ rfl rfl rfl ?_
    refine qa0 hτ rfl rfl rfl ?_
    refine qa4 ?_
    refine qar rfl (fun hc7=>?_) (fun hc7=>?_)
    · have h:=qcl h hc7
      refine qa2 ?_
      refine qa0 hτ rfl rfl rfl ?_
      refine qa0 hτ rfl rfl rfl ?_
      refine qa0 hτ rfl rfl rfl ?_
      refine qa4 ?_
      refine qa6 ?_
      refine qa2 ?_
      refine qa0 hτ rfl rfl rfl ?_
      refine qa0 hτ rfl rfl rfl ?_
      refine qa4 ?_
      refine qa8 (qa3 [] (l:=[(2,.d (.fl .f64 (qa1 .add .f64 v6 (4607182418800017408:Nat))))]) (objs:=[]) rfl (by simp) rfl (by trivial) ⟨rfl,trivial,trivial⟩) ?_
      refine qal ?_
      have hr:=Option.some.inj h
      subst hr
      exact qae (.inr rfl) [] (objs':=[]) (new:=[]) rfl (by simp) (by simp) rfl (by trivial) rfl rfl (by trivial) (fun _=>⟨by simp [V.flat,V.qb7,V.qb5,D.flat],qag⟩) ⟨rfl,rfl,rfl⟩
    · have h:=qck h hc7
      refine qb9 ?_
      refine qa6 ?_
      refine qa2 ?_
      refine qa0 hτ rfl rfl rfl ?_
      refine qa0 hτ rfl rfl rfl ?_
      refine qa4 ?_
      refine qa8 (qa3 [] (l:=[(2,.d (.fl .f64 v6))]) (objs:=[]) rfl (by simp) rfl (by trivial) ⟨rfl,trivial,trivial⟩) ?_
      refine qal ?_
      have hr:=Option.some.inj h
      subst hr
      exact qae (.inr rfl) [] (objs':=[]) (new:=[]) rfl (by simp) (by simp) rfl (by trivial) rfl rfl (by trivial) (fun _=>⟨by simp [V.flat,V.qb7,V.qb5,D.flat],qag⟩) ⟨rfl,rfl,rfl⟩
  · refine qa6 ?_
    refine qa6 ?_
    refine qa2 ?_
    refine qa0 hτ rfl rfl rfl ?_
    refine qa7 h fun x9 hx9 h=>?_
    refine qab hτ false [] rfl rfl rfl (qac func175 rfl rfl) rfl rfl (by simp) ⟨trivial,trivial⟩ (by trivial) (math_Trunc_ok n f_ hx9) ?_
    rintro r0 o0 n0 ⟨rfl,rfl,rfl⟩ -
    refine qa0 hτ rfl rfl rfl ?_
    refine qa4 ?_
    refine qa6 ?_
    refine qa2 ?_
    refine qa0 hτ rfl rfl rfl ?_
    refine qa0 hτ rfl rfl rfl ?_
    refine qa4 ?_
    refine qa8 (qa3 [] (l:=[(0,.d (.fl .f64 f_)),(3,.d (.fl .f64 x9)),(7,.d (.bool (fcmp .neq .f64 x9 (0:Nat))))]) (objs:=[]) rfl (by simp) rfl (by trivial) ⟨rfl,trivial,rfl,trivial,rfl,trivial,trivial⟩) ?_
    refine qar rfl (fun hc10=>?_) (fun hc10=>?_)
    · have h:=qcl h hc10
      refine qa2 ?_
      refine qa0 hτ rfl rfl rfl ?_
      refine qa0 hτ rfl rfl rfl ?_
      refine qa0 hτ rfl rfl rfl ?_
      refine qa0 hτ rfl rfl rfl ?_
      refine qa4 ?_
      refine qa8 (qa3 [] (l:=[(0,.d (.fl .f64 (qa1 .sub .f64 f_ x9)))]) (objs:=[]) rfl (by simp) rfl (by trivial) ⟨rfl,trivial,trivial⟩) ?_
      exact hk8 (qa1 .sub .f64 f_ x9) h
    · have h:=qck h hc10
      refine qb9 ?_
      refine qa8 (qa3 [] (l:=[(0,.d (.fl .f64 f_))]) (objs:=[]) rfl (by simp) rfl (by trivial) ⟨rfl,trivial,trivial⟩) ?_
      exact hk8 f_ h
theorem qlq (n:Nat) (f_:Nat) {r:Nat} (h:qil n f_ = some r):qaq prog false 153 [.d (.fl .f64 f_)] [] (fun v o new=>v = .d (.fl .f64 r)∧o = []∧new = []):=impl_partOf_ok_fr0 false n f_ h
def qj0 (n:Nat) (x8:Nat) (v12:Nat) (v17:Nat):Option Nat :=
  if (fcmp .geq .f64 x8 (4602678819172646912:Nat)) = true then
    some (fneg .f64 (qa1 .mul .f64 (qa1 .mul .f64 v12 (4618760256179416344:Nat)) v17))
  else
    some (qa1 .mul .f64 (qa1 .mul .f64 v12 (4618760256179416344:Nat)) v17)
def qgu (n:Nat) (x8:Nat) (v12:Nat):Nat→Nat→Int→Option Nat
  | 0,_,_=>none
  | m24 + 1,v20,v21 =>
    if v21 ≥ (1:Int) then
      (qgu n x8 v12 m24) (qa1 .sub .f64 (4607182418800017408:Nat) (qa1 .quo .f64 (qa1 .mul .f64 (qa1 .mul .f64 (qa1 .mul .f64 v12 (4618760256179416344:Nat)) (qa1 .mul .f64 v12 (4618760256179416344:Nat))) v20) (FloatKind.nearest .f64 (w64 ((w64 ((2:Int) * v21)) * (w64 ((w64 ((2:Int) * v21)) + (1:Int)))))))) (w64 (v21 - (1:Int)))
    else
      qj0 n x8 v12 v20
def qhv (n:Nat) (x8:Nat) (v12:Nat):Option Nat :=
  qgu n x8 v12 n (4607182418800017408:Nat) (8:Int)
def qhu (n:Nat) (x8:Nat) (v10:Nat):Option Nat :=
  if (fcmp .gtr .f64 v10 (4598175219545276416:Nat)) = true then
    qhv n x8 (qa1 .sub .f64 (4602678819172646912:Nat) v10)
  else
    qhv n x8 v10
def qjx (n:Nat) (turns_:Nat):Option Nat :=
  (qil n turns_).bind fun x8 =>
  if (fcmp .geq .f64 x8 (4602678819172646912:Nat)) = true then
    qhu n x8 (qa1 .sub .f64 x8 (4602678819172646912:Nat))
  else
    qhu n x8 x8
theorem impl_sine_ok_fr0 (fr:Bool) (n:Nat) (turns_:Nat) {r:Nat} (h:qjx n turns_ = some r):qaq prog fr 154 [.d (.fl .f64 turns_)] [] (fun v o new=>v = .d (.fl .f64 r)∧o = []∧new = []):=by
  refine qaf hτ func154 rfl (by simp) (by simp) ?_
  unfold qjx at h
  refine qa6 ?_
  refine qa2 ?_
  refine qa0 hτ rfl rfl rfl ?_
  refine qa4 ?_
  refine qa6 ?_
  refine qa2 ?_
  refine qa0 hτ rfl rfl rfl ?_
  refine qa7 h fun x8 hx8 h=>?_
  refine qab hτ false [] rfl rfl rfl (qac func153 rfl rfl) rfl rfl (by simp) ⟨trivial,trivial⟩ (by trivial) (qlq n turns_ hx8) ?_
  rintro r0 o0 n0 ⟨rfl,rfl,rfl⟩ -
  refine qa0 hτ rfl rfl rfl ?_
  refine qa4 ?_
  refine qa6 ?_
  refine qa2 ?_
  refine qa0 hτ rfl rfl rfl ?_
  refine qa0 hτ rfl rfl rfl ?_
  refine qa0 hτ rfl rfl rfl ?_
  refine qa4 ?_
  refine qbw (ι:=Nat) (fun v10=>St.of [(3,.d (.fl .f64 v10)),(4,.d (.bool (fcmp .geq .f64 x8 (4602678819172646912:Nat))))] [] f154.ntmps 0) (fun v10=>qhu n x8 v10 = some r) ?_ (fun hk29=>?_)
  · rintro v10 h
    replace h:qhu n x8 v10 = some r:=h
    unfold qhu at h
    refine qbw (ι:=Nat) (fun v12=>St.of [(3,.d (.fl .f64 v12)),(4,.d (.bool (fcmp .geq .f64 x8 (4602678819172646912:Nat))))] [] f154.ntmps 0) (fun v12=>qhv n x8 v12 = some r) ?_ (fun hk27=>?_)
    · rintro v12 h
      replace h:qhv n x8 v12 = some r:=h
      unfold qhv at h
      refine qa6 ?_
      refine qa2 ?_
      refine qa0 hτ rfl rfl rfl ?_
      refine qa0 hτ rfl rfl rfl ?_
      refine qa0 hτ rfl rfl rfl ?_
      refine qa4 ?_
      refine qa6 ?_
      refine qa2 ?_
      refine qa0 hτ rfl rfl rfl ?_
      refine qa0 hτ rfl rfl rfl ?_
      refine qa0 hτ rfl rfl rfl ?_
      refine qa0 hτ rfl rfl rfl ?_
      refine qa0 hτ rfl rfl rfl ?_
      refine qa4 ?_
      refine qbw (ι:=Nat) (fun v17=>St.of [(4,.d (.bool (fcmp .geq .f64 x8 (4602678819172646912:Nat)))),(5,.d (.fl .f64 (qa1 .mul .f64 v12 (4618760256179416344:Nat)))),(7,.d (.fl .f64 v17))] [] f154.ntmps 0) (fun v17=>qj0 n x8 v12 v17 = some r) ?_ (fun hk19=>?_)
      · rintro v17 h
        replace h:qj0 n x8 v12 v17 = some r:=h
        unfold qj0 at h
        refine qa6 ?_
        refine qa6 ?_
        refine qa2 ?_
        refine qa0 hτ rfl rfl rfl ?_
        refine qa4 ?_
        refine qar rfl (fun hc18=>?_) (fun hc18=>?_)
        · have h:=qcl h hc18
          refine qa6 ?_
          refine qa2 ?_
          refine qa0 hτ rfl rfl rfl ?_
          refine qa0 hτ rfl rfl rfl ?_
          refine qa0 hτ rfl rfl rfl ?_
          refine qa0 hτ rfl rfl rfl ?_
          refine qa0 hτ rfl rfl rfl ?_
          refine qa4 ?_
          refine qa8 (qa3 [] (l:=[(2,.d (.fl .f64 (fneg .f64 (qa1 .mul .f64 (qa1 .mul .f64 v12 (4618760256179416344:Nat)) v17))))]) (objs:=[]) rfl (by simp) rfl (by trivial) ⟨rfl,trivial,trivial⟩) ?_
          refine qal ?_
          have hr:=Option.some.inj h
          subst hr
          exact qae (.inr rfl) [] (objs':=[]) (new:=[]) rfl (by simp) (by simp) rfl (by trivial) rfl rfl (by trivial) (fun _=>⟨by simp [V.flat,V.qb7,V.qb5,D.flat],qag⟩) ⟨rfl,rfl,rfl⟩
        · have h:=qck h hc18
          refine qb9 ?_
          refine qa6 ?_
          refine qa2 ?_
          refine qa0 hτ rfl rfl rfl ?_
          refine qa0 hτ rfl rfl rfl ?_
          refine qa0 hτ rfl rfl rfl ?_
          refine qa0 hτ rfl rfl rfl ?_
          refine qa4 ?_
          refine qa8 (qa3 [] (l:=[(2,.d (.fl .f64 (qa1 .mul .f64 (qa1 .mul .f64 v12 (4618760256179416344:Nat)) v17)))]) (objs:=[]) rfl (by simp) rfl (by trivial) ⟨rfl,trivial,trivial⟩) ?_
          refine qal ?_
          have hr:=Option.some.inj h
          subst hr
          exact qae (.inr rfl) [] (objs':=[]) (new:=[]) rfl (by simp) (by simp) rfl (by trivial) rfl rfl (by trivial) (fun _=>⟨by simp [V.flat,V.qb7,V.qb5,D.flat],qag⟩) ⟨rfl,rfl,rfl⟩
      · refine qa6 ?_
        refine qa6 ?_
        refine qa8 (qa3 [] (l:=[(4,.d (.bool (fcmp .geq .f64 x8 (4602678819172646912:Nat)))),(5,.d (.fl .f64 (qa1 .mul .f64 v12 (4618760256179416344:Nat)))),(6,.d (.fl .f64 (qa1 .mul .f64 (qa1 .mul .f64 v12 (4618760256179416344:Nat)) (qa1 .mul .f64 v12 (4618760256179416344:Nat))))),(7,.d (.fl .f64 (4607182418800017408:Nat)))]) (objs:=[]) rfl (by simp) rfl (by trivial) ⟨rfl,trivial,rfl,trivial,rfl,trivial,rfl,trivial,trivial⟩) ?_
        refine qa2 ?_
        refine qa0 hτ rfl rfl rfl ?_
        refine qa4 ?_
        refine qbo ?_
        refine qh3 (ι:=Nat × Nat × Int) (fun (m24,v20,v21)=>St.of [(4,.d (.bool (fcmp .geq .f64 x8 (4602678819172646912:Nat)))),(5,.d (.fl .f64 (qa1 .mul .f64 v12 (4618760256179416344:Nat)))),(6,.d (.fl .f64 (qa1 .mul .f64 (qa1 .mul .f64 v12 (4618760256179416344:Nat)) (qa1 .mul .f64 v12 (4618760256179416344:Nat))))),(7,.d (.fl .f64 v20)),(8,.d (.int .i64 v21))] [] f154.ntmps 0) (fun (m24,v20,v21)=>qgu n x8 v12 m24 v20 v21 = some r) (fun x=>x.1) (n,(4607182418800017408:Nat),(8:Int)) h (qa3 [] (l:=[(4,.d (.bool (fcmp .geq .f64 x8 (4602678819172646912:Nat)))),(5,.d (.fl .f64 (qa1 .mul .f64 v12 (4618760256179416344:Nat)))),(6,.d (.fl .f64 (qa1 .mul .f64 (qa1 .mul .f64 v12 (4618760256179416344:Nat)) (qa1 .mul .f64 v12 (4618760256179416344:Nat))))),(7,.d (.fl .f64 (4607182418800017408:Nat))),(8,.d (.int .i64 (8:Int)))]) (objs:=[]) rfl (by simp) rfl (by trivial) ⟨rfl,trivial,rfl,trivial,rfl,trivial,rfl,trivial,rfl,trivial,trivial⟩) ?_
        rintro ⟨m24,v20,v21⟩ h
        replace h:qgu n x8 v12 m24 v20 v21 = some r:=h
        rcases m24 with _ | m24
        · rw [qgu] at h;cases h
        rw [qgu] at h
        refine qa6 ?_
        refine qa6 ?_
        refine qa2 ?_
        refine qa0 hτ rfl rfl rfl ?_
        refine qa0 hτ rfl rfl rfl ?_
        refine qa4 ?_
        refine qar rfl (fun hc26=>?_) (fun hc26=>?_)
        · have h:=if_t h hc26
          refine qb9 ?_
          refine qa6 ?_
          refine qbo ?_
          refine qa2 ?_
          refine qa0 hτ rfl rfl rfl ?_
          refine qa0 hτ rfl rfl rfl ?_
          refine qa0 hτ rfl rfl rfl ?_
          refine qa0 hτ rfl rfl rfl ?_
          refine qa0 hτ rfl rfl rfl ?_
          refine qa0 hτ rfl rfl rfl ?_
          refine qa0 hτ rfl rfl rfl ?_
          refine qa0 hτ rfl rfl rfl ?_
          refine qa0 hτ rfl rfl rfl ?_
          refine qa0 hτ rfl rfl rfl ?_
          refine qas (qa3 [] (l:=[(4,.d (.bool (fcmp .geq .f64 x8 (4602678819172646912:Nat)))),(5,.d (.fl .f64 (qa1 .mul .f64 v12 (4618760256179416344:Nat)))),(6,.d (.fl .f64 (qa1 .mul .f64 (qa1 .mul .f64 v12 (4618760256179416344:Nat)) (qa1 .mul .f64 v12 (4618760256179416344:Nat))))),(8,.d (.int .i64 v21)),(31,.d (.fl .f64 (qa1 .mul .f64 (qa1 .mul .f64 (qa1 .mul .f64 v12 (4618760256179416344:Nat)) (qa1 .mul .f64 v12 (4618760256179416344:Nat))) v20))),(38,.d (.fl .f64 (FloatKind.nearest .f64 (w64 ((w64 ((2:Int) * v21)) * (w64 ((w64 ((2:Int) * v21)) + (1:Int))))))))]) (objs:=[]) rfl (by simp) rfl (by trivial) ⟨rfl,trivial,rfl,trivial,rfl,trivial,rfl,trivial,rfl,trivial,rfl,trivial,trivial⟩) ?_
          refine qa0 hτ rfl rfl rfl ?_
          refine qa0 hτ rfl rfl rfl ?_
          refine qa0 hτ rfl rfl rfl ?_
          refine qa4 ?_
          refine qa2 ?_
          refine qa0 hτ rfl rfl rfl ?_
          refine qa0 hτ rfl rfl rfl ?_
          refine qa0 hτ rfl rfl rfl ?_
          refine qa4 ?_
          exact ⟨(m24,(qa1 .sub .f64 (4607182418800017408:Nat) (qa1 .quo .f64 (qa1 .mul .f64 (qa1 .mul .f64 (qa1 .mul .f64 v12 (4618760256179416344:Nat)) (qa1 .mul .f64 v12 (4618760256179416344:Nat))) v20) (FloatKind.nearest .f64 (w64 ((w64 ((2:Int) * v21)) * (w64 ((w64 ((2:Int) * v21)) + (1:Int)))))))),(w64 (v21 - (1:Int)))),h,Nat.lt_succ_self m24,(qa3 [] (l:=[(4,.d (.bool (fcmp .geq .f64 x8 (4602678819172646912:Nat)))),(5,.d (.fl .f64 (qa1 .mul .f64 v12 (4618760256179416344:Nat)))),(6,.d (.fl .f64 (qa1 .mul .f64 (qa1 .mul .f64 v12 (4618760256179416344:Nat)) (qa1 .mul .f64 v12 (4618760256179416344:Nat))))),(7,.d (.fl .f64 (qa1 .sub .f64 (4607182418800017408:Nat) (qa1 .quo .f64 (qa1 .mul .f64 (qa1 .mul .f64 (qa1 .mul .f64 v12 (4618760256179416344:Nat)) (qa1 .mul .f64 v12 (4618760256179416344:Nat))) v20) (FloatKind.nearest .f64 (w64 ((w64 ((2:Int) * v21)) * (w64 ((w64 ((2:Int) * v21)) + (1:Int)))))))))),(8,.d (.int .i64 (w64 (v21 - (1:Int)))))]) (objs:=[]) rfl (by simp) rfl (by trivial) ⟨rfl,trivial,rfl,trivial,rfl,trivial,rfl,trivial,rfl,trivial,trivial⟩)⟩
        · have h:=if_f h hc26
          refine qh2 ?_
          refine qa8 (qa3 [] (l:=[(4,.d (.bool (fcmp .geq .f64 x8 (4602678819172646912:Nat)))),(5,.d (.fl .f64 (qa1 .mul .f64 v12 (4618760256179416344:Nat)))),(7,.d (.fl .f64 v20))]) (objs:=[]) rfl (by simp) rfl (by trivial) ⟨rfl,trivial,rfl,trivial,rfl,trivial,trivial⟩) ?_
          exact hk19 v20 h
    · refine qa6 ?_
      refine qa6 ?_
      refine qa2 ?_
      refine qa0 hτ rfl rfl rfl ?_
      refine qa0 hτ rfl rfl rfl ?_
      refine qa4 ?_
      refine qar rfl (fun hc28=>?_) (fun hc28=>?_)
      · have h:=qcl h hc28
        refine qa2 ?_
        refine qa0 hτ rfl rfl rfl ?_
        refine qa0 hτ rfl rfl rfl ?_
        refine qa0 hτ rfl rfl rfl ?_
        refine qa4 ?_
        refine qa8 (qa3 [] (l:=[(3,.d (.fl .f64 (qa1 .sub .f64 (4602678819172646912:Nat) v10))),(4,.d (.bool (fcmp .geq .f64 x8 (4602678819172646912:Nat))))]) (objs:=[]) rfl (by simp) rfl (by trivial) ⟨rfl,trivial,rfl,trivial,trivial⟩) ?_
        exact hk27 (qa1 .sub .f64 (4602678819172646912:Nat) v10) h
      · have h:=qck h hc28
        refine qb9 ?_
        refine qa8 (qa3 [] (l:=[(3,.d (.fl .f64 v10)),(4,.d (.bool (fcmp .geq .f64 x8 (4602678819172646912:Nat))))]) (objs:=[]) rfl (by simp) rfl (by trivial) ⟨rfl,trivial,rfl,trivial,trivial⟩) ?_
        exact hk27 v10 h
  · refine qa6 ?_
    refine qa6 ?_
    refine qa8 (qa3 [] (l:=[(3,.d (.fl .f64 x8)),(4,.d (.bool (fcmp .geq .f64 x8 (4602678819172646912:Nat))))]) (objs:=[]) rfl (by simp) rfl (by trivial) ⟨rfl,trivial,rfl,trivial,trivial⟩) ?_
    refine qa2 ?_
    refine qa0 hτ rfl rfl rfl ?_
    refine qa4 ?_
    refine qar rfl (fun hc30=>?_) (fun hc30=>?_)
    · have h:=qcl h hc30
      refine qa2 ?_
      refine qa0 hτ rfl rfl rfl ?_
      refine qa0 hτ rfl rfl rfl ?_
      refine qa0 hτ rfl rfl rfl ?_
      refine qa4 ?_
      refine qa8 (qa3 [] (l:=[(3,.d (.fl .f64 (qa1 .sub .f64 x8 (4602678819172646912:Nat)))),(4,.d (.bool (fcmp .geq .f64 x8 (4602678819172646912:Nat))))]) (objs:=[]) rfl (by simp) rfl (by trivial) ⟨rfl,trivial,rfl,trivial,trivial⟩) ?_
      exact hk29 (qa1 .sub .f64 x8 (4602678819172646912:Nat)) h
    · have h:=qck h hc30
      refine qb9 ?_
      refine qa8 (qa3 [] (l:=[(3,.d (.fl .f64 x8)),(4,.d (.bool (fcmp .geq .f64 x8 (4602678819172646912:Nat))))]) (objs:=[]) rfl (by simp) rfl (by trivial) ⟨rfl,trivial,rfl,trivial,trivial⟩) ?_
      exact hk29 x8 h
theorem qn6 (n:Nat) (turns_:Nat) {r:Nat} (h:qjx n turns_ = some r):qaq prog false 154 [.d (.fl .f64 turns_)] [] (fun v o new=>v = .d (.fl .f64 r)∧o = []∧new = []):=impl_sine_ok_fr0 false n turns_ h
def qe1 (n:Nat) (v42:Nat) (v43:Nat):Option Cx :=
  (qh5 .f64 .f32 v42).bind fun x44 =>
  (qh5 .f64 .f32 v43).bind fun x45 =>
  some (Cx.mk x44 x45)
def qgx (n:Nat) (v32:Nat) (v33:Int):Option Cx :=
  (qjx n (qa1 .sub .f64 (4598175219545276416:Nat) v32)).bind fun x34 =>
  (qjx n v32).bind fun x35 =>
  if v33 = (1:Int) then
    qe1 n (qa1 .sub .f64 (0:Nat) x35) x34
  else
    if v33 = (2:Int) then
      qe1 n (qa1 .sub .f64 (0:Nat) x34) (qa1 .sub .f64 (0:Nat) x35)
    else
      if v33 = (3:Int) then
        qe1 n x35 (qa1 .sub .f64 (0:Nat) x34)
      else
        qe1 n x34 x35
def qey (n:Nat):Nat→Nat→Int→Option Cx
  | 0,_,_=>none
  | m55 + 1,v51,v52 =>
    if (fcmp .geq .f64 v51 (4598175219545276416:Nat)) = true then
      (qey n m55) (qa1 .sub .f64 v51 (4598175219545276416:Nat)) (w64 (v52 + (1:Int)))
    else
      qgx n v51 v52
def qh6 (n:Nat) (turns_:Nat):Option Cx :=
  if (fcmp .neq .f64 (qa1 .sub .f64 turns_ turns_) (0:Nat)) = true then
    (qke n).bind fun x23 =>
    (qke n).bind fun x24 =>
    some (Cx.mk x23 x24)
  else
    (qlm n turns_).bind fun x25 =>
    if (fcmp .geq .f64 x25 (4841369599423283200:Nat)) = true then
      some (Cx.mk (1065353216:Nat) (0:Nat))
    else
      (qil n turns_).bind fun x27 =>
      qey n n x27 (0:Int)
theorem impl_PhasorOf_ok_fr0 (fr:Bool) (n:Nat) (turns_:Nat) {r:Cx} (h:qh6 n turns_ = some r):qaq prog fr 121 [.d (.fl .f64 turns_)] [] (fun v o new=>v = .d (.cx .f32 r.re r.im)∧o = []∧new = []):=by
  refine qaf hτ func121 rfl (by simp) (by simp) ?_
  unfold qh6 at h
  refine qa6 ?_
  refine qa2 ?_
  refine qa0 hτ rfl rfl rfl ?_
  refine qa4 ?_
  refine qa6 ?_
  refine qbo ?_
  refine qa6 ?_
  refine qa2 ?_
  refine qa0 hτ rfl rfl rfl ?_
  refine qa0 hτ rfl rfl rfl ?_
  refine qa0 hτ rfl rfl rfl ?_
  refine qa0 hτ rfl rfl rfl ?_
  refine qa0 hτ rfl rfl rfl ?_
  refine qa4 ?_
  refine qa8 (qa3 [] (l:=[(0,.d (.fl .f64 turns_)),(7,.d (.bool (fcmp .neq .f64 (qa1 .sub .f64 turns_ turns_) (0:Nat))))]) (objs:=[]) rfl (by simp) rfl (by trivial) ⟨rfl,trivial,rfl,trivial,trivial⟩) ?_
  refine qar rfl (fun hc22=>?_) (fun hc22=>?_)
  · have h:=qcl h hc22
    refine qa6 ?_
    refine qa2 ?_
    refine qa7 h fun x23 hx23 h=>?_
    refine qab hτ false [] rfl rfl rfl (qac func151 rfl rfl) rfl rfl (by simp) trivial (by trivial) (qny n hx23) ?_
    rintro r0 o0 n0 ⟨rfl,rfl,rfl⟩ -
    refine qa7 h fun x24 hx24 h=>?_
    refine qab hτ false [] rfl rfl rfl (qac func151 rfl rfl) rfl rfl (by simp) trivial (by trivial) (qny n hx24) ?_
    rintro r0 o0 n0 ⟨rfl,rfl,rfl⟩ -
    refine qa0 hτ rfl rfl rfl ?_
    refine qa0 hτ rfl rfl rfl ?_
    refine qa4 ?_
    refine qa8 (qa3 [] (l:=[(2,.d (.cx .f32 x23 x24))]) (objs:=[]) rfl (by simp) rfl (by trivial) ⟨rfl,trivial,trivial⟩) ?_
    refine qal ?_
    have hr:=Option.some.inj h
    subst hr
    exact qae (.inr rfl) [] (objs':=[]) (new:=[]) rfl (by simp) (by simp) rfl (by trivial) rfl rfl (by trivial) (fun _=>⟨by simp [V.flat,V.qb7,V.qb5,D.flat],qag⟩) ⟨rfl,rfl,rfl⟩
  · have h:=qck h hc22
    refine qa6 ?_
    refine qa2 ?_
    refine qa0 hτ rfl rfl rfl ?_
    refine qa7 h fun x25 hx25 h=>?_
    refine qab hτ false [] rfl rfl rfl (qac func152 rfl rfl) rfl rfl (by simp) ⟨trivial,trivial⟩ (by trivial) (math_Abs_ok n turns_ hx25) ?_
    rintro r0 o0 n0 ⟨rfl,rfl,rfl⟩ -
    refine qa0 hτ rfl rfl rfl ?_
    refine qa0 hτ rfl rfl rfl ?_
    refine qa4 ?_
    refine qar rfl (fun hc26=>?_) (fun hc26=>?_)
    · have h:=qcl h hc26
      refine qa6 ?_
      refine qa2 ?_
      refine qa0 hτ rfl rfl rfl ?_
      refine qa4 ?_
      refine qa8 (qa3 [] (l:=[(2,.d (.cx .f32 (1065353216:Nat) (0:Nat)))]) (objs:=[]) rfl (by simp) rfl (by trivial) ⟨rfl,trivial,trivial⟩) ?_
      refine qal ?_
      have hr:=Option.some.inj h
      subst hr
      exact qae (.inr rfl) [] (objs':=[]) (new:=[]) rfl (by simp) (by simp) rfl (by trivial) rfl rfl (by trivial) (fun _=>⟨by simp [V.flat,V.qb7,V.qb5,D.flat],qag⟩) ⟨rfl,rfl,rfl⟩
    · have h:=qck h hc26
      refine qb9 ?_
      refine qa6 ?_
      refine qa2 ?_
      refine qa0 hτ rfl rfl rfl ?_
      refine qa7 h fun x27 hx27 h=>?_
      refine qab hτ false [] rfl rfl rfl (qac func153 rfl rfl) rfl rfl (by simp) ⟨trivial,trivial⟩ (by trivial) (qlq n turns_ hx27) ?_
      rintro r0 o0 n0 ⟨rfl,rfl,rfl⟩ -
      refine qa0 hτ rfl rfl rfl ?_
      refine qa0 hτ rfl rfl rfl ?_
      refine qa4 ?_
      refine qbw (ι:=Nat × Int) (fun (v32,v33)=>St.of [(3,.d (.fl .f64 v32)),(4,.d (.int .i64 v33))] [] f121.ntmps 0) (fun (v32,v33)=>qgx n v32 v33 = some r) ?_ (fun hk50=>?_)
      · rintro ⟨v32,v33⟩ h
        replace h:qgx n v32 v33 = some r:=h
        unfold qgx at h
        refine qa6 ?_
        refine qa2 ?_
        refine qa0 hτ rfl rfl rfl ?_
        refine qa0 hτ rfl rfl rfl ?_
        refine qa7 h fun x34 hx34 h=>?_
        refine qab hτ false [] rfl rfl rfl (qac func154 rfl rfl) rfl rfl (by simp) ⟨trivial,trivial⟩ (by trivial) (qn6 n (qa1 .sub .f64 (4598175219545276416:Nat) v32) hx34) ?_
        rintro r0 o0 n0 ⟨rfl,rfl,rfl⟩ -
        refine qa0 hτ rfl rfl rfl ?_
        refine qa7 h fun x35 hx35 h=>?_
        refine qab hτ false [] rfl rfl rfl (qac func154 rfl rfl) rfl rfl (by simp) ⟨trivial,trivial⟩ (by trivial) (qn6 n v32 hx35) ?_
        rintro r0 o0 n0 ⟨rfl,rfl,rfl⟩ -
        refine qa0 hτ rfl rfl rfl ?_
        refine qa0 hτ rfl rfl rfl ?_
        refine qa4 ?_
        refine qbw (ι:=Nat × Nat) (fun (v42,v43)=>St.of [(5,.d (.fl .f64 v42)),(6,.d (.fl .f64 v43))] [] f121.ntmps 0) (fun (v42,v43)=>qe1 n v42 v43 = some r) ?_ (fun hk46=>?_)
        · rintro ⟨v42,v43⟩ h
          replace h:qe1 n v42 v43 = some r:=h
          unfold qe1 at h
          refine qa6 ?_
          refine qa2 ?_
          refine qa0 hτ rfl rfl rfl ?_
          refine qa7 h fun x44 hx44 h=>?_
          refine qa0 hτ (v:=.d (.fl .f32 x44)) rfl rfl (qfu hx44) ?_
          refine qa0 hτ rfl rfl rfl ?_
          refine qa7 h fun x45 hx45 h=>?_
          refine qa0 hτ (v:=.d (.fl .f32 x45)) rfl rfl (qfu hx45) ?_
          refine qa0 hτ rfl rfl rfl ?_
          refine qa0 hτ rfl rfl rfl ?_
          refine qa4 ?_
          refine qa8 (qa3 [] (l:=[(2,.d (.cx .f32 x44 x45))]) (objs:=[]) rfl (by simp) rfl (by trivial) ⟨rfl,trivial,trivial⟩) ?_
          refine qal ?_
          have hr:=Option.some.inj h
          subst hr
          exact qae (.inr rfl) [] (objs':=[]) (new:=[]) rfl (by simp) (by simp) rfl (by trivial) rfl rfl (by trivial) (fun _=>⟨by simp [V.flat,V.qb7,V.qb5,D.flat],qag⟩) ⟨rfl,rfl,rfl⟩
        · refine qa6 ?_
          refine qa6 ?_
          refine qa8 (qa3 [] (l:=[(4,.d (.int .i64 v33)),(5,.d (.fl .f64 x34)),(6,.d (.fl .f64 x35))]) (objs:=[]) rfl (by simp) rfl (by trivial) ⟨rfl,trivial,rfl,trivial,rfl,trivial,trivial⟩) ?_
          refine qa2 ?_
          refine qa0 hτ rfl rfl rfl ?_
          refine qa4 ?_
          refine qbo ?_
          refine qa6 ?_
          refine qa2 ?_
          refine qa0 hτ (v:=.d (.bool (decide (v33 = (1:Int))))) rfl rfl (qgz _ _) ?_
          refine qa0 hτ rfl rfl rfl ?_
          refine qa4 ?_
          refine qar rfl (fun hc47=>?_) (fun hc47=>?_)
          · have h:=if_t h hc47
            refine qa2 ?_
            refine qa0 hτ rfl rfl rfl ?_
            refine qa0 hτ rfl rfl rfl ?_
            refine qa0 hτ rfl rfl rfl ?_
            refine qa0 hτ rfl rfl rfl ?_
            refine qa0 hτ rfl rfl rfl ?_
            refine qa4 ?_
            refine qa8 (qa3 [] (l:=[(5,.d (.fl .f64 (qa1 .sub .f64 (0:Nat) x35))),(6,.d (.fl .f64 x34))]) (objs:=[]) rfl (by simp) rfl (by trivial) ⟨rfl,trivial,rfl,trivial,trivial⟩) ?_
            exact hk46 ((qa1 .sub .f64 (0:Nat) x35),x34) h
          · have h:=if_f h hc47
            refine qa6 ?_
            refine qa2 ?_
            refine qa0 hτ (v:=.d (.bool (decide (v33 = (2:Int))))) rfl rfl (qgz _ _) ?_
            refine qa0 hτ rfl rfl rfl ?_
            refine qa4 ?_
            refine qar rfl (fun hc48=>?_) (fun hc48=>?_)
            · have h:=if_t h hc48
              refine qa2 ?_
              refine qa0 hτ rfl rfl rfl ?_
              refine qa0 hτ rfl rfl rfl ?_
              refine qa0 hτ rfl rfl rfl ?_
              refine qa0 hτ rfl rfl rfl ?_
              refine qa0 hτ rfl rfl rfl ?_
              refine qa0 hτ rfl rfl rfl ?_
              refine qa4 ?_
              refine qa8 (qa3 [] (l:=[(5,.d (.fl .f64 (qa1 .sub .f64 (0:Nat) x34))),(6,.d (.fl .f64 (qa1 .sub .f64 (0:Nat) x35)))]) (objs:=[]) rfl (by simp) rfl (by trivial) ⟨rfl,trivial,rfl,trivial,trivial⟩) ?_
              exact hk46 ((qa1 .sub .f64 (0:Nat) x34),(qa1 .sub .f64 (0:Nat) x35)) h
            · have h:=if_f h hc48
              refine qa6 ?_
              refine qa2 ?_
              refine qa0 hτ (v:=.d (.bool (decide (v33 = (3:Int))))) rfl rfl (qgz _ _) ?_
              refine qa0 hτ rfl rfl rfl ?_
              refine qa4 ?_
              refine qa8 (qa3 [] (l:=[(5,.d (.fl .f64 x34)),(6,.d (.fl .f64 x35)),(44,.d (.bool (decide (v33 = (3:Int)))))]) (objs:=[]) rfl (by simp) rfl (by trivial) ⟨rfl,trivial,rfl,trivial,rfl,trivial,trivial⟩) ?_
              refine qar rfl (fun hc49=>?_) (fun hc49=>?_)
              · have h:=if_t h hc49
                refine qa2 ?_
                refine qa0 hτ rfl rfl rfl ?_
                refine qa0 hτ rfl rfl rfl ?_
                refine qa0 hτ rfl rfl rfl ?_
                refine qa0 hτ rfl rfl rfl ?_
                refine qa0 hτ rfl rfl rfl ?_
                refine qa4 ?_
                refine qa8 (qa3 [] (l:=[(5,.d (.fl .f64 x35)),(6,.d (.fl .f64 (qa1 .sub .f64 (0:Nat) x34)))]) (objs:=[]) rfl (by simp) rfl (by trivial) ⟨rfl,trivial,rfl,trivial,trivial⟩) ?_
                exact hk46 (x35,(qa1 .sub .f64 (0:Nat) x34)) h
              · have h:=if_f h hc49
                refine qb9 ?_
                refine qa8 (qa3 [] (l:=[(5,.d (.fl .f64 x34)),(6,.d (.fl .f64 x35))]) (objs:=[]) rfl (by simp) rfl (by trivial) ⟨rfl,trivial,rfl,trivial,trivial⟩) ?_
                exact hk46 (x34,x35) h
      · refine qa6 ?_
        refine qbo ?_
        refine qh3 (ι:=Nat × Nat × Int) (fun (m55,v51,v52)=>St.of [(3,.d (.fl .f64 v51)),(4,.d (.int .i64 v52))] [] f121.ntmps 0) (fun (m55,v51,v52)=>qey n m55 v51 v52 = some r) (fun x=>x.1) (n,x27,(0:Int)) h (qa3 [] (l:=[(3,.d (.fl .f64 x27)),(4,.d (.int .i64 (0:Int)))]) (objs:=[]) rfl (by simp) rfl (by trivial) ⟨rfl,trivial,rfl,trivial,trivial⟩) ?_
        rintro ⟨m55,v51,v52⟩ h
        replace h:qey n m55 v51 v52 = some r:=h
        rcases m55 with _ | m55
        · rw [qey] at h;cases h
        rw [qey] at h
        refine qa6 ?_
        refine qa6 ?_
        refine qa2 ?_
        refine qa0 hτ rfl rfl rfl ?_
        refine qa0 hτ rfl rfl rfl ?_
        refine qa4 ?_
        refine qar rfl (fun hc57=>?_) (fun hc57=>?_)
        · have h:=qcl h hc57
          refine qb9 ?_
          refine qbo ?_
          refine qa6 ?_
          refine qa2 ?_
          refine qa0 hτ rfl rfl rfl ?_
          refine qa0 hτ rfl rfl rfl ?_
          refine qa0 hτ rfl rfl rfl ?_
          refine qa4 ?_
          refine qa2 ?_
          refine qa0 hτ rfl rfl rfl ?_
          refine qa0 hτ rfl rfl rfl ?_
          refine qa0 hτ rfl rfl rfl ?_
          refine qa4 ?_
          exact ⟨(m55,(qa1 .sub .f64 v51 (4598175219545276416:Nat)),(w64 (v52 + (1:Int)))),h,Nat.lt_succ_self m55,(qa3 [] (l:=[(3,.d (.fl .f64 (qa1 .sub .f64 v51 (4598175219545276416:Nat)))),(4,.d (.int .i64 (w64 (v52 + (1:Int)))))]) (objs:=[]) rfl (by simp) rfl (by trivial) ⟨rfl,trivial,rfl,trivial,trivial⟩)⟩
        · have h:=qck h hc57
          refine qh2 ?_
          refine qa8 (qa3 [] (l:=[(3,.d (.fl .f64 v51)),(4,.d (.int .i64 v52))]) (objs:=[]) rfl (by simp) rfl (by trivial) ⟨rfl,trivial,rfl,trivial,trivial⟩) ?_
          exact hk50 (v51,v52) h
theorem qkw (n:Nat) (turns_:Nat) {r:Cx} (h:qh6 n turns_ = some r):qaq prog false 121 [.d (.fl .f64 turns_)] [] (fun v o new=>v = .d (.cx .f32 r.re r.im)∧o = []∧new = []):=impl_PhasorOf_ok_fr0 false n turns_ h
def qie (n:Nat):Option (Cx × Cx) :=
  (qh6 n (4599676419421066581:Nat)).bind fun x3 =>
  (qh6 n (13823048456275842389:Nat)).bind fun x4 =>
  some (x3,x4)
theorem impl_turns_ok_fr0 (fr:Bool) (n:Nat) {r:Cx × Cx} (h:qie n = some r):qaq prog fr 76 [] [] (fun v o new=>v = .tup [.d (.cx .f32 r.1.re r.1.im),.d (.cx .f32 r.2.re r.2.im)]∧o = []∧new = []):=by
  refine qaf hτ func76 rfl (by simp) (by simp) ?_
  unfold qie at h
  refine qa6 ?_
  refine qa2 ?_
  refine qa0 hτ rfl rfl rfl ?_
  refine qa0 hτ rfl rfl rfl ?_
  refine qa4 ?_
  refine qa6 ?_
  refine qa2 ?_
  refine qa7 h fun x3 hx3 h=>?_
  refine qab hτ false [] rfl rfl rfl (qac func121 rfl rfl) rfl rfl (by simp) ⟨trivial,trivial⟩ (by trivial) (qkw n (4599676419421066581:Nat) hx3) ?_
  rintro r0 o0 n0 ⟨rfl,rfl,rfl⟩ -
  refine qa7 h fun x4 hx4 h=>?_
  refine qab hτ false [] rfl rfl rfl (qac func121 rfl rfl) rfl rfl (by simp) ⟨trivial,trivial⟩ (by trivial) (qkw n (13823048456275842389:Nat) hx4) ?_
  rintro r0 o0 n0 ⟨rfl,rfl,rfl⟩ -
  refine qa0 hτ rfl rfl rfl ?_
  refine qa0 hτ rfl rfl rfl ?_
  refine qa4 ?_
  refine qa8 (qa3 [] (l:=[(0,.d (.cx .f32 x3.re x3.im)),(1,.d (.cx .f32 x4.re x4.im))]) (objs:=[]) rfl (by simp) rfl (by trivial) ⟨rfl,trivial,rfl,trivial,trivial⟩) ?_
  refine qal ?_
  have hr:=Option.some.inj h
  subst hr
  exact qae (.inr rfl) [] (objs':=[]) (new:=[]) rfl (by simp) (by simp) rfl (by trivial) rfl rfl (by trivial) (fun _=>⟨by simp [V.flat,V.qb7,V.qb5,D.flat],qag⟩) ⟨rfl,rfl,rfl⟩
theorem qmb (n:Nat) {r:Cx × Cx} (h:qie n = some r):qaq prog false 76 [] [] (fun v o new=>v = .tup [.d (.cx .f32 r.1.re r.1.im),.d (.cx .f32 r.2.re r.2.im)]∧o = []∧new = []):=impl_turns_ok_fr0 false n h
def qdl (n:Nat) (x_:Cx) (by_:Nat):Option Cx :=
  some (Cx.mk (qa1 .mul .f32 x_.re by_) (qa1 .mul .f32 x_.im by_))
theorem impl_ScaleComplex_ok_fr0 (fr:Bool) (n:Nat) (x_:Cx) (by_:Nat) {r:Cx} (h:qdl n x_ by_ = some r):qaq prog fr 77 [.d (.cx .f32 x_.re x_.im),.d (.fl .f32 by_)] [] (fun v o new=>v = .d (.cx .f32 r.re r.im)∧o = []∧new = []):=by
  refine qaf hτ func77 rfl (by simp) (by simp) ?_
  unfold qdl at h
  refine qa6 ?_
  refine qa2 ?_
  refine qa0 hτ rfl rfl rfl ?_
  refine qa4 ?_
  refine qa6 ?_
  refine qa2 ?_
  refine qa0 hτ rfl rfl rfl ?_
  refine qa0 hτ rfl rfl rfl ?_
  refine qa0 hτ rfl rfl rfl ?_
  refine qa0 hτ rfl rfl rfl ?_
  refine qa0 hτ rfl rfl rfl ?_
  refine qa0 hτ rfl rfl rfl ?_
  refine qa0 hτ rfl rfl rfl ?_
  refine qa0 hτ rfl rfl rfl ?_
  refine qa0 hτ rfl rfl rfl ?_
  refine qa0 hτ rfl rfl rfl ?_
  refine qa4 ?_
  refine qa8 (qa3 [] (l:=[(4,.d (.cx .f32 (qa1 .mul .f32 x_.re by_) (qa1 .mul .f32 x_.im by_)))]) (objs:=[]) rfl (by simp) rfl (by trivial) ⟨rfl,trivial,trivial⟩) ?_
  refine qal ?_
  have hr:=Option.some.inj h
  subst hr
  exact qae (.inr rfl) [] (objs':=[]) (new:=[]) rfl (by simp) (by simp) rfl (by trivial) rfl rfl (by trivial) (fun _=>⟨by simp [V.flat,V.qb7,V.qb5,D.flat],qag⟩) ⟨rfl,rfl,rfl⟩
theorem qhp (n:Nat) (x_:Cx) (by_:Nat) {r:Cx} (h:qdl n x_ by_ = some r):qaq prog false 77 [.d (.cx .f32 x_.re x_.im),.d (.fl .f32 by_)] [] (fun v o new=>v = .d (.cx .f32 r.re r.im)∧o = []∧new = []):=impl_ScaleComplex_ok_fr0 false n x_ by_ h
def qef (n:Nat) (x_:Cx):Option (Nat × Nat) :=
  (qh5 .f32 .f64 x_.re).bind fun x3 =>
  (qh5 .f32 .f64 x_.im).bind fun x4 =>
  some (x3,x4)
theorem impl_wide_ok_fr0 (fr:Bool) (n:Nat) (x_:Cx) {r:Nat × Nat} (h:qef n x_ = some r):qaq prog fr 109 [.d (.cx .f32 x_.re x_.im)] [] (fun v o new=>v = .tup [.d (.fl .f64 r.1),.d (.fl .f64 r.2)]∧o = []∧new = []):=by
  refine qaf hτ func109 rfl (by simp) (by simp) ?_
  unfold qef at h
  refine qa6 ?_
  refine qa2 ?_
  refine qa0 hτ rfl rfl rfl ?_
  refine qa0 hτ rfl rfl rfl ?_
  refine qa4 ?_
  refine qa6 ?_
  refine qa2 ?_
  refine qa0 hτ rfl rfl rfl ?_
  refine qa0 hτ rfl rfl rfl ?_
  refine qa7 h fun x3 hx3 h=>?_
  refine qa0 hτ (v:=.d (.fl .f64 x3)) rfl rfl (qfu hx3) ?_
  refine qa0 hτ rfl rfl rfl ?_
  refine qa0 hτ rfl rfl rfl ?_
  refine qa7 h fun x4 hx4 h=>?_
  refine qa0 hτ (v:=.d (.fl .f64 x4)) rfl rfl (qfu hx4) ?_
  refine qa0 hτ rfl rfl rfl ?_
  refine qa0 hτ rfl rfl rfl ?_
  refine qa4 ?_
  refine qa8 (qa3 [] (l:=[(2,.d (.fl .f64 x3)),(3,.d (.fl .f64 x4))]) (objs:=[]) rfl (by simp) rfl (by trivial) ⟨rfl,trivial,rfl,trivial,trivial⟩) ?_
  refine qal ?_
  have hr:=Option.some.inj h
  subst hr
  exact qae (.inr rfl) [] (objs':=[]) (new:=[]) rfl (by simp) (by simp) rfl (by trivial) rfl rfl (by trivial) (fun _=>⟨by simp [V.flat,V.qb7,V.qb5,D.flat],qag⟩) ⟨rfl,rfl,rfl⟩
theorem qj6 (n:Nat) (x_:Cx) {r:Nat × Nat} (h:qef n x_ = some r):qaq prog false 109 [.d (.cx .f32 x_.re x_.im)] [] (fun v o new=>v = .tup [.d (.fl .f64 r.1),.d (.fl .f64 r.2)]∧o = []∧new = []):=impl_wide_ok_fr0 false n x_ h
def qah (n:Nat) (x_:Cx) (y_:Cx):Option Cx :=
  (qef n x_).bind fun x5 =>
  (qef n y_).bind fun x6 =>
  (qh5 .f64 .f32 (qa1 .sub .f64 (qa1 .mul .f64 x5.1 x6.1) (qa1 .mul .f64 x5.2 x6.2))).bind fun x7 =>
  (qh5 .f64 .f32 (qa1 .add .f64 (qa1 .mul .f64 x5.1 x6.2) (qa1 .mul .f64 x5.2 x6.1))).bind fun x8 =>
  some (Cx.mk x7 x8)
theorem impl_MulComplex_ok_fr0 (fr:Bool) (n:Nat) (x_:Cx) (y_:Cx) {r:Cx} (h:qah n x_ y_ = some r):qaq prog fr 52 [.d (.cx .f32 x_.re x_.im),.d (.cx .f32 y_.re y_.im)] [] (fun v o new=>v = .d (.cx .f32 r.re r.im)∧o = []∧new = []):=by
  refine qaf hτ func52 rfl (by simp) (by simp) ?_
  unfold qah at h
  refine qa6 ?_
  refine qa2 ?_
  refine qa0 hτ rfl rfl rfl ?_
  refine qa4 ?_
  refine qa6 ?_
  refine qa2 ?_
  refine qa0 hτ rfl rfl rfl ?_
  refine qa7 h fun x5 hx5 h=>?_
  refine qab hτ false [] rfl rfl rfl (qac func109 rfl rfl) rfl rfl (by simp) ⟨trivial,trivial⟩ (by trivial) (qj6 n x_ hx5) ?_
  rintro r0 o0 n0 ⟨rfl,rfl,rfl⟩ -
  refine qa0 hτ rfl rfl rfl ?_
  refine qa0 hτ rfl rfl rfl ?_
  refine qa0 hτ rfl rfl rfl ?_
  refine qa0 hτ rfl rfl rfl ?_
  refine qa0 hτ rfl rfl rfl ?_
  refine qa4 ?_
  refine qa6 ?_
  refine qa8 (qa3 [] (l:=[(1,.d (.cx .f32 y_.re y_.im)),(5,.d (.fl .f64 x5.1)),(6,.d (.fl .f64 x5.2))]) (objs:=[]) rfl (by simp) rfl (by trivial) ⟨rfl,trivial,rfl,trivial,rfl,trivial,trivial⟩) ?_
  refine qa2 ?_
  refine qa0 hτ rfl rfl rfl ?_
  refine qa7 h fun x6 hx6 h=>?_
  refine qab hτ false [] rfl rfl rfl (qac func109 rfl rfl) rfl rfl (by simp) ⟨trivial,trivial⟩ (by trivial) (qj6 n y_ hx6) ?_
  rintro r0 o0 n0 ⟨rfl,rfl,rfl⟩ -
  refine qa0 hτ rfl rfl rfl ?_
  refine qa0 hτ rfl rfl rfl ?_
  refine qa0 hτ rfl rfl rfl ?_
  refine qa0 hτ rfl rfl rfl ?_
  refine qa0 hτ rfl rfl rfl ?_
  refine qa4 ?_
  refine qa6 ?_
  refine qa8 (qa3 [] (l:=[(5,.d (.fl .f64 x5.1)),(6,.d (.fl .f64 x5.2)),(7,.d (.fl .f64 x6.1)),(8,.d (.fl .f64 x6.2))]) (objs:=[]) rfl (by simp) rfl (by trivial) ⟨rfl,trivial,rfl,trivial,rfl,trivial,rfl,trivial,trivial⟩) ?_
  refine qa2 ?_
  refine qa0 hτ rfl rfl rfl ?_
  refine qa0 hτ rfl rfl rfl ?_
  refine qa0 hτ rfl rfl rfl ?_
  refine qa0 hτ rfl rfl rfl ?_
  refine qa0 hτ rfl rfl rfl ?_
  refine qa0 hτ rfl rfl rfl ?_
  refine qa0 hτ rfl rfl rfl ?_
  refine qa7 h fun x7 hx7 h=>?_
  refine qa0 hτ (v:=.d (.fl .f32 x7)) rfl rfl (qfu hx7) ?_
  refine qa0 hτ rfl rfl rfl ?_
  refine qa0 hτ rfl rfl rfl ?_
  refine qa0 hτ rfl rfl rfl ?_
  refine qa0 hτ rfl rfl rfl ?_
  refine qas (qa3 [] (l:=[(7,.d (.fl .f64 x6.1)),(26,.d (.fl .f32 x7)),(29,.d (.fl .f64 (qa1 .mul .f64 x5.1 x6.2))),(30,.d (.fl .f64 x5.2))]) (objs:=[]) rfl (by simp) rfl (by trivial) ⟨rfl,trivial,rfl,trivial,rfl,trivial,rfl,trivial,trivial⟩) ?_
  refine qa0 hτ rfl rfl rfl ?_
  refine qa0 hτ rfl rfl rfl ?_
  refine qa0 hτ rfl rfl rfl ?_
  refine qa7 h fun x8 hx8 h=>?_
  refine qa0 hτ (v:=.d (.fl .f32 x8)) rfl rfl (qfu hx8) ?_
  refine qa0 hτ rfl rfl rfl ?_
  refine qa0 hτ rfl rfl rfl ?_
  refine qa4 ?_
  refine qa8 (qa3 [] (l:=[(4,.d (.cx .f32 x7 x8))]) (objs:=[]) rfl (by simp) rfl (by trivial) ⟨rfl,trivial,trivial⟩) ?_
  refine qal ?_
  have hr:=Option.some.inj h
  subst hr
  exact qae (.inr rfl) [] (objs':=[]) (new:=[]) rfl (by simp) (by simp) rfl (by trivial) rfl rfl (by trivial) (fun _=>⟨by simp [V.flat,V.qb7,V.qb5,D.flat],qag⟩) ⟨rfl,rfl,rfl⟩
theorem qb2 (n:Nat) (x_:Cx) (y_:Cx) {r:Cx} (h:qah n x_ y_ = some r):qaq prog false 52 [.d (.cx .f32 x_.re x_.im),.d (.cx .f32 y_.re y_.im)] [] (fun v o new=>v = .d (.cx .f32 r.re r.im)∧o = []∧new = []):=impl_MulComplex_ok_fr0 false n x_ y_ h
def qcg (n:Nat) (p_:qax):Option qbl :=
  (qie n).bind fun x9 =>
  (qdl n (Cx.mk (qa1 .add .f32 (qa1 .add .f32 p_.A.re p_.B.re) p_.C.re) (qa1 .add .f32 (qa1 .add .f32 p_.A.im p_.B.im) p_.C.im)) (1051372203:Nat)).bind fun x10 =>
  (qah n x9.1 p_.B).bind fun x11 =>
  (qah n x9.2 p_.C).bind fun x12 =>
  (qdl n (Cx.mk (qa1 .add .f32 (qa1 .add .f32 p_.A.re x11.re) x12.re) (qa1 .add .f32 (qa1 .add .f32 p_.A.im x11.im) x12.im)) (1051372203:Nat)).bind fun x13 =>
  (qah n x9.2 p_.B).bind fun x14 =>
  (qah n x9.1 p_.C).bind fun x15 =>
  (qdl n (Cx.mk (qa1 .add .f32 (qa1 .add .f32 p_.A.re x14.re) x15.re) (qa1 .add .f32 (qa1 .add .f32 p_.A.im x14.im) x15.im)) (1051372203:Nat)).bind fun x16 =>
  some (qbl.mk x10 x13 x16)
theorem impl_PartsOf_ok_fr0 (fr:Bool) (n:Nat) (p_:qax) {r:qbl} (h:qcg n p_ = some r):qaq prog fr 24 [.agg [.d (.cx .f32 p_.A.re p_.A.im),.d (.cx .f32 p_.B.re p_.B.im),.d (.cx .f32 p_.C.re p_.C.im)]] [] (fun v o new=>v = .agg [.d (.cx .f32 r.Zero.re r.Zero.im),.d (.cx .f32 r.Plus.re r.Plus.im),.d (.cx .f32 r.qbq.re r.qbq.im)]∧o = []∧new = []):=by
  refine qaf hτ func24 rfl (by simp) (by simp) ?_
  unfold qcg at h
  refine qa6 ?_
  refine qa2 ?_
  refine qai hτ rfl rfl rfl ?_
  refine qai hτ rfl rfl rfl ?_
  refine qa4 ?_
  refine qa6 ?_
  refine qa2 ?_
  refine qa7 h fun x9 hx9 h=>?_
  refine qab hτ false [] rfl rfl rfl (qac func76 rfl rfl) rfl rfl (by simp) trivial (by trivial) (qmb n hx9) ?_
  rintro r0 o0 n0 ⟨rfl,rfl,rfl⟩ -
  refine qa0 hτ rfl rfl rfl ?_
  refine qa0 hτ rfl rfl rfl ?_
  refine qa0 hτ rfl rfl rfl ?_
  refine qa0 hτ rfl rfl rfl ?_
  refine qa0 hτ rfl rfl rfl ?_
  refine qa4 ?_
  refine qa6 ?_
  refine qa8 (qa3 [0,1] (l:=[(1,.ptr 0 0),(2,.ptr 1 0),(3,.d (.cx .f32 x9.1.re x9.1.im)),(4,.d (.cx .f32 x9.2.re x9.2.im))]) (objs:=[.box [.d (.cx .f32 p_.A.re p_.A.im),.d (.cx .f32 p_.B.re p_.B.im),.d (.cx .f32 p_.C.re p_.C.im)],.box [.d (.cx .f32 (0:Nat) (0:Nat)),.d (.cx .f32 (0:Nat) (0:Nat)),.d (.cx .f32 (0:Nat) (0:Nat))]]) rfl (by simp) rfl (by trivial) ⟨rfl,trivial,rfl,trivial,rfl,trivial,rfl,trivial,trivial⟩) ?_
  refine qd7 ?_
  refine qa5 hτ [0] 0 rfl rfl rfl rfl rfl ?_
  refine qa5 hτ [0] 1 rfl rfl rfl rfl rfl ?_
  refine qa5 hτ [0] 2 rfl rfl rfl rfl rfl ?_
  refine qa5 hτ [0] 3 rfl rfl rfl rfl rfl ?_
  refine qa5 hτ [] 4 rfl rfl rfl rfl rfl ?_
  refine qa5 hτ [0] 5 rfl rfl rfl rfl rfl ?_
  refine qa5 hτ [0] 6 rfl rfl rfl rfl rfl ?_
  refine qa5 hτ [] 7 rfl rfl rfl rfl rfl ?_
  refine qa5 hτ [0] 9 rfl rfl rfl rfl rfl ?_
  refine qa5 hτ [0] 10 rfl rfl rfl rfl rfl ?_
  refine qa5 hτ [] 11 rfl rfl rfl rfl rfl ?_
  refine qa5 hτ [0] 12 rfl rfl rfl rfl rfl ?_
  refine qa5 hτ [0] 13 rfl rfl rfl rfl rfl ?_
  refine qa5 hτ [] 16 rfl rfl rfl rfl rfl ?_
  refine qa5 hτ [0] 17 rfl rfl rfl rfl rfl ?_
  refine qa5 hτ [0] 18 rfl rfl rfl rfl rfl ?_
  refine qa5 hτ [0] 22 rfl rfl rfl rfl rfl ?_
  refine qa5 hτ [0] 23 rfl rfl rfl rfl rfl ?_
  refine qa5 hτ [] 24 rfl rfl rfl rfl rfl ?_
  refine qa5 hτ [0] 25 rfl rfl rfl rfl rfl ?_
  refine qa5 hτ [0] 26 rfl rfl rfl rfl rfl ?_
  refine qa5 hτ [] 29 rfl rfl rfl rfl rfl ?_
  refine qa5 hτ [0] 30 rfl rfl rfl rfl rfl ?_
  refine qa5 hτ [0] 31 rfl rfl rfl rfl rfl ?_
  refine qa7 h fun x10 hx10 h=>?_
  refine qak hτ false [] [0,1] 8 rfl rfl rfl rfl (qac func77 rfl rfl) rfl rfl (by simp) ⟨trivial,trivial,trivial⟩ (by trivial) (qhp n (Cx.mk (qa1 .add .f32 (qa1 .add .f32 p_.A.re p_.B.re) p_.C.re) (qa1 .add .f32 (qa1 .add .f32 p_.A.im p_.B.im) p_.C.im)) (1051372203:Nat) hx10) ⟨rfl,rfl,trivial⟩ ?_
  refine qa7 h fun x11 hx11 h=>?_
  refine qak hτ false [] [0,1] 14 rfl rfl rfl rfl (qac func52 rfl rfl) rfl rfl (by simp) ⟨trivial,trivial,trivial⟩ (by trivial) (qb2 n x9.1 p_.B hx11) ⟨rfl,rfl,trivial⟩ ?_
  refine qa5 hτ [] 15 rfl rfl rfl rfl rfl ?_
  refine qa7 h fun x12 hx12 h=>?_
  refine qak hτ false [] [0,1] 19 rfl rfl rfl rfl (qac func52 rfl rfl) rfl rfl (by simp) ⟨trivial,trivial,trivial⟩ (by trivial) (qb2 n x9.2 p_.C hx12) ⟨rfl,rfl,trivial⟩ ?_
  refine qa5 hτ [] 20 rfl rfl rfl rfl rfl ?_
  refine qa7 h fun x13 hx13 h=>?_
  refine qak hτ false [] [0,1] 21 rfl rfl rfl rfl (qac func77 rfl rfl) rfl rfl (by simp) ⟨trivial,trivial,trivial⟩ (by trivial) (qhp n (Cx.mk (qa1 .add .f32 (qa1 .add .f32 p_.A.re x11.re) x12.re) (qa1 .add .f32 (qa1 .add .f32 p_.A.im x11.im) x12.im)) (1051372203:Nat) hx13) ⟨rfl,rfl,trivial⟩ ?_
  refine qa7 h fun x14 hx14 h=>?_
  refine qak hτ false [] [0,1] 27 rfl rfl rfl rfl (qac func52 rfl rfl) rfl rfl (by simp) ⟨trivial,trivial,trivial⟩ (by trivial) (qb2 n x9.2 p_.B hx14) ⟨rfl,rfl,trivial⟩ ?_
  refine qa5 hτ [] 28 rfl rfl rfl rfl rfl ?_
  refine qa7 h fun x15 hx15 h=>?_
  refine qak hτ false [] [0,1] 32 rfl rfl rfl rfl (qac func52 rfl rfl) rfl rfl (by simp) ⟨trivial,trivial,trivial⟩ (by trivial) (qb2 n x9.1 p_.C hx15) ⟨rfl,rfl,trivial⟩ ?_
  refine qa5 hτ [] 33 rfl rfl rfl rfl rfl ?_
  refine qa7 h fun x16 hx16 h=>?_
  refine qak hτ false [] [0,1] 34 rfl rfl rfl rfl (qac func77 rfl rfl) rfl rfl (by simp) ⟨trivial,trivial,trivial⟩ (by trivial) (qhp n (Cx.mk (qa1 .add .f32 (qa1 .add .f32 p_.A.re x14.re) x15.re) (qa1 .add .f32 (qa1 .add .f32 p_.A.im x14.im) x15.im)) (1051372203:Nat) hx16) ⟨rfl,rfl,trivial⟩ ?_
  refine qa5 hτ [] 35 rfl rfl rfl rfl rfl ?_
  refine qbe hτ [0] 36 rfl rfl rfl rfl ⟨rfl,trivial⟩ ?_
  refine qbk mixed (by kernel_rfl) ?_
  refine qa8 (qa3 [1] (l:=[(2,.ptr 0 0)]) (objs:=[.box [.d (.cx .f32 x10.re x10.im),.d (.cx .f32 x13.re x13.im),.d (.cx .f32 x16.re x16.im)]]) rfl (by simp) rfl (by trivial) ⟨rfl,trivial,trivial⟩) ?_
  refine qal ?_
  have hr:=Option.some.inj h
  subst hr
  exact qae (.inr rfl) [] (objs':=[]) (new:=[]) rfl (by simp) (by simp) rfl (by trivial) rfl rfl (by trivial) (fun _=>⟨by simp [V.flat,V.qb7,V.qb5,D.flat],qag⟩) ⟨rfl,rfl,rfl⟩
theorem ql5 (n:Nat) (p_:qax) {r:qbl} (h:qcg n p_ = some r):qaq prog false 24 [.agg [.d (.cx .f32 p_.A.re p_.A.im),.d (.cx .f32 p_.B.re p_.B.im),.d (.cx .f32 p_.C.re p_.C.im)]] [] (fun v o new=>v = .agg [.d (.cx .f32 r.Zero.re r.Zero.im),.d (.cx .f32 r.Plus.re r.Plus.im),.d (.cx .f32 r.qbq.re r.qbq.im)]∧o = []∧new = []):=impl_PartsOf_ok_fr0 false n p_ h
def qex (n:Nat) (x_:Cx):Option Cx :=
  some (Cx.mk x_.re (fneg .f32 x_.im))
theorem impl_ConjugateOf_ok_fr0 (fr:Bool) (n:Nat) (x_:Cx) {r:Cx} (h:qex n x_ = some r):qaq prog fr 116 [.d (.cx .f32 x_.re x_.im)] [] (fun v o new=>v = .d (.cx .f32 r.re r.im)∧o = []∧new = []):=by
  refine qaf hτ func116 rfl (by simp) (by simp) ?_
  unfold qex at h
  refine qa6 ?_
  refine qa2 ?_
  refine qa0 hτ rfl rfl rfl ?_
  refine qa4 ?_
  refine qa6 ?_
  refine qa2 ?_
  refine qa0 hτ rfl rfl rfl ?_
  refine qa0 hτ rfl rfl rfl ?_
  refine qa0 hτ rfl rfl rfl ?_
  refine qa0 hτ rfl rfl rfl ?_
  refine qa0 hτ rfl rfl rfl ?_
  refine qa0 hτ rfl rfl rfl ?_
  refine qa0 hτ rfl rfl rfl ?_
  refine qa4 ?_
  refine qa8 (qa3 [] (l:=[(2,.d (.cx .f32 x_.re (fneg .f32 x_.im)))]) (objs:=[]) rfl (by simp) rfl (by trivial) ⟨rfl,trivial,trivial⟩) ?_
  refine qal ?_
  have hr:=Option.some.inj h
  subst hr
  exact qae (.inr rfl) [] (objs':=[]) (new:=[]) rfl (by simp) (by simp) rfl (by trivial) rfl rfl (by trivial) (fun _=>⟨by simp [V.flat,V.qb7,V.qb5,D.flat],qag⟩) ⟨rfl,rfl,rfl⟩
theorem impl_ConjugateOf_ok (n:Nat) (x_:Cx) {r:Cx} (h:qex n x_ = some r):qaq prog false 116 [.d (.cx .f32 x_.re x_.im)] [] (fun v o new=>v = .d (.cx .f32 r.re r.im)∧o = []∧new = []):=impl_ConjugateOf_ok_fr0 false n x_ h
def qgj (n:Nat) (x_:Cx):Option Nat :=
  (qef n x_).bind fun x2 =>
  some (qa1 .add .f64 (qa1 .mul .f64 x2.1 x2.1) (qa1 .mul .f64 x2.2 x2.2))
theorem impl_power_ok_fr0 (fr:Bool) (n:Nat) (x_:Cx) {r:Nat} (h:qgj n x_ = some r):qaq prog fr 117 [.d (.cx .f32 x_.re x_.im)] [] (fun v o new=>v = .d (.fl .f64 r)∧o = []∧new = []):=by
  refine qaf hτ func117 rfl (by simp) (by simp) ?_
  unfold qgj at h
  refine qa6 ?_
  refine qa2 ?_
  refine qa0 hτ rfl rfl rfl ?_
  refine qa4 ?_
  refine qa6 ?_
  refine qa2 ?_
  refine qa0 hτ rfl rfl rfl ?_
  refine qa7 h fun x2 hx2 h=>?_
  refine qab hτ false [] rfl rfl rfl (qac func109 rfl rfl) rfl rfl (by simp) ⟨trivial,trivial⟩ (by trivial) (qj6 n x_ hx2) ?_
  rintro r0 o0 n0 ⟨rfl,rfl,rfl⟩ -
  refine qa0 hτ rfl rfl rfl ?_
  refine qa0 hτ rfl rfl rfl ?_
  refine qa0 hτ rfl rfl rfl ?_
  refine qa0 hτ rfl rfl rfl ?_
  refine qa0 hτ rfl rfl rfl ?_
  refine qa4 ?_
  refine qa6 ?_
  refine qa8 (qa3 [] (l:=[(3,.d (.fl .f64 x2.1)),(4,.d (.fl .f64 x2.2))]) (objs:=[]) rfl (by simp) rfl (by trivial) ⟨rfl,trivial,rfl,trivial,trivial⟩) ?_
  refine qa2 ?_
  refine qa0 hτ rfl rfl rfl ?_
  refine qa0 hτ rfl rfl rfl ?_
  refine qa0 hτ rfl rfl rfl ?_
  refine qa0 hτ rfl rfl rfl ?_
  refine qa0 hτ rfl rfl rfl ?_
  refine qa0 hτ rfl rfl rfl ?_
  refine qa0 hτ rfl rfl rfl ?_
  refine qa0 hτ rfl rfl rfl ?_
  refine qa4 ?_
  refine qa8 (qa3 [] (l:=[(2,.d (.fl .f64 (qa1 .add .f64 (qa1 .mul .f64 x2.1 x2.1) (qa1 .mul .f64 x2.2 x2.2))))]) (objs:=[]) rfl (by simp) rfl (by trivial) ⟨rfl,trivial,trivial⟩) ?_
  refine qal ?_
  have hr:=Option.some.inj h
  subst hr
  exact qae (.inr rfl) [] (objs':=[]) (new:=[]) rfl (by simp) (by simp) rfl (by trivial) rfl rfl (by trivial) (fun _=>⟨by simp [V.flat,V.qb7,V.qb5,D.flat],qag⟩) ⟨rfl,rfl,rfl⟩
theorem qma (n:Nat) (x_:Cx) {r:Nat} (h:qgj n x_ = some r):qaq prog false 117 [.d (.cx .f32 x_.re x_.im)] [] (fun v o new=>v = .d (.fl .f64 r)∧o = []∧new = []):=impl_power_ok_fr0 false n x_ h
def qam (n:Nat) (x_:Cx) (y_:Cx):Option Cx :=
  (qef n x_).bind fun x7 =>
  (qex n y_).bind fun x8 =>
  (qef n x8).bind fun x9 =>
  (qgj n y_).bind fun x10 =>
  (qh5 .f64 .f32 (qa1 .quo .f64 (qa1 .sub .f64 (qa1 .mul .f64 x7.1 x9.1) (qa1 .mul .f64 x7.2 x9.2)) x10)).bind fun x11 =>
  (qh5 .f64 .f32 (qa1 .quo .f64 (qa1 .add .f64 (qa1 .mul .f64 x7.1 x9.2) (qa1 .mul .f64 x7.2 x9.1)) x10)).bind fun x12 =>
  some (Cx.mk x11 x12)
theorem impl_QuotientOf_ok_fr0 (fr:Bool) (n:Nat) (x_:Cx) (y_:Cx) {r:Cx} (h:qam n x_ y_ = some r):qaq prog fr 65 [.d (.cx .f32 x_.re x_.im),.d (.cx .f32 y_.re y_.im)] [] (fun v o new=>v = .d (.cx .f32 r.re r.im)∧o = []∧new = []):=by
  refine qaf hτ func65 rfl (by simp) (by simp) ?_
  unfold qam at h
  refine qa6 ?_
  refine qa2 ?_
  refine qa0 hτ rfl rfl rfl ?_
  refine qa4 ?_
  refine qa6 ?_
  refine qa2 ?_
  refine qa0 hτ rfl rfl rfl ?_
  refine qa7 h fun x7 hx7 h=>?_
  refine qab hτ false [] rfl rfl rfl (qac func109 rfl rfl) rfl rfl (by simp) ⟨trivial,trivial⟩ (by trivial) (qj6 n x_ hx7) ?_
  rintro r0 o0 n0 ⟨rfl,rfl,rfl⟩ -
  refine qa0 hτ rfl rfl rfl ?_
  refine qa0 hτ rfl rfl rfl ?_
  refine qa0 hτ rfl rfl rfl ?_
  refine qa0 hτ rfl rfl rfl ?_
  refine qa0 hτ rfl rfl rfl ?_
  refine qa4 ?_
  refine qa6 ?_
  refine qa8 (qa3 [] (l:=[(1,.d (.cx .f32 y_.re y_.im)),(5,.d (.fl .f64 x7.1)),(6,.d (.fl .f64 x7.2))]) (objs:=[]) rfl (by simp) rfl (by trivial) ⟨rfl,trivial,rfl,trivial,rfl,trivial,trivial⟩) ?_
  refine qa2 ?_
  refine qa0 hτ rfl rfl rfl ?_
  refine qa7 h fun x8 hx8 h=>?_
  refine qab hτ false [] rfl rfl rfl (qac func116 rfl rfl) rfl rfl (by simp) ⟨trivial,trivial⟩ (by trivial) (impl_ConjugateOf_ok n y_ hx8) ?_
  rintro r0 o0 n0 ⟨rfl,rfl,rfl⟩ -
  refine qa7 h fun x9 hx9 h=>?_
  refine qab hτ false [] rfl rfl rfl (qac func109 rfl rfl) rfl rfl (by simp) ⟨trivial,trivial⟩ (by trivial) (qj6 n x8 hx9) ?_
  rintro r0 o0 n0 ⟨rfl,rfl,rfl⟩ -
  refine qa0 hτ rfl rfl rfl ?_
  refine qa0 hτ rfl rfl rfl ?_
  refine qa0 hτ rfl rfl rfl ?_
  refine qa0 hτ rfl rfl rfl ?_
  refine qa0 hτ rfl rfl rfl ?_
  refine qa4 ?_
  refine qa6 ?_
  refine qa8 (qa3 [] (l:=[(1,.d (.cx .f32 y_.re y_.im)),(5,.d (.fl .f64 x7.1)),(6,.d (.fl .f64 x7.2)),(7,.d (.fl .f64 x9.1)),(8,.d (.fl .f64 x9.2))]) (objs:=[]) rfl (by simp) rfl (by trivial) ⟨rfl,trivial,rfl,trivial,rfl,trivial,rfl,trivial,rfl,trivial,trivial⟩) ?_
  refine qa2 ?_
  refine qa0 hτ rfl rfl rfl ?_
  refine qa7 h fun x10 hx10 h=>?_
  refine qab hτ false [] rfl rfl rfl (qac func117 rfl rfl) rfl rfl (by simp) ⟨trivial,trivial⟩ (by trivial) (qma n y_ hx10) ?_
  rintro r0 o0 n0 ⟨rfl,rfl,rfl⟩ -
  refine qa0 hτ rfl rfl rfl ?_
  refine qa4 ?_
  refine qa6 ?_
  refine qa2 ?_
  refine qa0 hτ rfl rfl rfl ?_
  refine qa0 hτ rfl rfl rfl ?_
  refine qa0 hτ rfl rfl rfl ?_
  refine qa0 hτ rfl rfl rfl ?_
  refine qa0 hτ rfl rfl rfl ?_
  refine qa0 hτ rfl rfl rfl ?_
  refine qa0 hτ rfl rfl rfl ?_
  refine qa0 hτ rfl rfl rfl ?_
  refine qa0 hτ rfl rfl rfl ?_
  refine qas (qa3 [] (l:=[(6,.d (.fl .f64 x7.2)),(7,.d (.fl .f64 x9.1)),(9,.d (.fl .f64 x10)),(31,.d (.fl .f64 (qa1 .sub .f64 (qa1 .mul .f64 x7.1 x9.1) (qa1 .mul .f64 x7.2 x9.2)))),(32,.d (.fl .f64 x7.1)),(33,.d (.fl .f64 x9.2))]) (objs:=[]) rfl (by simp) rfl (by trivial) ⟨rfl,trivial,rfl,trivial,rfl,trivial,rfl,trivial,rfl,trivial,rfl,trivial,trivial⟩) ?_
  refine qa0 hτ rfl rfl rfl ?_
  refine qa0 hτ rfl rfl rfl ?_
  refine qa0 hτ rfl rfl rfl ?_
  refine qa0 hτ rfl rfl rfl ?_
  refine qa0 hτ rfl rfl rfl ?_
  refine qa0 hτ rfl rfl rfl ?_
  refine qa0 hτ rfl rfl rfl ?_
  refine qa4 ?_
  refine qa6 ?_
  refine qa8 (qa3 [] (l:=[(9,.d (.fl .f64 x10)),(10,.d (.fl .f64 (qa1 .sub .f64 (qa1 .mul .f64 x7.1 x9.1) (qa1 .mul .f64 x7.2 x9.2)))),(11,.d (.fl .f64 (qa1 .add .f64 (qa1 .mul .f64 x7.1 x9.2) (qa1 .mul .f64 x7.2 x9.1))))]) (objs:=[]) rfl (by simp) rfl (by trivial) ⟨rfl,trivial,rfl,trivial,rfl,trivial,trivial⟩) ?_
  refine qa2 ?_
  refine qa0 hτ rfl rfl rfl ?_
  refine qa0 hτ rfl rfl rfl ?_
  refine qa0 hτ rfl rfl rfl ?_
  refine qa7 h fun x11 hx11 h=>?_
  refine qa0 hτ (v:=.d (.fl .f32 x11)) rfl rfl (qfu hx11) ?_
  refine qa0 hτ rfl rfl rfl ?_
  refine qa0 hτ rfl rfl rfl ?_
  refine qa0 hτ rfl rfl rfl ?_
  refine qa7 h fun x12 hx12 h=>?_
  refine qa0 hτ (v:=.d (.fl .f32 x12)) rfl rfl (qfu hx12) ?_
  refine qa0 hτ rfl rfl rfl ?_
  refine qa0 hτ rfl rfl rfl ?_
  refine qa4 ?_
  refine qa8 (qa3 [] (l:=[(4,.d (.cx .f32 x11 x12))]) (objs:=[]) rfl (by simp) rfl (by trivial) ⟨rfl,trivial,trivial⟩) ?_
  refine qal ?_
  have hr:=Option.some.inj h
  subst hr
  exact qae (.inr rfl) [] (objs':=[]) (new:=[]) rfl (by simp) (by simp) rfl (by trivial) rfl rfl (by trivial) (fun _=>⟨by simp [V.flat,V.qb7,V.qb5,D.flat],qag⟩) ⟨rfl,rfl,rfl⟩
theorem qdx (n:Nat) (x_:Cx) (y_:Cx) {r:Cx} (h:qam n x_ y_ = some r):qaq prog false 65 [.d (.cx .f32 x_.re x_.im),.d (.cx .f32 y_.re y_.im)] [] (fun v o new=>v = .d (.cx .f32 r.re r.im)∧o = []∧new = []):=impl_QuotientOf_ok_fr0 false n x_ y_ h
def qga (n:Nat) (x_:Nat):Option Bool :=
  some (fcmp .eql .f32 (qa1 .sub .f32 x_ x_) (0:Nat))
theorem impl_IsFinite_ok_fr0 (fr:Bool) (n:Nat) (x_:Nat) {r:Bool} (h:qga n x_ = some r):qaq prog fr 63 [.d (.fl .f32 x_)] [] (fun v o new=>v = .d (.bool r)∧o = []∧new = []):=by
  refine qaf hτ func63 rfl (by simp) (by simp) ?_
  unfold qga at h
  refine qa6 ?_
  refine qa2 ?_
  refine qa0 hτ rfl rfl rfl ?_
  refine qa4 ?_
  refine qa6 ?_
  refine qa2 ?_
  refine qa0 hτ rfl rfl rfl ?_
  refine qa0 hτ rfl rfl rfl ?_
  refine qa0 hτ rfl rfl rfl ?_
  refine qa0 hτ rfl rfl rfl ?_
  refine qa0 hτ rfl rfl rfl ?_
  refine qa4 ?_
  refine qa8 (qa3 [] (l:=[(2,.d (.bool (fcmp .eql .f32 (qa1 .sub .f32 x_ x_) (0:Nat))))]) (objs:=[]) rfl (by simp) rfl (by trivial) ⟨rfl,trivial,trivial⟩) ?_
  refine qal ?_
  have hr:=Option.some.inj h
  subst hr
  exact qae (.inr rfl) [] (objs':=[]) (new:=[]) rfl (by simp) (by simp) rfl (by trivial) rfl rfl (by trivial) (fun _=>⟨by simp [V.flat,V.qb7,V.qb5,D.flat],qag⟩) ⟨rfl,rfl,rfl⟩
theorem impl_IsFinite_ok (n:Nat) (x_:Nat) {r:Bool} (h:qga n x_ = some r):qaq prog false 63 [.d (.fl .f32 x_)] [] (fun v o new=>v = .d (.bool r)∧o = []∧new = []):=impl_IsFinite_ok_fr0 false n x_ h
def qep (n:Nat) (x_:Nat):Option Bool :=
  (qga n x_).bind fun x2 =>
  some (!x2)
theorem impl_finite_1_ok_fr0 (fr:Bool) (n:Nat) (x_:Nat) {r:Bool} (h:qep n x_ = some r):qaq prog fr 155 [.d (.fl .f32 x_)] [] (fun v o new=>v = .d (.bool r)∧o = []∧new = []):=by
  refine qaf hτ func155 rfl (by simp) (by simp) ?_
  unfold qep at h
  refine qa6 ?_
  refine qa2 ?_
  refine qa0 hτ rfl rfl rfl ?_
  refine qa4 ?_
  refine qa6 ?_
  refine qa2 ?_
  refine qa0 hτ rfl rfl rfl ?_
  refine qa7 h fun x2 hx2 h=>?_
  refine qab hτ false [] rfl rfl rfl (qac func63 rfl rfl) rfl rfl (by simp) ⟨trivial,trivial⟩ (by trivial) (impl_IsFinite_ok n x_ hx2) ?_
  rintro r0 o0 n0 ⟨rfl,rfl,rfl⟩ -
  refine qa0 hτ rfl rfl rfl ?_
  refine qa0 hτ rfl rfl rfl ?_
  refine qa4 ?_
  refine qa8 (qa3 [] (l:=[(2,.d (.bool (!x2)))]) (objs:=[]) rfl (by simp) rfl (by trivial) ⟨rfl,trivial,trivial⟩) ?_
  refine qal ?_
  have hr:=Option.some.inj h
  subst hr
  exact qae (.inr rfl) [] (objs':=[]) (new:=[]) rfl (by simp) (by simp) rfl (by trivial) rfl rfl (by trivial) (fun _=>⟨by simp [V.flat,V.qb7,V.qb5,D.flat],qag⟩) ⟨rfl,rfl,rfl⟩
theorem impl_finite_1_ok (n:Nat) (x_:Nat) {r:Bool} (h:qep n x_ = some r):qaq prog false 155 [.d (.fl .f32 x_)] [] (fun v o new=>v = .d (.bool r)∧o = []∧new = []):=impl_finite_1_ok_fr0 false n x_ h
def qbu (n:Nat) (s_:List Nat):Nat→Int→Option Int
  | 0,_=>none
  | m13 + 1,v9 =>
    if v9 < (s_.length:Int) then
      (getI s_ v9).bind fun x18 =>
      (qep n x18).bind fun x19 =>
      if x19 = true then
        some v9
      else
        (qbu n s_ m13) (w64 (v9 + (1:Int)))
    else
      some (-1:Int)
def qfw (n:Nat) (s_:List Nat):Option Int :=
  qbu n s_ n (0:Int)
theorem slices_IndexFunc_ok_fr0 (fr:Bool) (n:Nat) (s_:List Nat) {r:Int} (h:qfw n s_ = some r):qaq prog fr 162 [.d (.sl false (s_.map qb3)),.func 155 [] []] [] (fun v o new=>v = .d (.int .i64 r)∧o = []∧new = []):=by
  refine qaf hτ func162 rfl (by simp) (by simp) ?_
  unfold qfw at h
  refine qa6 ?_
  refine qa2 ?_
  refine qa0 hτ rfl rfl rfl ?_
  refine qa4 ?_
  refine qa6 ?_
  refine qa6 ?_
  refine qa2 ?_
  refine qa0 hτ rfl rfl rfl ?_
  refine qa0 hτ (v:=.d (.int .i64 (s_.length:Int))) rfl rfl (Eq.trans rfl (qjj (f:=qb3) s_)) ?_
  refine qa0 hτ rfl rfl rfl ?_
  refine qa4 ?_
  refine qbo ?_
  refine qh3 (ι:=Nat × Int) (fun (m13,v9)=>St.of [(0,.d (.sl false (s_.map qb3))),(1,.func 155 [] []),(7,.d (.int .i64 (s_.length:Int))),(8,.d (.int .i64 v9))] [] f162.ntmps 0) (fun (m13,v9)=>qbu n s_ m13 v9 = some r) (fun x=>x.1) (n,(0:Int)) h (qa3 [] (l:=[(0,.d (.sl false (s_.map qb3))),(1,.func 155 [] []),(7,.d (.int .i64 (s_.length:Int))),(8,.d (.int .i64 (0:Int)))]) (objs:=[]) rfl (by simp) rfl (by trivial) ⟨rfl,trivial,rfl,(by trivial),rfl,trivial,rfl,trivial,trivial⟩) ?_
  rintro ⟨m13,v9⟩ h
  replace h:qbu n s_ m13 v9 = some r:=h
  rcases m13 with _ | m13
  · rw [qbu] at h;cases h
  rw [qbu] at h
  refine qa6 ?_
  refine qa2 ?_
  refine qa0 hτ rfl rfl rfl ?_
  refine qa4 ?_
  refine qa6 ?_
  refine qar rfl (fun hc15=>?_) (fun hc15=>?_)
  · have h:=if_t h hc15
    refine qb9 ?_
    refine qa6 ?_
    refine qbo ?_
    refine qa6 ?_
    refine qa2 ?_
    refine qa0 hτ rfl rfl rfl ?_
    refine qa0 hτ rfl rfl rfl ?_
    refine qa4 ?_
    refine qa6 ?_
    refine qa2 ?_
    refine qa0 hτ rfl rfl rfl ?_
    refine qa0 hτ rfl rfl rfl ?_
    refine qa0 hτ rfl rfl rfl ?_
    refine qa7 h fun x18 hx18 h=>?_
    refine qf7 hτ rfl rfl rfl (qd2 hx18).1 (qdv hx18) rfl ?_
    refine qa0 hτ rfl rfl rfl ?_
    refine qa7 h fun x19 hx19 h=>?_
    refine qab hτ false [] rfl rfl rfl (qac func155 rfl rfl) rfl rfl (by simp) ⟨trivial,trivial⟩ (by trivial) (impl_finite_1_ok n x18 hx19) ?_
    rintro r0 o0 n0 ⟨rfl,rfl,rfl⟩ -
    refine qa4 ?_
    refine qa8 (qa3 [] (l:=[(0,.d (.sl false (s_.map qb3))),(1,.func 155 [] []),(5,.d (.int .i64 v9)),(7,.d (.int .i64 (s_.length:Int))),(8,.d (.int .i64 v9)),(16,.d (.bool x19))]) (objs:=[]) rfl (by simp) rfl (by trivial) ⟨rfl,trivial,rfl,(by trivial),rfl,trivial,rfl,trivial,rfl,trivial,rfl,trivial,trivial⟩) ?_
    refine qar rfl (fun hc20=>?_) (fun hc20=>?_)
    · have h:=qcl h hc20
      refine qa6 ?_
      refine qa2 ?_
      refine qa0 hτ rfl rfl rfl ?_
      refine qa0 hτ rfl rfl rfl ?_
      refine qa4 ?_
      refine qa8 (qa3 [] (l:=[(4,.d (.int .i64 v9))]) (objs:=[]) rfl (by simp) rfl (by trivial) ⟨rfl,trivial,trivial⟩) ?_
      refine qal ?_
      have hr:=Option.some.inj h
      subst hr
      exact qae (.inr rfl) [] (objs':=[]) (new:=[]) rfl (by simp) (by simp) rfl (by trivial) rfl rfl (by trivial) (fun _=>⟨by simp [V.flat,V.qb7,V.qb5,D.flat],qag⟩) ⟨rfl,rfl,rfl⟩
    · have h:=qck h hc20
      refine qb9 ?_
      refine qa2 ?_
      refine qa0 hτ rfl rfl rfl ?_
      refine qa0 hτ rfl rfl rfl ?_
      refine qa4 ?_
      exact ⟨(m13,(w64 (v9 + (1:Int)))),h,Nat.lt_succ_self m13,(qa3 [] (l:=[(0,.d (.sl false (s_.map qb3))),(1,.func 155 [] []),(7,.d (.int .i64 (s_.length:Int))),(8,.d (.int .i64 (w64 (v9 + (1:Int)))))]) (objs:=[]) rfl (by simp) rfl (by trivial) ⟨rfl,trivial,rfl,(by trivial),rfl,trivial,rfl,trivial,trivial⟩)⟩
  · have h:=if_f h hc15
    refine qh2 ?_
    refine qa6 ?_
    refine qa2 ?_
    refine qa0 hτ rfl rfl rfl ?_
    refine qa4 ?_
    refine qa8 (qa3 [] (l:=[(4,.d (.int .i64 (-1:Int)))]) (objs:=[]) rfl (by simp) rfl (by trivial) ⟨rfl,trivial,trivial⟩) ?_
    refine qal ?_
    have hr:=Option.some.inj h
    subst hr
    exact qae (.inr rfl) [] (objs':=[]) (new:=[]) rfl (by simp) (by simp) rfl (by trivial) rfl rfl (by trivial) (fun _=>⟨by simp [V.flat,V.qb7,V.qb5,D.flat],qag⟩) ⟨rfl,rfl,rfl⟩
theorem slices_IndexFunc_ok (n:Nat) (s_:List Nat) {r:Int} (h:qfw n s_ = some r):qaq prog false 162 [.d (.sl false (s_.map qb3)),.func 155 [] []] [] (fun v o new=>v = .d (.int .i64 r)∧o = []∧new = []):=slices_IndexFunc_ok_fr0 false n s_ h
def qeq (n:Nat) (s_:List Nat):Option Bool :=
  (qfw n s_).bind fun x2 =>
  some (decide (x2 ≥ (0:Int)))
theorem slices_ContainsFunc_ok_fr0 (fr:Bool) (n:Nat) (s_:List Nat) {r:Bool} (h:qeq n s_ = some r):qaq prog fr 133 [.d (.sl false (s_.map qb3)),.func 155 [] []] [] (fun v o new=>v = .d (.bool r)∧o = []∧new = []):=by
  refine qaf hτ func133 rfl (by simp) (by simp) ?_
  unfold qeq at h
  refine qa6 ?_
  refine qa2 ?_
  refine qa0 hτ rfl rfl rfl ?_
  refine qa4 ?_
  refine qa6 ?_
  refine qa2 ?_
  refine qa0 hτ rfl rfl rfl ?_
  refine qa0 hτ rfl rfl rfl ?_
  refine qa7 h fun x2 hx2 h=>?_
  refine qab hτ false [] rfl rfl rfl (qac func162 rfl rfl) rfl rfl (by simp) ⟨trivial,(by trivial),trivial⟩ (by trivial) (slices_IndexFunc_ok n s_ hx2) ?_
  rintro r0 o0 n0 ⟨rfl,rfl,rfl⟩ -
  refine qa0 hτ rfl rfl rfl ?_
  refine qa0 hτ rfl rfl rfl ?_
  refine qa4 ?_
  refine qa8 (qa3 [] (l:=[(4,.d (.bool (decide (x2 ≥ (0:Int)))))]) (objs:=[]) rfl (by simp) rfl (by trivial) ⟨rfl,trivial,trivial⟩) ?_
  refine qal ?_
  have hr:=Option.some.inj h
  subst hr
  exact qae (.inr rfl) [] (objs':=[]) (new:=[]) rfl (by simp) (by simp) rfl (by trivial) rfl rfl (by trivial) (fun _=>⟨by simp [V.flat,V.qb7,V.qb5,D.flat],qag⟩) ⟨rfl,rfl,rfl⟩
theorem slices_ContainsFunc_ok (n:Nat) (s_:List Nat) {r:Bool} (h:qeq n s_ = some r):qaq prog false 133 [.d (.sl false (s_.map qb3)),.func 155 [] []] [] (fun v o new=>v = .d (.bool r)∧o = []∧new = []):=slices_ContainsFunc_ok_fr0 false n s_ h
def qij (n:Nat) (list_:List Nat):Option Bool :=
  (qeq n list_).bind fun x2 =>
  some (!x2)
theorem impl_finite_ok_fr0 (fr:Bool) (n:Nat) (list_:List Nat) {r:Bool} (h:qij n list_ = some r):qaq prog fr 122 [.d (.sl false (list_.map qb3))] [] (fun v o new=>v = .d (.bool r)∧o = []∧new = []):=by
  refine qaf hτ func122 rfl (by simp) (by simp) ?_
  unfold qij at h
  refine qa6 ?_
  refine qa2 ?_
  refine qa0 hτ rfl rfl rfl ?_
  refine qa4 ?_
  refine qa6 ?_
  refine qa2 ?_
  refine qa0 hτ rfl rfl rfl ?_
  refine qa7 h fun x2 hx2 h=>?_
  refine qab hτ false [] rfl rfl rfl (qac func133 rfl rfl) rfl rfl (by simp) ⟨trivial,(by trivial),trivial⟩ (by trivial) (slices_ContainsFunc_ok n list_ hx2) ?_
  rintro r0 o0 n0 ⟨rfl,rfl,rfl⟩ -
  refine qa0 hτ rfl rfl rfl ?_
  refine qa0 hτ rfl rfl rfl ?_
  refine qa4 ?_
  refine qa8 (qa3 [] (l:=[(2,.d (.bool (!x2)))]) (objs:=[]) rfl (by simp) rfl (by trivial) ⟨rfl,trivial,trivial⟩) ?_
  refine qal ?_
  have hr:=Option.some.inj h
  subst hr
  exact qae (.inr rfl) [] (objs':=[]) (new:=[]) rfl (by simp) (by simp) rfl (by trivial) rfl rfl (by trivial) (fun _=>⟨by simp [V.flat,V.qb7,V.qb5,D.flat],qag⟩) ⟨rfl,rfl,rfl⟩
theorem impl_finite_ok_fr (n:Nat) (list_:List Nat) {r:Bool} (h:qij n list_ = some r):qaq prog true 122 [.d (.sl false (list_.map qb3))] [] (fun v o new=>v = .d (.bool r)∧o = []∧new = []):=impl_finite_ok_fr0 true n list_ h
def qcm (n:Nat) (x_:Cx):Option Bool :=
  (qij n [x_.re,x_.im]).bind fun x2 =>
  some x2
theorem impl_IsFiniteComplex_ok_fr0 (fr:Bool) (n:Nat) (x_:Cx) {r:Bool} (h:qcm n x_ = some r):qaq prog fr 78 [.d (.cx .f32 x_.re x_.im)] [] (fun v o new=>v = .d (.bool r)∧o = []∧new = []):=by
  refine qaf hτ func78 rfl (by simp) (by simp) ?_
  unfold qcm at h
  refine qa6 ?_
  refine qa2 ?_
  refine qa0 hτ rfl rfl rfl ?_
  refine qa4 ?_
  refine qa6 ?_
  refine qa2 ?_
  refine qa0 hτ rfl rfl rfl ?_
  refine qa0 hτ rfl rfl rfl ?_
  refine qa0 hτ rfl rfl rfl ?_
  refine qa0 hτ rfl rfl rfl ?_
  refine qai hτ rfl rfl rfl ?_
  refine qas (qa3 [0] (l:=[(7,.row 0 ([x_.re,x_.im].length) 0 ([x_.re,x_.im].length))]) (objs:=[.row 1 ([x_.re,x_.im].map qb3)]) rfl (by simp) rfl (by trivial) ⟨rfl,trivial,trivial⟩) ?_
  refine qa7 h fun x2 hx2 h=>?_
  refine qab hτ true [] rfl rfl rfl (qac func122 rfl rfl) (qbf (qpr (f:=qb3) [x_.re,x_.im] rfl rfl rfl) qi3) rfl (by simp) ⟨(qnt (f:=qb3) [x_.re,x_.im] rfl rfl rfl),trivial⟩ (by trivial) (impl_finite_ok_fr n [x_.re,x_.im] hx2) ?_
  rintro r0 o0 n0 ⟨rfl,rfl,rfl⟩ -
  refine qa0 hτ rfl rfl rfl ?_
  refine qa4 ?_
  refine qa8 (qa3 [] (l:=[(2,.d (.bool x2))]) (objs:=[]) rfl (by simp) rfl (by trivial) ⟨rfl,trivial,trivial⟩) ?_
  refine qal ?_
  have hr:=Option.some.inj h
  subst hr
  exact qae (.inr rfl) [] (objs':=[]) (new:=[]) rfl (by simp) (by simp) rfl (by trivial) rfl rfl (by trivial) (fun _=>⟨by simp [V.flat,V.qb7,V.qb5,D.flat],qag⟩) ⟨rfl,rfl,rfl⟩
theorem qgk (n:Nat) (x_:Cx) {r:Bool} (h:qcm n x_ = some r):qaq prog false 78 [.d (.cx .f32 x_.re x_.im)] [] (fun v o new=>v = .d (.bool r)∧o = []∧new = []):=impl_IsFiniteComplex_ok_fr0 false n x_ h
def qg9 (n:Nat) (v45:Cx) (v46:Cx) (v47:Cx):Option (qbl × Bool) :=
  some ((qbl.mk v45 v46 v47),true)
def qde (n:Nat) (v45:Cx) (v46:Cx) (v47:Cx) (v61:Bool):Option (qbl × Bool) :=
  if v61 = true then
    some ((qbl.mk (Cx.mk (0:Nat) (0:Nat)) (Cx.mk (0:Nat) (0:Nat)) (Cx.mk (0:Nat) (0:Nat))),false)
  else
    qg9 n v45 v46 v47
def qba (n:Nat) (v45:Cx) (v46:Cx) (v47:Cx):Option (qbl × Bool) :=
  (qcm n v45).bind fun x64 =>
  if x64 = true then
    (qcm n v46).bind fun x66 =>
    if x66 = true then
      (qcm n v47).bind fun x68 =>
      qde n v45 v46 v47 (!x68)
    else
      qde n v45 v46 v47 true
  else
    qde n v45 v46 v47 true
def qfc (n:Nat) (source_:Cx) (zero_:Cx) (plus_:Cx) (kind_:Int) (through_:Cx):Option (qbl × Bool) :=
  if kind_ = (0:Int) then
    (qam n source_ (Cx.mk (qa1 .add .f32 plus_.re through_.re) (qa1 .add .f32 plus_.im through_.im))).bind fun x71 =>
    qba n (Cx.mk (0:Nat) (0:Nat)) x71 (Cx.mk (0:Nat) (0:Nat))
  else
    if kind_ = (1:Int) then
      (qam n source_ (Cx.mk (qa1 .add .f32 (qa1 .add .f32 (qa1 .add .f32 zero_.re plus_.re) plus_.re) (qa1 .add .f32 (qa1 .add .f32 through_.re through_.re) through_.re)) (qa1 .add .f32 (qa1 .add .f32 (qa1 .add .f32 zero_.im plus_.im) plus_.im) (qa1 .add .f32 (qa1 .add .f32 through_.im through_.im) through_.im)))).bind fun x73 =>
      qba n x73 x73 x73
    else
      if kind_ = (2:Int) then
        (qam n source_ (Cx.mk (qa1 .add .f32 (qa1 .add .f32 plus_.re plus_.re) through_.re) (qa1 .add .f32 (qa1 .add .f32 plus_.im plus_.im) through_.im))).bind fun x75 =>
        qba n (Cx.mk (0:Nat) (0:Nat)) x75 (Cx.mk (qa1 .sub .f32 (0:Nat) x75.re) (qa1 .sub .f32 (0:Nat) x75.im))
      else
        if kind_ = (3:Int) then
          (qah n plus_ (Cx.mk (qa1 .add .f32 zero_.re (qa1 .add .f32 (qa1 .add .f32 through_.re through_.re) through_.re)) (qa1 .add .f32 zero_.im (qa1 .add .f32 (qa1 .add .f32 through_.im through_.im) through_.im)))).bind fun x77 =>
          (qam n x77 (Cx.mk (qa1 .add .f32 plus_.re (qa1 .add .f32 zero_.re (qa1 .add .f32 (qa1 .add .f32 through_.re through_.re) through_.re))) (qa1 .add .f32 plus_.im (qa1 .add .f32 zero_.im (qa1 .add .f32 (qa1 .add .f32 through_.im through_.im) through_.im))))).bind fun x78 =>
          (qam n source_ (Cx.mk (qa1 .add .f32 plus_.re x78.re) (qa1 .add .f32 plus_.im x78.im))).bind fun x79 =>
          (qah n x79 (Cx.mk (qa1 .add .f32 zero_.re (qa1 .add .f32 (qa1 .add .f32 through_.re through_.re) through_.re)) (qa1 .add .f32 zero_.im (qa1 .add .f32 (qa1 .add .f32 through_.im through_.im) through_.im)))).bind fun x80 =>
          (qam n x80 (Cx.mk (qa1 .add .f32 plus_.re (qa1 .add .f32 zero_.re (qa1 .add .f32 (qa1 .add .f32 through_.re through_.re) through_.re))) (qa1 .add .f32 plus_.im (qa1 .add .f32 zero_.im (qa1 .add .f32 (qa1 .add .f32 through_.im through_.im) through_.im))))).bind fun x81 =>
          (qah n x79 plus_).bind fun x82 =>
          (qam n x82 (Cx.mk (qa1 .add .f32 plus_.re (qa1 .add .f32 zero_.re (qa1 .add .f32 (qa1 .add .f32 through_.re through_.re) through_.re))) (qa1 .add .f32 plus_.im (qa1 .add .f32 zero_.im (qa1 .add .f32 (qa1 .add .f32 through_.im through_.im) through_.im))))).bind fun x83 =>
          qba n (Cx.mk (qa1 .sub .f32 (0:Nat) x83.re) (qa1 .sub .f32 (0:Nat) x83.im)) x79 (Cx.mk (qa1 .sub .f32 (0:Nat) x81.re) (qa1 .sub .f32 (0:Nat) x81.im))
        else
          some ((qbl.mk (Cx.mk (0:Nat) (0:Nat)) (Cx.mk (0:Nat) (0:Nat)) (Cx.mk (0:Nat) (0:Nat))),false)
theorem impl_FaultParts_ok_fr0 (fr:Bool) (n:Nat) (source_:Cx) (zero_:Cx) (plus_:Cx) (kind_:Int) (through_:Cx) {r:qbl × Bool} (h:qfc n source_ zero_ plus_ kind_ through_ = some r):qaq prog fr 27 [.d (.cx .f32 source_.re source_.im),.d (.cx .f32 zero_.re zero_.im),.d (.cx .f32 plus_.re plus_.im),.d (.int .i64 kind_),.d (.cx .f32 through_.re through_.im)] [] (fun v o new=>v = .tup [.agg [.d (.cx .f32 r.1.Zero.re r.1.Zero.im),.d (.cx .f32 r.1.Plus.re r.1.Plus.im),.d (.cx .f32 r.1.qbq.re r.1.qbq.im)],.d (.bool r.2)]∧o = []∧new = []):=by
  refine qaf hτ func27 rfl (by simp) (by simp) ?_
  unfold qfc at h
  refine qa6 ?_
  refine qa2 ?_
  refine qai hτ rfl rfl rfl ?_
  refine qa0 hτ rfl rfl rfl ?_
  refine qa4 ?_
  refine qa6 ?_
  refine qa2 ?_
  refine qa0 hτ rfl rfl rfl ?_
  refine qa0 hτ rfl rfl rfl ?_
  refine qa0 hτ rfl rfl rfl ?_
  refine qa0 hτ rfl rfl rfl ?_
  refine qa0 hτ rfl rfl rfl ?_
  refine qa0 hτ rfl rfl rfl ?_
  refine qa4 ?_
  refine qa6 ?_
  refine qa8 (qa3 [0] (l:=[(0,.d (.cx .f32 source_.re source_.im)),(1,.d (.cx .f32 zero_.re zero_.im)),(2,.d (.cx .f32 plus_.re plus_.im)),(3,.d (.int .i64 kind_)),(4,.d (.cx .f32 through_.re through_.im)),(10,.ptr 0 0),(12,.d (.cx .f32 (qa1 .add .f32 (qa1 .add .f32 through_.re through_.re) through_.re) (qa1 .add .f32 (qa1 .add .f32 through_.im through_.im) through_.im)))]) (objs:=[.box [.d (.cx .f32 (0:Nat) (0:Nat)),.d (.cx .f32 (0:Nat) (0:Nat)),.d (.cx .f32 (0:Nat) (0:Nat))]]) rfl (by simp) rfl (by trivial) ⟨rfl,trivial,rfl,trivial,rfl,trivial,rfl,trivial,rfl,trivial,rfl,trivial,rfl,trivial,trivial⟩) ?_
  refine qa2 ?_
  refine qa0 hτ rfl rfl rfl ?_
  refine qai hτ rfl rfl rfl ?_
  refine qai hτ rfl rfl rfl ?_
  refine qa4 ?_
  refine qbw (ι:=Cx × Cx × Cx) (fun (v45,v46,v47)=>St.of [(10,.ptr 0 0),(13,.ptr 1 0)] [.box [.d (.cx .f32 (0:Nat) (0:Nat)),.d (.cx .f32 (0:Nat) (0:Nat)),.d (.cx .f32 (0:Nat) (0:Nat))],.box [.d (.cx .f32 v45.re v45.im),.d (.cx .f32 v46.re v46.im),.d (.cx .f32 v47.re v47.im)]] f27.ntmps 0) (fun (v45,v46,v47)=>qba n v45 v46 v47 = some r) ?_ (fun hk69=>?_)
  · rintro ⟨v45,v46,v47⟩ h
    replace h:qba n v45 v46 v47 = some r:=h
    unfold qba at h
    refine qbw (ι:=Unit) (fun _=>St.of [(10,.ptr 0 0),(13,.ptr 1 0)] [.box [.d (.cx .f32 (0:Nat) (0:Nat)),.d (.cx .f32 (0:Nat) (0:Nat)),.d (.cx .f32 (0:Nat) (0:Nat))],.box [.d (.cx .f32 v45.re v45.im),.d (.cx .f32 v46.re v46.im),.d (.cx .f32 v47.re v47.im)]] f27.ntmps 0) (fun _=>qg9 n v45 v46 v47 = some r) ?_ (fun hk54=>?_)
    · rintro ⟨⟩ h
      replace h:qg9 n v45 v46 v47 = some r:=h
      unfold qg9 at h
      refine qa6 ?_
      refine qa2 ?_
      refine qa0 hτ rfl rfl rfl ?_
      refine qai hτ rfl rfl rfl ?_
      refine qa0 hτ rfl rfl rfl ?_
      refine qa4 ?_
      refine qa8 (qa3 [0] (l:=[(10,.ptr 0 0),(11,.d (.bool true))]) (objs:=[.box [.d (.cx .f32 v45.re v45.im),.d (.cx .f32 v46.re v46.im),.d (.cx .f32 v47.re v47.im)]]) rfl (by simp) rfl (by trivial) ⟨rfl,trivial,rfl,trivial,trivial⟩) ?_
      refine qal ?_
      have hr:=Option.some.inj h
      subst hr
      exact qae (.inr rfl) [] (objs':=[]) (new:=[]) rfl (by simp) (by simp) rfl (by trivial) rfl rfl (by trivial) (fun _=>⟨by simp [V.flat,V.qb7,V.qb5,D.flat],qag⟩) ⟨rfl,rfl,rfl⟩
    · refine qa6 ?_
      refine qbw (ι:=Bool) (fun v61=>St.of [(10,.ptr 0 0),(13,.ptr 1 0),(113,.d (.bool v61))] [.box [.d (.cx .f32 (0:Nat) (0:Nat)),.d (.cx .f32 (0:Nat) (0:Nat)),.d (.cx .f32 (0:Nat) (0:Nat))],.box [.d (.cx .f32 v45.re v45.im),.d (.cx .f32 v46.re v46.im),.d (.cx .f32 v47.re v47.im)]] f27.ntmps 0) (fun v61=>qde n v45 v46 v47 v61 = some r) ?_ (fun hk63=>?_)
      · rintro v61 h
        replace h:qde n v45 v46 v47 v61 = some r:=h
        unfold qde at h
        refine qar rfl (fun hc62=>?_) (fun hc62=>?_)
        · have h:=qcl h hc62
          refine qa6 ?_
          refine qa2 ?_
          refine qa0 hτ rfl rfl rfl ?_
          refine qai hτ rfl rfl rfl ?_
          refine qa0 hτ rfl rfl rfl ?_
          refine qa4 ?_
          refine qa8 (qa3 [0] (l:=[(10,.ptr 0 0),(11,.d (.bool false))]) (objs:=[.box [.d (.cx .f32 (0:Nat) (0:Nat)),.d (.cx .f32 (0:Nat) (0:Nat)),.d (.cx .f32 (0:Nat) (0:Nat))]]) rfl (by simp) rfl (by trivial) ⟨rfl,trivial,rfl,trivial,trivial⟩) ?_
          refine qal ?_
          have hr:=Option.some.inj h
          subst hr
          exact qae (.inr rfl) [] (objs':=[]) (new:=[]) rfl (by simp) (by simp) rfl (by trivial) rfl rfl (by trivial) (fun _=>⟨by simp [V.flat,V.qb7,V.qb5,D.flat],qag⟩) ⟨rfl,rfl,rfl⟩
        · have h:=qck h hc62
          refine qb9 ?_
          refine qa8 (qa3 [0,1] (l:=[(10,.ptr 0 0),(13,.ptr 1 0)]) (objs:=[.box [.d (.cx .f32 (0:Nat) (0:Nat)),.d (.cx .f32 (0:Nat) (0:Nat)),.d (.cx .f32 (0:Nat) (0:Nat))],.box [.d (.cx .f32 v45.re v45.im),.d (.cx .f32 v46.re v46.im),.d (.cx .f32 v47.re v47.im)]]) rfl (by simp) rfl (by trivial) ⟨rfl,trivial,rfl,trivial,trivial⟩) ?_
          exact hk54 () h
      · refine qa6 ?_
        refine qa2 ?_
        refine qa0 hτ rfl rfl rfl ?_
        refine qa0 hτ rfl rfl rfl ?_
        refine qa7 h fun x64 hx64 h=>?_
        refine qab hτ false [] rfl rfl rfl (qac func78 rfl rfl) rfl rfl (by simp) ⟨trivial,trivial⟩ (by trivial) (qgk n v45 hx64) ?_
        rintro r0 o0 n0 ⟨rfl,rfl,rfl⟩ -
        refine qa0 hτ rfl rfl rfl ?_
        refine qa0 hτ rfl rfl rfl ?_
        refine qbr 102 rfl (fun hb65=>?_) (fun hb65=>?_)
        · have hb65:=qjc hb65
          have h:=qck h hb65
          refine qaa rfl rfl ?_
          refine qaa rfl rfl ?_
          refine qaa rfl rfl ?_
          refine qaa rfl rfl ?_
          refine qa0 hτ rfl rfl rfl ?_
          refine qa0 hτ rfl rfl rfl ?_
          refine qaa rfl rfl ?_
          refine qas (qa3 [0,1] (l:=[(10,.ptr 0 0),(13,.ptr 1 0),(108,.d (.bool true)),(109,.und)]) (objs:=[.box [.d (.cx .f32 (0:Nat) (0:Nat)),.d (.cx .f32 (0:Nat) (0:Nat)),.d (.cx .f32 (0:Nat) (0:Nat))],.box [.d (.cx .f32 v45.re v45.im),.d (.cx .f32 v46.re v46.im),.d (.cx .f32 v47.re v47.im)]]) rfl (by simp) rfl (by trivial) ⟨rfl,trivial,rfl,trivial,rfl,trivial,rfl,trivial,trivial⟩) ?_
          refine qaa rfl rfl ?_
          refine qaa rfl rfl ?_
          refine qaa rfl rfl ?_
          refine qa0 hτ rfl rfl rfl ?_
          refine qa4 ?_
          refine qa8 (qa3 [0,1] (l:=[(10,.ptr 0 0),(13,.ptr 1 0),(113,.d (.bool true))]) (objs:=[.box [.d (.cx .f32 (0:Nat) (0:Nat)),.d (.cx .f32 (0:Nat) (0:Nat)),.d (.cx .f32 (0:Nat) (0:Nat))],.box [.d (.cx .f32 v45.re v45.im),.d (.cx .f32 v46.re v46.im),.d (.cx .f32 v47.re v47.im)]]) rfl (by simp) rfl (by trivial) ⟨rfl,trivial,rfl,trivial,rfl,trivial,trivial⟩) ?_
          exact hk63 true h
        · have hb65:=qjb hb65
          have h:=qcl h hb65
          refine qa0 hτ rfl rfl rfl ?_
          refine qa0 hτ rfl rfl rfl ?_
          refine qa7 h fun x66 hx66 h=>?_
          refine qab hτ false [] rfl rfl rfl (qac func78 rfl rfl) rfl rfl (by simp) ⟨trivial,trivial⟩ (by trivial) (qgk n v46 hx66) ?_
          rintro r0 o0 n0 ⟨rfl,rfl,rfl⟩ -
          refine qa0 hτ rfl rfl rfl ?_
          refine qa0 hτ rfl rfl rfl ?_
          refine qa0 hτ rfl rfl rfl ?_
          refine qbr 108 rfl (fun hb67=>?_) (fun hb67=>?_)
          · have hb67:=qjc hb67
            have h:=qck h hb67
            refine qaa rfl rfl ?_
            refine qas (qa3 [0,1] (l:=[(10,.ptr 0 0),(13,.ptr 1 0),(108,.d (.bool true)),(109,.und)]) (objs:=[.box [.d (.cx .f32 (0:Nat) (0:Nat)),.d (.cx .f32 (0:Nat) (0:Nat)),.d (.cx .f32 (0:Nat) (0:Nat))],.box [.d (.cx .f32 v45.re v45.im),.d (.cx .f32 v46.re v46.im),.d (.cx .f32 v47.re v47.im)]]) rfl (by simp) rfl (by trivial) ⟨rfl,trivial,rfl,trivial,rfl,trivial,rfl,trivial,trivial⟩) ?_
            refine qaa rfl rfl ?_
            refine qaa rfl rfl ?_
            refine qaa rfl rfl ?_
            refine qa0 hτ rfl rfl rfl ?_
            refine qa4 ?_
            refine qa8 (qa3 [0,1] (l:=[(10,.ptr 0 0),(13,.ptr 1 0),(113,.d (.bool true))]) (objs:=[.box [.d (.cx .f32 (0:Nat) (0:Nat)),.d (.cx .f32 (0:Nat) (0:Nat)),.d (.cx .f32 (0:Nat) (0:Nat))],.box [.d (.cx .f32 v45.re v45.im),.d (.cx .f32 v46.re v46.im),.d (.cx .f32 v47.re v47.im)]]) rfl (by simp) rfl (by trivial) ⟨rfl,trivial,rfl,trivial,rfl,trivial,trivial⟩) ?_
            exact hk63 true h
          · have hb67:=qjb hb67
            have h:=qcl h hb67
            refine qa0 hτ rfl rfl rfl ?_
            refine qas (qa3 [0,1] (l:=[(10,.ptr 0 0),(13,.ptr 1 0),(108,.d (.bool false)),(109,.ptr 1 2)]) (objs:=[.box [.d (.cx .f32 (0:Nat) (0:Nat)),.d (.cx .f32 (0:Nat) (0:Nat)),.d (.cx .f32 (0:Nat) (0:Nat))],.box [.d (.cx .f32 v45.re v45.im),.d (.cx .f32 v46.re v46.im),.d (.cx .f32 v47.re v47.im)]]) rfl (by simp) rfl (by trivial) ⟨rfl,trivial,rfl,trivial,rfl,trivial,rfl,trivial,trivial⟩) ?_
            refine qa0 hτ rfl rfl rfl ?_
            refine qa7 h fun x68 hx68 h=>?_
            refine qab hτ false [] rfl rfl rfl (qac func78 rfl rfl) rfl rfl (by simp) ⟨trivial,trivial⟩ (by trivial) (qgk n v47 hx68) ?_
            rintro r0 o0 n0 ⟨rfl,rfl,rfl⟩ -
            refine qa0 hτ rfl rfl rfl ?_
            refine qa0 hτ rfl rfl rfl ?_
            refine qa4 ?_
            refine qa8 (qa3 [0,1] (l:=[(10,.ptr 0 0),(13,.ptr 1 0),(113,.d (.bool (!x68)))]) (objs:=[.box [.d (.cx .f32 (0:Nat) (0:Nat)),.d (.cx .f32 (0:Nat) (0:Nat)),.d (.cx .f32 (0:Nat) (0:Nat))],.box [.d (.cx .f32 v45.re v45.im),.d (.cx .f32 v46.re v46.im),.d (.cx .f32 v47.re v47.im)]]) rfl (by simp) rfl (by trivial) ⟨rfl,trivial,rfl,trivial,rfl,trivial,trivial⟩) ?_
            exact hk63 (!x68) h
  · refine qa6 ?_
    refine qa6 ?_
    refine qa2 ?_
    refine qa0 hτ rfl rfl rfl ?_
    refine qa4 ?_
    refine qbo ?_
    refine qa6 ?_
    refine qa2 ?_
    refine qa0 hτ (v:=.d (.bool (decide (kind_ = (0:Int))))) rfl rfl (qgz _ _) ?_
    refine qa0 hτ rfl rfl rfl ?_
    refine qa4 ?_
    refine qa8 (qa3 [0,1] (l:=[(0,.d (.cx .f32 source_.re source_.im)),(1,.d (.cx .f32 zero_.re zero_.im)),(2,.d (.cx .f32 plus_.re plus_.im)),(4,.d (.cx .f32 through_.re through_.im)),(10,.ptr 0 0),(12,.d (.cx .f32 (qa1 .add .f32 (qa1 .add .f32 through_.re through_.re) through_.re) (qa1 .add .f32 (qa1 .add .f32 through_.im through_.im) through_.im))),(13,.ptr 1 0),(22,.d (.int .i64 kind_)),(24,.d (.bool (decide (kind_ = (0:Int)))))]) (objs:=[.box [.d (.cx .f32 (0:Nat) (0:Nat)),.d (.cx .f32 (0:Nat) (0:Nat)),.d (.cx .f32 (0:Nat) (0:Nat))],.box [.d (.cx .f32 (0:Nat) (0:Nat)),.d (.cx .f32 (0:Nat) (0:Nat)),.d (.cx .f32 (0:Nat) (0:Nat))]]) rfl (by simp) rfl (by trivial) ⟨rfl,trivial,rfl,trivial,rfl,trivial,rfl,trivial,rfl,trivial,rfl,trivial,rfl,trivial,rfl,trivial,rfl,trivial,trivial⟩) ?_
    refine qar rfl (fun hc70=>?_) (fun hc70=>?_)
    · have h:=if_t h hc70
      refine qa2 ?_
      refine qa0 hτ rfl rfl rfl ?_
      refine qa0 hτ rfl rfl rfl ?_
      refine qa0 hτ rfl rfl rfl ?_
      refine qa0 hτ rfl rfl rfl ?_
      refine qa7 h fun x71 hx71 h=>?_
      refine qab hτ false [] rfl rfl rfl (qac func65 rfl rfl) rfl rfl (by simp) ⟨trivial,trivial,trivial⟩ (by trivial) (qdx n source_ (Cx.mk (qa1 .add .f32 plus_.re through_.re) (qa1 .add .f32 plus_.im through_.im)) hx71) ?_
      rintro r0 o0 n0 ⟨rfl,rfl,rfl⟩ -
      refine qa0 hτ rfl rfl rfl ?_
      refine qai hτ rfl rfl rfl ?_
      refine qa4 ?_
      refine qa8 (qa3 [0,1] (l:=[(10,.ptr 0 0),(13,.ptr 1 0)]) (objs:=[.box [.d (.cx .f32 (0:Nat) (0:Nat)),.d (.cx .f32 (0:Nat) (0:Nat)),.d (.cx .f32 (0:Nat) (0:Nat))],.box [.d (.cx .f32 (0:Nat) (0:Nat)),.d (.cx .f32 x71.re x71.im),.d (.cx .f32 (0:Nat) (0:Nat))]]) rfl (by simp) rfl (by trivial) ⟨rfl,trivial,rfl,trivial,trivial⟩) ?_
      exact hk69 ((Cx.mk (0:Nat) (0:Nat)),x71,(Cx.mk (0:Nat) (0:Nat))) h
    · have h:=if_f h hc70
      refine qa6 ?_
      refine qa2 ?_
      refine qa0 hτ (v:=.d (.bool (decide (kind_ = (1:Int))))) rfl rfl (qgz _ _) ?_
      refine qa0 hτ rfl rfl rfl ?_
      refine qa4 ?_
      refine qar rfl (fun hc72=>?_) (fun hc72=>?_)
      · have h:=if_t h hc72
        refine qa6 ?_
        refine qa2 ?_
        refine qa0 hτ rfl rfl rfl ?_
        refine qa0 hτ rfl rfl rfl ?_
        refine qa0 hτ rfl rfl rfl ?_
        refine qa0 hτ rfl rfl rfl ?_
        refine qa0 hτ rfl rfl rfl ?_
        refine qa0 hτ rfl rfl rfl ?_
        refine qa0 hτ rfl rfl rfl ?_
        refine qa0 hτ rfl rfl rfl ?_
        refine qa7 h fun x73 hx73 h=>?_
        refine qab hτ false [] rfl rfl rfl (qac func65 rfl rfl) rfl rfl (by simp) ⟨trivial,trivial,trivial⟩ (by trivial) (qdx n source_ (Cx.mk (qa1 .add .f32 (qa1 .add .f32 (qa1 .add .f32 zero_.re plus_.re) plus_.re) (qa1 .add .f32 (qa1 .add .f32 through_.re through_.re) through_.re)) (qa1 .add .f32 (qa1 .add .f32 (qa1 .add .f32 zero_.im plus_.im) plus_.im) (qa1 .add .f32 (qa1 .add .f32 through_.im through_.im) through_.im))) hx73) ?_
        rintro r0 o0 n0 ⟨rfl,rfl,rfl⟩ -
        refine qa0 hτ rfl rfl rfl ?_
        refine qas (qa3 [0,1] (l:=[(10,.ptr 0 0),(13,.ptr 1 0),(42,.d (.cx .f32 x73.re x73.im)),(43,.ptr 1 1)]) (objs:=[.box [.d (.cx .f32 (0:Nat) (0:Nat)),.d (.cx .f32 (0:Nat) (0:Nat)),.d (.cx .f32 (0:Nat) (0:Nat))],.box [.d (.cx .f32 (0:Nat) (0:Nat)),.d (.cx .f32 (0:Nat) (0:Nat)),.d (.cx .f32 (0:Nat) (0:Nat))]]) rfl (by simp) rfl (by trivial) ⟨rfl,trivial,rfl,trivial,rfl,trivial,rfl,trivial,trivial⟩) ?_
        refine qai hτ rfl rfl rfl ?_
        refine qa4 ?_
        refine qa2 ?_
        refine qa0 hτ rfl rfl rfl ?_
        refine qa0 hτ rfl rfl rfl ?_
        refine qa0 hτ rfl rfl rfl ?_
        refine qa0 hτ rfl rfl rfl ?_
        refine qa0 hτ rfl rfl rfl ?_
        refine qai hτ rfl rfl rfl ?_
        refine qa0 hτ rfl rfl rfl ?_
        refine qai hτ rfl rfl rfl ?_
        refine qa4 ?_
        refine qa8 (qa3 [0,1] (l:=[(10,.ptr 0 0),(13,.ptr 1 0)]) (objs:=[.box [.d (.cx .f32 (0:Nat) (0:Nat)),.d (.cx .f32 (0:Nat) (0:Nat)),.d (.cx .f32 (0:Nat) (0:Nat))],.box [.d (.cx .f32 x73.re x73.im),.d (.cx .f32 x73.re x73.im),.d (.cx .f32 x73.re x73.im)]]) rfl (by simp) rfl (by trivial) ⟨rfl,trivial,rfl,trivial,trivial⟩) ?_
        exact hk69 (x73,x73,x73) h
      · have h:=if_f h hc72
        refine qa6 ?_
        refine qa2 ?_
        refine qa0 hτ (v:=.d (.bool (decide (kind_ = (2:Int))))) rfl rfl (qgz _ _) ?_
        refine qa0 hτ rfl rfl rfl ?_
        refine qa4 ?_
        refine qar rfl (fun hc74=>?_) (fun hc74=>?_)
        · have h:=if_t h hc74
          refine qa6 ?_
          refine qa2 ?_
          refine qa0 hτ rfl rfl rfl ?_
          refine qa0 hτ rfl rfl rfl ?_
          refine qa0 hτ rfl rfl rfl ?_
          refine qa0 hτ rfl rfl rfl ?_
          refine qa0 hτ rfl rfl rfl ?_
          refine qa0 hτ rfl rfl rfl ?_
          refine qa7 h fun x75 hx75 h=>?_
          refine qab hτ false [] rfl rfl rfl (qac func65 rfl rfl) rfl rfl (by simp) ⟨trivial,trivial,trivial⟩ (by trivial) (qdx n source_ (Cx.mk (qa1 .add .f32 (qa1 .add .f32 plus_.re plus_.re) through_.re) (qa1 .add .f32 (qa1 .add .f32 plus_.im plus_.im) through_.im)) hx75) ?_
          rintro r0 o0 n0 ⟨rfl,rfl,rfl⟩ -
          refine qa0 hτ rfl rfl rfl ?_
          refine qas (qa3 [0,1] (l:=[(10,.ptr 0 0),(13,.ptr 1 0),(58,.d (.cx .f32 x75.re x75.im)),(59,.ptr 1 1)]) (objs:=[.box [.d (.cx .f32 (0:Nat) (0:Nat)),.d (.cx .f32 (0:Nat) (0:Nat)),.d (.cx .f32 (0:Nat) (0:Nat))],.box [.d (.cx .f32 (0:Nat) (0:Nat)),.d (.cx .f32 (0:Nat) (0:Nat)),.d (.cx .f32 (0:Nat) (0:Nat))]]) rfl (by simp) rfl (by trivial) ⟨rfl,trivial,rfl,trivial,rfl,trivial,rfl,trivial,trivial⟩) ?_
          refine qai hτ rfl rfl rfl ?_
          refine qa4 ?_
          refine qa2 ?_
          refine qa0 hτ rfl rfl rfl ?_
          refine qa0 hτ rfl rfl rfl ?_
          refine qa0 hτ rfl rfl rfl ?_
          refine qa0 hτ rfl rfl rfl ?_
          refine qai hτ rfl rfl rfl ?_
          refine qa4 ?_
          refine qa8 (qa3 [0,1] (l:=[(10,.ptr 0 0),(13,.ptr 1 0)]) (objs:=[.box [.d (.cx .f32 (0:Nat) (0:Nat)),.d (.cx .f32 (0:Nat) (0:Nat)),.d (.cx .f32 (0:Nat) (0:Nat))],.box [.d (.cx .f32 (0:Nat) (0:Nat)),.d (.cx .f32 x75.re x75.im),.d (.cx .f32 (qa1 .sub .f32 (0:Nat) x75.re) (qa1 .sub .f32 (0:Nat) x75.im))]]) rfl (by simp) rfl (by trivial) ⟨rfl,trivial,rfl,trivial,trivial⟩) ?_
          exact hk69 ((Cx.mk (0:Nat) (0:Nat)),x75,(Cx.mk (qa1 .sub .f32 (0:Nat) x75.re) (qa1 .sub .f32 (0:Nat) x75.im))) h
        · have h:=if_f h hc74
          refine qa6 ?_
          refine qa2 ?_
          refine qa0 hτ (v:=.d (.bool (decide (kind_ = (3:Int))))) rfl rfl (qgz _ _) ?_
          refine qa0 hτ rfl rfl rfl ?_
          refine qa4 ?_
          refine qa8 (qa3 [0,1] (l:=[(0,.d (.cx .f32 source_.re source_.im)),(1,.d (.cx .f32 zero_.re zero_.im)),(2,.d (.cx .f32 plus_.re plus_.im)),(10,.ptr 0 0),(12,.d (.cx .f32 (qa1 .add .f32 (qa1 .add .f32 through_.re through_.re) through_.re) (qa1 .add .f32 (qa1 .add .f32 through_.im through_.im) through_.im))),(13,.ptr 1 0),(64,.d (.bool (decide (kind_ = (3:Int)))))]) (objs:=[.box [.d (.cx .f32 (0:Nat) (0:Nat)),.d (.cx .f32 (0:Nat) (0:Nat)),.d (.cx .f32 (0:Nat) (0:Nat))],.box [.d (.cx .f32 (0:Nat) (0:Nat)),.d (.cx .f32 (0:Nat) (0:Nat)),.d (.cx .f32 (0:Nat) (0:Nat))]]) rfl (by simp) rfl (by trivial) ⟨rfl,trivial,rfl,trivial,rfl,trivial,rfl,trivial,rfl,trivial,rfl,trivial,rfl,trivial,trivial⟩) ?_
          refine qar rfl (fun hc76=>?_) (fun hc76=>?_)
          · have h:=if_t h hc76
            refine qa6 ?_
            refine qa2 ?_
            refine qa0 hτ rfl rfl rfl ?_
            refine qa0 hτ rfl rfl rfl ?_
            refine qa0 hτ rfl rfl rfl ?_
            refine qa0 hτ rfl rfl rfl ?_
            refine qa4 ?_
            refine qa6 ?_
            refine qa2 ?_
            refine qa0 hτ rfl rfl rfl ?_
            refine qa0 hτ rfl rfl rfl ?_
            refine qa0 hτ rfl rfl rfl ?_
            refine qa0 hτ rfl rfl rfl ?_
            refine qa4 ?_
            refine qa6 ?_
            refine qa8 (qa3 [0,1] (l:=[(0,.d (.cx .f32 source_.re source_.im)),(2,.d (.cx .f32 plus_.re plus_.im)),(10,.ptr 0 0),(13,.ptr 1 0),(14,.d (.cx .f32 (qa1 .add .f32 zero_.re (qa1 .add .f32 (qa1 .add .f32 through_.re through_.re) through_.re)) (qa1 .add .f32 zero_.im (qa1 .add .f32 (qa1 .add .f32 through_.im through_.im) through_.im)))),(15,.d (.cx .f32 (qa1 .add .f32 plus_.re (qa1 .add .f32 zero_.re (qa1 .add .f32 (qa1 .add .f32 through_.re through_.re) through_.re))) (qa1 .add .f32 plus_.im (qa1 .add .f32 zero_.im (qa1 .add .f32 (qa1 .add .f32 through_.im through_.im) through_.im)))))]) (objs:=[.box [.d (.cx .f32 (0:Nat) (0:Nat)),.d (.cx .f32 (0:Nat) (0:Nat)),.d (.cx .f32 (0:Nat) (0:Nat))],.box [.d (.cx .f32 (0:Nat) (0:Nat)),.d (.cx .f32 (0:Nat) (0:Nat)),.d (.cx .f32 (0:Nat) (0:Nat))]]) rfl (by simp) rfl (by trivial) ⟨rfl,trivial,rfl,trivial,rfl,trivial,rfl,trivial,rfl,trivial,rfl,trivial,trivial⟩) ?_
            refine qa2 ?_
            refine qa0 hτ rfl rfl rfl ?_
            refine qa0 hτ rfl rfl rfl ?_
            refine qa0 hτ rfl rfl rfl ?_
            refine qa0 hτ rfl rfl rfl ?_
            refine qa7 h fun x77 hx77 h=>?_
            refine qab hτ false [] rfl rfl rfl (qac func52 rfl rfl) rfl rfl (by simp) ⟨trivial,trivial,trivial⟩ (by trivial) (qb2 n plus_ (Cx.mk (qa1 .add .f32 zero_.re (qa1 .add .f32 (qa1 .add .f32 through_.re through_.re) through_.re)) (qa1 .add .f32 zero_.im (qa1 .add .f32 (qa1 .add .f32 through_.im through_.im) through_.im))) hx77) ?_
            rintro r0 o0 n0 ⟨rfl,rfl,rfl⟩ -
            refine qa0 hτ rfl rfl rfl ?_
            refine qa7 h fun x78 hx78 h=>?_
            refine qab hτ false [] rfl rfl rfl (qac func65 rfl rfl) rfl rfl (by simp) ⟨trivial,trivial,trivial⟩ (by trivial) (qdx n x77 (Cx.mk (qa1 .add .f32 plus_.re (qa1 .add .f32 zero_.re (qa1 .add .f32 (qa1 .add .f32 through_.re through_.re) through_.re))) (qa1 .add .f32 plus_.im (qa1 .add .f32 zero_.im (qa1 .add .f32 (qa1 .add .f32 through_.im through_.im) through_.im)))) hx78) ?_
            rintro r0 o0 n0 ⟨rfl,rfl,rfl⟩ -
            refine qa0 hτ rfl rfl rfl ?_
            refine qa7 h fun x79 hx79 h=>?_
            refine qab hτ false [] rfl rfl rfl (qac func65 rfl rfl) rfl rfl (by simp) ⟨trivial,trivial,trivial⟩ (by trivial) (qdx n source_ (Cx.mk (qa1 .add .f32 plus_.re x78.re) (qa1 .add .f32 plus_.im x78.im)) hx79) ?_
            rintro r0 o0 n0 ⟨rfl,rfl,rfl⟩ -
            refine qa0 hτ rfl rfl rfl ?_
            refine qai hτ rfl rfl rfl ?_
            refine qa4 ?_
            refine qa6 ?_
            refine qa8 (qa3 [0,1] (l:=[(2,.d (.cx .f32 plus_.re plus_.im)),(10,.ptr 0 0),(13,.ptr 1 0),(14,.d (.cx .f32 (qa1 .add .f32 zero_.re (qa1 .add .f32 (qa1 .add .f32 through_.re through_.re) through_.re)) (qa1 .add .f32 zero_.im (qa1 .add .f32 (qa1 .add .f32 through_.im through_.im) through_.im)))),(15,.d (.cx .f32 (qa1 .add .f32 plus_.re (qa1 .add .f32 zero_.re (qa1 .add .f32 (qa1 .add .f32 through_.re through_.re) through_.re))) (qa1 .add .f32 plus_.im (qa1 .add .f32 zero_.im (qa1 .add .f32 (qa1 .add .f32 through_.im through_.im) through_.im)))))]) (objs:=[.box [.d (.cx .f32 (0:Nat) (0:Nat)),.d (.cx .f32 (0:Nat) (0:Nat)),.d (.cx .f32 (0:Nat) (0:Nat))],.box [.d (.cx .f32 (0:Nat) (0:Nat)),.d (.cx .f32 x79.re x79.im),.d (.cx .f32 (0:Nat) (0:Nat))]]) rfl (by simp) rfl (by trivial) ⟨rfl,trivial,rfl,trivial,rfl,trivial,rfl,trivial,rfl,trivial,trivial⟩) ?_
            refine qa2 ?_
            refine qa0 hτ rfl rfl rfl ?_
            refine qa0 hτ rfl rfl rfl ?_
            refine qa0 hτ rfl rfl rfl ?_
            refine qa7 h fun x80 hx80 h=>?_
            refine qab hτ false [] rfl rfl rfl (qac func52 rfl rfl) rfl rfl (by simp) ⟨trivial,trivial,trivial⟩ (by trivial) (qb2 n x79 (Cx.mk (qa1 .add .f32 zero_.re (qa1 .add .f32 (qa1 .add .f32 through_.re through_.re) through_.re)) (qa1 .add .f32 zero_.im (qa1 .add .f32 (qa1 .add .f32 through_.im through_.im) through_.im))) hx80) ?_
            rintro r0 o0 n0 ⟨rfl,rfl,rfl⟩ -
            refine qa0 hτ rfl rfl rfl ?_
            refine qa7 h fun x81 hx81 h=>?_
            refine qab hτ false [] rfl rfl rfl (qac func65 rfl rfl) rfl rfl (by simp) ⟨trivial,trivial,trivial⟩ (by trivial) (qdx n x80 (Cx.mk (qa1 .add .f32 plus_.re (qa1 .add .f32 zero_.re (qa1 .add .f32 (qa1 .add .f32 through_.re through_.re) through_.re))) (qa1 .add .f32 plus_.im (qa1 .add .f32 zero_.im (qa1 .add .f32 (qa1 .add .f32 through_.im through_.im) through_.im)))) hx81) ?_
            rintro r0 o0 n0 ⟨rfl,rfl,rfl⟩ -
            refine qa0 hτ rfl rfl rfl ?_
            refine qa0 hτ rfl rfl rfl ?_
            refine qai hτ rfl rfl rfl ?_
            refine qa4 ?_
            refine qa8 (qa3 [0,1] (l:=[(2,.d (.cx .f32 plus_.re plus_.im)),(10,.ptr 0 0),(13,.ptr 1 0),(15,.d (.cx .f32 (qa1 .add .f32 plus_.re (qa1 .add .f32 zero_.re (qa1 .add .f32 (qa1 .add .f32 through_.re through_.re) through_.re))) (qa1 .add .f32 plus_.im (qa1 .add .f32 zero_.im (qa1 .add .f32 (qa1 .add .f32 through_.im through_.im) through_.im)))))]) (objs:=[.box [.d (.cx .f32 (0:Nat) (0:Nat)),.d (.cx .f32 (0:Nat) (0:Nat)),.d (.cx .f32 (0:Nat) (0:Nat))],.box [.d (.cx .f32 (0:Nat) (0:Nat)),.d (.cx .f32 x79.re x79.im),.d (.cx .f32 (qa1 .sub .f32 (0:Nat) x81.re) (qa1 .sub .f32 (0:Nat) x81.im))]]) rfl (by simp) rfl (by trivial) ⟨rfl,trivial,rfl,trivial,rfl,trivial,rfl,trivial,trivial⟩) ?_
            refine qa2 ?_
            refine qa0 hτ rfl rfl rfl ?_
            refine qa0 hτ rfl rfl rfl ?_
            refine qa0 hτ rfl rfl rfl ?_
            refine qa7 h fun x82 hx82 h=>?_
            refine qab hτ false [] rfl rfl rfl (qac func52 rfl rfl) rfl rfl (by simp) ⟨trivial,trivial,trivial⟩ (by trivial) (qb2 n x79 plus_ hx82) ?_
            rintro r0 o0 n0 ⟨rfl,rfl,rfl⟩ -
            refine qa0 hτ rfl rfl rfl ?_
            refine qa7 h fun x83 hx83 h=>?_
            refine qab hτ false [] rfl rfl rfl (qac func65 rfl rfl) rfl rfl (by simp) ⟨trivial,trivial,trivial⟩ (by trivial) (qdx n x82 (Cx.mk (qa1 .add .f32 plus_.re (qa1 .add .f32 zero_.re (qa1 .add .f32 (qa1 .add .f32 through_.re through_.re) through_.re))) (qa1 .add .f32 plus_.im (qa1 .add .f32 zero_.im (qa1 .add .f32 (qa1 .add .f32 through_.im through_.im) through_.im)))) hx83) ?_
            rintro r0 o0 n0 ⟨rfl,rfl,rfl⟩ -
            refine qa0 hτ rfl rfl rfl ?_
            refine qa0 hτ rfl rfl rfl ?_
            refine qai hτ rfl rfl rfl ?_
            refine qa4 ?_
            refine qa8 (qa3 [0,1] (l:=[(10,.ptr 0 0),(13,.ptr 1 0)]) (objs:=[.box [.d (.cx .f32 (0:Nat) (0:Nat)),.d (.cx .f32 (0:Nat) (0:Nat)),.d (.cx .f32 (0:Nat) (0:Nat))],.box [.d (.cx .f32 (qa1 .sub .f32 (0:Nat) x83.re) (qa1 .sub .f32 (0:Nat) x83.im)),.d (.cx .f32 x79.re x79.im),.d (.cx .f32 (qa1 .sub .f32 (0:Nat) x81.re) (qa1 .sub .f32 (0:Nat) x81.im))]]) rfl (by simp) rfl (by trivial) ⟨rfl,trivial,rfl,trivial,trivial⟩) ?_
            exact hk69 ((Cx.mk (qa1 .sub .f32 (0:Nat) x83.re) (qa1 .sub .f32 (0:Nat) x83.im)),x79,(Cx.mk (qa1 .sub .f32 (0:Nat) x81.re) (qa1 .sub .f32 (0:Nat) x81.im))) h
          · have h:=if_f h hc76
            refine qa6 ?_
            refine qa2 ?_
            refine qa0 hτ rfl rfl rfl ?_
            refine qai hτ rfl rfl rfl ?_
            refine qa0 hτ rfl rfl rfl ?_
            refine qa4 ?_
            refine qa8 (qa3 [0] (l:=[(10,.ptr 0 0),(11,.d (.bool false))]) (objs:=[.box [.d (.cx .f32 (0:Nat) (0:Nat)),.d (.cx .f32 (0:Nat) (0:Nat)),.d (.cx .f32 (0:Nat) (0:Nat))]]) rfl (by simp) rfl (by trivial) ⟨rfl,trivial,rfl,trivial,trivial⟩) ?_
            refine qal ?_
            have hr:=Option.some.inj h
            subst hr
            exact qae (.inr rfl) [] (objs':=[]) (new:=[]) rfl (by simp) (by simp) rfl (by trivial) rfl rfl (by trivial) (fun _=>⟨by simp [V.flat,V.qb7,V.qb5,D.flat],qag⟩) ⟨rfl,rfl,rfl⟩
theorem impl_FaultParts_ok (n:Nat) (source_:Cx) (zero_:Cx) (plus_:Cx) (kind_:Int) (through_:Cx) {r:qbl × Bool} (h:qfc n source_ zero_ plus_ kind_ through_ = some r):qaq prog false 27 [.d (.cx .f32 source_.re source_.im),.d (.cx .f32 zero_.re zero_.im),.d (.cx .f32 plus_.re plus_.im),.d (.int .i64 kind_),.d (.cx .f32 through_.re through_.im)] [] (fun v o new=>v = .tup [.agg [.d (.cx .f32 r.1.Zero.re r.1.Zero.im),.d (.cx .f32 r.1.Plus.re r.1.Plus.im),.d (.cx .f32 r.1.qbq.re r.1.qbq.im)],.d (.bool r.2)]∧o = []∧new = []):=impl_FaultParts_ok_fr0 false n source_ zero_ plus_ kind_ through_ h
def qeb (n:Nat) (f_:qan) (bus_:Int) (kind_:Int) (through_:Cx):Option (qbl × Bool) :=
  (qe0 n f_ bus_).bind fun x6 =>
  (qcc n f_ x6).bind fun x7 =>
  (qcu n x7.1 x7.2).bind fun x8 =>
  (qcg n f_.Source).bind fun x9 =>
  (qfc n x9.Plus x8.1 x8.2 kind_ through_).bind fun x10 =>
  some (x10.1,x10.2)
theorem qji (n:Nat) (f_:qan) (bus_:Int) (kind_:Int) (through_:Cx) {r:qbl × Bool} (h:qeb n f_ bus_ kind_ through_ = some r):qaq prog false 74 [.ptr 0 0,.d (.int .i64 bus_),.d (.int .i64 kind_),.d (.cx .f32 through_.re through_.im)] [.box [.d (.cx .f32 f_.Source.A.re f_.Source.A.im),.d (.cx .f32 f_.Source.B.re f_.Source.B.im),.d (.cx .f32 f_.Source.C.re f_.Source.C.im),.d (.sl false (f_.qad.map qaj))]] (fun v o new=>v = .tup [.agg [.d (.cx .f32 r.1.Zero.re r.1.Zero.im),.d (.cx .f32 r.1.Plus.re r.1.Plus.im),.d (.cx .f32 r.1.qbq.re r.1.qbq.im)],.d (.bool r.2)]∧o = [.box [.d (.cx .f32 f_.Source.A.re f_.Source.A.im),.d (.cx .f32 f_.Source.B.re f_.Source.B.im),.d (.cx .f32 f_.Source.C.re f_.Source.C.im),.d (.sl false (f_.qad.map qaj))]]∧new = []):=by
  refine qaf hτ func74 rfl (by simp) (by simp) ?_
  unfold qeb at h
  refine qa6 ?_
  refine qa2 ?_
  refine qai hτ rfl rfl rfl ?_
  refine qa0 hτ rfl rfl rfl ?_
  refine qa4 ?_
  refine qa6 ?_
  refine qa2 ?_
  refine qa0 hτ rfl rfl rfl ?_
  refine qa0 hτ rfl rfl rfl ?_
  refine qa0 hτ rfl rfl rfl ?_
  refine qa7 h fun x6 hx6 h=>?_
  refine qab hτ false [0] rfl rfl rfl (qac func73 rfl rfl) rfl rfl (by simp) ⟨trivial,trivial,trivial⟩ (by trivial) (qi7 n f_ bus_ hx6) ?_
  rintro r0 o0 n0 ⟨rfl,rfl,rfl⟩ -
  refine qas (qa3 [0,1] (l:=[(0,.ptr 0 0),(2,.d (.int .i64 kind_)),(3,.d (.cx .f32 through_.re through_.im)),(8,.ptr 1 0),(13,.ptr 0 0),(16,.d (.sl false (x6.map qav)))]) (objs:=[.box [.d (.cx .f32 f_.Source.A.re f_.Source.A.im),.d (.cx .f32 f_.Source.B.re f_.Source.B.im),.d (.cx .f32 f_.Source.C.re f_.Source.C.im),.d (.sl false (f_.qad.map qaj))],.box [.d (.cx .f32 (0:Nat) (0:Nat)),.d (.cx .f32 (0:Nat) (0:Nat)),.d (.cx .f32 (0:Nat) (0:Nat))]]) rfl (by simp) rfl (by trivial) ⟨rfl,trivial,rfl,trivial,rfl,trivial,rfl,trivial,rfl,trivial,(qpr (f:=qav) x6 rfl rfl rfl),(qnt (f:=qav) x6 rfl rfl rfl),trivial⟩) ?_
  refine qa7 h fun x7 hx7 h=>?_
  refine qab hτ false [0] rfl rfl rfl (qac func75 rfl rfl) rfl rfl (by simp) ⟨trivial,trivial,trivial⟩ (by trivial) (qic n f_ x6 hx7) ?_
  rintro r0 o0 n0 ⟨rfl,rfl,rfl⟩ -
  refine qa0 hτ rfl rfl rfl ?_
  refine qa0 hτ rfl rfl rfl ?_
  refine qa7 h fun x8 hx8 h=>?_
  refine qab hτ false [] rfl rfl rfl (qac func26 rfl rfl) rfl rfl (by simp) ⟨trivial,trivial,trivial⟩ (by trivial) (qk8 n x7.1 x7.2 hx8) ?_
  rintro r0 o0 n0 ⟨rfl,rfl,rfl⟩ -
  refine qa0 hτ rfl rfl rfl ?_
  refine qa0 hτ rfl rfl rfl ?_
  refine qa0 hτ rfl rfl rfl ?_
  refine qa0 hτ rfl rfl rfl ?_
  refine qa0 hτ rfl rfl rfl ?_
  refine qa4 ?_
  refine qa6 ?_
  refine qa8 (qa3 [0,1] (l:=[(0,.ptr 0 0),(2,.d (.int .i64 kind_)),(3,.d (.cx .f32 through_.re through_.im)),(8,.ptr 1 0),(10,.d (.cx .f32 x8.1.re x8.1.im)),(11,.d (.cx .f32 x8.2.re x8.2.im))]) (objs:=[.box [.d (.cx .f32 f_.Source.A.re f_.Source.A.im),.d (.cx .f32 f_.Source.B.re f_.Source.B.im),.d (.cx .f32 f_.Source.C.re f_.Source.C.im),.d (.sl false (f_.qad.map qaj))],.box [.d (.cx .f32 (0:Nat) (0:Nat)),.d (.cx .f32 (0:Nat) (0:Nat)),.d (.cx .f32 (0:Nat) (0:Nat))]]) rfl (by simp) rfl (by trivial) ⟨rfl,trivial,rfl,trivial,rfl,trivial,rfl,trivial,rfl,trivial,rfl,trivial,trivial⟩) ?_
  refine qa2 ?_
  refine qa0 hτ rfl rfl rfl ?_
  refine qa0 hτ rfl rfl rfl ?_
  refine qa0 hτ rfl rfl rfl ?_
  refine qa0 hτ rfl rfl rfl ?_
  refine qa7 h fun x9 hx9 h=>?_
  refine qab hτ false [] rfl rfl rfl (qac func24 rfl rfl) rfl rfl (by simp) ⟨(by trivial),trivial⟩ (by trivial) (ql5 n f_.Source hx9) ?_
  rintro r0 o0 n0 ⟨rfl,rfl,rfl⟩ -
  refine qa0 hτ rfl rfl rfl ?_
  refine qa0 hτ rfl rfl rfl ?_
  refine qa0 hτ rfl rfl rfl ?_
  refine qa0 hτ rfl rfl rfl ?_
  refine qa0 hτ rfl rfl rfl ?_
  refine qa7 h fun x10 hx10 h=>?_
  refine qab hτ false [] rfl rfl rfl (qac func27 rfl rfl) rfl rfl (by simp) ⟨trivial,trivial,trivial,trivial,trivial,trivial⟩ (by trivial) (impl_FaultParts_ok n x9.Plus x8.1 x8.2 kind_ through_ hx10) ?_
  rintro r0 o0 n0 ⟨rfl,rfl,rfl⟩ -
  refine qa0 hτ rfl rfl rfl ?_
  refine qas (qa3 [0,1] (l:=[(8,.ptr 1 0),(33,.tup [.agg [.d (.cx .f32 x10.1.Zero.re x10.1.Zero.im),.d (.cx .f32 x10.1.Plus.re x10.1.Plus.im),.d (.cx .f32 x10.1.qbq.re x10.1.qbq.im)],.d (.bool x10.2)]),(34,.agg [.d (.cx .f32 x10.1.Zero.re x10.1.Zero.im),.d (.cx .f32 x10.1.Plus.re x10.1.Plus.im),.d (.cx .f32 x10.1.qbq.re x10.1.qbq.im)])]) (objs:=[.box [.d (.cx .f32 f_.Source.A.re f_.Source.A.im),.d (.cx .f32 f_.Source.B.re f_.Source.B.im),.d (.cx .f32 f_.Source.C.re f_.Source.C.im),.d (.sl false (f_.qad.map qaj))],.box [.d (.cx .f32 (0:Nat) (0:Nat)),.d (.cx .f32 (0:Nat) (0:Nat)),.d (.cx .f32 (0:Nat) (0:Nat))]]) rfl (by simp) rfl (by trivial) ⟨rfl,trivial,rfl,(by trivial),rfl,(by trivial),trivial⟩) ?_
  refine qa0 hτ rfl rfl rfl ?_
  refine qai hτ rfl rfl rfl ?_
  refine qa0 hτ rfl rfl rfl ?_
  refine qa4 ?_
  refine qa8 (qa3 [0,1] (l:=[(8,.ptr 1 0),(9,.d (.bool x10.2))]) (objs:=[.box [.d (.cx .f32 f_.Source.A.re f_.Source.A.im),.d (.cx .f32 f_.Source.B.re f_.Source.B.im),.d (.cx .f32 f_.Source.C.re f_.Source.C.im),.d (.sl false (f_.qad.map qaj))],.box [.d (.cx .f32 x10.1.Zero.re x10.1.Zero.im),.d (.cx .f32 x10.1.Plus.re x10.1.Plus.im),.d (.cx .f32 x10.1.qbq.re x10.1.qbq.im)]]) rfl (by simp) rfl (by trivial) ⟨rfl,trivial,rfl,trivial,trivial⟩) ?_
  refine qal ?_
  have hr:=Option.some.inj h
  subst hr
  exact qae (.inr rfl) [] (objs':=[.box [.d (.cx .f32 f_.Source.A.re f_.Source.A.im),.d (.cx .f32 f_.Source.B.re f_.Source.B.im),.d (.cx .f32 f_.Source.C.re f_.Source.C.im),.d (.sl false (f_.qad.map qaj))]]) (new:=[]) rfl (by simp) (by simp) rfl (by trivial) rfl rfl (by trivial) (fun h=>nomatch h) ⟨rfl,rfl,rfl⟩
def qc0 (n:Nat) (parts_:qbl):Option qax :=
  (qie n).bind fun x6 =>
  (qah n x6.2 parts_.Plus).bind fun x7 =>
  (qah n x6.1 parts_.qbq).bind fun x8 =>
  (qah n x6.1 parts_.Plus).bind fun x9 =>
  (qah n x6.2 parts_.qbq).bind fun x10 =>
  some (qax.mk (Cx.mk (qa1 .add .f32 (qa1 .add .f32 parts_.Zero.re parts_.Plus.re) parts_.qbq.re) (qa1 .add .f32 (qa1 .add .f32 parts_.Zero.im parts_.Plus.im) parts_.qbq.im)) (Cx.mk (qa1 .add .f32 (qa1 .add .f32 parts_.Zero.re x7.re) x8.re) (qa1 .add .f32 (qa1 .add .f32 parts_.Zero.im x7.im) x8.im)) (Cx.mk (qa1 .add .f32 (qa1 .add .f32 parts_.Zero.re x9.re) x10.re) (qa1 .add .f32 (qa1 .add .f32 parts_.Zero.im x9.im) x10.im)))
theorem impl_PhasesOf_ok_fr0 (fr:Bool) (n:Nat) (parts_:qbl) {r:qax} (h:qc0 n parts_ = some r):qaq prog fr 23 [.agg [.d (.cx .f32 parts_.Zero.re parts_.Zero.im),.d (.cx .f32 parts_.Plus.re parts_.Plus.im),.d (.cx .f32 parts_.qbq.re parts_.qbq.im)]] [] (fun v o new=>v = .agg [.d (.cx .f32 r.A.re r.A.im),.d (.cx .f32 r.B.re r.B.im),.d (.cx .f32 r.C.re r.C.im)]∧o = []∧new = []):=by
  refine qaf hτ func23 rfl (by simp) (by simp) ?_
  unfold qc0 at h
  refine qa6 ?_
  refine qa2 ?_
  refine qai hτ rfl rfl rfl ?_
  refine qai hτ rfl rfl rfl ?_
  refine qa4 ?_
  refine qa6 ?_
  refine qa2 ?_
  refine qa7 h fun x6 hx6 h=>?_
  refine qab hτ false [] rfl rfl rfl (qac func76 rfl rfl) rfl rfl (by simp) trivial (by trivial) (qmb n hx6) ?_
  rintro r0 o0 n0 ⟨rfl,rfl,rfl⟩ -
  refine qa0 hτ rfl rfl rfl ?_
  refine qa0 hτ rfl rfl rfl ?_
  refine qa0 hτ rfl rfl rfl ?_
  refine qa0 hτ rfl rfl rfl ?_
  refine qa0 hτ rfl rfl rfl ?_
  refine qa4 ?_
  refine qa6 ?_
  refine qa8 (qa3 [0,1] (l:=[(1,.ptr 0 0),(2,.ptr 1 0),(3,.d (.cx .f32 x6.1.re x6.1.im)),(4,.d (.cx .f32 x6.2.re x6.2.im))]) (objs:=[.box [.d (.cx .f32 parts_.Zero.re parts_.Zero.im),.d (.cx .f32 parts_.Plus.re parts_.Plus.im),.d (.cx .f32 parts_.qbq.re parts_.qbq.im)],.box [.d (.cx .f32 (0:Nat) (0:Nat)),.d (.cx .f32 (0:Nat) (0:Nat)),.d (.cx .f32 (0:Nat) (0:Nat))]]) rfl (by simp) rfl (by trivial) ⟨rfl,trivial,rfl,trivial,rfl,trivial,rfl,trivial,trivial⟩) ?_
  refine qd7 ?_
  refine qa5 hτ [0] 0 rfl rfl rfl rfl rfl ?_
  refine qa5 hτ [0] 1 rfl rfl rfl rfl rfl ?_
  refine qa5 hτ [0] 2 rfl rfl rfl rfl rfl ?_
  refine qa5 hτ [0] 3 rfl rfl rfl rfl rfl ?_
  refine qa5 hτ [0] 4 rfl rfl rfl rfl rfl ?_
  refine qa5 hτ [0] 5 rfl rfl rfl rfl rfl ?_
  refine qa5 hτ [] 6 rfl rfl rfl rfl rfl ?_
  refine qa5 hτ [] 7 rfl rfl rfl rfl rfl ?_
  refine qa5 hτ [] 8 rfl rfl rfl rfl rfl ?_
  refine qbk mixed (by kernel_rfl) ?_
  refine qa6 ?_
  refine qa8 (qa3 [1] (l:=[(2,.ptr 0 0),(3,.d (.cx .f32 x6.1.re x6.1.im)),(4,.d (.cx .f32 x6.2.re x6.2.im)),(5,.d (.cx .f32 parts_.Zero.re parts_.Zero.im)),(6,.d (.cx .f32 parts_.Plus.re parts_.Plus.im)),(7,.d (.cx .f32 parts_.qbq.re parts_.qbq.im))]) (objs:=[.box [.d (.cx .f32 (0:Nat) (0:Nat)),.d (.cx .f32 (0:Nat) (0:Nat)),.d (.cx .f32 (0:Nat) (0:Nat))]]) rfl (by simp) rfl (by trivial) ⟨rfl,trivial,rfl,trivial,rfl,trivial,rfl,trivial,rfl,trivial,rfl,trivial,trivial⟩) ?_
  refine qa2 ?_
  refine qa0 hτ rfl rfl rfl ?_
  refine qa0 hτ rfl rfl rfl ?_
  refine qa0 hτ rfl rfl rfl ?_
  refine qa0 hτ rfl rfl rfl ?_
  refine qa0 hτ rfl rfl rfl ?_
  refine qa0 hτ rfl rfl rfl ?_
  refine qa0 hτ rfl rfl rfl ?_
  refine qa0 hτ rfl rfl rfl ?_
  refine qa7 h fun x7 hx7 h=>?_
  refine qab hτ false [] rfl rfl rfl (qac func52 rfl rfl) rfl rfl (by simp) ⟨trivial,trivial,trivial⟩ (by trivial) (qb2 n x6.2 parts_.Plus hx7) ?_
  rintro r0 o0 n0 ⟨rfl,rfl,rfl⟩ -
  refine qa0 hτ rfl rfl rfl ?_
  refine qa0 hτ rfl rfl rfl ?_
  refine qa0 hτ rfl rfl rfl ?_
  refine qas (qa3 [0] (l:=[(2,.ptr 0 0),(3,.d (.cx .f32 x6.1.re x6.1.im)),(4,.d (.cx .f32 x6.2.re x6.2.im)),(5,.d (.cx .f32 parts_.Zero.re parts_.Zero.im)),(6,.d (.cx .f32 parts_.Plus.re parts_.Plus.im)),(7,.d (.cx .f32 parts_.qbq.re parts_.qbq.im)),(22,.d (.cx .f32 (qa1 .add .f32 (qa1 .add .f32 parts_.Zero.re parts_.Plus.re) parts_.qbq.re) (qa1 .add .f32 (qa1 .add .f32 parts_.Zero.im parts_.Plus.im) parts_.qbq.im))),(27,.d (.cx .f32 (qa1 .add .f32 parts_.Zero.re x7.re) (qa1 .add .f32 parts_.Zero.im x7.im))),(28,.d (.cx .f32 x6.1.re x6.1.im)),(29,.d (.cx .f32 parts_.qbq.re parts_.qbq.im))]) (objs:=[.box [.d (.cx .f32 (0:Nat) (0:Nat)),.d (.cx .f32 (0:Nat) (0:Nat)),.d (.cx .f32 (0:Nat) (0:Nat))]]) rfl (by simp) rfl (by trivial) ⟨rfl,trivial,rfl,trivial,rfl,trivial,rfl,trivial,rfl,trivial,rfl,trivial,rfl,trivial,rfl,trivial,rfl,trivial,rfl,trivial,trivial⟩) ?_
  refine qa7 h fun x8 hx8 h=>?_
  refine qab hτ false [] rfl rfl rfl (qac func52 rfl rfl) rfl rfl (by simp) ⟨trivial,trivial,trivial⟩ (by trivial) (qb2 n x6.1 parts_.qbq hx8) ?_
  rintro r0 o0 n0 ⟨rfl,rfl,rfl⟩ -
  refine qa0 hτ rfl rfl rfl ?_
  refine qa0 hτ rfl rfl rfl ?_
  refine qa0 hτ rfl rfl rfl ?_
  refine qa0 hτ rfl rfl rfl ?_
  refine qa7 h fun x9 hx9 h=>?_
  refine qab hτ false [] rfl rfl rfl (qac func52 rfl rfl) rfl rfl (by simp) ⟨trivial,trivial,trivial⟩ (by trivial) (qb2 n x6.1 parts_.Plus hx9) ?_
  rintro r0 o0 n0 ⟨rfl,rfl,rfl⟩ -
  refine qa0 hτ rfl rfl rfl ?_
  refine qa0 hτ rfl rfl rfl ?_
  refine qa0 hτ rfl rfl rfl ?_
  refine qa7 h fun x10 hx10 h=>?_
  refine qab hτ false [] rfl rfl rfl (qac func52 rfl rfl) rfl rfl (by simp) ⟨trivial,trivial,trivial⟩ (by trivial) (qb2 n x6.2 parts_.qbq hx10) ?_
  rintro r0 o0 n0 ⟨rfl,rfl,rfl⟩ -
  refine qa0 hτ rfl rfl rfl ?_
  refine qa0 hτ rfl rfl rfl ?_
  refine qas (qa3 [0] (l:=[(2,.ptr 0 0),(41,.agg [.d (.cx .f32 (qa1 .add .f32 (qa1 .add .f32 parts_.Zero.re parts_.Plus.re) parts_.qbq.re) (qa1 .add .f32 (qa1 .add .f32 parts_.Zero.im parts_.Plus.im) parts_.qbq.im)),.d (.cx .f32 (qa1 .add .f32 (qa1 .add .f32 parts_.Zero.re x7.re) x8.re) (qa1 .add .f32 (qa1 .add .f32 parts_.Zero.im x7.im) x8.im)),.d (.cx .f32 (qa1 .add .f32 (qa1 .add .f32 parts_.Zero.re x9.re) x10.re) (qa1 .add .f32 (qa1 .add .f32 parts_.Zero.im x9.im) x10.im))])]) (objs:=[.box [.d (.cx .f32 (0:Nat) (0:Nat)),.d (.cx .f32 (0:Nat) (0:Nat)),.d (.cx .f32 (0:Nat) (0:Nat))]]) rfl (by simp) rfl (by trivial) ⟨rfl,trivial,rfl,(by trivial),trivial⟩) ?_
  refine qai hτ rfl rfl rfl ?_
  refine qa4 ?_
  refine qa8 (qa3 [0] (l:=[(2,.ptr 0 0)]) (objs:=[.box [.d (.cx .f32 (qa1 .add .f32 (qa1 .add .f32 parts_.Zero.re parts_.Plus.re) parts_.qbq.re) (qa1 .add .f32 (qa1 .add .f32 parts_.Zero.im parts_.Plus.im) parts_.qbq.im)),.d (.cx .f32 (qa1 .add .f32 (qa1 .add .f32 parts_.Zero.re x7.re) x8.re) (qa1 .add .f32 (qa1 .add .f32 parts_.Zero.im x7.im) x8.im)),.d (.cx .f32 (qa1 .add .f32 (qa1 .add .f32 parts_.Zero.re x9.re) x10.re) (qa1 .add .f32 (qa1 .add .f32 parts_.Zero.im x9.im) x10.im))]]) rfl (by simp) rfl (by trivial) ⟨rfl,trivial,trivial⟩) ?_
  refine qal ?_
  have hr:=Option.some.inj h
  subst hr
  exact qae (.inr rfl) [] (objs':=[]) (new:=[]) rfl (by simp) (by simp) rfl (by trivial) rfl rfl (by trivial) (fun _=>⟨by simp [V.flat,V.qb7,V.qb5,D.flat],qag⟩) ⟨rfl,rfl,rfl⟩
theorem qkv (n:Nat) (parts_:qbl) {r:qax} (h:qc0 n parts_ = some r):qaq prog false 23 [.agg [.d (.cx .f32 parts_.Zero.re parts_.Zero.im),.d (.cx .f32 parts_.Plus.re parts_.Plus.im),.d (.cx .f32 parts_.qbq.re parts_.qbq.im)]] [] (fun v o new=>v = .agg [.d (.cx .f32 r.A.re r.A.im),.d (.cx .f32 r.B.re r.B.im),.d (.cx .f32 r.C.re r.C.im)]∧o = []∧new = []):=impl_PhasesOf_ok_fr0 false n parts_ h
def qbj (n:Nat) (f_:qan) (bus_:Int) (kind_:Int) (through_:Cx):Option (qax × Bool) :=
  (qec n f_ bus_).bind fun x5 =>
  if x5 = true then
    (qeb n f_ bus_ kind_ through_).bind fun x7 =>
    if x7.2 = true then
      (qc0 n x7.1).bind fun x9 =>
      some (x9,true)
    else
      some ((qax.mk (Cx.mk (0:Nat) (0:Nat)) (Cx.mk (0:Nat) (0:Nat)) (Cx.mk (0:Nat) (0:Nat))),false)
  else
    some ((qax.mk (Cx.mk (0:Nat) (0:Nat)) (Cx.mk (0:Nat) (0:Nat)) (Cx.mk (0:Nat) (0:Nat))),false)
theorem qhs (fr:Bool) (n:Nat) (f_:qan) (bus_:Int) (kind_:Int) (through_:Cx) {r:qax × Bool} (h:qbj n f_ bus_ kind_ through_ = some r):qaq prog fr 28 [.agg [.d (.cx .f32 f_.Source.A.re f_.Source.A.im),.d (.cx .f32 f_.Source.B.re f_.Source.B.im),.d (.cx .f32 f_.Source.C.re f_.Source.C.im),.d (.sl false (f_.qad.map qaj))],.d (.int .i64 bus_),.d (.int .i64 kind_),.d (.cx .f32 through_.re through_.im)] [] (fun v o new=>v = .tup [.agg [.d (.cx .f32 r.1.A.re r.1.A.im),.d (.cx .f32 r.1.B.re r.1.B.im),.d (.cx .f32 r.1.C.re r.1.C.im)],.d (.bool r.2)]∧o = []∧new = []):=by
  refine qaf hτ func28 rfl (by simp) (by simp) ?_
  unfold qbj at h
  refine qa6 ?_
  refine qa2 ?_
  refine qai hτ rfl rfl rfl ?_
  refine qai hτ rfl rfl rfl ?_
  refine qa0 hτ rfl rfl rfl ?_
  refine qa4 ?_
  refine qa6 ?_
  refine qa6 ?_
  refine qa2 ?_
  refine qa0 hτ rfl rfl rfl ?_
  refine qa7 h fun x5 hx5 h=>?_
  refine qab hτ false [0] rfl rfl rfl (qac func57 rfl rfl) rfl rfl (by simp) ⟨trivial,trivial,trivial⟩ (by trivial) (qii n f_ bus_ hx5) ?_
  rintro r0 o0 n0 ⟨rfl,rfl,rfl⟩ -
  refine qa0 hτ rfl rfl rfl ?_
  refine qa4 ?_
  refine qa8 (qa3 [0,1] (l:=[(1,.d (.int .i64 bus_)),(2,.d (.int .i64 kind_)),(3,.d (.cx .f32 through_.re through_.im)),(4,.ptr 0 0),(8,.ptr 1 0),(14,.d (.bool (!x5)))]) (objs:=[.box [.d (.cx .f32 f_.Source.A.re f_.Source.A.im),.d (.cx .f32 f_.Source.B.re f_.Source.B.im),.d (.cx .f32 f_.Source.C.re f_.Source.C.im),.d (.sl false (f_.qad.map qaj))],.box [.d (.cx .f32 (0:Nat) (0:Nat)),.d (.cx .f32 (0:Nat) (0:Nat)),.d (.cx .f32 (0:Nat) (0:Nat))]]) rfl (by simp) rfl (by trivial) ⟨rfl,trivial,rfl,trivial,rfl,trivial,rfl,trivial,rfl,trivial,rfl,trivial,trivial⟩) ?_
  refine qar rfl (fun hc6=>?_) (fun hc6=>?_)
  · have hc6:=qjc hc6
    have h:=qck h hc6
    refine qa6 ?_
    refine qa2 ?_
    refine qa0 hτ rfl rfl rfl ?_
    refine qai hτ rfl rfl rfl ?_
    refine qa0 hτ rfl rfl rfl ?_
    refine qa4 ?_
    refine qa8 (qa3 [1] (l:=[(8,.ptr 0 0),(9,.d (.bool false))]) (objs:=[.box [.d (.cx .f32 (0:Nat) (0:Nat)),.d (.cx .f32 (0:Nat) (0:Nat)),.d (.cx .f32 (0:Nat) (0:Nat))]]) rfl (by simp) rfl (by trivial) ⟨rfl,trivial,rfl,trivial,trivial⟩) ?_
    refine qal ?_
    have hr:=Option.some.inj h
    subst hr
    exact qae (.inr rfl) [] (objs':=[]) (new:=[]) rfl (by simp) (by simp) rfl (by trivial) rfl rfl (by trivial) (fun _=>⟨by simp [V.flat,V.qb7,V.qb5,D.flat],qag⟩) ⟨rfl,rfl,rfl⟩
  · have hc6:=qjb hc6
    have h:=qcl h hc6
    refine qb9 ?_
    refine qa6 ?_
    refine qa2 ?_
    refine qa0 hτ rfl rfl rfl ?_
    refine qa0 hτ rfl rfl rfl ?_
    refine qa0 hτ rfl rfl rfl ?_
    refine qa7 h fun x7 hx7 h=>?_
    refine qab hτ false [0] rfl rfl rfl (qac func74 rfl rfl) rfl rfl (by simp) ⟨trivial,trivial,trivial,trivial,trivial⟩ (by trivial) (qji n f_ bus_ kind_ through_ hx7) ?_
    rintro r0 o0 n0 ⟨rfl,rfl,rfl⟩ -
    refine qa0 hτ rfl rfl rfl ?_
    refine qa0 hτ rfl rfl rfl ?_
    refine qa0 hτ rfl rfl rfl ?_
    refine qai hτ rfl rfl rfl ?_
    refine qai hτ rfl rfl rfl ?_
    refine qa0 hτ rfl rfl rfl ?_
    refine qa4 ?_
    refine qa6 ?_
    refine qa6 ?_
    refine qa8 (qa3 [1,2] (l:=[(8,.ptr 0 0),(10,.ptr 1 0),(11,.d (.bool x7.2))]) (objs:=[.box [.d (.cx .f32 (0:Nat) (0:Nat)),.d (.cx .f32 (0:Nat) (0:Nat)),.d (.cx .f32 (0:Nat) (0:Nat))],.box [.d (.cx .f32 x7.1.Zero.re x7.1.Zero.im),.d (.cx .f32 x7.1.Plus.re x7.1.Plus.im),.d (.cx .f32 x7.1.qbq.re x7.1.qbq.im)]]) rfl (by simp) rfl (by trivial) ⟨rfl,trivial,rfl,trivial,rfl,trivial,trivial⟩) ?_
    refine qa2 ?_
    refine qa0 hτ rfl rfl rfl ?_
    refine qa0 hτ rfl rfl rfl ?_
    refine qa4 ?_
    refine qar rfl (fun hc8=>?_) (fun hc8=>?_)
    · have hc8:=qjc hc8
      have h:=qck h hc8
      refine qa6 ?_
      refine qa2 ?_
      refine qa0 hτ rfl rfl rfl ?_
      refine qai hτ rfl rfl rfl ?_
      refine qa0 hτ rfl rfl rfl ?_
      refine qa4 ?_
      refine qa8 (qa3 [0] (l:=[(8,.ptr 0 0),(9,.d (.bool false))]) (objs:=[.box [.d (.cx .f32 (0:Nat) (0:Nat)),.d (.cx .f32 (0:Nat) (0:Nat)),.d (.cx .f32 (0:Nat) (0:Nat))]]) rfl (by simp) rfl (by trivial) ⟨rfl,trivial,rfl,trivial,trivial⟩) ?_
      refine qal ?_
      have hr:=Option.some.inj h
      subst hr
      exact qae (.inr rfl) [] (objs':=[]) (new:=[]) rfl (by simp) (by simp) rfl (by trivial) rfl rfl (by trivial) (fun _=>⟨by simp [V.flat,V.qb7,V.qb5,D.flat],qag⟩) ⟨rfl,rfl,rfl⟩
    · have hc8:=qjb hc8
      have h:=qcl h hc8
      refine qb9 ?_
      refine qa6 ?_
      refine qa2 ?_
      refine qa0 hτ rfl rfl rfl ?_
      refine qa7 h fun x9 hx9 h=>?_
      refine qab hτ false [] rfl rfl rfl (qac func23 rfl rfl) rfl rfl (by simp) ⟨(by trivial),trivial⟩ (by trivial) (qkv n x7.1 hx9) ?_
      rintro r0 o0 n0 ⟨rfl,rfl,rfl⟩ -
      refine qai hτ rfl rfl rfl ?_
      refine qa0 hτ rfl rfl rfl ?_
      refine qa4 ?_
      refine qa8 (qa3 [0] (l:=[(8,.ptr 0 0),(9,.d (.bool true))]) (objs:=[.box [.d (.cx .f32 x9.A.re x9.A.im),.d (.cx .f32 x9.B.re x9.B.im),.d (.cx .f32 x9.C.re x9.C.im)]]) rfl (by simp) rfl (by trivial) ⟨rfl,trivial,rfl,trivial,trivial⟩) ?_
      refine qal ?_
      have hr:=Option.some.inj h
      subst hr
      exact qae (.inr rfl) [] (objs':=[]) (new:=[]) rfl (by simp) (by simp) rfl (by trivial) rfl rfl (by trivial) (fun _=>⟨by simp [V.flat,V.qb7,V.qb5,D.flat],qag⟩) ⟨rfl,rfl,rfl⟩
theorem impl_FaultCurrents_ok (n:Nat) (f_:qan) (bus_:Int) (kind_:Int) (through_:Cx) {r:qax × Bool} (h:qbj n f_ bus_ kind_ through_ = some r):qaq prog false 28 [.agg [.d (.cx .f32 f_.Source.A.re f_.Source.A.im),.d (.cx .f32 f_.Source.B.re f_.Source.B.im),.d (.cx .f32 f_.Source.C.re f_.Source.C.im),.d (.sl false (f_.qad.map qaj))],.d (.int .i64 bus_),.d (.int .i64 kind_),.d (.cx .f32 through_.re through_.im)] [] (fun v o new=>v = .tup [.agg [.d (.cx .f32 r.1.A.re r.1.A.im),.d (.cx .f32 r.1.B.re r.1.B.im),.d (.cx .f32 r.1.C.re r.1.C.im)],.d (.bool r.2)]∧o = []∧new = []):=qhs false n f_ bus_ kind_ through_ h
theorem impl_FaultCurrents_ok_fr (n:Nat) (f_:qan) (bus_:Int) (kind_:Int) (through_:Cx) {r:qax × Bool} (h:qbj n f_ bus_ kind_ through_ = some r):qaq prog true 28 [.agg [.d (.cx .f32 f_.Source.A.re f_.Source.A.im),.d (.cx .f32 f_.Source.B.re f_.Source.B.im),.d (.cx .f32 f_.Source.C.re f_.Source.C.im),.d (.sl false (f_.qad.map qaj))],.d (.int .i64 bus_),.d (.int .i64 kind_),.d (.cx .f32 through_.re through_.im)] [] (fun v o new=>v = .tup [.agg [.d (.cx .f32 r.1.A.re r.1.A.im),.d (.cx .f32 r.1.B.re r.1.B.im),.d (.cx .f32 r.1.C.re r.1.C.im)],.d (.bool r.2)]∧o = []∧new = []):=qhs true n f_ bus_ kind_ through_ h
def qdy (n:Nat) (x18:List Int) (v34:Int):Option (List Int) :=
  grd (0 ≤ (0:Int)∧(0:Int) ≤ v34∧v34 ≤ (x18.length:Int)∧0 < x18.length) <|
  some (((x18).drop (0 + (0:Int).toNat)).take (v34.toNat - (0:Int).toNat))
def qdz (n:Nat) (k52:Int→Option (List Int)) (v43:Int):Option (List Int) :=
  k52 (w64 (v43 + (1:Int)))
def qbs (n:Nat) (x18:List Int) (k52:Int→Option (List Int)) (v43:Int) (v66:Bool):Option (List Int) :=
  if v66 = true then
    qdz n k52 v43
  else
    qdy n x18 v43
def qb0 (n:Nat) (x18:List Int) (x19:List Int):Nat→Int→Option (List Int)
  | 0,_=>none
  | m51 + 1,v43 =>
    if v43 < (x18.length:Int) then
      if v43 < (x19.length:Int) then
        (getI x18 v43).bind fun x71 =>
        (getI x19 v43).bind fun x72 =>
        qbs n x18 (qb0 n x18 x19 m51) v43 (decide (x71 = x72))
      else
        qbs n x18 (qb0 n x18 x19 m51) v43 false
    else
      qbs n x18 (qb0 n x18 x19 m51) v43 false
def qf4 (n:Nat) (f_:qan) (a_:Int) (b_:Int):Option (List Int) :=
  (qe0 n f_ a_).bind fun x18 =>
  (qe0 n f_ b_).bind fun x19 =>
  qb0 n x18 x19 n (0:Int)
theorem impl_Feeder_common_ok (n:Nat) (f_:qan) (a_:Int) (b_:Int) {r:List Int} (h:qf4 n f_ a_ b_ = some r):qaq prog false 72 [.ptr 0 0,.d (.int .i64 a_),.d (.int .i64 b_)] [.box [.d (.cx .f32 f_.Source.A.re f_.Source.A.im),.d (.cx .f32 f_.Source.B.re f_.Source.B.im),.d (.cx .f32 f_.Source.C.re f_.Source.C.im),.d (.sl false (f_.qad.map qaj))]] (fun v o new=>v = .d (.sl false (r.map qav))∧o = [.box [.d (.cx .f32 f_.Source.A.re f_.Source.A.im),.d (.cx .f32 f_.Source.B.re f_.Source.B.im),.d (.cx .f32 f_.Source.C.re f_.Source.C.im),.d (.sl false (f_.qad.map qaj))]]∧new = []):=by
  refine qaf hτ func72 rfl (by simp) (by simp) ?_
  unfold qf4 at h
  refine qa6 ?_
  refine qa2 ?_
  refine qa0 hτ rfl rfl rfl ?_
  refine qa4 ?_
  refine qa6 ?_
  refine qa2 ?_
  refine qa0 hτ rfl rfl rfl ?_
  refine qa0 hτ rfl rfl rfl ?_
  refine qa7 h fun x18 hx18 h=>?_
  refine qab hτ false [0] rfl rfl rfl (qac func73 rfl rfl) rfl rfl (by simp) ⟨trivial,trivial,trivial⟩ (by trivial) (qi7 n f_ a_ hx18) ?_
  rintro r0 o0 n0 ⟨rfl,rfl,rfl⟩ -
  refine qa0 hτ rfl rfl rfl ?_
  refine qa0 hτ rfl rfl rfl ?_
  refine qa7 h fun x19 hx19 h=>?_
  refine qab hτ false [0] rfl rfl rfl (qac func73 rfl rfl) rfl rfl (by simp) ⟨trivial,trivial,trivial⟩ (by trivial) (qi7 n f_ b_ hx19) ?_
  rintro r0 o0 n0 ⟨rfl,rfl,rfl⟩ -
  refine qa0 hτ rfl rfl rfl ?_
  refine qa0 hτ rfl rfl rfl ?_
  refine qa4 ?_
  refine qa6 ?_
  refine qa8 (qa3 [0,1,2] (l:=[(7,.row 1 x18.length 0 x18.length),(8,.row 2 x19.length 0 x19.length)]) (objs:=[.box [.d (.cx .f32 f_.Source.A.re f_.Source.A.im),.d (.cx .f32 f_.Source.B.re f_.Source.B.im),.d (.cx .f32 f_.Source.C.re f_.Source.C.im),.d (.sl false (f_.qad.map qaj))],.row 1 (x18.map qav),.row 1 (x19.map qav)]) rfl (by simp) rfl (by trivial) ⟨rfl,trivial,rfl,trivial,trivial⟩) ?_
  refine qa2 ?_
  refine qa0 hτ rfl rfl rfl ?_
  refine qa4 ?_
  refine qbw (ι:=Int) (fun v34=>St.of [(7,.row 1 x18.length 0 x18.length),(9,.d (.int .i64 v34))] [.box [.d (.cx .f32 f_.Source.A.re f_.Source.A.im),.d (.cx .f32 f_.Source.B.re f_.Source.B.im),.d (.cx .f32 f_.Source.C.re f_.Source.C.im),.d (.sl false (f_.qad.map qaj))],.row 1 (x18.map qav)] f72.ntmps 1) (fun v34=>qdy n x18 v34 = some r) ?_ (fun hk36=>?_)
  · rintro v34 h
    replace h:qdy n x18 v34 = some r:=h
    unfold qdy at h
    refine qa6 ?_
    refine qa2 ?_
    refine qa0 hτ rfl rfl rfl ?_
    refine qa0 hτ rfl rfl rfl ?_
    refine qf8 h fun hg35 h=>?_
    refine qfl hτ (v:=.row 1 x18.length (0 + (0:Int).toNat) (v34.toNat - (0:Int).toNat)) rfl rfl rfl ⟨(qd8 _),hg35.1,hg35.2.1,hg35.2.2.1,by omega,hg35.2.2.2⟩ ?_
    refine qa0 hτ rfl rfl rfl ?_
    refine qa4 ?_
    refine qa8 (qa3 [0] (l:=[(6,.d (.sl false ((((x18).drop (0 + (0:Int).toNat)).take (v34.toNat - (0:Int).toNat)).map qav)))]) (objs:=[.box [.d (.cx .f32 f_.Source.A.re f_.Source.A.im),.d (.cx .f32 f_.Source.B.re f_.Source.B.im),.d (.cx .f32 f_.Source.C.re f_.Source.C.im),.d (.sl false (f_.qad.map qaj))]]) rfl (by simp) rfl (by trivial) ⟨(exV_sub (f:=qav) x18 rfl rfl),(exVP_sub (f:=qav) x18 rfl rfl rfl (by omega)),trivial⟩) ?_
    refine qal ?_
    have hr:=Option.some.inj h
    subst hr
    exact qae (.inr rfl) [] (objs':=[.box [.d (.cx .f32 f_.Source.A.re f_.Source.A.im),.d (.cx .f32 f_.Source.B.re f_.Source.B.im),.d (.cx .f32 f_.Source.C.re f_.Source.C.im),.d (.sl false (f_.qad.map qaj))]]) (new:=[]) rfl (by simp) (by simp) rfl (by trivial) rfl rfl (by trivial) (fun h=>nomatch h) ⟨rfl,rfl,rfl⟩
  · refine qa6 ?_
    refine qbo ?_
    refine qh3 (ι:=Nat × Int) (fun (m51,v43)=>St.of [(7,.row 1 x18.length 0 x18.length),(8,.row 2 x19.length 0 x19.length),(9,.d (.int .i64 v43))] [.box [.d (.cx .f32 f_.Source.A.re f_.Source.A.im),.d (.cx .f32 f_.Source.B.re f_.Source.B.im),.d (.cx .f32 f_.Source.C.re f_.Source.C.im),.d (.sl false (f_.qad.map qaj))],.row 1 (x18.map qav),.row 1 (x19.map qav)] f72.ntmps 1) (fun (m51,v43)=>qb0 n x18 x19 m51 v43 = some r) (fun x=>x.1) (n,(0:Int)) h (qa3 [0,1,2] (l:=[(7,.row 1 x18.length 0 x18.length),(8,.row 2 x19.length 0 x19.length),(9,.d (.int .i64 (0:Int)))]) (objs:=[.box [.d (.cx .f32 f_.Source.A.re f_.Source.A.im),.d (.cx .f32 f_.Source.B.re f_.Source.B.im),.d (.cx .f32 f_.Source.C.re f_.Source.C.im),.d (.sl false (f_.qad.map qaj))],.row 1 (x18.map qav),.row 1 (x19.map qav)]) rfl (by simp) rfl (by trivial) ⟨rfl,trivial,rfl,trivial,rfl,trivial,trivial⟩) ?_
    rintro ⟨m51,v43⟩ h
    replace h:qb0 n x18 x19 m51 v43 = some r:=h
    rcases m51 with _ | m51
    · rw [qb0] at h;cases h
    rw [qb0] at h
    refine qbw (ι:=Unit) (fun _=>St.of [(7,.row 1 x18.length 0 x18.length),(8,.row 2 x19.length 0 x19.length),(9,.d (.int .i64 v43))] [.box [.d (.cx .f32 f_.Source.A.re f_.Source.A.im),.d (.cx .f32 f_.Source.B.re f_.Source.B.im),.d (.cx .f32 f_.Source.C.re f_.Source.C.im),.d (.sl false (f_.qad.map qaj))],.row 1 (x18.map qav),.row 1 (x19.map qav)] f72.ntmps 1) (fun _=>qdz n (qb0 n x18 x19 m51) v43 = some r) ?_ (fun hk59=>?_)
    · rintro ⟨⟩ h
      replace h:qdz n (qb0 n x18 x19 m51) v43 = some r:=h
      unfold qdz at h
      refine qbo ?_
      refine qa2 ?_
      refine qa0 hτ rfl rfl rfl ?_
      refine qa0 hτ rfl rfl rfl ?_
      refine qa0 hτ rfl rfl rfl ?_
      refine qa4 ?_
      exact ⟨(m51,(w64 (v43 + (1:Int)))),h,Nat.lt_succ_self m51,(qa3 [0,1,2] (l:=[(7,.row 1 x18.length 0 x18.length),(8,.row 2 x19.length 0 x19.length),(9,.d (.int .i64 (w64 (v43 + (1:Int)))))]) (objs:=[.box [.d (.cx .f32 f_.Source.A.re f_.Source.A.im),.d (.cx .f32 f_.Source.B.re f_.Source.B.im),.d (.cx .f32 f_.Source.C.re f_.Source.C.im),.d (.sl false (f_.qad.map qaj))],.row 1 (x18.map qav),.row 1 (x19.map qav)]) rfl (by simp) rfl (by trivial) ⟨rfl,trivial,rfl,trivial,rfl,trivial,trivial⟩)⟩
    · refine qa6 ?_
      refine qbw (ι:=Bool) (fun v66=>St.of [(7,.row 1 x18.length 0 x18.length),(8,.row 2 x19.length 0 x19.length),(9,.d (.int .i64 v43)),(36,.d (.bool v66))] [.box [.d (.cx .f32 f_.Source.A.re f_.Source.A.im),.d (.cx .f32 f_.Source.B.re f_.Source.B.im),.d (.cx .f32 f_.Source.C.re f_.Source.C.im),.d (.sl false (f_.qad.map qaj))],.row 1 (x18.map qav),.row 1 (x19.map qav)] f72.ntmps 1) (fun v66=>qbs n x18 (qb0 n x18 x19 m51) v43 v66 = some r) ?_ (fun hk68=>?_)
      · rintro v66 h
        replace h:qbs n x18 (qb0 n x18 x19 m51) v43 v66 = some r:=h
        unfold qbs at h
        refine qar rfl (fun hc67=>?_) (fun hc67=>?_)
        · have h:=qcl h hc67
          refine qb9 ?_
          refine qa8 (qa3 [0,1,2] (l:=[(7,.row 1 x18.length 0 x18.length),(8,.row 2 x19.length 0 x19.length),(9,.d (.int .i64 v43))]) (objs:=[.box [.d (.cx .f32 f_.Source.A.re f_.Source.A.im),.d (.cx .f32 f_.Source.B.re f_.Source.B.im),.d (.cx .f32 f_.Source.C.re f_.Source.C.im),.d (.sl false (f_.qad.map qaj))],.row 1 (x18.map qav),.row 1 (x19.map qav)]) rfl (by simp) rfl (by trivial) ⟨rfl,trivial,rfl,trivial,rfl,trivial,trivial⟩) ?_
          exact hk59 () h
        · have h:=qck h hc67
          refine qh2 ?_
          refine qa8 (qa3 [0,1] (l:=[(7,.row 1 x18.length 0 x18.length),(9,.d (.int .i64 v43))]) (objs:=[.box [.d (.cx .f32 f_.Source.A.re f_.Source.A.im),.d (.cx .f32 f_.Source.B.re f_.Source.B.im),.d (.cx .f32 f_.Source.C.re f_.Source.C.im),.d (.sl false (f_.qad.map qaj))],.row 1 (x18.map qav)]) rfl (by simp) rfl (by trivial) ⟨rfl,trivial,rfl,trivial,trivial⟩) ?_
          exact hk36 v43 h
      · refine qa6 ?_
        refine qd7 ?_
        refine qa5 hτ [] 0 rfl rfl rfl rfl rfl ?_
        refine qa5 hτ [] 1 rfl rfl rfl rfl rfl ?_
        refine qg7 hτ [1] 2 rfl rfl rfl rfl rfl (qd8 _) ?_
        refine qa5 hτ [] 3 rfl rfl rfl rfl rfl ?_
        refine qa5 hτ [] 4 rfl rfl rfl rfl rfl ?_
        refine qdw 20 rfl (fun hb69=>?_) (fun hb69=>?_)
        · have h:=if_t h hb69
          refine qa5 hτ [] 5 rfl rfl rfl rfl rfl ?_
          refine qa5 hτ [] 6 rfl rfl rfl rfl rfl ?_
          refine qg7 hτ [2] 7 rfl rfl rfl rfl rfl (qd8 _) ?_
          refine qa5 hτ [] 8 rfl rfl rfl rfl rfl ?_
          refine qa5 hτ [] 9 rfl rfl rfl rfl rfl ?_
          refine qa5 hτ [] 10 rfl rfl rfl rfl rfl ?_
          refine qdw 26 rfl (fun hb70=>?_) (fun hb70=>?_)
          · have h:=if_t h hb70
            refine qa5 hτ [] 11 rfl rfl rfl rfl rfl ?_
            refine qa5 hτ [] 12 rfl rfl rfl rfl rfl ?_
            refine qa7 h fun x71 hx71 h=>?_
            refine qg7 hτ [1] 13 rfl rfl rfl rfl rfl (qg3 hx71) ?_
            refine qf6 hτ [1] 14 rfl rfl rfl rfl rfl (qd8 _) (qhd hx71) rfl ?_
            refine qa5 hτ [] 15 rfl rfl rfl rfl rfl ?_
            refine qa5 hτ [] 16 rfl rfl rfl rfl rfl ?_
            refine qa7 h fun x72 hx72 h=>?_
            refine qg7 hτ [2] 17 rfl rfl rfl rfl rfl (qg3 hx72) ?_
            refine qf6 hτ [2] 18 rfl rfl rfl rfl rfl (qd8 _) (qhd hx72) rfl ?_
            refine qa5 hτ (v:=.d (.bool (decide (x71 = x72)))) [] 19 rfl rfl rfl rfl (qgz _ _) ?_
            refine qa5 hτ [] 20 rfl rfl rfl rfl rfl ?_
            refine qbk mixed (by kernel_rfl) ?_
            refine qa8 (qa3 [0,1,2] (l:=[(7,.row 1 x18.length 0 x18.length),(8,.row 2 x19.length 0 x19.length),(9,.d (.int .i64 v43)),(36,.d (.bool (decide (x71 = x72))))]) (objs:=[.box [.d (.cx .f32 f_.Source.A.re f_.Source.A.im),.d (.cx .f32 f_.Source.B.re f_.Source.B.im),.d (.cx .f32 f_.Source.C.re f_.Source.C.im),.d (.sl false (f_.qad.map qaj))],.row 1 (x18.map qav),.row 1 (x19.map qav)]) rfl (by simp) rfl (by trivial) ⟨rfl,trivial,rfl,trivial,rfl,trivial,rfl,trivial,trivial⟩) ?_
            exact hk68 (decide (x71 = x72)) h
          · have h:=if_f h hb70
            refine qa9 11 rfl rfl rfl ?_
            refine qa9 12 rfl rfl rfl ?_
            refine qa9 13 rfl rfl rfl ?_
            refine qa9 14 rfl rfl rfl ?_
            refine qa9 15 rfl rfl rfl ?_
            refine qa9 16 rfl rfl rfl ?_
            refine qa9 17 rfl rfl rfl ?_
            refine qa9 18 rfl rfl rfl ?_
            refine qa9 19 rfl rfl rfl ?_
            refine qa5 hτ [] 20 rfl rfl rfl rfl rfl ?_
            refine qbk mixed (by kernel_rfl) ?_
            refine qa8 (qa3 [0,1,2] (l:=[(7,.row 1 x18.length 0 x18.length),(8,.row 2 x19.length 0 x19.length),(9,.d (.int .i64 v43)),(36,.d (.bool false))]) (objs:=[.box [.d (.cx .f32 f_.Source.A.re f_.Source.A.im),.d (.cx .f32 f_.Source.B.re f_.Source.B.im),.d (.cx .f32 f_.Source.C.re f_.Source.C.im),.d (.sl false (f_.qad.map qaj))],.row 1 (x18.map qav),.row 1 (x19.map qav)]) rfl (by simp) rfl (by trivial) ⟨rfl,trivial,rfl,trivial,rfl,trivial,rfl,trivial,trivial⟩) ?_
            exact hk68 false h
        · have h:=if_f h hb69
          refine qa9 5 rfl rfl rfl ?_
          refine qa9 6 rfl rfl rfl ?_
          refine qa9 7 rfl rfl rfl ?_
          refine qa9 8 rfl rfl rfl ?_
          refine qa5 hτ [] 9 rfl rfl rfl rfl rfl ?_
          refine qa5 hτ [] 10 rfl rfl rfl rfl rfl ?_
          refine qa9 11 rfl rfl rfl ?_
          refine qa9 12 rfl rfl rfl ?_
          refine qa9 13 rfl rfl rfl ?_
          refine qa9 14 rfl rfl rfl ?_
          refine qa9 15 rfl rfl rfl ?_
          refine qa9 16 rfl rfl rfl ?_
          refine qa9 17 rfl rfl rfl ?_
          refine qa9 18 rfl rfl rfl ?_
          refine qa9 19 rfl rfl rfl ?_
          refine qa5 hτ [] 20 rfl rfl rfl rfl rfl ?_
          refine qbk mixed (by kernel_rfl) ?_
          refine qa8 (qa3 [0,1,2] (l:=[(7,.row 1 x18.length 0 x18.length),(8,.row 2 x19.length 0 x19.length),(9,.d (.int .i64 v43)),(36,.d (.bool false))]) (objs:=[.box [.d (.cx .f32 f_.Source.A.re f_.Source.A.im),.d (.cx .f32 f_.Source.B.re f_.Source.B.im),.d (.cx .f32 f_.Source.C.re f_.Source.C.im),.d (.sl false (f_.qad.map qaj))],.row 1 (x18.map qav),.row 1 (x19.map qav)]) rfl (by simp) rfl (by trivial) ⟨rfl,trivial,rfl,trivial,rfl,trivial,rfl,trivial,trivial⟩) ?_
          exact hk68 false h
def qdb (n:Nat) (f_:qan) (bus_:Int) (kind_:Int) (through_:Cx) (at_:Int):Option (qax × Bool) :=
  (qeb n f_ bus_ kind_ through_).bind fun x18 =>
  if x18.2 = true then
    (qf4 n f_ bus_ at_).bind fun x20 =>
    (qcc n f_ x20).bind fun x21 =>
    (qcu n x21.1 x21.2).bind fun x22 =>
    (qah n x22.1 x18.1.Zero).bind fun x23 =>
    (qcg n f_.Source).bind fun x24 =>
    (qah n x22.2 x18.1.Plus).bind fun x25 =>
    (qah n x22.2 x18.1.qbq).bind fun x26 =>
    (qc0 n (qbl.mk (Cx.mk (qa1 .sub .f32 (0:Nat) x23.re) (qa1 .sub .f32 (0:Nat) x23.im)) (Cx.mk (qa1 .sub .f32 x24.Plus.re x25.re) (qa1 .sub .f32 x24.Plus.im x25.im)) (Cx.mk (qa1 .sub .f32 (0:Nat) x26.re) (qa1 .sub .f32 (0:Nat) x26.im)))).bind fun x27 =>
    some (x27,true)
  else
    some ((qax.mk (Cx.mk (0:Nat) (0:Nat)) (Cx.mk (0:Nat) (0:Nat)) (Cx.mk (0:Nat) (0:Nat))),false)
def qcz (n:Nat) (f_:qan) (bus_:Int) (kind_:Int) (through_:Cx) (at_:Int) (v33:Bool):Option (qax × Bool) :=
  if v33 = true then
    some ((qax.mk (Cx.mk (0:Nat) (0:Nat)) (Cx.mk (0:Nat) (0:Nat)) (Cx.mk (0:Nat) (0:Nat))),false)
  else
    qdb n f_ bus_ kind_ through_ at_
def qc8 (n:Nat) (f_:qan) (bus_:Int) (kind_:Int) (through_:Cx) (at_:Int):Option (qax × Bool) :=
  (qec n f_ bus_).bind fun x36 =>
  if x36 = true then
    (qec n f_ at_).bind fun x38 =>
    qcz n f_ bus_ kind_ through_ at_ (!x38)
  else
    qcz n f_ bus_ kind_ through_ at_ true
theorem impl_FaultVoltages_ok_fr0 (fr:Bool) (n:Nat) (f_:qan) (bus_:Int) (kind_:Int) (through_:Cx) (at_:Int) {r:qax × Bool} (h:qc8 n f_ bus_ kind_ through_ at_ = some r):qaq prog fr 22 [.agg [.d (.cx .f32 f_.Source.A.re f_.Source.A.im),.d (.cx .f32 f_.Source.B.re f_.Source.B.im),.d (.cx .f32 f_.Source.C.re f_.Source.C.im),.d (.sl false (f_.qad.map qaj))],.d (.int .i64 bus_),.d (.int .i64 kind_),.d (.cx .f32 through_.re through_.im),.d (.int .i64 at_)] [] (fun v o new=>v = .tup [.agg [.d (.cx .f32 r.1.A.re r.1.A.im),.d (.cx .f32 r.1.B.re r.1.B.im),.d (.cx .f32 r.1.C.re r.1.C.im)],.d (.bool r.2)]∧o = []∧new = []):=by
  refine qaf hτ func22 rfl (by simp) (by simp) ?_
  unfold qc8 at h
  refine qa6 ?_
  refine qa2 ?_
  refine qai hτ rfl rfl rfl ?_
  refine qai hτ rfl rfl rfl ?_
  refine qa0 hτ rfl rfl rfl ?_
  refine qa4 ?_
  refine qbw (ι:=Unit) (fun _=>St.of [(1,.d (.int .i64 bus_)),(2,.d (.int .i64 kind_)),(3,.d (.cx .f32 through_.re through_.im)),(4,.d (.int .i64 at_)),(5,.ptr 0 0),(10,.ptr 1 0)] [.box [.d (.cx .f32 f_.Source.A.re f_.Source.A.im),.d (.cx .f32 f_.Source.B.re f_.Source.B.im),.d (.cx .f32 f_.Source.C.re f_.Source.C.im),.d (.sl false (f_.qad.map qaj))],.box [.d (.cx .f32 (0:Nat) (0:Nat)),.d (.cx .f32 (0:Nat) (0:Nat)),.d (.cx .f32 (0:Nat) (0:Nat))]] f22.ntmps 0) (fun _=>qdb n f_ bus_ kind_ through_ at_ = some r) ?_ (fun hk28=>?_)
  · rintro ⟨⟩ h
    replace h:qdb n f_ bus_ kind_ through_ at_ = some r:=h
    unfold qdb at h
    refine qa6 ?_
    refine qa2 ?_
    refine qa0 hτ rfl rfl rfl ?_
    refine qa0 hτ rfl rfl rfl ?_
    refine qa0 hτ rfl rfl rfl ?_
    refine qa7 h fun x18 hx18 h=>?_
    refine qab hτ false [0] rfl rfl rfl (qac func74 rfl rfl) rfl rfl (by simp) ⟨trivial,trivial,trivial,trivial,trivial⟩ (by trivial) (qji n f_ bus_ kind_ through_ hx18) ?_
    rintro r0 o0 n0 ⟨rfl,rfl,rfl⟩ -
    refine qa0 hτ rfl rfl rfl ?_
    refine qa0 hτ rfl rfl rfl ?_
    refine qa0 hτ rfl rfl rfl ?_
    refine qai hτ rfl rfl rfl ?_
    refine qai hτ rfl rfl rfl ?_
    refine qa0 hτ rfl rfl rfl ?_
    refine qa4 ?_
    refine qa6 ?_
    refine qa6 ?_
    refine qa8 (qa3 [0,1,2] (l:=[(1,.d (.int .i64 bus_)),(4,.d (.int .i64 at_)),(5,.ptr 0 0),(10,.ptr 1 0),(12,.ptr 2 0),(13,.d (.bool x18.2))]) (objs:=[.box [.d (.cx .f32 f_.Source.A.re f_.Source.A.im),.d (.cx .f32 f_.Source.B.re f_.Source.B.im),.d (.cx .f32 f_.Source.C.re f_.Source.C.im),.d (.sl false (f_.qad.map qaj))],.box [.d (.cx .f32 (0:Nat) (0:Nat)),.d (.cx .f32 (0:Nat) (0:Nat)),.d (.cx .f32 (0:Nat) (0:Nat))],.box [.d (.cx .f32 x18.1.Zero.re x18.1.Zero.im),.d (.cx .f32 x18.1.Plus.re x18.1.Plus.im),.d (.cx .f32 x18.1.qbq.re x18.1.qbq.im)]]) rfl (by simp) rfl (by trivial) ⟨rfl,trivial,rfl,trivial,rfl,trivial,rfl,trivial,rfl,trivial,rfl,trivial,trivial⟩) ?_
    refine qa2 ?_
    refine qa0 hτ rfl rfl rfl ?_
    refine qa0 hτ rfl rfl rfl ?_
    refine qa4 ?_
    refine qar rfl (fun hc19=>?_) (fun hc19=>?_)
    · have hc19:=qjc hc19
      have h:=qck h hc19
      refine qa6 ?_
      refine qa2 ?_
      refine qa0 hτ rfl rfl rfl ?_
      refine qai hτ rfl rfl rfl ?_
      refine qa0 hτ rfl rfl rfl ?_
      refine qa4 ?_
      refine qa8 (qa3 [1] (l:=[(10,.ptr 0 0),(11,.d (.bool false))]) (objs:=[.box [.d (.cx .f32 (0:Nat) (0:Nat)),.d (.cx .f32 (0:Nat) (0:Nat)),.d (.cx .f32 (0:Nat) (0:Nat))]]) rfl (by simp) rfl (by trivial) ⟨rfl,trivial,rfl,trivial,trivial⟩) ?_
      refine qal ?_
      have hr:=Option.some.inj h
      subst hr
      exact qae (.inr rfl) [] (objs':=[]) (new:=[]) rfl (by simp) (by simp) rfl (by trivial) rfl rfl (by trivial) (fun _=>⟨by simp [V.flat,V.qb7,V.qb5,D.flat],qag⟩) ⟨rfl,rfl,rfl⟩
    · have hc19:=qjb hc19
      have h:=qcl h hc19
      refine qb9 ?_
      refine qa6 ?_
      refine qa2 ?_
      refine qa0 hτ rfl rfl rfl ?_
      refine qa0 hτ rfl rfl rfl ?_
      refine qa7 h fun x20 hx20 h=>?_
      refine qab hτ false [0] rfl rfl rfl (qac func72 rfl rfl) rfl rfl (by simp) ⟨trivial,trivial,trivial,trivial⟩ (by trivial) (impl_Feeder_common_ok n f_ bus_ at_ hx20) ?_
      rintro r0 o0 n0 ⟨rfl,rfl,rfl⟩ -
      refine qa7 h fun x21 hx21 h=>?_
      refine qab hτ false [0] rfl rfl rfl (qac func75 rfl rfl) rfl rfl (by simp) ⟨trivial,trivial,trivial⟩ (by trivial) (qic n f_ x20 hx21) ?_
      rintro r0 o0 n0 ⟨rfl,rfl,rfl⟩ -
      refine qa0 hτ rfl rfl rfl ?_
      refine qa0 hτ rfl rfl rfl ?_
      refine qa7 h fun x22 hx22 h=>?_
      refine qab hτ false [] rfl rfl rfl (qac func26 rfl rfl) rfl rfl (by simp) ⟨trivial,trivial,trivial⟩ (by trivial) (qk8 n x21.1 x21.2 hx22) ?_
      rintro r0 o0 n0 ⟨rfl,rfl,rfl⟩ -
      refine qa0 hτ rfl rfl rfl ?_
      refine qa0 hτ rfl rfl rfl ?_
      refine qa0 hτ rfl rfl rfl ?_
      refine qas (qa3 [0,1,2] (l:=[(5,.ptr 0 0),(10,.ptr 1 0),(12,.ptr 2 0),(43,.d (.cx .f32 x22.1.re x22.1.im)),(44,.d (.cx .f32 x22.2.re x22.2.im))]) (objs:=[.box [.d (.cx .f32 f_.Source.A.re f_.Source.A.im),.d (.cx .f32 f_.Source.B.re f_.Source.B.im),.d (.cx .f32 f_.Source.C.re f_.Source.C.im),.d (.sl false (f_.qad.map qaj))],.box [.d (.cx .f32 (0:Nat) (0:Nat)),.d (.cx .f32 (0:Nat) (0:Nat)),.d (.cx .f32 (0:Nat) (0:Nat))],.box [.d (.cx .f32 x18.1.Zero.re x18.1.Zero.im),.d (.cx .f32 x18.1.Plus.re x18.1.Plus.im),.d (.cx .f32 x18.1.qbq.re x18.1.qbq.im)]]) rfl (by simp) rfl (by trivial) ⟨rfl,trivial,rfl,trivial,rfl,trivial,rfl,trivial,rfl,trivial,trivial⟩) ?_
      refine qa0 hτ rfl rfl rfl ?_
      refine qa0 hτ rfl rfl rfl ?_
      refine qa4 ?_
      refine qa6 ?_
      refine qd7 ?_
      refine qa5 hτ [] 0 rfl rfl rfl rfl rfl ?_
      refine qa5 hτ [2] 1 rfl rfl rfl rfl rfl ?_
      refine qa5 hτ [2] 2 rfl rfl rfl rfl rfl ?_
      refine qa5 hτ [0] 5 rfl rfl rfl rfl rfl ?_
      refine qa5 hτ [0] 6 rfl rfl rfl rfl rfl ?_
      refine qa5 hτ [] 9 rfl rfl rfl rfl rfl ?_
      refine qa5 hτ [2] 10 rfl rfl rfl rfl rfl ?_
      refine qa5 hτ [2] 11 rfl rfl rfl rfl rfl ?_
      refine qa5 hτ [] 14 rfl rfl rfl rfl rfl ?_
      refine qa5 hτ [2] 15 rfl rfl rfl rfl rfl ?_
      refine qa5 hτ [2] 16 rfl rfl rfl rfl rfl ?_
      refine qa7 h fun x23 hx23 h=>?_
      refine qak hτ false [] [0,1,2] 3 rfl rfl rfl rfl (qac func52 rfl rfl) rfl rfl (by simp) ⟨trivial,trivial,trivial⟩ (by trivial) (qb2 n x22.1 x18.1.Zero hx23) ⟨rfl,rfl,rfl,trivial⟩ ?_
      refine qa5 hτ [] 4 rfl rfl rfl rfl rfl ?_
      refine qa7 h fun x24 hx24 h=>?_
      refine qak hτ false [] [0,1,2] 7 rfl rfl rfl rfl (qac func24 rfl rfl) rfl rfl (by simp) ⟨(by trivial),trivial⟩ (by trivial) (ql5 n f_.Source hx24) ⟨rfl,rfl,rfl,trivial⟩ ?_
      refine qa5 hτ [] 8 rfl rfl rfl rfl rfl ?_
      refine qa7 h fun x25 hx25 h=>?_
      refine qak hτ false [] [0,1,2] 12 rfl rfl rfl rfl (qac func52 rfl rfl) rfl rfl (by simp) ⟨trivial,trivial,trivial⟩ (by trivial) (qb2 n x22.2 x18.1.Plus hx25) ⟨rfl,rfl,rfl,trivial⟩ ?_
      refine qa5 hτ [] 13 rfl rfl rfl rfl rfl ?_
      refine qa7 h fun x26 hx26 h=>?_
      refine qak hτ false [] [0,1,2] 17 rfl rfl rfl rfl (qac func52 rfl rfl) rfl rfl (by simp) ⟨trivial,trivial,trivial⟩ (by trivial) (qb2 n x22.2 x18.1.qbq hx26) ⟨rfl,rfl,rfl,trivial⟩ ?_
      refine qa5 hτ [] 18 rfl rfl rfl rfl rfl ?_
      refine qa5 hτ [] 19 rfl rfl rfl rfl rfl ?_
      refine qa7 h fun x27 hx27 h=>?_
      refine qak hτ false [] [0,1,2] 20 rfl rfl rfl rfl (qac func23 rfl rfl) rfl rfl (by simp) ⟨(by trivial),trivial⟩ (by trivial) (qkv n (qbl.mk (Cx.mk (qa1 .sub .f32 (0:Nat) x23.re) (qa1 .sub .f32 (0:Nat) x23.im)) (Cx.mk (qa1 .sub .f32 x24.Plus.re x25.re) (qa1 .sub .f32 x24.Plus.im x25.im)) (Cx.mk (qa1 .sub .f32 (0:Nat) x26.re) (qa1 .sub .f32 (0:Nat) x26.im))) hx27) ⟨rfl,rfl,rfl,trivial⟩ ?_
      refine qbe hτ [0,2] 21 rfl rfl rfl rfl ⟨rfl,rfl,trivial⟩ ?_
      refine qa5 hτ [] 22 rfl rfl rfl rfl rfl ?_
      refine qbk mixed (by kernel_rfl) ?_
      refine qa8 (qa3 [1] (l:=[(10,.ptr 0 0),(11,.d (.bool true))]) (objs:=[.box [.d (.cx .f32 x27.A.re x27.A.im),.d (.cx .f32 x27.B.re x27.B.im),.d (.cx .f32 x27.C.re x27.C.im)]]) rfl (by simp) rfl (by trivial) ⟨rfl,trivial,rfl,trivial,trivial⟩) ?_
      refine qal ?_
      have hr:=Option.some.inj h
      subst hr
      exact qae (.inr rfl) [] (objs':=[]) (new:=[]) rfl (by simp) (by simp) rfl (by trivial) rfl rfl (by trivial) (fun _=>⟨by simp [V.flat,V.qb7,V.qb5,D.flat],qag⟩) ⟨rfl,rfl,rfl⟩
  · refine qa6 ?_
    refine qbw (ι:=Bool) (fun v33=>St.of [(1,.d (.int .i64 bus_)),(2,.d (.int .i64 kind_)),(3,.d (.cx .f32 through_.re through_.im)),(4,.d (.int .i64 at_)),(5,.ptr 0 0),(10,.ptr 1 0),(23,.d (.bool v33))] [.box [.d (.cx .f32 f_.Source.A.re f_.Source.A.im),.d (.cx .f32 f_.Source.B.re f_.Source.B.im),.d (.cx .f32 f_.Source.C.re f_.Source.C.im),.d (.sl false (f_.qad.map qaj))],.box [.d (.cx .f32 (0:Nat) (0:Nat)),.d (.cx .f32 (0:Nat) (0:Nat)),.d (.cx .f32 (0:Nat) (0:Nat))]] f22.ntmps 0) (fun v33=>qcz n f_ bus_ kind_ through_ at_ v33 = some r) ?_ (fun hk35=>?_)
    · rintro v33 h
      replace h:qcz n f_ bus_ kind_ through_ at_ v33 = some r:=h
      unfold qcz at h
      refine qar rfl (fun hc34=>?_) (fun hc34=>?_)
      · have h:=qcl h hc34
        refine qa6 ?_
        refine qa2 ?_
        refine qa0 hτ rfl rfl rfl ?_
        refine qai hτ rfl rfl rfl ?_
        refine qa0 hτ rfl rfl rfl ?_
        refine qa4 ?_
        refine qa8 (qa3 [1] (l:=[(10,.ptr 0 0),(11,.d (.bool false))]) (objs:=[.box [.d (.cx .f32 (0:Nat) (0:Nat)),.d (.cx .f32 (0:Nat) (0:Nat)),.d (.cx .f32 (0:Nat) (0:Nat))]]) rfl (by simp) rfl (by trivial) ⟨rfl,trivial,rfl,trivial,trivial⟩) ?_
        refine qal ?_
        have hr:=Option.some.inj h
        subst hr
        exact qae (.inr rfl) [] (objs':=[]) (new:=[]) rfl (by simp) (by simp) rfl (by trivial) rfl rfl (by trivial) (fun _=>⟨by simp [V.flat,V.qb7,V.qb5,D.flat],qag⟩) ⟨rfl,rfl,rfl⟩
      · have h:=qck h hc34
        refine qb9 ?_
        refine qa8 (qa3 [0,1] (l:=[(1,.d (.int .i64 bus_)),(2,.d (.int .i64 kind_)),(3,.d (.cx .f32 through_.re through_.im)),(4,.d (.int .i64 at_)),(5,.ptr 0 0),(10,.ptr 1 0)]) (objs:=[.box [.d (.cx .f32 f_.Source.A.re f_.Source.A.im),.d (.cx .f32 f_.Source.B.re f_.Source.B.im),.d (.cx .f32 f_.Source.C.re f_.Source.C.im),.d (.sl false (f_.qad.map qaj))],.box [.d (.cx .f32 (0:Nat) (0:Nat)),.d (.cx .f32 (0:Nat) (0:Nat)),.d (.cx .f32 (0:Nat) (0:Nat))]]) rfl (by simp) rfl (by trivial) ⟨rfl,trivial,rfl,trivial,rfl,trivial,rfl,trivial,rfl,trivial,rfl,trivial,trivial⟩) ?_
        exact hk28 () h
    · refine qa6 ?_
      refine qa2 ?_
      refine qa0 hτ rfl rfl rfl ?_
      refine qa7 h fun x36 hx36 h=>?_
      refine qab hτ false [0] rfl rfl rfl (qac func57 rfl rfl) rfl rfl (by simp) ⟨trivial,trivial,trivial⟩ (by trivial) (qii n f_ bus_ hx36) ?_
      rintro r0 o0 n0 ⟨rfl,rfl,rfl⟩ -
      refine qa0 hτ rfl rfl rfl ?_
      refine qa0 hτ rfl rfl rfl ?_
      refine qbr 19 rfl (fun hb37=>?_) (fun hb37=>?_)
      · have hb37:=qjc hb37
        have h:=qck h hb37
        refine qaa rfl rfl ?_
        refine qaa rfl rfl ?_
        refine qaa rfl rfl ?_
        refine qa0 hτ rfl rfl rfl ?_
        refine qa4 ?_
        refine qa8 (qa3 [0,1] (l:=[(1,.d (.int .i64 bus_)),(2,.d (.int .i64 kind_)),(3,.d (.cx .f32 through_.re through_.im)),(4,.d (.int .i64 at_)),(5,.ptr 0 0),(10,.ptr 1 0),(23,.d (.bool true))]) (objs:=[.box [.d (.cx .f32 f_.Source.A.re f_.Source.A.im),.d (.cx .f32 f_.Source.B.re f_.Source.B.im),.d (.cx .f32 f_.Source.C.re f_.Source.C.im),.d (.sl false (f_.qad.map qaj))],.box [.d (.cx .f32 (0:Nat) (0:Nat)),.d (.cx .f32 (0:Nat) (0:Nat)),.d (.cx .f32 (0:Nat) (0:Nat))]]) rfl (by simp) rfl (by trivial) ⟨rfl,trivial,rfl,trivial,rfl,trivial,rfl,trivial,rfl,trivial,rfl,trivial,rfl,trivial,trivial⟩) ?_
        exact hk35 true h
      · have hb37:=qjb hb37
        have h:=qcl h hb37
        refine qa0 hτ rfl rfl rfl ?_
        refine qa7 h fun x38 hx38 h=>?_
        refine qab hτ false [0] rfl rfl rfl (qac func57 rfl rfl) rfl rfl (by simp) ⟨trivial,trivial,trivial⟩ (by trivial) (qii n f_ at_ hx38) ?_
        rintro r0 o0 n0 ⟨rfl,rfl,rfl⟩ -
        refine qa0 hτ rfl rfl rfl ?_
        refine qa0 hτ rfl rfl rfl ?_
        refine qa4 ?_
        refine qa8 (qa3 [0,1] (l:=[(1,.d (.int .i64 bus_)),(2,.d (.int .i64 kind_)),(3,.d (.cx .f32 through_.re through_.im)),(4,.d (.int .i64 at_)),(5,.ptr 0 0),(10,.ptr 1 0),(23,.d (.bool (!x38)))]) (objs:=[.box [.d (.cx .f32 f_.Source.A.re f_.Source.A.im),.d (.cx .f32 f_.Source.B.re f_.Source.B.im),.d (.cx .f32 f_.Source.C.re f_.Source.C.im),.d (.sl false (f_.qad.map qaj))],.box [.d (.cx .f32 (0:Nat) (0:Nat)),.d (.cx .f32 (0:Nat) (0:Nat)),.d (.cx .f32 (0:Nat) (0:Nat))]]) rfl (by simp) rfl (by trivial) ⟨rfl,trivial,rfl,trivial,rfl,trivial,rfl,trivial,rfl,trivial,rfl,trivial,rfl,trivial,trivial⟩) ?_
        exact hk35 (!x38) h
theorem impl_FaultVoltages_ok_fr (n:Nat) (f_:qan) (bus_:Int) (kind_:Int) (through_:Cx) (at_:Int) {r:qax × Bool} (h:qc8 n f_ bus_ kind_ through_ at_ = some r):qaq prog true 22 [.agg [.d (.cx .f32 f_.Source.A.re f_.Source.A.im),.d (.cx .f32 f_.Source.B.re f_.Source.B.im),.d (.cx .f32 f_.Source.C.re f_.Source.C.im),.d (.sl false (f_.qad.map qaj))],.d (.int .i64 bus_),.d (.int .i64 kind_),.d (.cx .f32 through_.re through_.im),.d (.int .i64 at_)] [] (fun v o new=>v = .tup [.agg [.d (.cx .f32 r.1.A.re r.1.A.im),.d (.cx .f32 r.1.B.re r.1.B.im),.d (.cx .f32 r.1.C.re r.1.C.im)],.d (.bool r.2)]∧o = []∧new = []):=impl_FaultVoltages_ok_fr0 true n f_ bus_ kind_ through_ at_ h
def qht (n:Nat) (kind_:Int):Option Bool :=
  (qh7 n kind_ (0:Int) (3:Int)).bind fun x2 =>
  some x2
theorem impl_faultOk_ok_fr0 (fr:Bool) (n:Nat) (kind_:Int) {r:Bool} (h:qht n kind_ = some r):qaq prog fr 101 [.d (.int .i64 kind_)] [] (fun v o new=>v = .d (.bool r)∧o = []∧new = []):=by
  refine qaf hτ func101 rfl (by simp) (by simp) ?_
  unfold qht at h
  refine qa6 ?_
  refine qa2 ?_
  refine qa0 hτ rfl rfl rfl ?_
  refine qa4 ?_
  refine qa6 ?_
  refine qa2 ?_
  refine qa0 hτ rfl rfl rfl ?_
  refine qa7 h fun x2 hx2 h=>?_
  refine qab hτ false [] rfl rfl rfl (qac func58 rfl rfl) rfl rfl (by simp) ⟨trivial,trivial,trivial,trivial⟩ (by trivial) (qjo n kind_ (0:Int) (3:Int) hx2) ?_
  rintro r0 o0 n0 ⟨rfl,rfl,rfl⟩ -
  refine qa0 hτ rfl rfl rfl ?_
  refine qa4 ?_
  refine qa8 (qa3 [] (l:=[(2,.d (.bool x2))]) (objs:=[]) rfl (by simp) rfl (by trivial) ⟨rfl,trivial,trivial⟩) ?_
  refine qal ?_
  have hr:=Option.some.inj h
  subst hr
  exact qae (.inr rfl) [] (objs':=[]) (new:=[]) rfl (by simp) (by simp) rfl (by trivial) rfl rfl (by trivial) (fun _=>⟨by simp [V.flat,V.qb7,V.qb5,D.flat],qag⟩) ⟨rfl,rfl,rfl⟩
theorem impl_faultOk_ok (n:Nat) (kind_:Int) {r:Bool} (h:qht n kind_ = some r):qaq prog false 101 [.d (.int .i64 kind_)] [] (fun v o new=>v = .d (.bool r)∧o = []∧new = []):=impl_faultOk_ok_fr0 false n kind_ h
def qim (n:Nat) (v4:Int):Option Nat :=
  grd (v4.toNat < 18446744073709551616) <|
  some (canon .f64 v4.toNat)
def qkf (n:Nat) (sign_:Int):Option Nat :=
  if sign_ ≥ (0:Int) then
    qim n (9218868437227405312:Int)
  else
    qim n (18442240474082181120:Int)
theorem math_Inf_ok_fr0 (fr:Bool) (n:Nat) (sign_:Int) {r:Nat} (h:qkf n sign_ = some r):qaq prog fr 102 [.d (.int .i64 sign_)] [] (fun v o new=>v = .d (.fl .f64 r)∧o = []∧new = []):=by
  refine qaf hτ func102 rfl (by simp) (by simp) ?_
  unfold qkf at h
  refine qa6 ?_
  refine qa2 ?_
  refine qa0 hτ rfl rfl rfl ?_
  refine qa4 ?_
  refine qa6 ?_
  refine qa2 ?_
  refine qa0 hτ rfl rfl rfl ?_
  refine qa4 ?_
  refine qbw (ι:=Int) (fun v4=>St.of [(3,.d (.int .u64 v4))] [] f102.ntmps 0) (fun v4=>qim n v4 = some r) ?_ (fun hk6=>?_)
  · rintro v4 h
    replace h:qim n v4 = some r:=h
    unfold qim at h
    refine qa6 ?_
    refine qa2 ?_
    refine qa0 hτ rfl rfl rfl ?_
    refine qf8 h fun hg5 h=>?_
    refine qkr hτ rfl rfl rfl (qt7 hg5) ?_
    refine qa0 hτ rfl rfl rfl ?_
    refine qa4 ?_
    refine qa8 (qa3 [] (l:=[(2,.d (.fl .f64 (canon .f64 v4.toNat)))]) (objs:=[]) rfl (by simp) rfl (by trivial) ⟨rfl,trivial,trivial⟩) ?_
    refine qal ?_
    have hr:=Option.some.inj h
    subst hr
    exact qae (.inr rfl) [] (objs':=[]) (new:=[]) rfl (by simp) (by simp) rfl (by trivial) rfl rfl (by trivial) (fun _=>⟨by simp [V.flat,V.qb7,V.qb5,D.flat],qag⟩) ⟨rfl,rfl,rfl⟩
  · refine qa6 ?_
    refine qa6 ?_
    refine qa2 ?_
    refine qa0 hτ rfl rfl rfl ?_
    refine qa0 hτ rfl rfl rfl ?_
    refine qa4 ?_
    refine qar rfl (fun hc7=>?_) (fun hc7=>?_)
    · have h:=if_t h hc7
      refine qa2 ?_
      refine qa0 hτ rfl rfl rfl ?_
      refine qa4 ?_
      refine qa8 (qa3 [] (l:=[(3,.d (.int .u64 (9218868437227405312:Int)))]) (objs:=[]) rfl (by simp) rfl (by trivial) ⟨rfl,trivial,trivial⟩) ?_
      exact hk6 (9218868437227405312:Int) h
    · have h:=if_f h hc7
      refine qa2 ?_
      refine qa0 hτ rfl rfl rfl ?_
      refine qa4 ?_
      refine qa8 (qa3 [] (l:=[(3,.d (.int .u64 (18442240474082181120:Int)))]) (objs:=[]) rfl (by simp) rfl (by trivial) ⟨rfl,trivial,trivial⟩) ?_
      exact hk6 (18442240474082181120:Int) h
theorem math_Inf_ok (n:Nat) (sign_:Int) {r:Nat} (h:qkf n sign_ = some r):qaq prog false 102 [.d (.int .i64 sign_)] [] (fun v o new=>v = .d (.fl .f64 r)∧o = []∧new = []):=math_Inf_ok_fr0 false n sign_ h
def qjy (n:Nat) (x_:Nat):Option Nat :=
  some (qm9 x_)
theorem math_Sqrt_ok_fr0 (fr:Bool) (n:Nat) (x_:Nat) {r:Nat} (h:qjy n x_ = some r):qaq prog fr 123 [.d (.fl .f64 x_)] [] (fun v o new=>v = .d (.fl .f64 r)∧o = []∧new = []):=by
  refine qaf hτ func123 rfl (by simp) (by simp) ?_
  unfold qjy at h
  refine qa6 ?_
  refine qa2 ?_
  refine qa0 hτ rfl rfl rfl ?_
  refine qa4 ?_
  refine qa6 ?_
  refine qa2 ?_
  refine qa0 hτ rfl rfl rfl ?_
  refine qkr hτ rfl rfl rfl ext156 ?_
  refine qa0 hτ rfl rfl rfl ?_
  refine qa4 ?_
  refine qa8 (qa3 [] (l:=[(2,.d (.fl .f64 (qm9 x_)))]) (objs:=[]) rfl (by simp) rfl (by trivial) ⟨rfl,trivial,trivial⟩) ?_
  refine qal ?_
  have hr:=Option.some.inj h
  subst hr
  exact qae (.inr rfl) [] (objs':=[]) (new:=[]) rfl (by simp) (by simp) rfl (by trivial) rfl rfl (by trivial) (fun _=>⟨by simp [V.flat,V.qb7,V.qb5,D.flat],qag⟩) ⟨rfl,rfl,rfl⟩
theorem math_Sqrt_ok (n:Nat) (x_:Nat) {r:Nat} (h:qjy n x_ = some r):qaq prog false 123 [.d (.fl .f64 x_)] [] (fun v o new=>v = .d (.fl .f64 r)∧o = []∧new = []):=math_Sqrt_ok_fr0 false n x_ h
def qf9 (n:Nat) (x_:Cx):Option Nat :=
  (qgj n x_).bind fun x4 =>
  (qjy n x4).bind fun x5 =>
  (qh5 .f64 .f32 x5).bind fun x6 =>
  some x6
theorem impl_LongOf_ok_fr0 (fr:Bool) (n:Nat) (x_:Cx) {r:Nat} (h:qf9 n x_ = some r):qaq prog fr 79 [.d (.cx .f32 x_.re x_.im)] [] (fun v o new=>v = .d (.fl .f32 r)∧o = []∧new = []):=by
  refine qaf hτ func79 rfl (by simp) (by simp) ?_
  unfold qf9 at h
  refine qa6 ?_
  refine qa2 ?_
  refine qa0 hτ rfl rfl rfl ?_
  refine qa4 ?_
  refine qa6 ?_
  refine qa2 ?_
  refine qa0 hτ rfl rfl rfl ?_
  refine qa7 h fun x4 hx4 h=>?_
  refine qab hτ false [] rfl rfl rfl (qac func117 rfl rfl) rfl rfl (by simp) ⟨trivial,trivial⟩ (by trivial) (qma n x_ hx4) ?_
  rintro r0 o0 n0 ⟨rfl,rfl,rfl⟩ -
  refine qa7 h fun x5 hx5 h=>?_
  refine qab hτ false [] rfl rfl rfl (qac func123 rfl rfl) rfl rfl (by simp) ⟨trivial,trivial⟩ (by trivial) (math_Sqrt_ok n x4 hx5) ?_
  rintro r0 o0 n0 ⟨rfl,rfl,rfl⟩ -
  refine qa7 h fun x6 hx6 h=>?_
  refine qa0 hτ (v:=.d (.fl .f32 x6)) rfl rfl (qfu hx6) ?_
  refine qa0 hτ rfl rfl rfl ?_
  refine qa4 ?_
  refine qa8 (qa3 [] (l:=[(2,.d (.fl .f32 x6))]) (objs:=[]) rfl (by simp) rfl (by trivial) ⟨rfl,trivial,trivial⟩) ?_
  refine qal ?_
  have hr:=Option.some.inj h
  subst hr
  exact qae (.inr rfl) [] (objs':=[]) (new:=[]) rfl (by simp) (by simp) rfl (by trivial) rfl rfl (by trivial) (fun _=>⟨by simp [V.flat,V.qb7,V.qb5,D.flat],qag⟩) ⟨rfl,rfl,rfl⟩
theorem qiz (n:Nat) (x_:Cx) {r:Nat} (h:qf9 n x_ = some r):qaq prog false 79 [.d (.cx .f32 x_.re x_.im)] [] (fun v o new=>v = .d (.fl .f32 r)∧o = []∧new = []):=impl_LongOf_ok_fr0 false n x_ h
def qfg (n:Nat) (p_:qax):Option (List Nat) :=
  (qf9 n p_.A).bind fun x4 =>
  (qf9 n p_.B).bind fun x5 =>
  (qf9 n p_.C).bind fun x6 =>
  some [x4,x5,x6]
theorem impl_Phases_longs_ok_fr0 (fr:Bool) (n:Nat) (p_:qax) {r:List Nat} (h:qfg n p_ = some r):qaq prog fr 81 [.agg [.d (.cx .f32 p_.A.re p_.A.im),.d (.cx .f32 p_.B.re p_.B.im),.d (.cx .f32 p_.C.re p_.C.im)]] [] (fun v o new=>v = .row 0 r.length 0 r.length∧o = []∧new = [.row 1 (r.map qb3)]):=by
  refine qaf hτ func81 rfl (by simp) (by simp) ?_
  unfold qfg at h
  refine qa6 ?_
  refine qa2 ?_
  refine qai hτ rfl rfl rfl ?_
  refine qa0 hτ rfl rfl rfl ?_
  refine qa4 ?_
  refine qa6 ?_
  refine qd7 ?_
  refine qa5 hτ [0] 0 rfl rfl rfl rfl rfl ?_
  refine qa5 hτ [0] 1 rfl rfl rfl rfl rfl ?_
  refine qa5 hτ [0] 3 rfl rfl rfl rfl rfl ?_
  refine qa5 hτ [0] 4 rfl rfl rfl rfl rfl ?_
  refine qa5 hτ [0] 6 rfl rfl rfl rfl rfl ?_
  refine qa5 hτ [0] 7 rfl rfl rfl rfl rfl ?_
  refine qa7 h fun x4 hx4 h=>?_
  refine qak hτ false [] [0] 2 rfl rfl rfl rfl (qac func79 rfl rfl) rfl rfl (by simp) ⟨trivial,trivial⟩ (by trivial) (qiz n p_.A hx4) ⟨rfl,trivial⟩ ?_
  refine qa7 h fun x5 hx5 h=>?_
  refine qak hτ false [] [0] 5 rfl rfl rfl rfl (qac func79 rfl rfl) rfl rfl (by simp) ⟨trivial,trivial⟩ (by trivial) (qiz n p_.B hx5) ⟨rfl,trivial⟩ ?_
  refine qa7 h fun x6 hx6 h=>?_
  refine qak hτ false [] [0] 8 rfl rfl rfl rfl (qac func79 rfl rfl) rfl rfl (by simp) ⟨trivial,trivial⟩ (by trivial) (qiz n p_.C hx6) ⟨rfl,trivial⟩ ?_
  refine qbe hτ [0] 9 rfl rfl rfl rfl ⟨rfl,trivial⟩ ?_
  refine qa5 hτ [] 10 rfl rfl rfl rfl rfl ?_
  refine qbk mixed (by kernel_rfl) ?_
  refine qa8 (qa3 [1] (l:=[(2,.row 0 ([x4,x5,x6].length) 0 ([x4,x5,x6].length))]) (objs:=[.row 1 ([x4,x5,x6].map qb3)]) rfl (by simp) rfl (by trivial) ⟨rfl,trivial,trivial⟩) ?_
  refine qal ?_
  have hr:=Option.some.inj h
  subst hr
  exact qae (.inr rfl) [0] (objs':=[]) (new:=[.row 1 ([x4,x5,x6].map qb3)]) rfl (by simp) (by simp) rfl (by trivial) rfl rfl (by trivial) (fun _=>⟨by simp [V.flat,V.qb7,V.qb5,D.flat],(ql4 (qm8 ql2 _) qag)⟩) ⟨rfl,rfl,rfl⟩
theorem impl_Phases_longs_ok (n:Nat) (p_:qax) {r:List Nat} (h:qfg n p_ = some r):qaq prog false 81 [.agg [.d (.cx .f32 p_.A.re p_.A.im),.d (.cx .f32 p_.B.re p_.B.im),.d (.cx .f32 p_.C.re p_.C.im)]] [] (fun v o new=>v = .row 0 r.length 0 r.length∧o = []∧new = [.row 1 (r.map qb3)]):=impl_Phases_longs_ok_fr0 false n p_ h
def qdh (n:Nat) (l_:List Nat) (v14:Nat) (v20:Bool):Option Nat :=
  if v20 = true then
    (getI l_ (2:Int)).bind fun x22 =>
    some x22
  else
    some v14
def qdg (n:Nat) (l_:List Nat) (v14:Nat):Option Nat :=
  (getI l_ (2:Int)).bind fun x24 =>
  (getI l_ (0:Int)).bind fun x25 =>
  if (fcmp .gtr .f32 x24 x25) = true then
    (getI l_ (1:Int)).bind fun x27 =>
    qdh n l_ v14 (fcmp .gtr .f32 x24 x27)
  else
    qdh n l_ v14 false
def qgb (n:Nat) (l_:List Nat):Option Nat :=
  (getI l_ (0:Int)).bind fun x11 =>
  (getI l_ (1:Int)).bind fun x29 =>
  if (fcmp .gtr .f32 x29 x11) = true then
    qdg n l_ x29
  else
    qdg n l_ x11
theorem impl_greatestOf_ok_fr0 (fr:Bool) (n:Nat) (l_:List Nat) {r:Nat} (h:qgb n l_ = some r):qaq prog fr 108 [.d (.sl false (l_.map qb3))] [] (fun v o new=>v = .d (.fl .f32 r)∧o = []∧new = []):=by
  refine qaf hτ func108 rfl (by simp) (by simp) ?_
  unfold qgb at h
  refine qa6 ?_
  refine qa2 ?_
  refine qa0 hτ rfl rfl rfl ?_
  refine qa4 ?_
  refine qa6 ?_
  refine qa2 ?_
  refine qa0 hτ rfl rfl rfl ?_
  refine qa7 h fun x11 hx11 h=>?_
  refine qf7 hτ rfl rfl rfl (qd2 hx11).1 (qdv hx11) rfl ?_
  refine qa0 hτ rfl rfl rfl ?_
  refine qa0 hτ rfl rfl rfl ?_
  refine qa4 ?_
  refine qbw (ι:=Nat) (fun v14=>St.of [(0,.d (.sl false (l_.map qb3))),(3,.d (.fl .f32 v14))] [] f108.ntmps 0) (fun v14=>qdg n l_ v14 = some r) ?_ (fun hk28=>?_)
  · rintro v14 h
    replace h:qdg n l_ v14 = some r:=h
    unfold qdg at h
    refine qa6 ?_
    refine qbw (ι:=Bool) (fun v20=>St.of [(0,.d (.sl false (l_.map qb3))),(3,.d (.fl .f32 v14)),(32,.d (.bool v20))] [] f108.ntmps 0) (fun v20=>qdh n l_ v14 v20 = some r) ?_ (fun hk23=>?_)
    · rintro v20 h
      replace h:qdh n l_ v14 v20 = some r:=h
      unfold qdh at h
      refine qar rfl (fun hc21=>?_) (fun hc21=>?_)
      · have h:=qcl h hc21
        refine qa2 ?_
        refine qa0 hτ rfl rfl rfl ?_
        refine qa7 h fun x22 hx22 h=>?_
        refine qf7 hτ rfl rfl rfl (qd2 hx22).1 (qdv hx22) rfl ?_
        refine qa0 hτ rfl rfl rfl ?_
        refine qa0 hτ rfl rfl rfl ?_
        refine qa4 ?_
        refine qa6 ?_
        refine qa2 ?_
        refine qa0 hτ rfl rfl rfl ?_
        refine qa0 hτ rfl rfl rfl ?_
        refine qa4 ?_
        refine qa8 (qa3 [] (l:=[(2,.d (.fl .f32 x22))]) (objs:=[]) rfl (by simp) rfl (by trivial) ⟨rfl,trivial,trivial⟩) ?_
        refine qal ?_
        have hr:=Option.some.inj h
        subst hr
        exact qae (.inr rfl) [] (objs':=[]) (new:=[]) rfl (by simp) (by simp) rfl (by trivial) rfl rfl (by trivial) (fun _=>⟨by simp [V.flat,V.qb7,V.qb5,D.flat],qag⟩) ⟨rfl,rfl,rfl⟩
      · have h:=qck h hc21
        refine qb9 ?_
        refine qa6 ?_
        refine qa2 ?_
        refine qa0 hτ rfl rfl rfl ?_
        refine qa0 hτ rfl rfl rfl ?_
        refine qa4 ?_
        refine qa8 (qa3 [] (l:=[(2,.d (.fl .f32 v14))]) (objs:=[]) rfl (by simp) rfl (by trivial) ⟨rfl,trivial,trivial⟩) ?_
        refine qal ?_
        have hr:=Option.some.inj h
        subst hr
        exact qae (.inr rfl) [] (objs':=[]) (new:=[]) rfl (by simp) (by simp) rfl (by trivial) rfl rfl (by trivial) (fun _=>⟨by simp [V.flat,V.qb7,V.qb5,D.flat],qag⟩) ⟨rfl,rfl,rfl⟩
    · refine qa6 ?_
      refine qd7 ?_
      refine qa5 hτ [] 0 rfl rfl rfl rfl rfl ?_
      refine qa7 h fun x24 hx24 h=>?_
      refine qf6 hτ [] 1 rfl rfl rfl rfl rfl (qd2 hx24).1 (qdv hx24) rfl ?_
      refine qa5 hτ [] 2 rfl rfl rfl rfl rfl ?_
      refine qa5 hτ [] 3 rfl rfl rfl rfl rfl ?_
      refine qa7 h fun x25 hx25 h=>?_
      refine qf6 hτ [] 4 rfl rfl rfl rfl rfl (qd2 hx25).1 (qdv hx25) rfl ?_
      refine qa5 hτ [] 5 rfl rfl rfl rfl rfl ?_
      refine qa5 hτ [] 6 rfl rfl rfl rfl rfl ?_
      refine qa5 hτ [] 7 rfl rfl rfl rfl rfl ?_
      refine qdw 24 rfl (fun hb26=>?_) (fun hb26=>?_)
      · have h:=qcl h hb26
        refine qa5 hτ [] 8 rfl rfl rfl rfl rfl ?_
        refine qf6 hτ [] 9 rfl rfl rfl rfl rfl (qd2 hx24).1 (qdv hx24) rfl ?_
        refine qa5 hτ [] 10 rfl rfl rfl rfl rfl ?_
        refine qa5 hτ [] 11 rfl rfl rfl rfl rfl ?_
        refine qa7 h fun x27 hx27 h=>?_
        refine qf6 hτ [] 12 rfl rfl rfl rfl rfl (qd2 hx27).1 (qdv hx27) rfl ?_
        refine qa5 hτ [] 13 rfl rfl rfl rfl rfl ?_
        refine qa5 hτ [] 14 rfl rfl rfl rfl rfl ?_
        refine qa5 hτ [] 15 rfl rfl rfl rfl rfl ?_
        refine qbk mixed (by kernel_rfl) ?_
        refine qa8 (qa3 [] (l:=[(0,.d (.sl false (l_.map qb3))),(3,.d (.fl .f32 v14)),(32,.d (.bool (fcmp .gtr .f32 x24 x27)))]) (objs:=[]) rfl (by simp) rfl (by trivial) ⟨rfl,trivial,rfl,trivial,rfl,trivial,trivial⟩) ?_
        exact hk23 (fcmp .gtr .f32 x24 x27) h
      · have h:=qck h hb26
        refine qa9 8 rfl rfl rfl ?_
        refine qa9 9 rfl rfl rfl ?_
        refine qa9 10 rfl rfl rfl ?_
        refine qa9 11 rfl rfl rfl ?_
        refine qa9 12 rfl rfl rfl ?_
        refine qa9 13 rfl rfl rfl ?_
        refine qa9 14 rfl rfl rfl ?_
        refine qa5 hτ [] 15 rfl rfl rfl rfl rfl ?_
        refine qbk mixed (by kernel_rfl) ?_
        refine qa8 (qa3 [] (l:=[(0,.d (.sl false (l_.map qb3))),(3,.d (.fl .f32 v14)),(32,.d (.bool false))]) (objs:=[]) rfl (by simp) rfl (by trivial) ⟨rfl,trivial,rfl,trivial,rfl,trivial,trivial⟩) ?_
        exact hk23 false h
  · refine qa6 ?_
    refine qa6 ?_
    refine qd7 ?_
    refine qa5 hτ [] 0 rfl rfl rfl rfl rfl ?_
    refine qa7 h fun x29 hx29 h=>?_
    refine qf6 hτ [] 1 rfl rfl rfl rfl rfl (qd2 hx29).1 (qdv hx29) rfl ?_
    refine qa5 hτ [] 2 rfl rfl rfl rfl rfl ?_
    refine qa5 hτ [] 3 rfl rfl rfl rfl rfl ?_
    refine qf6 hτ [] 4 rfl rfl rfl rfl rfl (qd2 hx11).1 (qdv hx11) rfl ?_
    refine qa5 hτ [] 5 rfl rfl rfl rfl rfl ?_
    refine qa5 hτ [] 6 rfl rfl rfl rfl rfl ?_
    refine qbk mixed (by kernel_rfl) ?_
    refine qa8 (qa3 [] (l:=[(0,.d (.sl false (l_.map qb3))),(3,.d (.fl .f32 x11)),(13,.d (.bool (fcmp .gtr .f32 x29 x11)))]) (objs:=[]) rfl (by simp) rfl (by trivial) ⟨rfl,trivial,rfl,trivial,rfl,trivial,trivial⟩) ?_
    refine qar rfl (fun hc30=>?_) (fun hc30=>?_)
    · have h:=qcl h hc30
      refine qa2 ?_
      refine qa0 hτ rfl rfl rfl ?_
      refine qf7 hτ rfl rfl rfl (qd2 hx29).1 (qdv hx29) rfl ?_
      refine qa0 hτ rfl rfl rfl ?_
      refine qa0 hτ rfl rfl rfl ?_
      refine qa4 ?_
      refine qa8 (qa3 [] (l:=[(0,.d (.sl false (l_.map qb3))),(3,.d (.fl .f32 x29))]) (objs:=[]) rfl (by simp) rfl (by trivial) ⟨rfl,trivial,rfl,trivial,trivial⟩) ?_
      exact hk28 x29 h
    · have h:=qck h hc30
      refine qb9 ?_
      refine qa8 (qa3 [] (l:=[(0,.d (.sl false (l_.map qb3))),(3,.d (.fl .f32 x11))]) (objs:=[]) rfl (by simp) rfl (by trivial) ⟨rfl,trivial,rfl,trivial,trivial⟩) ?_
      exact hk28 x11 h
theorem impl_greatestOf_ok_fr (n:Nat) (l_:List Nat) {r:Nat} (h:qgb n l_ = some r):qaq prog true 108 [.d (.sl false (l_.map qb3))] [] (fun v o new=>v = .d (.fl .f32 r)∧o = []∧new = []):=impl_greatestOf_ok_fr0 true n l_ h
def qdp (n:Nat) (p_:qax):Option Nat :=
  (qfg n p_).bind fun x3 =>
  (qgb n x3).bind fun x4 =>
  some x4
theorem impl_GreatestOf_ok_fr0 (fr:Bool) (n:Nat) (p_:qax) {r:Nat} (h:qdp n p_ = some r):qaq prog fr 51 [.agg [.d (.cx .f32 p_.A.re p_.A.im),.d (.cx .f32 p_.B.re p_.B.im),.d (.cx .f32 p_.C.re p_.C.im)]] [] (fun v o new=>v = .d (.fl .f32 r)∧o = []∧new = []):=by
  refine qaf hτ func51 rfl (by simp) (by simp) ?_
  unfold qdp at h
  refine qa6 ?_
  refine qa2 ?_
  refine qai hτ rfl rfl rfl ?_
  refine qa0 hτ rfl rfl rfl ?_
  refine qa4 ?_
  refine qa6 ?_
  refine qa2 ?_
  refine qa0 hτ rfl rfl rfl ?_
  refine qa7 h fun x3 hx3 h=>?_
  refine qab hτ false [] rfl rfl rfl (qac func81 rfl rfl) rfl rfl (by simp) ⟨(by trivial),trivial⟩ (by trivial) (impl_Phases_longs_ok n p_ hx3) ?_
  rintro r0 o0 n0 ⟨rfl,rfl,rfl⟩ -
  refine qas (qa3 [1] (l:=[(4,.row 0 x3.length 0 x3.length)]) (objs:=[.row 1 (x3.map qb3)]) rfl (by simp) rfl (by trivial) ⟨rfl,trivial,trivial⟩) ?_
  refine qa7 h fun x4 hx4 h=>?_
  refine qab hτ true [] rfl rfl rfl (qac func108 rfl rfl) (qbf (qpr (f:=qb3) x3 rfl rfl rfl) qi3) rfl (by simp) ⟨(qnt (f:=qb3) x3 rfl rfl rfl),trivial⟩ (by trivial) (impl_greatestOf_ok_fr n x3 hx4) ?_
  rintro r0 o0 n0 ⟨rfl,rfl,rfl⟩ -
  refine qa0 hτ rfl rfl rfl ?_
  refine qa4 ?_
  refine qa8 (qa3 [] (l:=[(2,.d (.fl .f32 x4))]) (objs:=[]) rfl (by simp) rfl (by trivial) ⟨rfl,trivial,trivial⟩) ?_
  refine qal ?_
  have hr:=Option.some.inj h
  subst hr
  exact qae (.inr rfl) [] (objs':=[]) (new:=[]) rfl (by simp) (by simp) rfl (by trivial) rfl rfl (by trivial) (fun _=>⟨by simp [V.flat,V.qb7,V.qb5,D.flat],qag⟩) ⟨rfl,rfl,rfl⟩
theorem qk7 (n:Nat) (p_:qax) {r:Nat} (h:qdp n p_ = some r):qaq prog false 51 [.agg [.d (.cx .f32 p_.A.re p_.A.im),.d (.cx .f32 p_.B.re p_.B.im),.d (.cx .f32 p_.C.re p_.C.im)]] [] (fun v o new=>v = .d (.fl .f32 r)∧o = []∧new = []):=impl_GreatestOf_ok_fr0 false n p_ h
def qf3 (n:Nat) (k42:List Nat→Int→Option (List Nat × Bool)) (v32:Int) (v50:List Nat):Option (List Nat × Bool) :=
  k42 v50 (w64 (v32 + (1:Int)))
def qdf (n:Nat) (k42:List Nat→Int→Option (List Nat × Bool)) (v31:List Nat) (v32:Int) (v57:Nat):Option (List Nat × Bool) :=
  grd (room (v31.length + 1) 4) <|
  qf3 n k42 v32 (v31 ++ [v57])
def qbc (n:Nat) (f_:qan) (kind_:Int) (through_:Cx):Nat→List Nat→Int→Option (List Nat × Bool)
  | 0,_,_=>none
  | m41 + 1,v31,v32 =>
    if v32 < (f_.qad.length:Int) then
      (qkf n (1:Int)).bind fun x52 =>
      (qh5 .f64 .f32 x52).bind fun x53 =>
      (qbj n f_ v32 kind_ through_).bind fun x60 =>
      if x60.2 = true then
        (qdp n x60.1).bind fun x62 =>
        qdf n (qbc n f_ kind_ through_ m41) v31 v32 x62
      else
        qdf n (qbc n f_ kind_ through_ m41) v31 v32 x53
    else
      some (v31,true)
def qf2 (n:Nat) (f_:qan) (kind_:Int) (through_:Cx):Option (List Nat × Bool) :=
  qbc n f_ kind_ through_ n ([]:List Nat) (0:Int)
def qe6 (n:Nat) (f_:qan) (kind_:Int) (through_:Cx) (v68:Bool):Option (List Nat × Bool) :=
  if v68 = true then
    some (([]:List Nat),false)
  else
    qf2 n f_ kind_ through_
def qdn (n:Nat) (f_:qan) (kind_:Int) (through_:Cx):Option (List Nat × Bool) :=
  (qez n f_).bind fun x71 =>
  if x71 = true then
    (qht n kind_).bind fun x73 =>
    qe6 n f_ kind_ through_ (!x73)
  else
    qe6 n f_ kind_ through_ true
theorem qiu (fr:Bool) (n:Nat) (f_:qan) (kind_:Int) (through_:Cx) {r:List Nat × Bool} (h:qdn n f_ kind_ through_ = some r):qaq prog fr 47 [.agg [.d (.cx .f32 f_.Source.A.re f_.Source.A.im),.d (.cx .f32 f_.Source.B.re f_.Source.B.im),.d (.cx .f32 f_.Source.C.re f_.Source.C.im),.d (.sl false (f_.qad.map qaj))],.d (.int .i64 kind_),.d (.cx .f32 through_.re through_.im)] [] (fun v o new=>v = .tup [.row 0 r.1.length 0 r.1.length,.d (.bool r.2)]∧o = []∧new = [.row 1 (r.1.map qb3)]):=by
  refine qaf hτ func47 rfl (by simp) (by simp) ?_
  unfold qdn at h
  refine qa6 ?_
  refine qa2 ?_
  refine qai hτ rfl rfl rfl ?_
  refine qa0 hτ rfl rfl rfl ?_
  refine qa0 hτ rfl rfl rfl ?_
  refine qa4 ?_
  refine qbw (ι:=Unit) (fun _=>St.of [(1,.d (.int .i64 kind_)),(2,.d (.cx .f32 through_.re through_.im)),(3,.ptr 0 0)] [.box [.d (.cx .f32 f_.Source.A.re f_.Source.A.im),.d (.cx .f32 f_.Source.B.re f_.Source.B.im),.d (.cx .f32 f_.Source.C.re f_.Source.C.im),.d (.sl false (f_.qad.map qaj))]] f47.ntmps 0) (fun _=>qf2 n f_ kind_ through_ = some r) ?_ (fun hk63=>?_)
  · rintro ⟨⟩ h
    replace h:qf2 n f_ kind_ through_ = some r:=h
    unfold qf2 at h
    refine qa6 ?_
    refine qa2 ?_
    refine qai hτ rfl rfl rfl ?_
    refine qa0 hτ rfl rfl rfl ?_
    refine qa4 ?_
    refine qa6 ?_
    refine qa6 ?_
    refine qa2 ?_
    refine qa0 hτ rfl rfl rfl ?_
    refine qa0 hτ rfl rfl rfl ?_
    refine qa0 hτ (v:=.d (.int .i64 (f_.qad.length:Int))) rfl rfl (Eq.trans rfl (qjj (f:=qaj) f_.qad)) ?_
    refine qa0 hτ rfl rfl rfl ?_
    refine qa4 ?_
    refine qbo ?_
    refine qh3 (ι:=Nat × List Nat × Int) (fun (m41,v31,v32)=>St.of [(1,.d (.int .i64 kind_)),(2,.d (.cx .f32 through_.re through_.im)),(3,.ptr 0 0),(8,.row 1 v31.length 0 v31.length),(24,.d (.int .i64 (f_.qad.length:Int))),(25,.d (.int .i64 v32))] [.box [.d (.cx .f32 f_.Source.A.re f_.Source.A.im),.d (.cx .f32 f_.Source.B.re f_.Source.B.im),.d (.cx .f32 f_.Source.C.re f_.Source.C.im),.d (.sl false (f_.qad.map qaj))],.row 1 (v31.map qb3)] f47.ntmps 0) (fun (m41,v31,v32)=>qbc n f_ kind_ through_ m41 v31 v32 = some r) (fun x=>x.1) (n,([]:List Nat),(0:Int)) h (qa3 [0,1] (l:=[(1,.d (.int .i64 kind_)),(2,.d (.cx .f32 through_.re through_.im)),(3,.ptr 0 0),(8,.row 1 (([]:List Nat).length) 0 (([]:List Nat).length)),(24,.d (.int .i64 (f_.qad.length:Int))),(25,.d (.int .i64 (0:Int)))]) (objs:=[.box [.d (.cx .f32 f_.Source.A.re f_.Source.A.im),.d (.cx .f32 f_.Source.B.re f_.Source.B.im),.d (.cx .f32 f_.Source.C.re f_.Source.C.im),.d (.sl false (f_.qad.map qaj))],.row 1 (([]:List Nat).map qb3)]) rfl (by simp) rfl (by trivial) ⟨rfl,trivial,rfl,trivial,rfl,trivial,rfl,trivial,rfl,trivial,rfl,trivial,trivial⟩) ?_
    rintro ⟨m41,v31,v32⟩ h
    replace h:qbc n f_ kind_ through_ m41 v31 v32 = some r:=h
    rcases m41 with _ | m41
    · rw [qbc] at h;cases h
    rw [qbc] at h
    refine qa6 ?_
    refine qa2 ?_
    refine qa0 hτ rfl rfl rfl ?_
    refine qa4 ?_
    refine qa6 ?_
    refine qar rfl (fun hc43=>?_) (fun hc43=>?_)
    · have h:=if_t h hc43
      refine qb9 ?_
      refine qbw (ι:=List Nat) (fun v50=>St.of [(1,.d (.int .i64 kind_)),(2,.d (.cx .f32 through_.re through_.im)),(3,.ptr 0 0),(8,.row 1 v50.length 0 v50.length),(24,.d (.int .i64 (f_.qad.length:Int))),(25,.d (.int .i64 v32))] [.box [.d (.cx .f32 f_.Source.A.re f_.Source.A.im),.d (.cx .f32 f_.Source.B.re f_.Source.B.im),.d (.cx .f32 f_.Source.C.re f_.Source.C.im),.d (.sl false (f_.qad.map qaj))],.row 1 (v50.map qb3)] f47.ntmps 0) (fun v50=>qf3 n (qbc n f_ kind_ through_ m41) v32 v50 = some r) ?_ (fun hk51=>?_)
      · rintro v50 h
        replace h:qf3 n (qbc n f_ kind_ through_ m41) v32 v50 = some r:=h
        unfold qf3 at h
        refine qa2 ?_
        refine qa0 hτ rfl rfl rfl ?_
        refine qa0 hτ rfl rfl rfl ?_
        refine qa4 ?_
        exact ⟨(m41,v50,(w64 (v32 + (1:Int)))),h,Nat.lt_succ_self m41,(qa3 [0,1] (l:=[(1,.d (.int .i64 kind_)),(2,.d (.cx .f32 through_.re through_.im)),(3,.ptr 0 0),(8,.row 1 v50.length 0 v50.length),(24,.d (.int .i64 (f_.qad.length:Int))),(25,.d (.int .i64 (w64 (v32 + (1:Int)))))]) (objs:=[.box [.d (.cx .f32 f_.Source.A.re f_.Source.A.im),.d (.cx .f32 f_.Source.B.re f_.Source.B.im),.d (.cx .f32 f_.Source.C.re f_.Source.C.im),.d (.sl false (f_.qad.map qaj))],.row 1 (v50.map qb3)]) rfl (by simp) rfl (by trivial) ⟨rfl,trivial,rfl,trivial,rfl,trivial,rfl,trivial,rfl,trivial,rfl,trivial,trivial⟩)⟩
      · refine qa6 ?_
        refine qbo ?_
        refine qa6 ?_
        refine qa2 ?_
        refine qa0 hτ rfl rfl rfl ?_
        refine qa0 hτ rfl rfl rfl ?_
        refine qa4 ?_
        refine qa6 ?_
        refine qa2 ?_
        refine qa7 h fun x52 hx52 h=>?_
        refine qab hτ false [] rfl rfl rfl (qac func102 rfl rfl) rfl rfl (by simp) ⟨trivial,trivial⟩ (by trivial) (math_Inf_ok n (1:Int) hx52) ?_
        rintro r0 o0 n0 ⟨rfl,rfl,rfl⟩ -
        refine qa7 h fun x53 hx53 h=>?_
        refine qa0 hτ (v:=.d (.fl .f32 x53)) rfl rfl (qfu hx53) ?_
        refine qa0 hτ rfl rfl rfl ?_
        refine qa4 ?_
        refine qbw (ι:=Nat) (fun v57=>St.of [(1,.d (.int .i64 kind_)),(2,.d (.cx .f32 through_.re through_.im)),(3,.ptr 0 0),(8,.row 1 v31.length 0 v31.length),(10,.d (.fl .f32 v57)),(24,.d (.int .i64 (f_.qad.length:Int))),(25,.d (.int .i64 v32))] [.box [.d (.cx .f32 f_.Source.A.re f_.Source.A.im),.d (.cx .f32 f_.Source.B.re f_.Source.B.im),.d (.cx .f32 f_.Source.C.re f_.Source.C.im),.d (.sl false (f_.qad.map qaj))],.row 1 (v31.map qb3)] f47.ntmps 0) (fun v57=>qdf n (qbc n f_ kind_ through_ m41) v31 v32 v57 = some r) ?_ (fun hk59=>?_)
        · rintro v57 h
          replace h:qdf n (qbc n f_ kind_ through_ m41) v31 v32 v57 = some r:=h
          unfold qdf at h
          refine qa2 ?_
          refine qa0 hτ rfl rfl rfl ?_
          refine qa0 hτ rfl rfl rfl ?_
          refine qai hτ rfl rfl rfl ?_
          refine qf8 h fun hg58 h=>?_
          refine ql1 hτ rfl rfl (Eq.trans rfl (or_append (f:=qb3) v31 [v57] rfl)) ⟨⟨rfl,Nat.le_of_ble_eq_true rfl⟩,qd8 _,rfl,rfl,hg58,by decide,(all1 rfl)⟩ ?_
          refine qa0 hτ rfl rfl rfl ?_
          refine qa4 ?_
          refine qa8 (qa3 [0,1] (l:=[(1,.d (.int .i64 kind_)),(2,.d (.cx .f32 through_.re through_.im)),(3,.ptr 0 0),(8,.row 1 ((v31 ++ [v57]).length) 0 ((v31 ++ [v57]).length)),(24,.d (.int .i64 (f_.qad.length:Int))),(25,.d (.int .i64 v32))]) (objs:=[.box [.d (.cx .f32 f_.Source.A.re f_.Source.A.im),.d (.cx .f32 f_.Source.B.re f_.Source.B.im),.d (.cx .f32 f_.Source.C.re f_.Source.C.im),.d (.sl false (f_.qad.map qaj))],.row 1 ((v31 ++ [v57]).map qb3)]) rfl (by simp) rfl (by trivial) ⟨rfl,trivial,rfl,trivial,rfl,trivial,rfl,trivial,rfl,trivial,rfl,trivial,trivial⟩) ?_
          exact hk51 (v31 ++ [v57]) h
        · refine qa6 ?_
          refine qa6 ?_
          refine qa8 (qa3 [0,1] (l:=[(1,.d (.int .i64 kind_)),(2,.d (.cx .f32 through_.re through_.im)),(3,.ptr 0 0),(8,.row 1 v31.length 0 v31.length),(9,.d (.int .i64 v32)),(10,.d (.fl .f32 x53)),(24,.d (.int .i64 (f_.qad.length:Int))),(25,.d (.int .i64 v32))]) (objs:=[.box [.d (.cx .f32 f_.Source.A.re f_.Source.A.im),.d (.cx .f32 f_.Source.B.re f_.Source.B.im),.d (.cx .f32 f_.Source.C.re f_.Source.C.im),.d (.sl false (f_.qad.map qaj))],.row 1 (v31.map qb3)]) rfl (by simp) rfl (by trivial) ⟨rfl,trivial,rfl,trivial,rfl,trivial,rfl,trivial,rfl,trivial,rfl,trivial,rfl,trivial,rfl,trivial,trivial⟩) ?_
          refine qa2 ?_
          refine qa0 hτ rfl rfl rfl ?_
          refine qa0 hτ rfl rfl rfl ?_
          refine qa0 hτ rfl rfl rfl ?_
          refine qa0 hτ rfl rfl rfl ?_
          refine qa7 h fun x60 hx60 h=>?_
          refine qab hτ false [] rfl rfl rfl (qac func28 rfl rfl) rfl rfl (by simp) ⟨(by trivial),trivial,trivial,trivial,trivial⟩ (by trivial) (impl_FaultCurrents_ok n f_ v32 kind_ through_ hx60) ?_
          rintro r0 o0 n0 ⟨rfl,rfl,rfl⟩ -
          refine qa0 hτ rfl rfl rfl ?_
          refine qa0 hτ rfl rfl rfl ?_
          refine qa0 hτ rfl rfl rfl ?_
          refine qai hτ rfl rfl rfl ?_
          refine qai hτ rfl rfl rfl ?_
          refine qa0 hτ rfl rfl rfl ?_
          refine qa4 ?_
          refine qa6 ?_
          refine qa8 (qa3 [0,1,2] (l:=[(1,.d (.int .i64 kind_)),(2,.d (.cx .f32 through_.re through_.im)),(3,.ptr 0 0),(8,.row 1 v31.length 0 v31.length),(10,.d (.fl .f32 x53)),(11,.ptr 2 0),(12,.d (.bool x60.2)),(24,.d (.int .i64 (f_.qad.length:Int))),(25,.d (.int .i64 v32))]) (objs:=[.box [.d (.cx .f32 f_.Source.A.re f_.Source.A.im),.d (.cx .f32 f_.Source.B.re f_.Source.B.im),.d (.cx .f32 f_.Source.C.re f_.Source.C.im),.d (.sl false (f_.qad.map qaj))],.row 1 (v31.map qb3),.box [.d (.cx .f32 x60.1.A.re x60.1.A.im),.d (.cx .f32 x60.1.B.re x60.1.B.im),.d (.cx .f32 x60.1.C.re x60.1.C.im)]]) rfl (by simp) rfl (by trivial) ⟨rfl,trivial,rfl,trivial,rfl,trivial,rfl,trivial,rfl,trivial,rfl,trivial,rfl,trivial,rfl,trivial,rfl,trivial,trivial⟩) ?_
          refine qa2 ?_
          refine qa0 hτ rfl rfl rfl ?_
          refine qa4 ?_
          refine qar rfl (fun hc61=>?_) (fun hc61=>?_)
          · have h:=qcl h hc61
            refine qa2 ?_
            refine qa0 hτ rfl rfl rfl ?_
            refine qa7 h fun x62 hx62 h=>?_
            refine qab hτ false [] rfl rfl rfl (qac func51 rfl rfl) rfl rfl (by simp) ⟨(by trivial),trivial⟩ (by trivial) (qk7 n x60.1 hx62) ?_
            rintro r0 o0 n0 ⟨rfl,rfl,rfl⟩ -
            refine qa0 hτ rfl rfl rfl ?_
            refine qa4 ?_
            refine qa8 (qa3 [0,1] (l:=[(1,.d (.int .i64 kind_)),(2,.d (.cx .f32 through_.re through_.im)),(3,.ptr 0 0),(8,.row 1 v31.length 0 v31.length),(10,.d (.fl .f32 x62)),(24,.d (.int .i64 (f_.qad.length:Int))),(25,.d (.int .i64 v32))]) (objs:=[.box [.d (.cx .f32 f_.Source.A.re f_.Source.A.im),.d (.cx .f32 f_.Source.B.re f_.Source.B.im),.d (.cx .f32 f_.Source.C.re f_.Source.C.im),.d (.sl false (f_.qad.map qaj))],.row 1 (v31.map qb3)]) rfl (by simp) rfl (by trivial) ⟨rfl,trivial,rfl,trivial,rfl,trivial,rfl,trivial,rfl,trivial,rfl,trivial,rfl,trivial,trivial⟩) ?_
            exact hk59 x62 h
          · have h:=qck h hc61
            refine qb9 ?_
            refine qa8 (qa3 [0,1] (l:=[(1,.d (.int .i64 kind_)),(2,.d (.cx .f32 through_.re through_.im)),(3,.ptr 0 0),(8,.row 1 v31.length 0 v31.length),(10,.d (.fl .f32 x53)),(24,.d (.int .i64 (f_.qad.length:Int))),(25,.d (.int .i64 v32))]) (objs:=[.box [.d (.cx .f32 f_.Source.A.re f_.Source.A.im),.d (.cx .f32 f_.Source.B.re f_.Source.B.im),.d (.cx .f32 f_.Source.C.re f_.Source.C.im),.d (.sl false (f_.qad.map qaj))],.row 1 (v31.map qb3)]) rfl (by simp) rfl (by trivial) ⟨rfl,trivial,rfl,trivial,rfl,trivial,rfl,trivial,rfl,trivial,rfl,trivial,rfl,trivial,trivial⟩) ?_
            exact hk59 x53 h
    · have h:=if_f h hc43
      refine qh2 ?_
      refine qa6 ?_
      refine qa2 ?_
      refine qa0 hτ rfl rfl rfl ?_
      refine qa0 hτ rfl rfl rfl ?_
      refine qa0 hτ rfl rfl rfl ?_
      refine qa4 ?_
      refine qa8 (qa3 [1] (l:=[(6,.row 0 v31.length 0 v31.length),(7,.d (.bool true))]) (objs:=[.row 1 (v31.map qb3)]) rfl (by simp) rfl (by trivial) ⟨rfl,trivial,rfl,trivial,trivial⟩) ?_
      refine qal ?_
      have hr:=Option.some.inj h
      subst hr
      exact qae (.inr rfl) [0] (objs':=[]) (new:=[.row 1 (v31.map qb3)]) rfl (by simp) (by simp) rfl (by trivial) rfl rfl (by trivial) (fun _=>⟨by simp [V.flat,V.qb7,V.qb5,D.flat],(ql4 (qm8 ql2 _) qag)⟩) ⟨rfl,rfl,rfl⟩
  · refine qa6 ?_
    refine qbw (ι:=Bool) (fun v68=>St.of [(1,.d (.int .i64 kind_)),(2,.d (.cx .f32 through_.re through_.im)),(3,.ptr 0 0),(20,.d (.bool v68))] [.box [.d (.cx .f32 f_.Source.A.re f_.Source.A.im),.d (.cx .f32 f_.Source.B.re f_.Source.B.im),.d (.cx .f32 f_.Source.C.re f_.Source.C.im),.d (.sl false (f_.qad.map qaj))]] f47.ntmps 0) (fun v68=>qe6 n f_ kind_ through_ v68 = some r) ?_ (fun hk70=>?_)
    · rintro v68 h
      replace h:qe6 n f_ kind_ through_ v68 = some r:=h
      unfold qe6 at h
      refine qar rfl (fun hc69=>?_) (fun hc69=>?_)
      · have h:=qcl h hc69
        refine qa6 ?_
        refine qa2 ?_
        refine qa0 hτ rfl rfl rfl ?_
        refine qa0 hτ rfl rfl rfl ?_
        refine qa4 ?_
        refine qa8 (qa3 [] (l:=[(6,.d (.nils)),(7,.d (.bool false))]) (objs:=[]) rfl (by simp) rfl (by trivial) ⟨rfl,trivial,rfl,trivial,trivial⟩) ?_
        refine qa8 (weak_relax [1] (l':=[(6,.row 0 (([]:List Nat).length) 0 (([]:List Nat).length)),(7,.d (.bool false))]) (objs':=[]) (.cons (.c (.ghost ⟨Nat.le_of_ble_eq_true rfl,Nat.le_of_ble_eq_true rfl⟩)) (.cons (.c (.refl _)) .nil)) .nil) ?_
        refine qal ?_
        have hr:=Option.some.inj h
        subst hr
        exact qae (.inr rfl) [0] (objs':=[]) (new:=[.row 1 (([]:List Nat).map qb3)]) rfl (by simp) (by simp) rfl (by trivial) rfl rfl (by trivial) (fun _=>⟨by simp [V.flat,V.qb7,V.qb5,D.flat],(ql4 (qm8 ql2 _) qag)⟩) ⟨rfl,rfl,rfl⟩
      · have h:=qck h hc69
        refine qb9 ?_
        refine qa8 (qa3 [0] (l:=[(1,.d (.int .i64 kind_)),(2,.d (.cx .f32 through_.re through_.im)),(3,.ptr 0 0)]) (objs:=[.box [.d (.cx .f32 f_.Source.A.re f_.Source.A.im),.d (.cx .f32 f_.Source.B.re f_.Source.B.im),.d (.cx .f32 f_.Source.C.re f_.Source.C.im),.d (.sl false (f_.qad.map qaj))]]) rfl (by simp) rfl (by trivial) ⟨rfl,trivial,rfl,trivial,rfl,trivial,trivial⟩) ?_
        exact hk63 () h
    · refine qa6 ?_
      refine qa2 ?_
      refine qa0 hτ rfl rfl rfl ?_
      refine qa7 h fun x71 hx71 h=>?_
      refine qab hτ false [] rfl rfl rfl (qac func13 rfl rfl) rfl rfl (by simp) ⟨(by trivial),trivial⟩ (by trivial) (qjv n f_ hx71) ?_
      rintro r0 o0 n0 ⟨rfl,rfl,rfl⟩ -
      refine qa0 hτ rfl rfl rfl ?_
      refine qa0 hτ rfl rfl rfl ?_
      refine qbr 16 rfl (fun hb72=>?_) (fun hb72=>?_)
      · have hb72:=qjc hb72
        have h:=qck h hb72
        refine qaa rfl rfl ?_
        refine qaa rfl rfl ?_
        refine qaa rfl rfl ?_
        refine qa0 hτ rfl rfl rfl ?_
        refine qa4 ?_
        refine qa8 (qa3 [0] (l:=[(1,.d (.int .i64 kind_)),(2,.d (.cx .f32 through_.re through_.im)),(3,.ptr 0 0),(20,.d (.bool true))]) (objs:=[.box [.d (.cx .f32 f_.Source.A.re f_.Source.A.im),.d (.cx .f32 f_.Source.B.re f_.Source.B.im),.d (.cx .f32 f_.Source.C.re f_.Source.C.im),.d (.sl false (f_.qad.map qaj))]]) rfl (by simp) rfl (by trivial) ⟨rfl,trivial,rfl,trivial,rfl,trivial,rfl,trivial,trivial⟩) ?_
        exact hk70 true h
      · have hb72:=qjb hb72
        have h:=qcl h hb72
        refine qa0 hτ rfl rfl rfl ?_
        refine qa7 h fun x73 hx73 h=>?_
        refine qab hτ false [] rfl rfl rfl (qac func101 rfl rfl) rfl rfl (by simp) ⟨trivial,trivial⟩ (by trivial) (impl_faultOk_ok n kind_ hx73) ?_
        rintro r0 o0 n0 ⟨rfl,rfl,rfl⟩ -
        refine qa0 hτ rfl rfl rfl ?_
        refine qa0 hτ rfl rfl rfl ?_
        refine qa4 ?_
        refine qa8 (qa3 [0] (l:=[(1,.d (.int .i64 kind_)),(2,.d (.cx .f32 through_.re through_.im)),(3,.ptr 0 0),(20,.d (.bool (!x73)))]) (objs:=[.box [.d (.cx .f32 f_.Source.A.re f_.Source.A.im),.d (.cx .f32 f_.Source.B.re f_.Source.B.im),.d (.cx .f32 f_.Source.C.re f_.Source.C.im),.d (.sl false (f_.qad.map qaj))]]) rfl (by simp) rfl (by trivial) ⟨rfl,trivial,rfl,trivial,rfl,trivial,rfl,trivial,trivial⟩) ?_
        exact hk70 (!x73) h
theorem impl_FaultTable_ok (n:Nat) (f_:qan) (kind_:Int) (through_:Cx) {r:List Nat × Bool} (h:qdn n f_ kind_ through_ = some r):qaq prog false 47 [.agg [.d (.cx .f32 f_.Source.A.re f_.Source.A.im),.d (.cx .f32 f_.Source.B.re f_.Source.B.im),.d (.cx .f32 f_.Source.C.re f_.Source.C.im),.d (.sl false (f_.qad.map qaj))],.d (.int .i64 kind_),.d (.cx .f32 through_.re through_.im)] [] (fun v o new=>v = .tup [.row 0 r.1.length 0 r.1.length,.d (.bool r.2)]∧o = []∧new = [.row 1 (r.1.map qb3)]):=qiu false n f_ kind_ through_ h
theorem impl_FaultTable_ok_fr (n:Nat) (f_:qan) (kind_:Int) (through_:Cx) {r:List Nat × Bool} (h:qdn n f_ kind_ through_ = some r):qaq prog true 47 [.agg [.d (.cx .f32 f_.Source.A.re f_.Source.A.im),.d (.cx .f32 f_.Source.B.re f_.Source.B.im),.d (.cx .f32 f_.Source.C.re f_.Source.C.im),.d (.sl false (f_.qad.map qaj))],.d (.int .i64 kind_),.d (.cx .f32 through_.re through_.im)] [] (fun v o new=>v = .tup [.row 0 r.1.length 0 r.1.length,.d (.bool r.2)]∧o = []∧new = [.row 1 (r.1.map qb3)]):=qiu true n f_ kind_ through_ h
end Go.Proofs.Ytdnkjocenbepaaa.AWN
