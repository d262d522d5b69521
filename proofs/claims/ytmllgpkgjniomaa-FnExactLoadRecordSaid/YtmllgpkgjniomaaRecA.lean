/- Models and contracts, printed by program. -/
import Derived.Test.YtmllgpkgjniomaaRecTypes
set_option linter.unusedVariables false
set_option linter.unusedSimpArgs false
set_option linter.unusedSectionVars false
set_option maxHeartbeats 2000000
namespace Go.Proofs.Ytmllgpkgjniomaa.AWN
open Go Go.Proofs.Try
structure STie where
  A:Int
  B:Int
  Own:Cx
  Shared:Cx
  Most:Int
deriving DecidableEq
def qan (x:STie):List D:=[.int .i64 x.A,.int .i64 x.B,.cx .f32 x.Own.re x.Own.im,.cx .f32 x.Shared.re x.Shared.im,.int .i64 x.Most]
@[simp] theorem eSTie_len (x:STie):(qan x).length = 5:=rfl
theorem qjv (x:STie):∀ c ∈ qan x,c.flat:=by simp [qan,D.flat]
structure qb0 where
  text:Str
  at_:Int
  fine:Bool
deriving DecidableEq
structure qaa where
  A:Cx
  B:Cx
  C:Cx
deriving DecidableEq
structure SBus where
  qag:Int
  Own:Cx
  Shared:Cx
  Kind:Int
  Load:qaa
  qa6:Int
deriving DecidableEq
def qah (x:SBus):List D:=[.int .i64 x.qag,.cx .f32 x.Own.re x.Own.im,.cx .f32 x.Shared.re x.Shared.im,.int .i64 x.Kind,.cx .f32 x.Load.A.re x.Load.A.im,.cx .f32 x.Load.B.re x.Load.B.im,.cx .f32 x.Load.C.re x.Load.C.im,.int .i64 x.qa6]
@[simp] theorem eSBus_len (x:SBus):(qah x).length = 8:=rfl
theorem qjf (x:SBus):∀ c ∈ qah x,c.flat:=by simp [qah,D.flat]
structure qck where
  Source:qaa
  qac:List SBus
deriving DecidableEq
structure qbi where
  qa1:qck
  Ties:List STie
deriving DecidableEq
def qiq (x:Int):List D:=[.int .u8 x]
@[simp] theorem eIntu8_len (x:Int):(qiq x).length = 1:=rfl
structure qbb where
  qad:List qaa
  qae:List qaa
  Rounds:Int
  qcj:Bool
deriving DecidableEq
def qa8 (x:qaa):List D:=[.cx .f32 x.A.re x.A.im,.cx .f32 x.B.re x.B.im,.cx .f32 x.C.re x.C.im]
@[simp] theorem eSPhases_len (x:qaa):(qa8 x).length = 3:=rfl
theorem qca (x:qaa):∀ c ∈ qa8 x,c.flat:=by simp [qa8,D.flat]
def qbm (x:qbb):List D:=[.sl false (x.qad.map qa8),.sl false (x.qae.map qa8),.int .i64 x.Rounds,.bool x.qcj]
@[simp] theorem eSFlow_len (x:qbb):(qbm x).length = 4:=rfl
structure qc7 where
  Grid:qbi
  qce:List qbb
deriving DecidableEq
structure qaz where
  s:Str
  at_:Int
  short:Bool
deriving DecidableEq
theorem qug {x:Int} (hx:x.toNat < 4294967296):qmp prog 172 [.d (.int .u32 x)] (.d (.fl .f32 (canon .f32 x.toNat))):=qta (e:=Extern.MathFloatBits.float32frombits) func172 rfl rfl (by kernel_rfl) (by kernel_rfl) fun W hb H ok vals h=>frombits_run (k:=.f32) (fun _=>rfl) hx h
theorem quh {x:Nat} (hx:isnan .f32 x = false):qmp prog 173 [.d (.fl .f32 x)] (.d (.int .u32 x)):=qta (e:=Extern.MathFloatBits.float32bits) func173 rfl rfl (by kernel_rfl) (by kernel_rfl) fun W hb H ok vals h=>bits_run (fun _=>rfl) hx h
def qg3 (n:Nat) (e_:qb0) (size_:Int) (v14:Int):Option (Int × qb0) :=
  some (v14,(qb0.mk e_.text (w64 (e_.at_ + size_)) e_.fine))
def qcg (n:Nat) (e_:qb0) (size_:Int):Nat→Int→Int→Option (Int × qb0)
  | 0,_,_=>none
  | m22 + 1,v17,v18 =>
    if v18 ≥ (0:Int) then
      (getI e_.text (w64 (e_.at_ + v18))).bind fun x25 =>
      (qcg n e_ size_ m22) (qj6 .or .i64 (w64 (v17 * 2 ^ min (8:Int).toNat (IntKind.bits .i64))) (w64 ((x25.toNat:Int)))) (w64 (v18 - (1:Int)))
    else
      qg3 n e_ size_ v17
def qaj (n:Nat) (e_:qb0) (size_:Int):Option (Int × qb0) :=
  if (w64 (e_.at_ + size_)) > (e_.text.length:Int) then
    some ((0:Int),(qb0.mk e_.text e_.at_ false))
  else
    qcg n e_ size_ n (0:Int) (w64 (size_ - (1:Int)))
theorem spec_l10Eyes_word_ok_fr0 (fr:Bool) (n:Nat) (e_:qb0) (size_:Int) {r:Int × qb0} (h:qaj n e_ size_ = some r):qb5 prog fr 73 [.ptr 0 0,.d (.int .i64 size_)] [.box [.d (.str (bstr e_.text)),.d (.int .i64 e_.at_),.d (.bool e_.fine)]] (fun v o new=>v = .d (.int .i64 r.1)∧o = [.box [.d (.str (bstr r.2.text)),.d (.int .i64 r.2.at_),.d (.bool r.2.fine)]]∧new = []):=by
  refine qar hτ func73 rfl (by simp) (by simp) ?_
  unfold qaj at h
  refine qa5 ?_
  refine qa2 ?_
  refine qa0 hτ rfl rfl rfl ?_
  refine qa4 ?_
  refine qa5 ?_
  refine qa2 ?_
  refine qa0 hτ rfl rfl rfl ?_
  refine qa4 ?_
  refine qa5 ?_
  refine qa5 ?_
  refine qc9 ?_
  refine qa7 hτ [] 0 rfl rfl rfl rfl rfl ?_
  refine qa7 hτ [] 1 rfl rfl rfl rfl rfl ?_
  refine qa7 hτ [0] 2 rfl rfl rfl rfl rfl ?_
  refine qa7 hτ [0] 3 rfl rfl rfl rfl rfl ?_
  refine qa7 hτ [] 4 rfl rfl rfl rfl rfl ?_
  refine qa7 hτ [] 5 rfl rfl rfl rfl rfl ?_
  refine qa7 hτ [] 6 rfl rfl rfl rfl rfl ?_
  refine qa7 hτ [] 7 rfl rfl rfl rfl rfl ?_
  refine qa7 hτ [0] 8 rfl rfl rfl rfl rfl ?_
  refine qa7 hτ [0] 9 rfl rfl rfl rfl rfl ?_
  refine qa7 hτ [] 10 rfl rfl rfl rfl rfl ?_
  refine qa7 hτ [] 11 rfl rfl rfl rfl rfl ?_
  refine qbp mixed (by kernel_rfl) ?_
  refine qa9 (qa3 [0] (l:=[(0,.ptr 0 0),(1,.d (.int .i64 size_)),(5,.d (.int .i64 (0:Int))),(18,.d (.bool (decide ((w64 (e_.at_ + size_)) > (e_.text.length:Int)))))]) (objs:=[.box [.d (.str (bstr e_.text)),.d (.int .i64 e_.at_),.d (.bool e_.fine)]]) rfl (by simp) rfl (by trivial) ⟨rfl,trivial,rfl,trivial,rfl,trivial,rfl,trivial,trivial⟩) ?_
  refine qau rfl (fun hc7=>?_) (fun hc7=>?_)
  · have h:=if_t h hc7
    refine qa5 ?_
    refine qa2 ?_
    refine qa0 hτ rfl rfl rfl ?_
    refine qa0 hτ rfl rfl rfl ?_
    refine qa0 hτ rfl rfl rfl ?_
    refine qaq hτ rfl rfl rfl ?_
    refine qa4 ?_
    refine qa5 ?_
    refine qa2 ?_
    refine qa0 hτ rfl rfl rfl ?_
    refine qa4 ?_
    refine qa9 (qa3 [0] (l:=[(4,.d (.int .i64 (0:Int)))]) (objs:=[.box [.d (.str (bstr e_.text)),.d (.int .i64 e_.at_),.d (.bool false)]]) rfl (by simp) rfl (by trivial) ⟨rfl,trivial,trivial⟩) ?_
    refine qas ?_
    have hr:=Option.some.inj h
    subst hr
    exact qaf (.inr rfl) [] (objs':=[.box [.d (.str (bstr e_.text)),.d (.int .i64 e_.at_),.d (.bool false)]]) (new:=[]) rfl (by simp) (by simp) rfl (by trivial) rfl rfl (by trivial) (fun _=>⟨by simp [V.flat,V.qb2,V.qay,D.flat],(qb8 (by simp [AObj.flat,V.qay,D.flat]) qai)⟩) ⟨rfl,rfl,rfl⟩
  · have h:=if_f h hc7
    refine qav ?_
    refine qd1 (ι:=Int) (fun v14=>St.of [(0,.ptr 0 0),(1,.d (.int .i64 size_)),(5,.d (.int .i64 v14))] [.box [.d (.str (bstr e_.text)),.d (.int .i64 e_.at_),.d (.bool e_.fine)]] f73.ntmps 1) (fun v14=>qg3 n e_ size_ v14 = some r) ?_ (fun hk15=>?_)
    · rintro v14 h
      replace h:qg3 n e_ size_ v14 = some r:=h
      unfold qg3 at h
      refine qa5 ?_
      refine qa2 ?_
      refine qa0 hτ rfl rfl rfl ?_
      refine qa0 hτ rfl rfl rfl ?_
      refine qa0 hτ rfl rfl rfl ?_
      refine qa0 hτ rfl rfl rfl ?_
      refine qa0 hτ rfl rfl rfl ?_
      refine qa0 hτ rfl rfl rfl ?_
      refine qa0 hτ rfl rfl rfl ?_
      refine qa0 hτ rfl rfl rfl ?_
      refine qaq hτ rfl rfl rfl ?_
      refine qa4 ?_
      refine qa5 ?_
      refine qa9 (qa3 [0] (l:=[(5,.d (.int .i64 v14))]) (objs:=[.box [.d (.str (bstr e_.text)),.d (.int .i64 (w64 (e_.at_ + size_))),.d (.bool e_.fine)]]) rfl (by simp) rfl (by trivial) ⟨rfl,trivial,trivial⟩) ?_
      refine qa2 ?_
      refine qa0 hτ rfl rfl rfl ?_
      refine qa0 hτ rfl rfl rfl ?_
      refine qa4 ?_
      refine qa9 (qa3 [0] (l:=[(4,.d (.int .i64 v14))]) (objs:=[.box [.d (.str (bstr e_.text)),.d (.int .i64 (w64 (e_.at_ + size_))),.d (.bool e_.fine)]]) rfl (by simp) rfl (by trivial) ⟨rfl,trivial,trivial⟩) ?_
      refine qas ?_
      have hr:=Option.some.inj h
      subst hr
      exact qaf (.inr rfl) [] (objs':=[.box [.d (.str (bstr e_.text)),.d (.int .i64 (w64 (e_.at_ + size_))),.d (.bool e_.fine)]]) (new:=[]) rfl (by simp) (by simp) rfl (by trivial) rfl rfl (by trivial) (fun _=>⟨by simp [V.flat,V.qb2,V.qay,D.flat],(qb8 (by simp [AObj.flat,V.qay,D.flat]) qai)⟩) ⟨rfl,rfl,rfl⟩
    · refine qa5 ?_
      refine qa5 ?_
      refine qa2 ?_
      refine qa0 hτ rfl rfl rfl ?_
      refine qa0 hτ rfl rfl rfl ?_
      refine qa0 hτ rfl rfl rfl ?_
      refine qa4 ?_
      refine qb6 ?_
      refine qe1 (ι:=Nat × Int × Int) (fun (m22,v17,v18)=>St.of [(0,.ptr 0 0),(1,.d (.int .i64 size_)),(5,.d (.int .i64 v17)),(6,.d (.int .i64 v18))] [.box [.d (.str (bstr e_.text)),.d (.int .i64 e_.at_),.d (.bool e_.fine)]] f73.ntmps 1) (fun (m22,v17,v18)=>qcg n e_ size_ m22 v17 v18 = some r) (fun x=>x.1) (n,(0:Int),(w64 (size_ - (1:Int)))) h (qa3 [0] (l:=[(0,.ptr 0 0),(1,.d (.int .i64 size_)),(5,.d (.int .i64 (0:Int))),(6,.d (.int .i64 (w64 (size_ - (1:Int)))))]) (objs:=[.box [.d (.str (bstr e_.text)),.d (.int .i64 e_.at_),.d (.bool e_.fine)]]) rfl (by simp) rfl (by trivial) ⟨rfl,trivial,rfl,trivial,rfl,trivial,rfl,trivial,trivial⟩) ?_
      rintro ⟨m22,v17,v18⟩ h
      replace h:qcg n e_ size_ m22 v17 v18 = some r:=h
      rcases m22 with _ | m22
      · rw [qcg] at h;cases h
      rw [qcg] at h
      refine qa5 ?_
      refine qa5 ?_
      refine qa2 ?_
      refine qa0 hτ rfl rfl rfl ?_
      refine qa0 hτ rfl rfl rfl ?_
      refine qa4 ?_
      refine qau rfl (fun hc24=>?_) (fun hc24=>?_)
      · have h:=if_t h hc24
        refine qav ?_
        refine qa5 ?_
        refine qb6 ?_
        refine qc9 ?_
        refine qa7 hτ [] 0 rfl rfl rfl rfl rfl ?_
        refine qcz hτ [] 1 rfl rfl rfl rfl rfl (by decide) ?_
        refine qa7 hτ [] 2 rfl rfl rfl rfl rfl ?_
        refine qa7 hτ [] 3 rfl rfl rfl rfl rfl ?_
        refine qa7 hτ [0] 4 rfl rfl rfl rfl rfl ?_
        refine qa7 hτ [0] 5 rfl rfl rfl rfl rfl ?_
        refine qa7 hτ [] 6 rfl rfl rfl rfl rfl ?_
        refine qa7 hτ [] 7 rfl rfl rfl rfl rfl ?_
        refine qa7 hτ [0] 8 rfl rfl rfl rfl rfl ?_
        refine qa7 hτ [0] 9 rfl rfl rfl rfl rfl ?_
        refine qa7 hτ [] 10 rfl rfl rfl rfl rfl ?_
        refine qa7 hτ [] 11 rfl rfl rfl rfl rfl ?_
        refine qab h fun x25 hx25 h=>?_
        refine qcz hτ (v:=.d (.int .u8 (x25.toNat:Int))) [] 12 rfl rfl rfl rfl (Eq.trans rfl (qpi hx25)) (qls hx25) ?_
        refine qa7 hτ [] 13 rfl rfl rfl rfl rfl ?_
        refine qa7 hτ [] 14 rfl rfl rfl rfl rfl ?_
        refine qa7 hτ [] 15 rfl rfl rfl rfl rfl ?_
        refine qbp mixed (by kernel_rfl) ?_
        refine qa9 (qa3 [0] (l:=[(0,.ptr 0 0),(1,.d (.int .i64 size_)),(5,.d (.int .i64 (qj6 .or .i64 (w64 (v17 * 2 ^ min (8:Int).toNat (IntKind.bits .i64))) (w64 ((x25.toNat:Int)))))),(6,.d (.int .i64 v18))]) (objs:=[.box [.d (.str (bstr e_.text)),.d (.int .i64 e_.at_),.d (.bool e_.fine)]]) rfl (by simp) rfl (by trivial) ⟨rfl,trivial,rfl,trivial,rfl,trivial,rfl,trivial,trivial⟩) ?_
        refine qa2 ?_
        refine qa0 hτ rfl rfl rfl ?_
        refine qa0 hτ rfl rfl rfl ?_
        refine qa0 hτ rfl rfl rfl ?_
        refine qa4 ?_
        exact ⟨(m22,(qj6 .or .i64 (w64 (v17 * 2 ^ min (8:Int).toNat (IntKind.bits .i64))) (w64 ((x25.toNat:Int)))),(w64 (v18 - (1:Int)))),h,Nat.lt_succ_self m22,(qa3 [0] (l:=[(0,.ptr 0 0),(1,.d (.int .i64 size_)),(5,.d (.int .i64 (qj6 .or .i64 (w64 (v17 * 2 ^ min (8:Int).toNat (IntKind.bits .i64))) (w64 ((x25.toNat:Int)))))),(6,.d (.int .i64 (w64 (v18 - (1:Int)))))]) (objs:=[.box [.d (.str (bstr e_.text)),.d (.int .i64 e_.at_),.d (.bool e_.fine)]]) rfl (by simp) rfl (by trivial) ⟨rfl,trivial,rfl,trivial,rfl,trivial,rfl,trivial,trivial⟩)⟩
      · have h:=if_f h hc24
        refine qdv ?_
        refine qa9 (qa3 [0] (l:=[(0,.ptr 0 0),(1,.d (.int .i64 size_)),(5,.d (.int .i64 v17))]) (objs:=[.box [.d (.str (bstr e_.text)),.d (.int .i64 e_.at_),.d (.bool e_.fine)]]) rfl (by simp) rfl (by trivial) ⟨rfl,trivial,rfl,trivial,rfl,trivial,trivial⟩) ?_
        exact hk15 v17 h
theorem qbq (n:Nat) (e_:qb0) (size_:Int) {r:Int × qb0} (h:qaj n e_ size_ = some r):qb5 prog false 73 [.ptr 0 0,.d (.int .i64 size_)] [.box [.d (.str (bstr e_.text)),.d (.int .i64 e_.at_),.d (.bool e_.fine)]] (fun v o new=>v = .d (.int .i64 r.1)∧o = [.box [.d (.str (bstr r.2.text)),.d (.int .i64 r.2.at_),.d (.bool r.2.fine)]]∧new = []):=spec_l10Eyes_word_ok_fr0 false n e_ size_ h
def qcx (n:Nat) (n_:Int):Option Nat :=
  grd ((IntKind.wrap .u32 (n_)).toNat < 4294967296) <|
  some (canon .f32 (IntKind.wrap .u32 (n_)).toNat)
theorem spec_l01From_ok_fr0 (fr:Bool) (n:Nat) (n_:Int) {r:Nat} (h:qcx n n_ = some r):qb5 prog fr 152 [.d (.int .i64 n_)] [] (fun v o new=>v = .d (.fl .f32 r)∧o = []∧new = []):=by
  refine qar hτ func152 rfl (by simp) (by simp) ?_
  unfold qcx at h
  refine qa5 ?_
  refine qa2 ?_
  refine qa0 hτ rfl rfl rfl ?_
  refine qa4 ?_
  refine qa5 ?_
  refine qa2 ?_
  refine qa0 hτ rfl rfl rfl ?_
  refine qa0 hτ rfl rfl rfl ?_
  refine qbh h fun hg2 h=>?_
  refine qp1 hτ rfl rfl rfl (qug hg2) ?_
  refine qa0 hτ rfl rfl rfl ?_
  refine qa4 ?_
  refine qa9 (qa3 [] (l:=[(2,.d (.fl .f32 (canon .f32 (IntKind.wrap .u32 (n_)).toNat)))]) (objs:=[]) rfl (by simp) rfl (by trivial) ⟨rfl,trivial,trivial⟩) ?_
  refine qas ?_
  have hr:=Option.some.inj h
  subst hr
  exact qaf (.inr rfl) [] (objs':=[]) (new:=[]) rfl (by simp) (by simp) rfl (by trivial) rfl rfl (by trivial) (fun _=>⟨by simp [V.flat,V.qb2,V.qay,D.flat],qai⟩) ⟨rfl,rfl,rfl⟩
theorem qkr (n:Nat) (n_:Int) {r:Nat} (h:qcx n n_ = some r):qb5 prog false 152 [.d (.int .i64 n_)] [] (fun v o new=>v = .d (.fl .f32 r)∧o = []∧new = []):=spec_l01From_ok_fr0 false n n_ h
def qaw (n:Nat) (e_:qb0):Option (Cx × qb0) :=
  (qaj n e_ (4:Int)).bind fun x5 =>
  (qaj n x5.2 (4:Int)).bind fun x6 =>
  (qcx n x5.1).bind fun x7 =>
  (qcx n x6.1).bind fun x8 =>
  some ((Cx.mk x7 x8),x6.2)
theorem spec_l10Eyes_number_ok_fr0 (fr:Bool) (n:Nat) (e_:qb0) {r:Cx × qb0} (h:qaw n e_ = some r):qb5 prog fr 116 [.ptr 0 0] [.box [.d (.str (bstr e_.text)),.d (.int .i64 e_.at_),.d (.bool e_.fine)]] (fun v o new=>v = .d (.cx .f32 r.1.re r.1.im)∧o = [.box [.d (.str (bstr r.2.text)),.d (.int .i64 r.2.at_),.d (.bool r.2.fine)]]∧new = []):=by
  refine qar hτ func116 rfl (by simp) (by simp) ?_
  unfold qaw at h
  refine qa5 ?_
  refine qa2 ?_
  refine qa0 hτ rfl rfl rfl ?_
  refine qa4 ?_
  refine qa5 ?_
  refine qa2 ?_
  refine qa0 hτ rfl rfl rfl ?_
  refine qab h fun x5 hx5 h=>?_
  refine qam hτ false [0] rfl rfl rfl (qap func73 rfl rfl) rfl rfl (by simp) ⟨trivial,trivial,trivial⟩ (by trivial) (qbq n e_ (4:Int) hx5) ?_
  rintro r0 o0 n0 ⟨rfl,rfl,rfl⟩ -
  refine qa0 hτ rfl rfl rfl ?_
  refine qa4 ?_
  refine qa5 ?_
  refine qa2 ?_
  refine qa0 hτ rfl rfl rfl ?_
  refine qab h fun x6 hx6 h=>?_
  refine qam hτ false [0] rfl rfl rfl (qap func73 rfl rfl) rfl rfl (by simp) ⟨trivial,trivial,trivial⟩ (by trivial) (qbq n x5.2 (4:Int) hx6) ?_
  rintro r0 o0 n0 ⟨rfl,rfl,rfl⟩ -
  refine qa0 hτ rfl rfl rfl ?_
  refine qa4 ?_
  refine qa5 ?_
  refine qa9 (qa3 [0] (l:=[(3,.d (.int .i64 x5.1)),(4,.d (.int .i64 x6.1))]) (objs:=[.box [.d (.str (bstr x6.2.text)),.d (.int .i64 x6.2.at_),.d (.bool x6.2.fine)]]) rfl (by simp) rfl (by trivial) ⟨rfl,trivial,rfl,trivial,trivial⟩) ?_
  refine qa2 ?_
  refine qa0 hτ rfl rfl rfl ?_
  refine qab h fun x7 hx7 h=>?_
  refine qam hτ false [] rfl rfl rfl (qap func152 rfl rfl) rfl rfl (by simp) ⟨trivial,trivial⟩ (by trivial) (qkr n x5.1 hx7) ?_
  rintro r0 o0 n0 ⟨rfl,rfl,rfl⟩ -
  refine qa0 hτ rfl rfl rfl ?_
  refine qab h fun x8 hx8 h=>?_
  refine qam hτ false [] rfl rfl rfl (qap func152 rfl rfl) rfl rfl (by simp) ⟨trivial,trivial⟩ (by trivial) (qkr n x6.1 hx8) ?_
  rintro r0 o0 n0 ⟨rfl,rfl,rfl⟩ -
  refine qa0 hτ rfl rfl rfl ?_
  refine qa0 hτ rfl rfl rfl ?_
  refine qa4 ?_
  refine qa9 (qa3 [0] (l:=[(2,.d (.cx .f32 x7 x8))]) (objs:=[.box [.d (.str (bstr x6.2.text)),.d (.int .i64 x6.2.at_),.d (.bool x6.2.fine)]]) rfl (by simp) rfl (by trivial) ⟨rfl,trivial,trivial⟩) ?_
  refine qas ?_
  have hr:=Option.some.inj h
  subst hr
  exact qaf (.inr rfl) [] (objs':=[.box [.d (.str (bstr x6.2.text)),.d (.int .i64 x6.2.at_),.d (.bool x6.2.fine)]]) (new:=[]) rfl (by simp) (by simp) rfl (by trivial) rfl rfl (by trivial) (fun _=>⟨by simp [V.flat,V.qb2,V.qay,D.flat],(qb8 (by simp [AObj.flat,V.qay,D.flat]) qai)⟩) ⟨rfl,rfl,rfl⟩
theorem qcy (n:Nat) (e_:qb0) {r:Cx × qb0} (h:qaw n e_ = some r):qb5 prog false 116 [.ptr 0 0] [.box [.d (.str (bstr e_.text)),.d (.int .i64 e_.at_),.d (.bool e_.fine)]] (fun v o new=>v = .d (.cx .f32 r.1.re r.1.im)∧o = [.box [.d (.str (bstr r.2.text)),.d (.int .i64 r.2.at_),.d (.bool r.2.fine)]]∧new = []):=spec_l10Eyes_number_ok_fr0 false n e_ h
def qba (n:Nat) (e_:qb0):Option (qaa × qb0) :=
  (qaw n e_).bind fun x4 =>
  (qaw n x4.2).bind fun x5 =>
  (qaw n x5.2).bind fun x6 =>
  some ((qaa.mk x4.1 x5.1 x6.1),x6.2)
theorem spec_l10Eyes_phases_ok_fr0 (fr:Bool) (n:Nat) (e_:qb0) {r:qaa × qb0} (h:qba n e_ = some r):qb5 prog fr 72 [.ptr 0 0] [.box [.d (.str (bstr e_.text)),.d (.int .i64 e_.at_),.d (.bool e_.fine)]] (fun v o new=>v = .agg [.d (.cx .f32 r.1.A.re r.1.A.im),.d (.cx .f32 r.1.B.re r.1.B.im),.d (.cx .f32 r.1.C.re r.1.C.im)]∧o = [.box [.d (.str (bstr r.2.text)),.d (.int .i64 r.2.at_),.d (.bool r.2.fine)]]∧new = []):=by
  refine qar hτ func72 rfl (by simp) (by simp) ?_
  unfold qba at h
  refine qa5 ?_
  refine qa2 ?_
  refine qaq hτ rfl rfl rfl ?_
  refine qa4 ?_
  refine qa5 ?_
  refine qa2 ?_
  refine qa0 hτ rfl rfl rfl ?_
  refine qab h fun x4 hx4 h=>?_
  refine qam hτ false [0] rfl rfl rfl (qap func116 rfl rfl) rfl rfl (by simp) ⟨trivial,trivial⟩ (by trivial) (qcy n e_ hx4) ?_
  rintro r0 o0 n0 ⟨rfl,rfl,rfl⟩ -
  refine qa0 hτ rfl rfl rfl ?_
  refine qaq hτ rfl rfl rfl ?_
  refine qaq hτ rfl rfl rfl ?_
  refine qa4 ?_
  refine qa5 ?_
  refine qa9 (qa3 [0,1,2] (l:=[(0,.ptr 0 0),(2,.ptr 1 0),(3,.ptr 2 0)]) (objs:=[.box [.d (.str (bstr x4.2.text)),.d (.int .i64 x4.2.at_),.d (.bool x4.2.fine)],.box [.d (.cx .f32 (0:Nat) (0:Nat)),.d (.cx .f32 (0:Nat) (0:Nat)),.d (.cx .f32 (0:Nat) (0:Nat))],.box [.d (.cx .f32 x4.1.re x4.1.im),.d (.cx .f32 (0:Nat) (0:Nat)),.d (.cx .f32 (0:Nat) (0:Nat))]]) rfl (by simp) rfl (by trivial) ⟨rfl,trivial,rfl,trivial,rfl,trivial,trivial⟩) ?_
  refine qa2 ?_
  refine qa0 hτ rfl rfl rfl ?_
  refine qab h fun x5 hx5 h=>?_
  refine qam hτ false [0] rfl rfl rfl (qap func116 rfl rfl) rfl rfl (by simp) ⟨trivial,trivial⟩ (by trivial) (qcy n x4.2 hx5) ?_
  rintro r0 o0 n0 ⟨rfl,rfl,rfl⟩ -
  refine qa0 hτ rfl rfl rfl ?_
  refine qaq hτ rfl rfl rfl ?_
  refine qa4 ?_
  refine qa5 ?_
  refine qa2 ?_
  refine qa0 hτ rfl rfl rfl ?_
  refine qab h fun x6 hx6 h=>?_
  refine qam hτ false [0] rfl rfl rfl (qap func116 rfl rfl) rfl rfl (by simp) ⟨trivial,trivial⟩ (by trivial) (qcy n x5.2 hx6) ?_
  rintro r0 o0 n0 ⟨rfl,rfl,rfl⟩ -
  refine qa0 hτ rfl rfl rfl ?_
  refine qaq hτ rfl rfl rfl ?_
  refine qa4 ?_
  refine qa5 ?_
  refine qa9 (qa3 [0,1,2] (l:=[(2,.ptr 1 0),(3,.ptr 2 0)]) (objs:=[.box [.d (.str (bstr x6.2.text)),.d (.int .i64 x6.2.at_),.d (.bool x6.2.fine)],.box [.d (.cx .f32 (0:Nat) (0:Nat)),.d (.cx .f32 (0:Nat) (0:Nat)),.d (.cx .f32 (0:Nat) (0:Nat))],.box [.d (.cx .f32 x4.1.re x4.1.im),.d (.cx .f32 x5.1.re x5.1.im),.d (.cx .f32 x6.1.re x6.1.im)]]) rfl (by simp) rfl (by trivial) ⟨rfl,trivial,rfl,trivial,trivial⟩) ?_
  refine qa2 ?_
  refine qa0 hτ rfl rfl rfl ?_
  refine qaq hτ rfl rfl rfl ?_
  refine qa4 ?_
  refine qa9 (qa3 [0,1] (l:=[(2,.ptr 1 0)]) (objs:=[.box [.d (.str (bstr x6.2.text)),.d (.int .i64 x6.2.at_),.d (.bool x6.2.fine)],.box [.d (.cx .f32 x4.1.re x4.1.im),.d (.cx .f32 x5.1.re x5.1.im),.d (.cx .f32 x6.1.re x6.1.im)]]) rfl (by simp) rfl (by trivial) ⟨rfl,trivial,trivial⟩) ?_
  refine qas ?_
  have hr:=Option.some.inj h
  subst hr
  exact qaf (.inr rfl) [] (objs':=[.box [.d (.str (bstr x6.2.text)),.d (.int .i64 x6.2.at_),.d (.bool x6.2.fine)]]) (new:=[]) rfl (by simp) (by simp) rfl (by trivial) rfl rfl (by trivial) (fun _=>⟨by simp [V.flat,V.qb2,V.qay,D.flat],(qb8 (by simp [AObj.flat,V.qay,D.flat]) qai)⟩) ⟨rfl,rfl,rfl⟩
theorem qg4 (n:Nat) (e_:qb0) {r:qaa × qb0} (h:qba n e_ = some r):qb5 prog false 72 [.ptr 0 0] [.box [.d (.str (bstr e_.text)),.d (.int .i64 e_.at_),.d (.bool e_.fine)]] (fun v o new=>v = .agg [.d (.cx .f32 r.1.A.re r.1.A.im),.d (.cx .f32 r.1.B.re r.1.B.im),.d (.cx .f32 r.1.C.re r.1.C.im)]∧o = [.box [.d (.str (bstr r.2.text)),.d (.int .i64 r.2.at_),.d (.bool r.2.fine)]]∧new = []):=spec_l10Eyes_phases_ok_fr0 false n e_ h
def qdt (n:Nat) (e_:qb0):Option (SBus × qb0) :=
  (qaj n e_ (1:Int)).bind fun x7 =>
  (qaw n x7.2).bind fun x8 =>
  (qaw n x8.2).bind fun x9 =>
  (qaj n x9.2 (1:Int)).bind fun x10 =>
  (qba n x10.2).bind fun x11 =>
  (qaj n x11.2 (4:Int)).bind fun x12 =>
  some ((SBus.mk (w64 (x7.1 - (1:Int))) x8.1 x9.1 x10.1 x11.1 x12.1),x12.2)
theorem spec_l10Eyes_bus_ok_fr0 (fr:Bool) (n:Nat) (e_:qb0) {r:SBus × qb0} (h:qdt n e_ = some r):qb5 prog fr 74 [.ptr 0 0] [.box [.d (.str (bstr e_.text)),.d (.int .i64 e_.at_),.d (.bool e_.fine)]] (fun v o new=>v = .agg [.d (.int .i64 r.1.qag),.d (.cx .f32 r.1.Own.re r.1.Own.im),.d (.cx .f32 r.1.Shared.re r.1.Shared.im),.d (.int .i64 r.1.Kind),.d (.cx .f32 r.1.Load.A.re r.1.Load.A.im),.d (.cx .f32 r.1.Load.B.re r.1.Load.B.im),.d (.cx .f32 r.1.Load.C.re r.1.Load.C.im),.d (.int .i64 r.1.qa6)]∧o = [.box [.d (.str (bstr r.2.text)),.d (.int .i64 r.2.at_),.d (.bool r.2.fine)]]∧new = []):=by
  refine qar hτ func74 rfl (by simp) (by simp) ?_
  unfold qdt at h
  refine qa5 ?_
  refine qa2 ?_
  refine qaq hτ rfl rfl rfl ?_
  refine qa4 ?_
  refine qa5 ?_
  refine qa2 ?_
  refine qa0 hτ rfl rfl rfl ?_
  refine qab h fun x7 hx7 h=>?_
  refine qam hτ false [0] rfl rfl rfl (qap func73 rfl rfl) rfl rfl (by simp) ⟨trivial,trivial,trivial⟩ (by trivial) (qbq n e_ (1:Int) hx7) ?_
  rintro r0 o0 n0 ⟨rfl,rfl,rfl⟩ -
  refine qa0 hτ rfl rfl rfl ?_
  refine qa0 hτ rfl rfl rfl ?_
  refine qaq hτ rfl rfl rfl ?_
  refine qaq hτ rfl rfl rfl ?_
  refine qa4 ?_
  refine qa5 ?_
  refine qa9 (qa3 [0,1,2] (l:=[(0,.ptr 0 0),(2,.ptr 1 0),(3,.ptr 2 0)]) (objs:=[.box [.d (.str (bstr x7.2.text)),.d (.int .i64 x7.2.at_),.d (.bool x7.2.fine)],.box [.d (.int .i64 (0:Int)),.d (.cx .f32 (0:Nat) (0:Nat)),.d (.cx .f32 (0:Nat) (0:Nat)),.d (.int .i64 (0:Int)),.d (.cx .f32 (0:Nat) (0:Nat)),.d (.cx .f32 (0:Nat) (0:Nat)),.d (.cx .f32 (0:Nat) (0:Nat)),.d (.int .i64 (0:Int))],.box [.d (.int .i64 (w64 (x7.1 - (1:Int)))),.d (.cx .f32 (0:Nat) (0:Nat)),.d (.cx .f32 (0:Nat) (0:Nat)),.d (.int .i64 (0:Int)),.d (.cx .f32 (0:Nat) (0:Nat)),.d (.cx .f32 (0:Nat) (0:Nat)),.d (.cx .f32 (0:Nat) (0:Nat)),.d (.int .i64 (0:Int))]]) rfl (by simp) rfl (by trivial) ⟨rfl,trivial,rfl,trivial,rfl,trivial,trivial⟩) ?_
  refine qa2 ?_
  refine qa0 hτ rfl rfl rfl ?_
  refine qab h fun x8 hx8 h=>?_
  refine qam hτ false [0] rfl rfl rfl (qap func116 rfl rfl) rfl rfl (by simp) ⟨trivial,trivial⟩ (by trivial) (qcy n x7.2 hx8) ?_
  rintro r0 o0 n0 ⟨rfl,rfl,rfl⟩ -
  refine qa0 hτ rfl rfl rfl ?_
  refine qaq hτ rfl rfl rfl ?_
  refine qa4 ?_
  refine qa5 ?_
  refine qa2 ?_
  refine qa0 hτ rfl rfl rfl ?_
  refine qab h fun x9 hx9 h=>?_
  refine qam hτ false [0] rfl rfl rfl (qap func116 rfl rfl) rfl rfl (by simp) ⟨trivial,trivial⟩ (by trivial) (qcy n x8.2 hx9) ?_
  rintro r0 o0 n0 ⟨rfl,rfl,rfl⟩ -
  refine qa0 hτ rfl rfl rfl ?_
  refine qaq hτ rfl rfl rfl ?_
  refine qa4 ?_
  refine qa5 ?_
  refine qa9 (qa3 [0,1,2] (l:=[(0,.ptr 0 0),(2,.ptr 1 0),(3,.ptr 2 0)]) (objs:=[.box [.d (.str (bstr x9.2.text)),.d (.int .i64 x9.2.at_),.d (.bool x9.2.fine)],.box [.d (.int .i64 (0:Int)),.d (.cx .f32 (0:Nat) (0:Nat)),.d (.cx .f32 (0:Nat) (0:Nat)),.d (.int .i64 (0:Int)),.d (.cx .f32 (0:Nat) (0:Nat)),.d (.cx .f32 (0:Nat) (0:Nat)),.d (.cx .f32 (0:Nat) (0:Nat)),.d (.int .i64 (0:Int))],.box [.d (.int .i64 (w64 (x7.1 - (1:Int)))),.d (.cx .f32 x8.1.re x8.1.im),.d (.cx .f32 x9.1.re x9.1.im),.d (.int .i64 (0:Int)),.d (.cx .f32 (0:Nat) (0:Nat)),.d (.cx .f32 (0:Nat) (0:Nat)),.d (.cx .f32 (0:Nat) (0:Nat)),.d (.int .i64 (0:Int))]]) rfl (by simp) rfl (by trivial) ⟨rfl,trivial,rfl,trivial,rfl,trivial,trivial⟩) ?_
  refine qa2 ?_
  refine qa0 hτ rfl rfl rfl ?_
  refine qab h fun x10 hx10 h=>?_
  refine qam hτ false [0] rfl rfl rfl (qap func73 rfl rfl) rfl rfl (by simp) ⟨trivial,trivial,trivial⟩ (by trivial) (qbq n x9.2 (1:Int) hx10) ?_
  rintro r0 o0 n0 ⟨rfl,rfl,rfl⟩ -
  refine qa0 hτ rfl rfl rfl ?_
  refine qaq hτ rfl rfl rfl ?_
  refine qa4 ?_
  refine qa5 ?_
  refine qa2 ?_
  refine qa0 hτ rfl rfl rfl ?_
  refine qab h fun x11 hx11 h=>?_
  refine qam hτ false [0] rfl rfl rfl (qap func72 rfl rfl) rfl rfl (by simp) ⟨trivial,trivial⟩ (by trivial) (qg4 n x10.2 hx11) ?_
  rintro r0 o0 n0 ⟨rfl,rfl,rfl⟩ -
  refine qa0 hτ rfl rfl rfl ?_
  refine qaq hτ rfl rfl rfl ?_
  refine qa4 ?_
  refine qa5 ?_
  refine qa9 (qa3 [0,1,2] (l:=[(0,.ptr 0 0),(2,.ptr 1 0),(3,.ptr 2 0)]) (objs:=[.box [.d (.str (bstr x11.2.text)),.d (.int .i64 x11.2.at_),.d (.bool x11.2.fine)],.box [.d (.int .i64 (0:Int)),.d (.cx .f32 (0:Nat) (0:Nat)),.d (.cx .f32 (0:Nat) (0:Nat)),.d (.int .i64 (0:Int)),.d (.cx .f32 (0:Nat) (0:Nat)),.d (.cx .f32 (0:Nat) (0:Nat)),.d (.cx .f32 (0:Nat) (0:Nat)),.d (.int .i64 (0:Int))],.box [.d (.int .i64 (w64 (x7.1 - (1:Int)))),.d (.cx .f32 x8.1.re x8.1.im),.d (.cx .f32 x9.1.re x9.1.im),.d (.int .i64 x10.1),.d (.cx .f32 x11.1.A.re x11.1.A.im),.d (.cx .f32 x11.1.B.re x11.1.B.im),.d (.cx .f32 x11.1.C.re x11.1.C.im),.d (.int .i64 (0:Int))]]) rfl (by simp) rfl (by trivial) ⟨rfl,trivial,rfl,trivial,rfl,trivial,trivial⟩) ?_
  refine qa2 ?_
  refine qa0 hτ rfl rfl rfl ?_
  refine qab h fun x12 hx12 h=>?_
  refine qam hτ false [0] rfl rfl rfl (qap func73 rfl rfl) rfl rfl (by simp) ⟨trivial,trivial,trivial⟩ (by trivial) (qbq n x11.2 (4:Int) hx12) ?_
  rintro r0 o0 n0 ⟨rfl,rfl,rfl⟩ -
  refine qa0 hτ rfl rfl rfl ?_
  refine qaq hτ rfl rfl rfl ?_
  refine qa4 ?_
  refine qa5 ?_
  refine qa2 ?_
  refine qa0 hτ rfl rfl rfl ?_
  refine qaq hτ rfl rfl rfl ?_
  refine qa4 ?_
  refine qa9 (qa3 [0,1] (l:=[(2,.ptr 1 0)]) (objs:=[.box [.d (.str (bstr x12.2.text)),.d (.int .i64 x12.2.at_),.d (.bool x12.2.fine)],.box [.d (.int .i64 (w64 (x7.1 - (1:Int)))),.d (.cx .f32 x8.1.re x8.1.im),.d (.cx .f32 x9.1.re x9.1.im),.d (.int .i64 x10.1),.d (.cx .f32 x11.1.A.re x11.1.A.im),.d (.cx .f32 x11.1.B.re x11.1.B.im),.d (.cx .f32 x11.1.C.re x11.1.C.im),.d (.int .i64 x12.1)]]) rfl (by simp) rfl (by trivial) ⟨rfl,trivial,trivial⟩) ?_
  refine qas ?_
  have hr:=Option.some.inj h
  subst hr
  exact qaf (.inr rfl) [] (objs':=[.box [.d (.str (bstr x12.2.text)),.d (.int .i64 x12.2.at_),.d (.bool x12.2.fine)]]) (new:=[]) rfl (by simp) (by simp) rfl (by trivial) rfl rfl (by trivial) (fun _=>⟨by simp [V.flat,V.qb2,V.qay,D.flat],(qb8 (by simp [AObj.flat,V.qay,D.flat]) qai)⟩) ⟨rfl,rfl,rfl⟩
theorem spec_l10Eyes_bus_ok (n:Nat) (e_:qb0) {r:SBus × qb0} (h:qdt n e_ = some r):qb5 prog false 74 [.ptr 0 0] [.box [.d (.str (bstr e_.text)),.d (.int .i64 e_.at_),.d (.bool e_.fine)]] (fun v o new=>v = .agg [.d (.int .i64 r.1.qag),.d (.cx .f32 r.1.Own.re r.1.Own.im),.d (.cx .f32 r.1.Shared.re r.1.Shared.im),.d (.int .i64 r.1.Kind),.d (.cx .f32 r.1.Load.A.re r.1.Load.A.im),.d (.cx .f32 r.1.Load.B.re r.1.Load.B.im),.d (.cx .f32 r.1.Load.C.re r.1.Load.C.im),.d (.int .i64 r.1.qa6)]∧o = [.box [.d (.str (bstr r.2.text)),.d (.int .i64 r.2.at_),.d (.bool r.2.fine)]]∧new = []):=spec_l10Eyes_bus_ok_fr0 false n e_ h
def qdu (n:Nat) (e_:qb0):Option (STie × qb0) :=
  (qaj n e_ (1:Int)).bind fun x6 =>
  (qaj n x6.2 (1:Int)).bind fun x7 =>
  (qaw n x7.2).bind fun x8 =>
  (qaw n x8.2).bind fun x9 =>
  (qaj n x9.2 (4:Int)).bind fun x10 =>
  some ((STie.mk x6.1 x7.1 x8.1 x9.1 x10.1),x10.2)
theorem spec_l10Eyes_tie_ok_fr0 (fr:Bool) (n:Nat) (e_:qb0) {r:STie × qb0} (h:qdu n e_ = some r):qb5 prog fr 75 [.ptr 0 0] [.box [.d (.str (bstr e_.text)),.d (.int .i64 e_.at_),.d (.bool e_.fine)]] (fun v o new=>v = .agg [.d (.int .i64 r.1.A),.d (.int .i64 r.1.B),.d (.cx .f32 r.1.Own.re r.1.Own.im),.d (.cx .f32 r.1.Shared.re r.1.Shared.im),.d (.int .i64 r.1.Most)]∧o = [.box [.d (.str (bstr r.2.text)),.d (.int .i64 r.2.at_),.d (.bool r.2.fine)]]∧new = []):=by
  refine qar hτ func75 rfl (by simp) (by simp) ?_
  unfold qdu at h
  refine qa5 ?_
  refine qa2 ?_
  refine qaq hτ rfl rfl rfl ?_
  refine qa4 ?_
  refine qa5 ?_
  refine qa2 ?_
  refine qa0 hτ rfl rfl rfl ?_
  refine qab h fun x6 hx6 h=>?_
  refine qam hτ false [0] rfl rfl rfl (qap func73 rfl rfl) rfl rfl (by simp) ⟨trivial,trivial,trivial⟩ (by trivial) (qbq n e_ (1:Int) hx6) ?_
  rintro r0 o0 n0 ⟨rfl,rfl,rfl⟩ -
  refine qa0 hτ rfl rfl rfl ?_
  refine qaq hτ rfl rfl rfl ?_
  refine qaq hτ rfl rfl rfl ?_
  refine qa4 ?_
  refine qa5 ?_
  refine qa9 (qa3 [0,1,2] (l:=[(0,.ptr 0 0),(2,.ptr 1 0),(3,.ptr 2 0)]) (objs:=[.box [.d (.str (bstr x6.2.text)),.d (.int .i64 x6.2.at_),.d (.bool x6.2.fine)],.box [.d (.int .i64 (0:Int)),.d (.int .i64 (0:Int)),.d (.cx .f32 (0:Nat) (0:Nat)),.d (.cx .f32 (0:Nat) (0:Nat)),.d (.int .i64 (0:Int))],.box [.d (.int .i64 x6.1),.d (.int .i64 (0:Int)),.d (.cx .f32 (0:Nat) (0:Nat)),.d (.cx .f32 (0:Nat) (0:Nat)),.d (.int .i64 (0:Int))]]) rfl (by simp) rfl (by trivial) ⟨rfl,trivial,rfl,trivial,rfl,trivial,trivial⟩) ?_
  refine qa2 ?_
  refine qa0 hτ rfl rfl rfl ?_
  refine qab h fun x7 hx7 h=>?_
  refine qam hτ false [0] rfl rfl rfl (qap func73 rfl rfl) rfl rfl (by simp) ⟨trivial,trivial,trivial⟩ (by trivial) (qbq n x6.2 (1:Int) hx7) ?_
  rintro r0 o0 n0 ⟨rfl,rfl,rfl⟩ -
  refine qa0 hτ rfl rfl rfl ?_
  refine qaq hτ rfl rfl rfl ?_
  refine qa4 ?_
  refine qa5 ?_
  refine qa2 ?_
  refine qa0 hτ rfl rfl rfl ?_
  refine qab h fun x8 hx8 h=>?_
  refine qam hτ false [0] rfl rfl rfl (qap func116 rfl rfl) rfl rfl (by simp) ⟨trivial,trivial⟩ (by trivial) (qcy n x7.2 hx8) ?_
  rintro r0 o0 n0 ⟨rfl,rfl,rfl⟩ -
  refine qa0 hτ rfl rfl rfl ?_
  refine qaq hτ rfl rfl rfl ?_
  refine qa4 ?_
  refine qa5 ?_
  refine qa9 (qa3 [0,1,2] (l:=[(0,.ptr 0 0),(2,.ptr 1 0),(3,.ptr 2 0)]) (objs:=[.box [.d (.str (bstr x8.2.text)),.d (.int .i64 x8.2.at_),.d (.bool x8.2.fine)],.box [.d (.int .i64 (0:Int)),.d (.int .i64 (0:Int)),.d (.cx .f32 (0:Nat) (0:Nat)),.d (.cx .f32 (0:Nat) (0:Nat)),.d (.int .i64 (0:Int))],.box [.d (.int .i64 x6.1),.d (.int .i64 x7.1),.d (.cx .f32 x8.1.re x8.1.im),.d (.cx .f32 (0:Nat) (0:Nat)),.d (.int .i64 (0:Int))]]) rfl (by simp) rfl (by trivial) ⟨rfl,trivial,rfl,trivial,rfl,trivial,trivial⟩) ?_
  refine qa2 ?_
  refine qa0 hτ rfl rfl rfl ?_
  refine qab h fun x9 hx9 h=>?_
  refine qam hτ false [0] rfl rfl rfl (qap func116 rfl rfl) rfl rfl (by simp) ⟨trivial,trivial⟩ (by trivial) (qcy n x8.2 hx9) ?_
  rintro r0 o0 n0 ⟨rfl,rfl,rfl⟩ -
  refine qa0 hτ rfl rfl rfl ?_
  refine qaq hτ rfl rfl rfl ?_
  refine qa4 ?_
  refine qa5 ?_
  refine qa2 ?_
  refine qa0 hτ rfl rfl rfl ?_
  refine qab h fun x10 hx10 h=>?_
  refine qam hτ false [0] rfl rfl rfl (qap func73 rfl rfl) rfl rfl (by simp) ⟨trivial,trivial,trivial⟩ (by trivial) (qbq n x9.2 (4:Int) hx10) ?_
  rintro r0 o0 n0 ⟨rfl,rfl,rfl⟩ -
  refine qa0 hτ rfl rfl rfl ?_
  refine qaq hτ rfl rfl rfl ?_
  refine qa4 ?_
  refine qa5 ?_
  refine qa9 (qa3 [0,1,2] (l:=[(2,.ptr 1 0),(3,.ptr 2 0)]) (objs:=[.box [.d (.str (bstr x10.2.text)),.d (.int .i64 x10.2.at_),.d (.bool x10.2.fine)],.box [.d (.int .i64 (0:Int)),.d (.int .i64 (0:Int)),.d (.cx .f32 (0:Nat) (0:Nat)),.d (.cx .f32 (0:Nat) (0:Nat)),.d (.int .i64 (0:Int))],.box [.d (.int .i64 x6.1),.d (.int .i64 x7.1),.d (.cx .f32 x8.1.re x8.1.im),.d (.cx .f32 x9.1.re x9.1.im),.d (.int .i64 x10.1)]]) rfl (by simp) rfl (by trivial) ⟨rfl,trivial,rfl,trivial,trivial⟩) ?_
  refine qa2 ?_
  refine qa0 hτ rfl rfl rfl ?_
  refine qaq hτ rfl rfl rfl ?_
  refine qa4 ?_
  refine qa9 (qa3 [0,1] (l:=[(2,.ptr 1 0)]) (objs:=[.box [.d (.str (bstr x10.2.text)),.d (.int .i64 x10.2.at_),.d (.bool x10.2.fine)],.box [.d (.int .i64 x6.1),.d (.int .i64 x7.1),.d (.cx .f32 x8.1.re x8.1.im),.d (.cx .f32 x9.1.re x9.1.im),.d (.int .i64 x10.1)]]) rfl (by simp) rfl (by trivial) ⟨rfl,trivial,trivial⟩) ?_
  refine qas ?_
  have hr:=Option.some.inj h
  subst hr
  exact qaf (.inr rfl) [] (objs':=[.box [.d (.str (bstr x10.2.text)),.d (.int .i64 x10.2.at_),.d (.bool x10.2.fine)]]) (new:=[]) rfl (by simp) (by simp) rfl (by trivial) rfl rfl (by trivial) (fun _=>⟨by simp [V.flat,V.qb2,V.qay,D.flat],(qb8 (by simp [AObj.flat,V.qay,D.flat]) qai)⟩) ⟨rfl,rfl,rfl⟩
theorem spec_l10Eyes_tie_ok (n:Nat) (e_:qb0) {r:STie × qb0} (h:qdu n e_ = some r):qb5 prog false 75 [.ptr 0 0] [.box [.d (.str (bstr e_.text)),.d (.int .i64 e_.at_),.d (.bool e_.fine)]] (fun v o new=>v = .agg [.d (.int .i64 r.1.A),.d (.int .i64 r.1.B),.d (.cx .f32 r.1.Own.re r.1.Own.im),.d (.cx .f32 r.1.Shared.re r.1.Shared.im),.d (.int .i64 r.1.Most)]∧o = [.box [.d (.str (bstr r.2.text)),.d (.int .i64 r.2.at_),.d (.bool r.2.fine)]]∧new = []):=spec_l10Eyes_tie_ok_fr0 false n e_ h
def qfn (n:Nat) (n_:Int) (low_:Int) (high_:Int):Option Bool :=
  if n_ ≥ low_ then
    some (decide (n_ ≤ high_))
  else
    some false
theorem spec_l00In_ok_fr0 (fr:Bool) (n:Nat) (n_:Int) (low_:Int) (high_:Int) {r:Bool} (h:qfn n n_ low_ high_ = some r):qb5 prog fr 101 [.d (.int .i64 n_),.d (.int .i64 low_),.d (.int .i64 high_)] [] (fun v o new=>v = .d (.bool r)∧o = []∧new = []):=by
  refine qar hτ func101 rfl (by simp) (by simp) ?_
  unfold qfn at h
  refine qa5 ?_
  refine qa2 ?_
  refine qa0 hτ rfl rfl rfl ?_
  refine qa4 ?_
  refine qa5 ?_
  refine qa2 ?_
  refine qa0 hτ rfl rfl rfl ?_
  refine qa0 hτ rfl rfl rfl ?_
  refine qa0 hτ rfl rfl rfl ?_
  refine qa0 hτ rfl rfl rfl ?_
  refine qcm 10 rfl (fun hb3=>?_) (fun hb3=>?_)
  · have h:=if_t h hb3
    refine qa0 hτ rfl rfl rfl ?_
    refine qa0 hτ rfl rfl rfl ?_
    refine qa0 hτ rfl rfl rfl ?_
    refine qa0 hτ rfl rfl rfl ?_
    refine qa0 hτ rfl rfl rfl ?_
    refine qa4 ?_
    refine qa9 (qa3 [] (l:=[(6,.d (.bool (decide (n_ ≤ high_))))]) (objs:=[]) rfl (by simp) rfl (by trivial) ⟨rfl,trivial,trivial⟩) ?_
    refine qas ?_
    have hr:=Option.some.inj h
    subst hr
    exact qaf (.inr rfl) [] (objs':=[]) (new:=[]) rfl (by simp) (by simp) rfl (by trivial) rfl rfl (by trivial) (fun _=>⟨by simp [V.flat,V.qb2,V.qay,D.flat],qai⟩) ⟨rfl,rfl,rfl⟩
  · have h:=if_f h hb3
    refine qao rfl rfl ?_
    refine qao rfl rfl ?_
    refine qao rfl rfl ?_
    refine qa0 hτ rfl rfl rfl ?_
    refine qa0 hτ rfl rfl rfl ?_
    refine qa4 ?_
    refine qa9 (qa3 [] (l:=[(6,.d (.bool false))]) (objs:=[]) rfl (by simp) rfl (by trivial) ⟨rfl,trivial,trivial⟩) ?_
    refine qas ?_
    have hr:=Option.some.inj h
    subst hr
    exact qaf (.inr rfl) [] (objs':=[]) (new:=[]) rfl (by simp) (by simp) rfl (by trivial) rfl rfl (by trivial) (fun _=>⟨by simp [V.flat,V.qb2,V.qay,D.flat],qai⟩) ⟨rfl,rfl,rfl⟩
theorem qim (n:Nat) (n_:Int) (low_:Int) (high_:Int) {r:Bool} (h:qfn n n_ low_ high_ = some r):qb5 prog false 101 [.d (.int .i64 n_),.d (.int .i64 low_),.d (.int .i64 high_)] [] (fun v o new=>v = .d (.bool r)∧o = []∧new = []):=spec_l00In_ok_fr0 false n n_ low_ high_ h
def qh0 (n:Nat) (b_:SBus) (index_:Int):Option Bool :=
  if index_ = (0:Int) then
    if b_.qag = (-1:Int) then
      if (fcmp .eql .f32 b_.Own.re (0:Nat) && fcmp .eql .f32 b_.Own.im (0:Nat)) = true then
        some (fcmp .eql .f32 b_.Shared.re (0:Nat) && fcmp .eql .f32 b_.Shared.im (0:Nat))
      else
        some false
    else
      some false
  else
    (qfn n b_.qag (0:Int) (w64 (index_ - (1:Int)))).bind fun x21 =>
    some x21
def qg9 (n:Nat) (b_:SBus) (index_:Int) (v27:Bool):Option Bool :=
  if v27 = true then
    some false
  else
    qh0 n b_ index_
def qhq (n:Nat) (b_:SBus) (index_:Int):Option Bool :=
  (qfn n b_.Kind (0:Int) (2:Int)).bind fun x30 =>
  if x30 = true then
    (qfn n b_.qa6 (0:Int) (1000000:Int)).bind fun x32 =>
    qg9 n b_ index_ (!x32)
  else
    qg9 n b_ index_ true
theorem spec_l02Bus_ok_fr0 (fr:Bool) (n:Nat) (b_:SBus) (index_:Int) {r:Bool} (h:qhq n b_ index_ = some r):qb5 prog fr 99 [.rop [.int .i64 b_.qag,.cx .f32 b_.Own.re b_.Own.im,.cx .f32 b_.Shared.re b_.Shared.im,.int .i64 b_.Kind,.cx .f32 b_.Load.A.re b_.Load.A.im,.cx .f32 b_.Load.B.re b_.Load.B.im,.cx .f32 b_.Load.C.re b_.Load.C.im,.int .i64 b_.qa6] 0,.d (.int .i64 index_)] [] (fun v o new=>v = .d (.bool r)∧o = []∧new = []):=by
  refine qar hτ func99 rfl (by simp) (by simp) ?_
  unfold qhq at h
  refine qa5 ?_
  refine qa2 ?_
  refine qa0 hτ rfl rfl rfl ?_
  refine qa4 ?_
  refine qd1 (ι:=Unit) (fun _=>St.of [(0,.rop [.int .i64 b_.qag,.cx .f32 b_.Own.re b_.Own.im,.cx .f32 b_.Shared.re b_.Shared.im,.int .i64 b_.Kind,.cx .f32 b_.Load.A.re b_.Load.A.im,.cx .f32 b_.Load.B.re b_.Load.B.im,.cx .f32 b_.Load.C.re b_.Load.C.im,.int .i64 b_.qa6] 0),(1,.d (.int .i64 index_))] [] f99.ntmps 0) (fun _=>qh0 n b_ index_ = some r) ?_ (fun hk22=>?_)
  · rintro ⟨⟩ h
    replace h:qh0 n b_ index_ = some r:=h
    unfold qh0 at h
    refine qa5 ?_
    refine qa5 ?_
    refine qa2 ?_
    refine qa0 hτ rfl rfl rfl ?_
    refine qa0 hτ (v:=.d (.bool (decide (index_ = (0:Int))))) rfl rfl (qom _ _) ?_
    refine qa4 ?_
    refine qau rfl (fun hc18=>?_) (fun hc18=>?_)
    · have h:=if_t h hc18
      refine qa5 ?_
      refine qa2 ?_
      refine qa0 hτ rfl rfl rfl ?_
      refine qa0 hτ rfl rfl rfl ?_
      refine qa0 hτ rfl rfl rfl ?_
      refine qa0 hτ rfl rfl rfl ?_
      refine qa0 hτ (v:=.d (.bool (decide (b_.qag = (-1:Int))))) rfl rfl (qom _ _) ?_
      refine qa0 hτ rfl rfl rfl ?_
      refine qcm 26 rfl (fun hb19=>?_) (fun hb19=>?_)
      · have h:=if_t h hb19
        refine qa0 hτ rfl rfl rfl ?_
        refine qa0 hτ rfl rfl rfl ?_
        refine qa0 hτ rfl rfl rfl ?_
        refine qa0 hτ rfl rfl rfl ?_
        refine qbn (qa3 [] (l:=[(0,.rop [.int .i64 b_.qag,.cx .f32 b_.Own.re b_.Own.im,.cx .f32 b_.Shared.re b_.Shared.im,.int .i64 b_.Kind,.cx .f32 b_.Load.A.re b_.Load.A.im,.cx .f32 b_.Load.B.re b_.Load.B.im,.cx .f32 b_.Load.C.re b_.Load.C.im,.int .i64 b_.qa6] 0),(26,.d (.bool true)),(30,.d (.cx .f32 b_.Own.re b_.Own.im))]) (objs:=[]) rfl (by simp) rfl (by trivial) ⟨rfl,trivial,rfl,trivial,rfl,trivial,trivial⟩) ?_
        refine qa0 hτ rfl rfl rfl ?_
        refine qa0 hτ rfl rfl rfl ?_
        refine qa0 hτ rfl rfl rfl ?_
        refine qcm 33 rfl (fun hb20=>?_) (fun hb20=>?_)
        · have h:=qci h hb20
          refine qa0 hτ rfl rfl rfl ?_
          refine qa0 hτ rfl rfl rfl ?_
          refine qa0 hτ rfl rfl rfl ?_
          refine qa0 hτ rfl rfl rfl ?_
          refine qa0 hτ rfl rfl rfl ?_
          refine qa0 hτ rfl rfl rfl ?_
          refine qa0 hτ rfl rfl rfl ?_
          refine qa4 ?_
          refine qa9 (qa3 [] (l:=[(4,.d (.bool (fcmp .eql .f32 b_.Shared.re (0:Nat) && fcmp .eql .f32 b_.Shared.im (0:Nat))))]) (objs:=[]) rfl (by simp) rfl (by trivial) ⟨rfl,trivial,trivial⟩) ?_
          refine qas ?_
          have hr:=Option.some.inj h
          subst hr
          exact qaf (.inr rfl) [] (objs':=[]) (new:=[]) rfl (by simp) (by simp) rfl (by trivial) rfl rfl (by trivial) (fun _=>⟨by simp [V.flat,V.qb2,V.qay,D.flat],qai⟩) ⟨rfl,rfl,rfl⟩
        · have h:=qch h hb20
          refine qao rfl rfl ?_
          refine qao rfl rfl ?_
          refine qao rfl rfl ?_
          refine qao rfl rfl ?_
          refine qao rfl rfl ?_
          refine qa0 hτ rfl rfl rfl ?_
          refine qa0 hτ rfl rfl rfl ?_
          refine qa4 ?_
          refine qa9 (qa3 [] (l:=[(4,.d (.bool false))]) (objs:=[]) rfl (by simp) rfl (by trivial) ⟨rfl,trivial,trivial⟩) ?_
          refine qas ?_
          have hr:=Option.some.inj h
          subst hr
          exact qaf (.inr rfl) [] (objs':=[]) (new:=[]) rfl (by simp) (by simp) rfl (by trivial) rfl rfl (by trivial) (fun _=>⟨by simp [V.flat,V.qb2,V.qay,D.flat],qai⟩) ⟨rfl,rfl,rfl⟩
      · have h:=if_f h hb19
        refine qao rfl rfl ?_
        refine qao rfl rfl ?_
        refine qao rfl rfl ?_
        refine qao rfl rfl ?_
        refine qbn (qa3 [] (l:=[(0,.rop [.int .i64 b_.qag,.cx .f32 b_.Own.re b_.Own.im,.cx .f32 b_.Shared.re b_.Shared.im,.int .i64 b_.Kind,.cx .f32 b_.Load.A.re b_.Load.A.im,.cx .f32 b_.Load.B.re b_.Load.B.im,.cx .f32 b_.Load.C.re b_.Load.C.im,.int .i64 b_.qa6] 0),(26,.d (.bool false)),(30,.und)]) (objs:=[]) rfl (by simp) rfl (by trivial) ⟨rfl,trivial,rfl,trivial,rfl,trivial,trivial⟩) ?_
        refine qao rfl rfl ?_
        refine qa0 hτ rfl rfl rfl ?_
        refine qa0 hτ rfl rfl rfl ?_
        refine qao rfl rfl ?_
        refine qao rfl rfl ?_
        refine qao rfl rfl ?_
        refine qao rfl rfl ?_
        refine qao rfl rfl ?_
        refine qa0 hτ rfl rfl rfl ?_
        refine qa0 hτ rfl rfl rfl ?_
        refine qa4 ?_
        refine qa9 (qa3 [] (l:=[(4,.d (.bool false))]) (objs:=[]) rfl (by simp) rfl (by trivial) ⟨rfl,trivial,trivial⟩) ?_
        refine qas ?_
        have hr:=Option.some.inj h
        subst hr
        exact qaf (.inr rfl) [] (objs':=[]) (new:=[]) rfl (by simp) (by simp) rfl (by trivial) rfl rfl (by trivial) (fun _=>⟨by simp [V.flat,V.qb2,V.qay,D.flat],qai⟩) ⟨rfl,rfl,rfl⟩
    · have h:=if_f h hc18
      refine qav ?_
      refine qa5 ?_
      refine qa2 ?_
      refine qa0 hτ rfl rfl rfl ?_
      refine qa0 hτ rfl rfl rfl ?_
      refine qa0 hτ rfl rfl rfl ?_
      refine qa0 hτ rfl rfl rfl ?_
      refine qa0 hτ rfl rfl rfl ?_
      refine qa0 hτ rfl rfl rfl ?_
      refine qab h fun x21 hx21 h=>?_
      refine qam hτ false [] rfl rfl rfl (qap func101 rfl rfl) rfl rfl (by simp) ⟨trivial,trivial,trivial,trivial⟩ (by trivial) (qim n b_.qag (0:Int) (w64 (index_ - (1:Int))) hx21) ?_
      rintro r0 o0 n0 ⟨rfl,rfl,rfl⟩ -
      refine qa0 hτ rfl rfl rfl ?_
      refine qa4 ?_
      refine qa9 (qa3 [] (l:=[(4,.d (.bool x21))]) (objs:=[]) rfl (by simp) rfl (by trivial) ⟨rfl,trivial,trivial⟩) ?_
      refine qas ?_
      have hr:=Option.some.inj h
      subst hr
      exact qaf (.inr rfl) [] (objs':=[]) (new:=[]) rfl (by simp) (by simp) rfl (by trivial) rfl rfl (by trivial) (fun _=>⟨by simp [V.flat,V.qb2,V.qay,D.flat],qai⟩) ⟨rfl,rfl,rfl⟩
  · refine qa5 ?_
    refine qd1 (ι:=Bool) (fun v27=>St.of [(0,.rop [.int .i64 b_.qag,.cx .f32 b_.Own.re b_.Own.im,.cx .f32 b_.Shared.re b_.Shared.im,.int .i64 b_.Kind,.cx .f32 b_.Load.A.re b_.Load.A.im,.cx .f32 b_.Load.B.re b_.Load.B.im,.cx .f32 b_.Load.C.re b_.Load.C.im,.int .i64 b_.qa6] 0),(1,.d (.int .i64 index_)),(18,.d (.bool v27))] [] f99.ntmps 0) (fun v27=>qg9 n b_ index_ v27 = some r) ?_ (fun hk29=>?_)
    · rintro v27 h
      replace h:qg9 n b_ index_ v27 = some r:=h
      unfold qg9 at h
      refine qau rfl (fun hc28=>?_) (fun hc28=>?_)
      · have h:=qci h hc28
        refine qa5 ?_
        refine qa2 ?_
        refine qa0 hτ rfl rfl rfl ?_
        refine qa4 ?_
        refine qa9 (qa3 [] (l:=[(4,.d (.bool false))]) (objs:=[]) rfl (by simp) rfl (by trivial) ⟨rfl,trivial,trivial⟩) ?_
        refine qas ?_
        have hr:=Option.some.inj h
        subst hr
        exact qaf (.inr rfl) [] (objs':=[]) (new:=[]) rfl (by simp) (by simp) rfl (by trivial) rfl rfl (by trivial) (fun _=>⟨by simp [V.flat,V.qb2,V.qay,D.flat],qai⟩) ⟨rfl,rfl,rfl⟩
      · have h:=qch h hc28
        refine qav ?_
        refine qa9 (qa3 [] (l:=[(0,.rop [.int .i64 b_.qag,.cx .f32 b_.Own.re b_.Own.im,.cx .f32 b_.Shared.re b_.Shared.im,.int .i64 b_.Kind,.cx .f32 b_.Load.A.re b_.Load.A.im,.cx .f32 b_.Load.B.re b_.Load.B.im,.cx .f32 b_.Load.C.re b_.Load.C.im,.int .i64 b_.qa6] 0),(1,.d (.int .i64 index_))]) (objs:=[]) rfl (by simp) rfl (by trivial) ⟨rfl,trivial,rfl,trivial,trivial⟩) ?_
        exact hk22 () h
    · refine qa5 ?_
      refine qa2 ?_
      refine qa0 hτ rfl rfl rfl ?_
      refine qa0 hτ rfl rfl rfl ?_
      refine qa0 hτ rfl rfl rfl ?_
      refine qa0 hτ rfl rfl rfl ?_
      refine qab h fun x30 hx30 h=>?_
      refine qam hτ false [] rfl rfl rfl (qap func101 rfl rfl) rfl rfl (by simp) ⟨trivial,trivial,trivial,trivial⟩ (by trivial) (qim n b_.Kind (0:Int) (2:Int) hx30) ?_
      rintro r0 o0 n0 ⟨rfl,rfl,rfl⟩ -
      refine qa0 hτ rfl rfl rfl ?_
      refine qa0 hτ rfl rfl rfl ?_
      refine qcm 11 rfl (fun hb31=>?_) (fun hb31=>?_)
      · have hb31:=qdd hb31
        have h:=qch h hb31
        refine qao rfl rfl ?_
        refine qao rfl rfl ?_
        refine qao rfl rfl ?_
        refine qao rfl rfl ?_
        refine qbn (qa3 [] (l:=[(0,.rop [.int .i64 b_.qag,.cx .f32 b_.Own.re b_.Own.im,.cx .f32 b_.Shared.re b_.Shared.im,.int .i64 b_.Kind,.cx .f32 b_.Load.A.re b_.Load.A.im,.cx .f32 b_.Load.B.re b_.Load.B.im,.cx .f32 b_.Load.C.re b_.Load.C.im,.int .i64 b_.qa6] 0),(1,.d (.int .i64 index_)),(11,.d (.bool true)),(15,.und)]) (objs:=[]) rfl (by simp) rfl (by trivial) ⟨rfl,trivial,rfl,trivial,rfl,trivial,rfl,trivial,trivial⟩) ?_
        refine qao rfl rfl ?_
        refine qao rfl rfl ?_
        refine qa0 hτ rfl rfl rfl ?_
        refine qa4 ?_
        refine qa9 (qa3 [] (l:=[(0,.rop [.int .i64 b_.qag,.cx .f32 b_.Own.re b_.Own.im,.cx .f32 b_.Shared.re b_.Shared.im,.int .i64 b_.Kind,.cx .f32 b_.Load.A.re b_.Load.A.im,.cx .f32 b_.Load.B.re b_.Load.B.im,.cx .f32 b_.Load.C.re b_.Load.C.im,.int .i64 b_.qa6] 0),(1,.d (.int .i64 index_)),(18,.d (.bool true))]) (objs:=[]) rfl (by simp) rfl (by trivial) ⟨rfl,trivial,rfl,trivial,rfl,trivial,trivial⟩) ?_
        exact hk29 true h
      · have hb31:=qdc hb31
        have h:=qci h hb31
        refine qa0 hτ rfl rfl rfl ?_
        refine qa0 hτ rfl rfl rfl ?_
        refine qa0 hτ rfl rfl rfl ?_
        refine qa0 hτ rfl rfl rfl ?_
        refine qbn (qa3 [] (l:=[(0,.rop [.int .i64 b_.qag,.cx .f32 b_.Own.re b_.Own.im,.cx .f32 b_.Shared.re b_.Shared.im,.int .i64 b_.Kind,.cx .f32 b_.Load.A.re b_.Load.A.im,.cx .f32 b_.Load.B.re b_.Load.B.im,.cx .f32 b_.Load.C.re b_.Load.C.im,.int .i64 b_.qa6] 0),(1,.d (.int .i64 index_)),(11,.d (.bool false)),(15,.d (.int .i64 b_.qa6))]) (objs:=[]) rfl (by simp) rfl (by trivial) ⟨rfl,trivial,rfl,trivial,rfl,trivial,rfl,trivial,trivial⟩) ?_
        refine qab h fun x32 hx32 h=>?_
        refine qam hτ false [] rfl rfl rfl (qap func101 rfl rfl) rfl rfl (by simp) ⟨trivial,trivial,trivial,trivial⟩ (by trivial) (qim n b_.qa6 (0:Int) (1000000:Int) hx32) ?_
        rintro r0 o0 n0 ⟨rfl,rfl,rfl⟩ -
        refine qa0 hτ rfl rfl rfl ?_
        refine qa0 hτ rfl rfl rfl ?_
        refine qa4 ?_
        refine qa9 (qa3 [] (l:=[(0,.rop [.int .i64 b_.qag,.cx .f32 b_.Own.re b_.Own.im,.cx .f32 b_.Shared.re b_.Shared.im,.int .i64 b_.Kind,.cx .f32 b_.Load.A.re b_.Load.A.im,.cx .f32 b_.Load.B.re b_.Load.B.im,.cx .f32 b_.Load.C.re b_.Load.C.im,.int .i64 b_.qa6] 0),(1,.d (.int .i64 index_)),(18,.d (.bool (!x32)))]) (objs:=[]) rfl (by simp) rfl (by trivial) ⟨rfl,trivial,rfl,trivial,rfl,trivial,trivial⟩) ?_
        exact hk29 (!x32) h
theorem spec_l02Bus_ok (n:Nat) (b_:SBus) (index_:Int) {r:Bool} (h:qhq n b_ index_ = some r):qb5 prog false 99 [.rop [.int .i64 b_.qag,.cx .f32 b_.Own.re b_.Own.im,.cx .f32 b_.Shared.re b_.Shared.im,.int .i64 b_.Kind,.cx .f32 b_.Load.A.re b_.Load.A.im,.cx .f32 b_.Load.B.re b_.Load.B.im,.cx .f32 b_.Load.C.re b_.Load.C.im,.int .i64 b_.qa6] 0,.d (.int .i64 index_)] [] (fun v o new=>v = .d (.bool r)∧o = []∧new = []):=spec_l02Bus_ok_fr0 false n b_ index_ h
def qeb (n:Nat) (f_:qbi):Nat→Int→Option Bool
  | 0,_=>none
  | m17 + 1,v13 =>
    if v13 < (f_.qa1.qac.length:Int) then
      (getI f_.qa1.qac v13).bind fun x22 =>
      (qhq n x22 v13).bind fun x23 =>
      if x23 = true then
        (qeb n f_ m17) (w64 (v13 + (1:Int)))
      else
        some false
    else
      some true
def qhr (n:Nat) (f_:qbi):Option Bool :=
  qeb n f_ n (0:Int)
def qfr (n:Nat) (f_:qbi) (v28:Bool):Option Bool :=
  if v28 = true then
    some false
  else
    qhr n f_
def qi2 (n:Nat) (f_:qbi):Option Bool :=
  if (f_.qa1.qac.length:Int) < (1:Int) then
    qfr n f_ true
  else
    qfr n f_ (decide ((f_.qa1.qac.length:Int) > (16:Int)))
theorem spec_l02Is_2_ok (n:Nat) (f_:qbi) {r:Bool} (h:qi2 n f_ = some r):qb5 prog false 55 [.ptr 0 0] [.box [.d (.cx .f32 f_.qa1.Source.A.re f_.qa1.Source.A.im),.d (.cx .f32 f_.qa1.Source.B.re f_.qa1.Source.B.im),.d (.cx .f32 f_.qa1.Source.C.re f_.qa1.Source.C.im),.d (.sl false (f_.qa1.qac.map qah)),.d (.sl false (f_.Ties.map qan))]] (fun v o new=>v = .d (.bool r)∧o = [.box [.d (.cx .f32 f_.qa1.Source.A.re f_.qa1.Source.A.im),.d (.cx .f32 f_.qa1.Source.B.re f_.qa1.Source.B.im),.d (.cx .f32 f_.qa1.Source.C.re f_.qa1.Source.C.im),.d (.sl false (f_.qa1.qac.map qah)),.d (.sl false (f_.Ties.map qan))]]∧new = []):=by
  refine qar hτ func55 rfl (by simp) (by simp) ?_
  unfold qi2 at h
  refine qa5 ?_
  refine qa2 ?_
  refine qa0 hτ rfl rfl rfl ?_
  refine qa4 ?_
  refine qd1 (ι:=Unit) (fun _=>St.of [(0,.ptr 0 0)] [.box [.d (.cx .f32 f_.qa1.Source.A.re f_.qa1.Source.A.im),.d (.cx .f32 f_.qa1.Source.B.re f_.qa1.Source.B.im),.d (.cx .f32 f_.qa1.Source.C.re f_.qa1.Source.C.im),.d (.sl false (f_.qa1.qac.map qah)),.d (.sl false (f_.Ties.map qan))]] f55.ntmps 1) (fun _=>qhr n f_ = some r) ?_ (fun hk25=>?_)
  · rintro ⟨⟩ h
    replace h:qhr n f_ = some r:=h
    unfold qhr at h
    refine qa5 ?_
    refine qa5 ?_
    refine qa2 ?_
    refine qa0 hτ rfl rfl rfl ?_
    refine qa4 ?_
    refine qb6 ?_
    refine qe1 (ι:=Nat × Int) (fun (m17,v13)=>St.of [(0,.ptr 0 0),(3,.d (.int .i64 v13))] [.box [.d (.cx .f32 f_.qa1.Source.A.re f_.qa1.Source.A.im),.d (.cx .f32 f_.qa1.Source.B.re f_.qa1.Source.B.im),.d (.cx .f32 f_.qa1.Source.C.re f_.qa1.Source.C.im),.d (.sl false (f_.qa1.qac.map qah)),.d (.sl false (f_.Ties.map qan))]] f55.ntmps 1) (fun (m17,v13)=>qeb n f_ m17 v13 = some r) (fun x=>x.1) (n,(0:Int)) h (qa3 [0] (l:=[(0,.ptr 0 0),(3,.d (.int .i64 (0:Int)))]) (objs:=[.box [.d (.cx .f32 f_.qa1.Source.A.re f_.qa1.Source.A.im),.d (.cx .f32 f_.qa1.Source.B.re f_.qa1.Source.B.im),.d (.cx .f32 f_.qa1.Source.C.re f_.qa1.Source.C.im),.d (.sl false (f_.qa1.qac.map qah)),.d (.sl false (f_.Ties.map qan))]]) rfl (by simp) rfl (by trivial) ⟨rfl,trivial,rfl,trivial,trivial⟩) ?_
    rintro ⟨m17,v13⟩ h
    replace h:qeb n f_ m17 v13 = some r:=h
    rcases m17 with _ | m17
    · rw [qeb] at h;cases h
    rw [qeb] at h
    refine qa5 ?_
    refine qa5 ?_
    refine qa2 ?_
    refine qa0 hτ rfl rfl rfl ?_
    refine qa0 hτ rfl rfl rfl ?_
    refine qa0 hτ rfl rfl rfl ?_
    refine qa0 hτ rfl rfl rfl ?_
    refine qa0 hτ rfl rfl rfl ?_
    refine qa0 hτ (v:=.d (.int .i64 (f_.qa1.qac.length:Int))) rfl rfl (Eq.trans rfl (qfo (f:=qah) f_.qa1.qac)) ?_
    refine qa0 hτ rfl rfl rfl ?_
    refine qa4 ?_
    refine qa9 (qa3 [0] (l:=[(0,.ptr 0 0),(3,.d (.int .i64 v13)),(24,.d (.bool (decide (v13 < (f_.qa1.qac.length:Int)))))]) (objs:=[.box [.d (.cx .f32 f_.qa1.Source.A.re f_.qa1.Source.A.im),.d (.cx .f32 f_.qa1.Source.B.re f_.qa1.Source.B.im),.d (.cx .f32 f_.qa1.Source.C.re f_.qa1.Source.C.im),.d (.sl false (f_.qa1.qac.map qah)),.d (.sl false (f_.Ties.map qan))]]) rfl (by simp) rfl (by trivial) ⟨rfl,trivial,rfl,trivial,rfl,trivial,trivial⟩) ?_
    refine qau rfl (fun hc19=>?_) (fun hc19=>?_)
    · have h:=if_t h hc19
      refine qav ?_
      refine qa5 ?_
      refine qb6 ?_
      refine qa5 ?_
      refine qa2 ?_
      refine qa0 hτ rfl rfl rfl ?_
      refine qa0 hτ rfl rfl rfl ?_
      refine qa0 hτ rfl rfl rfl ?_
      refine qa0 hτ rfl rfl rfl ?_
      refine qa0 hτ rfl rfl rfl ?_
      refine qab h fun x22 hx22 h=>?_
      refine qdw hτ rfl rfl rfl (qbo hx22).1 (qcd hx22) rfl ?_
      refine qa0 hτ rfl rfl rfl ?_
      refine qab h fun x23 hx23 h=>?_
      refine qam hτ false [] rfl rfl rfl (qap func99 rfl rfl) rfl rfl (by simp) ⟨trivial,trivial,trivial⟩ (by trivial) (spec_l02Bus_ok n x22 v13 hx23) ?_
      rintro r0 o0 n0 ⟨rfl,rfl,rfl⟩ -
      refine qa0 hτ rfl rfl rfl ?_
      refine qa4 ?_
      refine qa9 (qa3 [0] (l:=[(0,.ptr 0 0),(3,.d (.int .i64 v13)),(35,.d (.bool (!x23)))]) (objs:=[.box [.d (.cx .f32 f_.qa1.Source.A.re f_.qa1.Source.A.im),.d (.cx .f32 f_.qa1.Source.B.re f_.qa1.Source.B.im),.d (.cx .f32 f_.qa1.Source.C.re f_.qa1.Source.C.im),.d (.sl false (f_.qa1.qac.map qah)),.d (.sl false (f_.Ties.map qan))]]) rfl (by simp) rfl (by trivial) ⟨rfl,trivial,rfl,trivial,rfl,trivial,trivial⟩) ?_
      refine qau rfl (fun hc24=>?_) (fun hc24=>?_)
      · have hc24:=qdd hc24
        have h:=qch h hc24
        refine qa5 ?_
        refine qa2 ?_
        refine qa0 hτ rfl rfl rfl ?_
        refine qa4 ?_
        refine qa9 (qa3 [0] (l:=[(2,.d (.bool false))]) (objs:=[.box [.d (.cx .f32 f_.qa1.Source.A.re f_.qa1.Source.A.im),.d (.cx .f32 f_.qa1.Source.B.re f_.qa1.Source.B.im),.d (.cx .f32 f_.qa1.Source.C.re f_.qa1.Source.C.im),.d (.sl false (f_.qa1.qac.map qah)),.d (.sl false (f_.Ties.map qan))]]) rfl (by simp) rfl (by trivial) ⟨rfl,trivial,trivial⟩) ?_
        refine qas ?_
        have hr:=Option.some.inj h
        subst hr
        exact qaf (.inr rfl) [] (objs':=[.box [.d (.cx .f32 f_.qa1.Source.A.re f_.qa1.Source.A.im),.d (.cx .f32 f_.qa1.Source.B.re f_.qa1.Source.B.im),.d (.cx .f32 f_.qa1.Source.C.re f_.qa1.Source.C.im),.d (.sl false (f_.qa1.qac.map qah)),.d (.sl false (f_.Ties.map qan))]]) (new:=[]) rfl (by simp) (by simp) rfl (by trivial) rfl rfl (by trivial) (fun h=>nomatch h) ⟨rfl,rfl,rfl⟩
      · have hc24:=qdc hc24
        have h:=qci h hc24
        refine qav ?_
        refine qa2 ?_
        refine qa0 hτ rfl rfl rfl ?_
        refine qa0 hτ rfl rfl rfl ?_
        refine qa0 hτ rfl rfl rfl ?_
        refine qa4 ?_
        exact ⟨(m17,(w64 (v13 + (1:Int)))),h,Nat.lt_succ_self m17,(qa3 [0] (l:=[(0,.ptr 0 0),(3,.d (.int .i64 (w64 (v13 + (1:Int)))))]) (objs:=[.box [.d (.cx .f32 f_.qa1.Source.A.re f_.qa1.Source.A.im),.d (.cx .f32 f_.qa1.Source.B.re f_.qa1.Source.B.im),.d (.cx .f32 f_.qa1.Source.C.re f_.qa1.Source.C.im),.d (.sl false (f_.qa1.qac.map qah)),.d (.sl false (f_.Ties.map qan))]]) rfl (by simp) rfl (by trivial) ⟨rfl,trivial,rfl,trivial,trivial⟩)⟩
    · have h:=if_f h hc19
      refine qdv ?_
      refine qa5 ?_
      refine qa2 ?_
      refine qa0 hτ rfl rfl rfl ?_
      refine qa4 ?_
      refine qa9 (qa3 [0] (l:=[(2,.d (.bool true))]) (objs:=[.box [.d (.cx .f32 f_.qa1.Source.A.re f_.qa1.Source.A.im),.d (.cx .f32 f_.qa1.Source.B.re f_.qa1.Source.B.im),.d (.cx .f32 f_.qa1.Source.C.re f_.qa1.Source.C.im),.d (.sl false (f_.qa1.qac.map qah)),.d (.sl false (f_.Ties.map qan))]]) rfl (by simp) rfl (by trivial) ⟨rfl,trivial,trivial⟩) ?_
      refine qas ?_
      have hr:=Option.some.inj h
      subst hr
      exact qaf (.inr rfl) [] (objs':=[.box [.d (.cx .f32 f_.qa1.Source.A.re f_.qa1.Source.A.im),.d (.cx .f32 f_.qa1.Source.B.re f_.qa1.Source.B.im),.d (.cx .f32 f_.qa1.Source.C.re f_.qa1.Source.C.im),.d (.sl false (f_.qa1.qac.map qah)),.d (.sl false (f_.Ties.map qan))]]) (new:=[]) rfl (by simp) (by simp) rfl (by trivial) rfl rfl (by trivial) (fun h=>nomatch h) ⟨rfl,rfl,rfl⟩
  · refine qa5 ?_
    refine qd1 (ι:=Bool) (fun v28=>St.of [(0,.ptr 0 0),(17,.d (.bool v28))] [.box [.d (.cx .f32 f_.qa1.Source.A.re f_.qa1.Source.A.im),.d (.cx .f32 f_.qa1.Source.B.re f_.qa1.Source.B.im),.d (.cx .f32 f_.qa1.Source.C.re f_.qa1.Source.C.im),.d (.sl false (f_.qa1.qac.map qah)),.d (.sl false (f_.Ties.map qan))]] f55.ntmps 1) (fun v28=>qfr n f_ v28 = some r) ?_ (fun hk30=>?_)
    · rintro v28 h
      replace h:qfr n f_ v28 = some r:=h
      unfold qfr at h
      refine qau rfl (fun hc29=>?_) (fun hc29=>?_)
      · have h:=qci h hc29
        refine qa5 ?_
        refine qa2 ?_
        refine qa0 hτ rfl rfl rfl ?_
        refine qa4 ?_
        refine qa9 (qa3 [0] (l:=[(2,.d (.bool false))]) (objs:=[.box [.d (.cx .f32 f_.qa1.Source.A.re f_.qa1.Source.A.im),.d (.cx .f32 f_.qa1.Source.B.re f_.qa1.Source.B.im),.d (.cx .f32 f_.qa1.Source.C.re f_.qa1.Source.C.im),.d (.sl false (f_.qa1.qac.map qah)),.d (.sl false (f_.Ties.map qan))]]) rfl (by simp) rfl (by trivial) ⟨rfl,trivial,trivial⟩) ?_
        refine qas ?_
        have hr:=Option.some.inj h
        subst hr
        exact qaf (.inr rfl) [] (objs':=[.box [.d (.cx .f32 f_.qa1.Source.A.re f_.qa1.Source.A.im),.d (.cx .f32 f_.qa1.Source.B.re f_.qa1.Source.B.im),.d (.cx .f32 f_.qa1.Source.C.re f_.qa1.Source.C.im),.d (.sl false (f_.qa1.qac.map qah)),.d (.sl false (f_.Ties.map qan))]]) (new:=[]) rfl (by simp) (by simp) rfl (by trivial) rfl rfl (by trivial) (fun h=>nomatch h) ⟨rfl,rfl,rfl⟩
      · have h:=qch h hc29
        refine qav ?_
        refine qa9 (qa3 [0] (l:=[(0,.ptr 0 0)]) (objs:=[.box [.d (.cx .f32 f_.qa1.Source.A.re f_.qa1.Source.A.im),.d (.cx .f32 f_.qa1.Source.B.re f_.qa1.Source.B.im),.d (.cx .f32 f_.qa1.Source.C.re f_.qa1.Source.C.im),.d (.sl false (f_.qa1.qac.map qah)),.d (.sl false (f_.Ties.map qan))]]) rfl (by simp) rfl (by trivial) ⟨rfl,trivial,trivial⟩) ?_
        exact hk25 () h
    · refine qa5 ?_
      refine qa2 ?_
      refine qa0 hτ rfl rfl rfl ?_
      refine qa0 hτ rfl rfl rfl ?_
      refine qa0 hτ rfl rfl rfl ?_
      refine qa0 hτ rfl rfl rfl ?_
      refine qa0 hτ (v:=.d (.int .i64 (f_.qa1.qac.length:Int))) rfl rfl (Eq.trans rfl (qfo (f:=qah) f_.qa1.qac)) ?_
      refine qa0 hτ rfl rfl rfl ?_
      refine qa0 hτ rfl rfl rfl ?_
      refine qcm 10 rfl (fun hb31=>?_) (fun hb31=>?_)
      · have h:=if_t h hb31
        refine qao rfl rfl ?_
        refine qao rfl rfl ?_
        refine qao rfl rfl ?_
        refine qao rfl rfl ?_
        refine qbn (qa3 [0] (l:=[(0,.ptr 0 0),(10,.d (.bool true)),(14,.und)]) (objs:=[.box [.d (.cx .f32 f_.qa1.Source.A.re f_.qa1.Source.A.im),.d (.cx .f32 f_.qa1.Source.B.re f_.qa1.Source.B.im),.d (.cx .f32 f_.qa1.Source.C.re f_.qa1.Source.C.im),.d (.sl false (f_.qa1.qac.map qah)),.d (.sl false (f_.Ties.map qan))]]) rfl (by simp) rfl (by trivial) ⟨rfl,trivial,rfl,trivial,rfl,trivial,trivial⟩) ?_
        refine qao rfl rfl ?_
        refine qao rfl rfl ?_
        refine qa0 hτ rfl rfl rfl ?_
        refine qa4 ?_
        refine qa9 (qa3 [0] (l:=[(0,.ptr 0 0),(17,.d (.bool true))]) (objs:=[.box [.d (.cx .f32 f_.qa1.Source.A.re f_.qa1.Source.A.im),.d (.cx .f32 f_.qa1.Source.B.re f_.qa1.Source.B.im),.d (.cx .f32 f_.qa1.Source.C.re f_.qa1.Source.C.im),.d (.sl false (f_.qa1.qac.map qah)),.d (.sl false (f_.Ties.map qan))]]) rfl (by simp) rfl (by trivial) ⟨rfl,trivial,rfl,trivial,trivial⟩) ?_
        exact hk30 true h
      · have h:=if_f h hb31
        refine qa0 hτ rfl rfl rfl ?_
        refine qa0 hτ rfl rfl rfl ?_
        refine qa0 hτ rfl rfl rfl ?_
        refine qa0 hτ rfl rfl rfl ?_
        refine qbn (qa3 [0] (l:=[(0,.ptr 0 0),(10,.d (.bool false)),(14,.d (.sl false (f_.qa1.qac.map qah)))]) (objs:=[.box [.d (.cx .f32 f_.qa1.Source.A.re f_.qa1.Source.A.im),.d (.cx .f32 f_.qa1.Source.B.re f_.qa1.Source.B.im),.d (.cx .f32 f_.qa1.Source.C.re f_.qa1.Source.C.im),.d (.sl false (f_.qa1.qac.map qah)),.d (.sl false (f_.Ties.map qan))]]) rfl (by simp) rfl (by trivial) ⟨rfl,trivial,rfl,trivial,rfl,trivial,trivial⟩) ?_
        refine qa0 hτ (v:=.d (.int .i64 (f_.qa1.qac.length:Int))) rfl rfl (Eq.trans rfl (qfo (f:=qah) f_.qa1.qac)) ?_
        refine qa0 hτ rfl rfl rfl ?_
        refine qa0 hτ rfl rfl rfl ?_
        refine qa4 ?_
        refine qa9 (qa3 [0] (l:=[(0,.ptr 0 0),(17,.d (.bool (decide ((f_.qa1.qac.length:Int) > (16:Int)))))]) (objs:=[.box [.d (.cx .f32 f_.qa1.Source.A.re f_.qa1.Source.A.im),.d (.cx .f32 f_.qa1.Source.B.re f_.qa1.Source.B.im),.d (.cx .f32 f_.qa1.Source.C.re f_.qa1.Source.C.im),.d (.sl false (f_.qa1.qac.map qah)),.d (.sl false (f_.Ties.map qan))]]) rfl (by simp) rfl (by trivial) ⟨rfl,trivial,rfl,trivial,trivial⟩) ?_
        exact hk30 (decide ((f_.qa1.qac.length:Int) > (16:Int))) h
def qj3 (n:Nat) (f_:qbi) (bus_:Int):Option Bool :=
  (qfn n bus_ (0:Int) (w64 ((f_.qa1.qac.length:Int) - (1:Int)))).bind fun x2 =>
  some x2
theorem qlt (n:Nat) (f_:qbi) (bus_:Int) {r:Bool} (h:qj3 n f_ bus_ = some r):qb5 prog false 153 [.ptr 0 0,.d (.int .i64 bus_)] [.box [.d (.cx .f32 f_.qa1.Source.A.re f_.qa1.Source.A.im),.d (.cx .f32 f_.qa1.Source.B.re f_.qa1.Source.B.im),.d (.cx .f32 f_.qa1.Source.C.re f_.qa1.Source.C.im),.d (.sl false (f_.qa1.qac.map qah)),.d (.sl false (f_.Ties.map qan))]] (fun v o new=>v = .d (.bool r)∧o = [.box [.d (.cx .f32 f_.qa1.Source.A.re f_.qa1.Source.A.im),.d (.cx .f32 f_.qa1.Source.B.re f_.qa1.Source.B.im),.d (.cx .f32 f_.qa1.Source.C.re f_.qa1.Source.C.im),.d (.sl false (f_.qa1.qac.map qah)),.d (.sl false (f_.Ties.map qan))]]∧new = []):=by
  refine qar hτ func153 rfl (by simp) (by simp) ?_
  unfold qj3 at h
  refine qa5 ?_
  refine qa2 ?_
  refine qa0 hτ rfl rfl rfl ?_
  refine qa4 ?_
  refine qa5 ?_
  refine qa2 ?_
  refine qa0 hτ rfl rfl rfl ?_
  refine qa0 hτ rfl rfl rfl ?_
  refine qa0 hτ rfl rfl rfl ?_
  refine qa0 hτ rfl rfl rfl ?_
  refine qa0 hτ rfl rfl rfl ?_
  refine qa0 hτ (v:=.d (.int .i64 (f_.qa1.qac.length:Int))) rfl rfl (Eq.trans rfl (qfo (f:=qah) f_.qa1.qac)) ?_
  refine qa0 hτ rfl rfl rfl ?_
  refine qab h fun x2 hx2 h=>?_
  refine qam hτ false [] rfl rfl rfl (qap func101 rfl rfl) rfl rfl (by simp) ⟨trivial,trivial,trivial,trivial⟩ (by trivial) (qim n bus_ (0:Int) (w64 ((f_.qa1.qac.length:Int) - (1:Int))) hx2) ?_
  rintro r0 o0 n0 ⟨rfl,rfl,rfl⟩ -
  refine qa0 hτ rfl rfl rfl ?_
  refine qa4 ?_
  refine qa9 (qa3 [0] (l:=[(4,.d (.bool x2))]) (objs:=[.box [.d (.cx .f32 f_.qa1.Source.A.re f_.qa1.Source.A.im),.d (.cx .f32 f_.qa1.Source.B.re f_.qa1.Source.B.im),.d (.cx .f32 f_.qa1.Source.C.re f_.qa1.Source.C.im),.d (.sl false (f_.qa1.qac.map qah)),.d (.sl false (f_.Ties.map qan))]]) rfl (by simp) rfl (by trivial) ⟨rfl,trivial,trivial⟩) ?_
  refine qas ?_
  have hr:=Option.some.inj h
  subst hr
  exact qaf (.inr rfl) [] (objs':=[.box [.d (.cx .f32 f_.qa1.Source.A.re f_.qa1.Source.A.im),.d (.cx .f32 f_.qa1.Source.B.re f_.qa1.Source.B.im),.d (.cx .f32 f_.qa1.Source.C.re f_.qa1.Source.C.im),.d (.sl false (f_.qa1.qac.map qah)),.d (.sl false (f_.Ties.map qan))]]) (new:=[]) rfl (by simp) (by simp) rfl (by trivial) rfl rfl (by trivial) (fun h=>nomatch h) ⟨rfl,rfl,rfl⟩
def qil (n:Nat) (f_:qbi) (t_:STie):Option Bool :=
  (qj3 n f_ t_.A).bind fun x10 =>
  if x10 = true then
    (qj3 n f_ t_.B).bind fun x12 =>
    if x12 = true then
      if t_.A = t_.B then
        some false
      else
        (qfn n t_.Most (0:Int) (16000000:Int)).bind fun x15 =>
        some x15
    else
      some false
  else
    some false
theorem spec_l08Tie_ok (n:Nat) (f_:qbi) (t_:STie) {r:Bool} (h:qil n f_ t_ = some r):qb5 prog false 117 [.ptr 0 0,.rop [.int .i64 t_.A,.int .i64 t_.B,.cx .f32 t_.Own.re t_.Own.im,.cx .f32 t_.Shared.re t_.Shared.im,.int .i64 t_.Most] 0] [.box [.d (.cx .f32 f_.qa1.Source.A.re f_.qa1.Source.A.im),.d (.cx .f32 f_.qa1.Source.B.re f_.qa1.Source.B.im),.d (.cx .f32 f_.qa1.Source.C.re f_.qa1.Source.C.im),.d (.sl false (f_.qa1.qac.map qah)),.d (.sl false (f_.Ties.map qan))]] (fun v o new=>v = .d (.bool r)∧o = [.box [.d (.cx .f32 f_.qa1.Source.A.re f_.qa1.Source.A.im),.d (.cx .f32 f_.qa1.Source.B.re f_.qa1.Source.B.im),.d (.cx .f32 f_.qa1.Source.C.re f_.qa1.Source.C.im),.d (.sl false (f_.qa1.qac.map qah)),.d (.sl false (f_.Ties.map qan))]]∧new = []):=by
  refine qar hτ func117 rfl (by simp) (by simp) ?_
  unfold qil at h
  refine qa5 ?_
  refine qa2 ?_
  refine qa0 hτ rfl rfl rfl ?_
  refine qa4 ?_
  refine qa5 ?_
  refine qc9 ?_
  refine qa7 hτ [] 0 rfl rfl rfl rfl rfl ?_
  refine qa7 hτ [] 1 rfl rfl rfl rfl rfl ?_
  refine qa7 hτ [] 2 rfl rfl rfl rfl rfl ?_
  refine qa7 hτ [] 3 rfl rfl rfl rfl rfl ?_
  refine qa7 hτ [] 4 rfl rfl rfl rfl rfl ?_
  refine qab h fun x10 hx10 h=>?_
  refine qbf hτ false [0] [0] 5 rfl rfl rfl rfl (qap func153 rfl rfl) rfl rfl (by simp) ⟨trivial,trivial,trivial⟩ (by trivial) (qlt n f_ t_.A hx10) ⟨rfl,trivial⟩ ?_
  refine qa7 hτ [] 6 rfl rfl rfl rfl rfl ?_
  refine qga 11 rfl (fun hb11=>?_) (fun hb11=>?_)
  · have h:=qci h hb11
    refine qa7 hτ [] 7 rfl rfl rfl rfl rfl ?_
    refine qa7 hτ [] 8 rfl rfl rfl rfl rfl ?_
    refine qa7 hτ [] 9 rfl rfl rfl rfl rfl ?_
    refine qa7 hτ [] 10 rfl rfl rfl rfl rfl ?_
    refine qa7 hτ [] 11 rfl rfl rfl rfl rfl ?_
    refine qab h fun x12 hx12 h=>?_
    refine qbf hτ false [0] [0] 12 rfl rfl rfl rfl (qap func153 rfl rfl) rfl rfl (by simp) ⟨trivial,trivial,trivial⟩ (by trivial) (qlt n f_ t_.B hx12) ⟨rfl,trivial⟩ ?_
    refine qa7 hτ [] 13 rfl rfl rfl rfl rfl ?_
    refine qa7 hτ [] 14 rfl rfl rfl rfl rfl ?_
    refine qga 19 rfl (fun hb13=>?_) (fun hb13=>?_)
    · have h:=qci h hb13
      refine qa7 hτ [] 15 rfl rfl rfl rfl rfl ?_
      refine qa7 hτ [] 16 rfl rfl rfl rfl rfl ?_
      refine qa7 hτ [] 17 rfl rfl rfl rfl rfl ?_
      refine qa7 hτ [] 18 rfl rfl rfl rfl rfl ?_
      refine qa7 hτ [] 19 rfl rfl rfl rfl rfl ?_
      refine qa7 hτ [] 20 rfl rfl rfl rfl rfl ?_
      refine qa7 hτ [] 21 rfl rfl rfl rfl rfl ?_
      refine qa7 hτ [] 22 rfl rfl rfl rfl rfl ?_
      refine qa7 hτ (v:=.d (.bool (!(decide (t_.A = t_.B))))) [] 23 rfl rfl rfl rfl (qhx _ _) ?_
      refine qa7 hτ [] 24 rfl rfl rfl rfl rfl ?_
      refine qa7 hτ [] 25 rfl rfl rfl rfl rfl ?_
      refine qga 30 rfl (fun hb14=>?_) (fun hb14=>?_)
      · have hb14:=qdd hb14
        have h:=if_f h hb14
        refine qa7 hτ [] 26 rfl rfl rfl rfl rfl ?_
        refine qa7 hτ [] 27 rfl rfl rfl rfl rfl ?_
        refine qa7 hτ [] 28 rfl rfl rfl rfl rfl ?_
        refine qa7 hτ [] 29 rfl rfl rfl rfl rfl ?_
        refine qab h fun x15 hx15 h=>?_
        refine qbf hτ false [] [0] 30 rfl rfl rfl rfl (qap func101 rfl rfl) rfl rfl (by simp) ⟨trivial,trivial,trivial,trivial⟩ (by trivial) (qim n t_.Most (0:Int) (16000000:Int) hx15) ⟨rfl,trivial⟩ ?_
        refine qa7 hτ [] 31 rfl rfl rfl rfl rfl ?_
        refine qa7 hτ [] 32 rfl rfl rfl rfl rfl ?_
        refine qbp mixed (by kernel_rfl) ?_
        refine qa9 (qa3 [0] (l:=[(4,.d (.bool x15))]) (objs:=[.box [.d (.cx .f32 f_.qa1.Source.A.re f_.qa1.Source.A.im),.d (.cx .f32 f_.qa1.Source.B.re f_.qa1.Source.B.im),.d (.cx .f32 f_.qa1.Source.C.re f_.qa1.Source.C.im),.d (.sl false (f_.qa1.qac.map qah)),.d (.sl false (f_.Ties.map qan))]]) rfl (by simp) rfl (by trivial) ⟨rfl,trivial,trivial⟩) ?_
        refine qas ?_
        have hr:=Option.some.inj h
        subst hr
        exact qaf (.inr rfl) [] (objs':=[.box [.d (.cx .f32 f_.qa1.Source.A.re f_.qa1.Source.A.im),.d (.cx .f32 f_.qa1.Source.B.re f_.qa1.Source.B.im),.d (.cx .f32 f_.qa1.Source.C.re f_.qa1.Source.C.im),.d (.sl false (f_.qa1.qac.map qah)),.d (.sl false (f_.Ties.map qan))]]) (new:=[]) rfl (by simp) (by simp) rfl (by trivial) rfl rfl (by trivial) (fun h=>nomatch h) ⟨rfl,rfl,rfl⟩
      · have hb14:=qdc hb14
        have h:=if_t h hb14
        refine qak 26 rfl rfl rfl ?_
        refine qak 27 rfl rfl rfl ?_
        refine qak 28 rfl rfl rfl ?_
        refine qak 29 rfl rfl rfl ?_
        refine qak 30 rfl rfl rfl ?_
        refine qa7 hτ [] 31 rfl rfl rfl rfl rfl ?_
        refine qa7 hτ [] 32 rfl rfl rfl rfl rfl ?_
        refine qbp mixed (by kernel_rfl) ?_
        refine qa9 (qa3 [0] (l:=[(4,.d (.bool false))]) (objs:=[.box [.d (.cx .f32 f_.qa1.Source.A.re f_.qa1.Source.A.im),.d (.cx .f32 f_.qa1.Source.B.re f_.qa1.Source.B.im),.d (.cx .f32 f_.qa1.Source.C.re f_.qa1.Source.C.im),.d (.sl false (f_.qa1.qac.map qah)),.d (.sl false (f_.Ties.map qan))]]) rfl (by simp) rfl (by trivial) ⟨rfl,trivial,trivial⟩) ?_
        refine qas ?_
        have hr:=Option.some.inj h
        subst hr
        exact qaf (.inr rfl) [] (objs':=[.box [.d (.cx .f32 f_.qa1.Source.A.re f_.qa1.Source.A.im),.d (.cx .f32 f_.qa1.Source.B.re f_.qa1.Source.B.im),.d (.cx .f32 f_.qa1.Source.C.re f_.qa1.Source.C.im),.d (.sl false (f_.qa1.qac.map qah)),.d (.sl false (f_.Ties.map qan))]]) (new:=[]) rfl (by simp) (by simp) rfl (by trivial) rfl rfl (by trivial) (fun h=>nomatch h) ⟨rfl,rfl,rfl⟩
    · have h:=qch h hb13
      refine qak 15 rfl rfl rfl ?_
      refine qak 16 rfl rfl rfl ?_
      refine qak 17 rfl rfl rfl ?_
      refine qak 18 rfl rfl rfl ?_
      refine qak 19 rfl rfl rfl ?_
      refine qak 20 rfl rfl rfl ?_
      refine qak 21 rfl rfl rfl ?_
      refine qak 22 rfl rfl rfl ?_
      refine qak 23 rfl rfl rfl ?_
      refine qa7 hτ [] 24 rfl rfl rfl rfl rfl ?_
      refine qa7 hτ [] 25 rfl rfl rfl rfl rfl ?_
      refine qak 26 rfl rfl rfl ?_
      refine qak 27 rfl rfl rfl ?_
      refine qak 28 rfl rfl rfl ?_
      refine qak 29 rfl rfl rfl ?_
      refine qak 30 rfl rfl rfl ?_
      refine qa7 hτ [] 31 rfl rfl rfl rfl rfl ?_
      refine qa7 hτ [] 32 rfl rfl rfl rfl rfl ?_
      refine qbp mixed (by kernel_rfl) ?_
      refine qa9 (qa3 [0] (l:=[(4,.d (.bool false))]) (objs:=[.box [.d (.cx .f32 f_.qa1.Source.A.re f_.qa1.Source.A.im),.d (.cx .f32 f_.qa1.Source.B.re f_.qa1.Source.B.im),.d (.cx .f32 f_.qa1.Source.C.re f_.qa1.Source.C.im),.d (.sl false (f_.qa1.qac.map qah)),.d (.sl false (f_.Ties.map qan))]]) rfl (by simp) rfl (by trivial) ⟨rfl,trivial,trivial⟩) ?_
      refine qas ?_
      have hr:=Option.some.inj h
      subst hr
      exact qaf (.inr rfl) [] (objs':=[.box [.d (.cx .f32 f_.qa1.Source.A.re f_.qa1.Source.A.im),.d (.cx .f32 f_.qa1.Source.B.re f_.qa1.Source.B.im),.d (.cx .f32 f_.qa1.Source.C.re f_.qa1.Source.C.im),.d (.sl false (f_.qa1.qac.map qah)),.d (.sl false (f_.Ties.map qan))]]) (new:=[]) rfl (by simp) (by simp) rfl (by trivial) rfl rfl (by trivial) (fun h=>nomatch h) ⟨rfl,rfl,rfl⟩
  · have h:=qch h hb11
    refine qak 7 rfl rfl rfl ?_
    refine qak 8 rfl rfl rfl ?_
    refine qak 9 rfl rfl rfl ?_
    refine qak 10 rfl rfl rfl ?_
    refine qak 11 rfl rfl rfl ?_
    refine qak 12 rfl rfl rfl ?_
    refine qa7 hτ [] 13 rfl rfl rfl rfl rfl ?_
    refine qa7 hτ [] 14 rfl rfl rfl rfl rfl ?_
    refine qak 15 rfl rfl rfl ?_
    refine qak 16 rfl rfl rfl ?_
    refine qak 17 rfl rfl rfl ?_
    refine qak 18 rfl rfl rfl ?_
    refine qak 19 rfl rfl rfl ?_
    refine qak 20 rfl rfl rfl ?_
    refine qak 21 rfl rfl rfl ?_
    refine qak 22 rfl rfl rfl ?_
    refine qak 23 rfl rfl rfl ?_
    refine qa7 hτ [] 24 rfl rfl rfl rfl rfl ?_
    refine qa7 hτ [] 25 rfl rfl rfl rfl rfl ?_
    refine qak 26 rfl rfl rfl ?_
    refine qak 27 rfl rfl rfl ?_
    refine qak 28 rfl rfl rfl ?_
    refine qak 29 rfl rfl rfl ?_
    refine qak 30 rfl rfl rfl ?_
    refine qa7 hτ [] 31 rfl rfl rfl rfl rfl ?_
    refine qa7 hτ [] 32 rfl rfl rfl rfl rfl ?_
    refine qbp mixed (by kernel_rfl) ?_
    refine qa9 (qa3 [0] (l:=[(4,.d (.bool false))]) (objs:=[.box [.d (.cx .f32 f_.qa1.Source.A.re f_.qa1.Source.A.im),.d (.cx .f32 f_.qa1.Source.B.re f_.qa1.Source.B.im),.d (.cx .f32 f_.qa1.Source.C.re f_.qa1.Source.C.im),.d (.sl false (f_.qa1.qac.map qah)),.d (.sl false (f_.Ties.map qan))]]) rfl (by simp) rfl (by trivial) ⟨rfl,trivial,trivial⟩) ?_
    refine qas ?_
    have hr:=Option.some.inj h
    subst hr
    exact qaf (.inr rfl) [] (objs':=[.box [.d (.cx .f32 f_.qa1.Source.A.re f_.qa1.Source.A.im),.d (.cx .f32 f_.qa1.Source.B.re f_.qa1.Source.B.im),.d (.cx .f32 f_.qa1.Source.C.re f_.qa1.Source.C.im),.d (.sl false (f_.qa1.qac.map qah)),.d (.sl false (f_.Ties.map qan))]]) (new:=[]) rfl (by simp) (by simp) rfl (by trivial) rfl rfl (by trivial) (fun h=>nomatch h) ⟨rfl,rfl,rfl⟩
def qec (n:Nat) (g_:qbi):Nat→Int→Option Bool
  | 0,_=>none
  | m19 + 1,v15 =>
    if v15 < (g_.Ties.length:Int) then
      (getI g_.Ties v15).bind fun x24 =>
      (qil n g_ x24).bind fun x25 =>
      if x25 = true then
        (qec n g_ m19) (w64 (v15 + (1:Int)))
      else
        some false
    else
      some true
def qhs (n:Nat) (g_:qbi):Option Bool :=
  qec n g_ n (0:Int)
def qfs (n:Nat) (g_:qbi) (v31:Bool):Option Bool :=
  if v31 = true then
    some false
  else
    qhs n g_
def qi3 (n:Nat) (g_:qbi):Option Bool :=
  (qi2 n g_).bind fun x34 =>
  if x34 = true then
    qfs n g_ (decide ((g_.Ties.length:Int) > (6:Int)))
  else
    qfs n g_ true
theorem spec_l08Is_2_ok (n:Nat) (g_:qbi) {r:Bool} (h:qi3 n g_ = some r):qb5 prog false 76 [.ptr 0 0] [.box [.d (.cx .f32 g_.qa1.Source.A.re g_.qa1.Source.A.im),.d (.cx .f32 g_.qa1.Source.B.re g_.qa1.Source.B.im),.d (.cx .f32 g_.qa1.Source.C.re g_.qa1.Source.C.im),.d (.sl false (g_.qa1.qac.map qah)),.d (.sl false (g_.Ties.map qan))]] (fun v o new=>v = .d (.bool r)∧o = [.box [.d (.cx .f32 g_.qa1.Source.A.re g_.qa1.Source.A.im),.d (.cx .f32 g_.qa1.Source.B.re g_.qa1.Source.B.im),.d (.cx .f32 g_.qa1.Source.C.re g_.qa1.Source.C.im),.d (.sl false (g_.qa1.qac.map qah)),.d (.sl false (g_.Ties.map qan))]]∧new = []):=by
  refine qar hτ func76 rfl (by simp) (by simp) ?_
  unfold qi3 at h
  refine qa5 ?_
  refine qa2 ?_
  refine qa0 hτ rfl rfl rfl ?_
  refine qa4 ?_
  refine qd1 (ι:=Unit) (fun _=>St.of [(0,.ptr 0 0)] [.box [.d (.cx .f32 g_.qa1.Source.A.re g_.qa1.Source.A.im),.d (.cx .f32 g_.qa1.Source.B.re g_.qa1.Source.B.im),.d (.cx .f32 g_.qa1.Source.C.re g_.qa1.Source.C.im),.d (.sl false (g_.qa1.qac.map qah)),.d (.sl false (g_.Ties.map qan))]] f76.ntmps 1) (fun _=>qhs n g_ = some r) ?_ (fun hk27=>?_)
  · rintro ⟨⟩ h
    replace h:qhs n g_ = some r:=h
    unfold qhs at h
    refine qa5 ?_
    refine qa5 ?_
    refine qa2 ?_
    refine qa0 hτ rfl rfl rfl ?_
    refine qa4 ?_
    refine qb6 ?_
    refine qe1 (ι:=Nat × Int) (fun (m19,v15)=>St.of [(0,.ptr 0 0),(3,.d (.int .i64 v15))] [.box [.d (.cx .f32 g_.qa1.Source.A.re g_.qa1.Source.A.im),.d (.cx .f32 g_.qa1.Source.B.re g_.qa1.Source.B.im),.d (.cx .f32 g_.qa1.Source.C.re g_.qa1.Source.C.im),.d (.sl false (g_.qa1.qac.map qah)),.d (.sl false (g_.Ties.map qan))]] f76.ntmps 1) (fun (m19,v15)=>qec n g_ m19 v15 = some r) (fun x=>x.1) (n,(0:Int)) h (qa3 [0] (l:=[(0,.ptr 0 0),(3,.d (.int .i64 (0:Int)))]) (objs:=[.box [.d (.cx .f32 g_.qa1.Source.A.re g_.qa1.Source.A.im),.d (.cx .f32 g_.qa1.Source.B.re g_.qa1.Source.B.im),.d (.cx .f32 g_.qa1.Source.C.re g_.qa1.Source.C.im),.d (.sl false (g_.qa1.qac.map qah)),.d (.sl false (g_.Ties.map qan))]]) rfl (by simp) rfl (by trivial) ⟨rfl,trivial,rfl,trivial,trivial⟩) ?_
    rintro ⟨m19,v15⟩ h
    replace h:qec n g_ m19 v15 = some r:=h
    rcases m19 with _ | m19
    · rw [qec] at h;cases h
    rw [qec] at h
    refine qa5 ?_
    refine qa5 ?_
    refine qa2 ?_
    refine qa0 hτ rfl rfl rfl ?_
    refine qa0 hτ rfl rfl rfl ?_
    refine qa0 hτ rfl rfl rfl ?_
    refine qa0 hτ rfl rfl rfl ?_
    refine qa0 hτ rfl rfl rfl ?_
    refine qa0 hτ (v:=.d (.int .i64 (g_.Ties.length:Int))) rfl rfl (Eq.trans rfl (qfo (f:=qan) g_.Ties)) ?_
    refine qa0 hτ rfl rfl rfl ?_
    refine qa4 ?_
    refine qa9 (qa3 [0] (l:=[(0,.ptr 0 0),(3,.d (.int .i64 v15)),(23,.d (.bool (decide (v15 < (g_.Ties.length:Int)))))]) (objs:=[.box [.d (.cx .f32 g_.qa1.Source.A.re g_.qa1.Source.A.im),.d (.cx .f32 g_.qa1.Source.B.re g_.qa1.Source.B.im),.d (.cx .f32 g_.qa1.Source.C.re g_.qa1.Source.C.im),.d (.sl false (g_.qa1.qac.map qah)),.d (.sl false (g_.Ties.map qan))]]) rfl (by simp) rfl (by trivial) ⟨rfl,trivial,rfl,trivial,rfl,trivial,trivial⟩) ?_
    refine qau rfl (fun hc21=>?_) (fun hc21=>?_)
    · have h:=if_t h hc21
      refine qav ?_
      refine qa5 ?_
      refine qb6 ?_
      refine qa5 ?_
      refine qc9 ?_
      refine qa7 hτ [] 0 rfl rfl rfl rfl rfl ?_
      refine qa7 hτ [] 1 rfl rfl rfl rfl rfl ?_
      refine qa7 hτ [0] 2 rfl rfl rfl rfl rfl ?_
      refine qa7 hτ [] 3 rfl rfl rfl rfl rfl ?_
      refine qa7 hτ [] 4 rfl rfl rfl rfl rfl ?_
      refine qa7 hτ [0] 5 rfl rfl rfl rfl rfl ?_
      refine qa7 hτ [0] 6 rfl rfl rfl rfl rfl ?_
      refine qa7 hτ [] 7 rfl rfl rfl rfl rfl ?_
      refine qab h fun x24 hx24 h=>?_
      refine qic hτ [] 8 rfl rfl rfl rfl rfl (qbo hx24).1 (qcd hx24) rfl ?_
      refine qab h fun x25 hx25 h=>?_
      refine qbf hτ false [0] [0] 9 rfl rfl rfl rfl (qap func117 rfl rfl) rfl rfl (by simp) ⟨trivial,trivial,trivial⟩ (by trivial) (spec_l08Tie_ok n g_ x24 hx25) ⟨rfl,trivial⟩ ?_
      refine qa7 hτ [] 10 rfl rfl rfl rfl rfl ?_
      refine qbp mixed (by kernel_rfl) ?_
      refine qa9 (qa3 [0] (l:=[(0,.ptr 0 0),(3,.d (.int .i64 v15)),(36,.d (.bool (!x25)))]) (objs:=[.box [.d (.cx .f32 g_.qa1.Source.A.re g_.qa1.Source.A.im),.d (.cx .f32 g_.qa1.Source.B.re g_.qa1.Source.B.im),.d (.cx .f32 g_.qa1.Source.C.re g_.qa1.Source.C.im),.d (.sl false (g_.qa1.qac.map qah)),.d (.sl false (g_.Ties.map qan))]]) rfl (by simp) rfl (by trivial) ⟨rfl,trivial,rfl,trivial,rfl,trivial,trivial⟩) ?_
      refine qau rfl (fun hc26=>?_) (fun hc26=>?_)
      · have hc26:=qdd hc26
        have h:=qch h hc26
        refine qa5 ?_
        refine qa2 ?_
        refine qa0 hτ rfl rfl rfl ?_
        refine qa4 ?_
        refine qa9 (qa3 [0] (l:=[(2,.d (.bool false))]) (objs:=[.box [.d (.cx .f32 g_.qa1.Source.A.re g_.qa1.Source.A.im),.d (.cx .f32 g_.qa1.Source.B.re g_.qa1.Source.B.im),.d (.cx .f32 g_.qa1.Source.C.re g_.qa1.Source.C.im),.d (.sl false (g_.qa1.qac.map qah)),.d (.sl false (g_.Ties.map qan))]]) rfl (by simp) rfl (by trivial) ⟨rfl,trivial,trivial⟩) ?_
        refine qas ?_
        have hr:=Option.some.inj h
        subst hr
        exact qaf (.inr rfl) [] (objs':=[.box [.d (.cx .f32 g_.qa1.Source.A.re g_.qa1.Source.A.im),.d (.cx .f32 g_.qa1.Source.B.re g_.qa1.Source.B.im),.d (.cx .f32 g_.qa1.Source.C.re g_.qa1.Source.C.im),.d (.sl false (g_.qa1.qac.map qah)),.d (.sl false (g_.Ties.map qan))]]) (new:=[]) rfl (by simp) (by simp) rfl (by trivial) rfl rfl (by trivial) (fun h=>nomatch h) ⟨rfl,rfl,rfl⟩
      · have hc26:=qdc hc26
        have h:=qci h hc26
        refine qav ?_
        refine qa2 ?_
        refine qa0 hτ rfl rfl rfl ?_
        refine qa0 hτ rfl rfl rfl ?_
        refine qa0 hτ rfl rfl rfl ?_
        refine qa4 ?_
        exact ⟨(m19,(w64 (v15 + (1:Int)))),h,Nat.lt_succ_self m19,(qa3 [0] (l:=[(0,.ptr 0 0),(3,.d (.int .i64 (w64 (v15 + (1:Int)))))]) (objs:=[.box [.d (.cx .f32 g_.qa1.Source.A.re g_.qa1.Source.A.im),.d (.cx .f32 g_.qa1.Source.B.re g_.qa1.Source.B.im),.d (.cx .f32 g_.qa1.Source.C.re g_.qa1.Source.C.im),.d (.sl false (g_.qa1.qac.map qah)),.d (.sl false (g_.Ties.map qan))]]) rfl (by simp) rfl (by trivial) ⟨rfl,trivial,rfl,trivial,trivial⟩)⟩
    · have h:=if_f h hc21
      refine qdv ?_
      refine qa5 ?_
      refine qa2 ?_
      refine qa0 hτ rfl rfl rfl ?_
      refine qa4 ?_
      refine qa9 (qa3 [0] (l:=[(2,.d (.bool true))]) (objs:=[.box [.d (.cx .f32 g_.qa1.Source.A.re g_.qa1.Source.A.im),.d (.cx .f32 g_.qa1.Source.B.re g_.qa1.Source.B.im),.d (.cx .f32 g_.qa1.Source.C.re g_.qa1.Source.C.im),.d (.sl false (g_.qa1.qac.map qah)),.d (.sl false (g_.Ties.map qan))]]) rfl (by simp) rfl (by trivial) ⟨rfl,trivial,trivial⟩) ?_
      refine qas ?_
      have hr:=Option.some.inj h
      subst hr
      exact qaf (.inr rfl) [] (objs':=[.box [.d (.cx .f32 g_.qa1.Source.A.re g_.qa1.Source.A.im),.d (.cx .f32 g_.qa1.Source.B.re g_.qa1.Source.B.im),.d (.cx .f32 g_.qa1.Source.C.re g_.qa1.Source.C.im),.d (.sl false (g_.qa1.qac.map qah)),.d (.sl false (g_.Ties.map qan))]]) (new:=[]) rfl (by simp) (by simp) rfl (by trivial) rfl rfl (by trivial) (fun h=>nomatch h) ⟨rfl,rfl,rfl⟩
  · refine qa5 ?_
    refine qd1 (ι:=Bool) (fun v31=>St.of [(0,.ptr 0 0),(16,.d (.bool v31))] [.box [.d (.cx .f32 g_.qa1.Source.A.re g_.qa1.Source.A.im),.d (.cx .f32 g_.qa1.Source.B.re g_.qa1.Source.B.im),.d (.cx .f32 g_.qa1.Source.C.re g_.qa1.Source.C.im),.d (.sl false (g_.qa1.qac.map qah)),.d (.sl false (g_.Ties.map qan))]] f76.ntmps 1) (fun v31=>qfs n g_ v31 = some r) ?_ (fun hk33=>?_)
    · rintro v31 h
      replace h:qfs n g_ v31 = some r:=h
      unfold qfs at h
      refine qau rfl (fun hc32=>?_) (fun hc32=>?_)
      · have h:=qci h hc32
        refine qa5 ?_
        refine qa2 ?_
        refine qa0 hτ rfl rfl rfl ?_
        refine qa4 ?_
        refine qa9 (qa3 [0] (l:=[(2,.d (.bool false))]) (objs:=[.box [.d (.cx .f32 g_.qa1.Source.A.re g_.qa1.Source.A.im),.d (.cx .f32 g_.qa1.Source.B.re g_.qa1.Source.B.im),.d (.cx .f32 g_.qa1.Source.C.re g_.qa1.Source.C.im),.d (.sl false (g_.qa1.qac.map qah)),.d (.sl false (g_.Ties.map qan))]]) rfl (by simp) rfl (by trivial) ⟨rfl,trivial,trivial⟩) ?_
        refine qas ?_
        have hr:=Option.some.inj h
        subst hr
        exact qaf (.inr rfl) [] (objs':=[.box [.d (.cx .f32 g_.qa1.Source.A.re g_.qa1.Source.A.im),.d (.cx .f32 g_.qa1.Source.B.re g_.qa1.Source.B.im),.d (.cx .f32 g_.qa1.Source.C.re g_.qa1.Source.C.im),.d (.sl false (g_.qa1.qac.map qah)),.d (.sl false (g_.Ties.map qan))]]) (new:=[]) rfl (by simp) (by simp) rfl (by trivial) rfl rfl (by trivial) (fun h=>nomatch h) ⟨rfl,rfl,rfl⟩
      · have h:=qch h hc32
        refine qav ?_
        refine qa9 (qa3 [0] (l:=[(0,.ptr 0 0)]) (objs:=[.box [.d (.cx .f32 g_.qa1.Source.A.re g_.qa1.Source.A.im),.d (.cx .f32 g_.qa1.Source.B.re g_.qa1.Source.B.im),.d (.cx .f32 g_.qa1.Source.C.re g_.qa1.Source.C.im),.d (.sl false (g_.qa1.qac.map qah)),.d (.sl false (g_.Ties.map qan))]]) rfl (by simp) rfl (by trivial) ⟨rfl,trivial,trivial⟩) ?_
        exact hk27 () h
    · refine qa5 ?_
      refine qa2 ?_
      refine qa0 hτ rfl rfl rfl ?_
      refine qa0 hτ rfl rfl rfl ?_
      refine qa0 hτ rfl rfl rfl ?_
      refine qab h fun x34 hx34 h=>?_
      refine qam hτ false [0] rfl rfl rfl (qap func55 rfl rfl) rfl rfl (by simp) ⟨trivial,trivial⟩ (by trivial) (spec_l02Is_2_ok n g_ hx34) ?_
      rintro r0 o0 n0 ⟨rfl,rfl,rfl⟩ -
      refine qa0 hτ rfl rfl rfl ?_
      refine qa0 hτ rfl rfl rfl ?_
      refine qcm 9 rfl (fun hb35=>?_) (fun hb35=>?_)
      · have hb35:=qdd hb35
        have h:=qch h hb35
        refine qao rfl rfl ?_
        refine qao rfl rfl ?_
        refine qao rfl rfl ?_
        refine qao rfl rfl ?_
        refine qao rfl rfl ?_
        refine qbn (qa3 [0] (l:=[(0,.ptr 0 0),(9,.d (.bool true)),(14,.und)]) (objs:=[.box [.d (.cx .f32 g_.qa1.Source.A.re g_.qa1.Source.A.im),.d (.cx .f32 g_.qa1.Source.B.re g_.qa1.Source.B.im),.d (.cx .f32 g_.qa1.Source.C.re g_.qa1.Source.C.im),.d (.sl false (g_.qa1.qac.map qah)),.d (.sl false (g_.Ties.map qan))]]) rfl (by simp) rfl (by trivial) ⟨rfl,trivial,rfl,trivial,rfl,trivial,trivial⟩) ?_
        refine qao rfl rfl ?_
        refine qa0 hτ rfl rfl rfl ?_
        refine qa4 ?_
        refine qa9 (qa3 [0] (l:=[(0,.ptr 0 0),(16,.d (.bool true))]) (objs:=[.box [.d (.cx .f32 g_.qa1.Source.A.re g_.qa1.Source.A.im),.d (.cx .f32 g_.qa1.Source.B.re g_.qa1.Source.B.im),.d (.cx .f32 g_.qa1.Source.C.re g_.qa1.Source.C.im),.d (.sl false (g_.qa1.qac.map qah)),.d (.sl false (g_.Ties.map qan))]]) rfl (by simp) rfl (by trivial) ⟨rfl,trivial,rfl,trivial,trivial⟩) ?_
        exact hk33 true h
      · have hb35:=qdc hb35
        have h:=qci h hb35
        refine qa0 hτ rfl rfl rfl ?_
        refine qa0 hτ rfl rfl rfl ?_
        refine qa0 hτ rfl rfl rfl ?_
        refine qa0 hτ rfl rfl rfl ?_
        refine qa0 hτ (v:=.d (.int .i64 (g_.Ties.length:Int))) rfl rfl (Eq.trans rfl (qfo (f:=qan) g_.Ties)) ?_
        refine qbn (qa3 [0] (l:=[(0,.ptr 0 0),(9,.d (.bool false)),(14,.d (.int .i64 (g_.Ties.length:Int)))]) (objs:=[.box [.d (.cx .f32 g_.qa1.Source.A.re g_.qa1.Source.A.im),.d (.cx .f32 g_.qa1.Source.B.re g_.qa1.Source.B.im),.d (.cx .f32 g_.qa1.Source.C.re g_.qa1.Source.C.im),.d (.sl false (g_.qa1.qac.map qah)),.d (.sl false (g_.Ties.map qan))]]) rfl (by simp) rfl (by trivial) ⟨rfl,trivial,rfl,trivial,rfl,trivial,trivial⟩) ?_
        refine qa0 hτ rfl rfl rfl ?_
        refine qa0 hτ rfl rfl rfl ?_
        refine qa4 ?_
        refine qa9 (qa3 [0] (l:=[(0,.ptr 0 0),(16,.d (.bool (decide ((g_.Ties.length:Int) > (6:Int)))))]) (objs:=[.box [.d (.cx .f32 g_.qa1.Source.A.re g_.qa1.Source.A.im),.d (.cx .f32 g_.qa1.Source.B.re g_.qa1.Source.B.im),.d (.cx .f32 g_.qa1.Source.C.re g_.qa1.Source.C.im),.d (.sl false (g_.qa1.qac.map qah)),.d (.sl false (g_.Ties.map qan))]]) rfl (by simp) rfl (by trivial) ⟨rfl,trivial,rfl,trivial,trivial⟩) ?_
        exact hk33 (decide ((g_.Ties.length:Int) > (6:Int))) h
def qgk (n:Nat) (x_:Nat):Option Int :=
  if (fcmp .neq .f32 x_ x_) = true then
    some (2143289344:Int)
  else
    grd (isnan .f32 x_ = false) <|
    some (w64 ((x_:Int)))
theorem spec_l01Bits_ok_fr0 (fr:Bool) (n:Nat) (x_:Nat) {r:Int} (h:qgk n x_ = some r):qb5 prog fr 154 [.d (.fl .f32 x_)] [] (fun v o new=>v = .d (.int .i64 r)∧o = []∧new = []):=by
  refine qar hτ func154 rfl (by simp) (by simp) ?_
  unfold qgk at h
  refine qa5 ?_
  refine qa2 ?_
  refine qa0 hτ rfl rfl rfl ?_
  refine qa4 ?_
  refine qa5 ?_
  refine qa5 ?_
  refine qa2 ?_
  refine qa0 hτ rfl rfl rfl ?_
  refine qa0 hτ rfl rfl rfl ?_
  refine qa0 hτ rfl rfl rfl ?_
  refine qa4 ?_
  refine qau rfl (fun hc2=>?_) (fun hc2=>?_)
  · have h:=qci h hc2
    refine qa5 ?_
    refine qa2 ?_
    refine qa0 hτ rfl rfl rfl ?_
    refine qa4 ?_
    refine qa9 (qa3 [] (l:=[(2,.d (.int .i64 (2143289344:Int)))]) (objs:=[]) rfl (by simp) rfl (by trivial) ⟨rfl,trivial,trivial⟩) ?_
    refine qas ?_
    have hr:=Option.some.inj h
    subst hr
    exact qaf (.inr rfl) [] (objs':=[]) (new:=[]) rfl (by simp) (by simp) rfl (by trivial) rfl rfl (by trivial) (fun _=>⟨by simp [V.flat,V.qb2,V.qay,D.flat],qai⟩) ⟨rfl,rfl,rfl⟩
  · have h:=qch h hc2
    refine qav ?_
    refine qa5 ?_
    refine qa2 ?_
    refine qa0 hτ rfl rfl rfl ?_
    refine qbh h fun hg3 h=>?_
    refine qp1 hτ rfl rfl rfl (quh hg3) ?_
    refine qa0 hτ rfl rfl rfl ?_
    refine qa0 hτ rfl rfl rfl ?_
    refine qa4 ?_
    refine qa9 (qa3 [] (l:=[(2,.d (.int .i64 (w64 ((x_:Int)))))]) (objs:=[]) rfl (by simp) rfl (by trivial) ⟨rfl,trivial,trivial⟩) ?_
    refine qas ?_
    have hr:=Option.some.inj h
    subst hr
    exact qaf (.inr rfl) [] (objs':=[]) (new:=[]) rfl (by simp) (by simp) rfl (by trivial) rfl rfl (by trivial) (fun _=>⟨by simp [V.flat,V.qb2,V.qay,D.flat],qai⟩) ⟨rfl,rfl,rfl⟩
theorem qkq (n:Nat) (x_:Nat) {r:Int} (h:qgk n x_ = some r):qb5 prog false 154 [.d (.fl .f32 x_)] [] (fun v o new=>v = .d (.int .i64 r)∧o = []∧new = []):=spec_l01Bits_ok_fr0 false n x_ h
def qgu (n:Nat) (v17:List Int):Option Str :=
  some (chars v17)
def qeh (n:Nat) (n_:Int) (size_:Int):Nat→List Int→Int→Option Str
  | 0,_,_=>none
  | m27 + 1,v21,v22 =>
    if v22 < size_ then
      grd (0 ≤ (IntKind.wrap .u64 ((w64 ((8:Int) * v22))))) <|
      grd (room (v21.length + 1) 1) <|
      (qeh n n_ size_ m27) (v21 ++ [(IntKind.wrap .u8 ((qj6 .and .i64 (n_.fdiv (2 ^ min (IntKind.wrap .u64 ((w64 ((8:Int) * v22)))).toNat (IntKind.bits .i64))) (255:Int))))]) (w64 (v22 + (1:Int)))
    else
      qgu n v21
def qbc (n:Nat) (n_:Int) (size_:Int):Option Str :=
  qeh n n_ size_ n ([]:List Int) (0:Int)
theorem spec_l10Word_ok_fr0 (fr:Bool) (n:Nat) (n_:Int) (size_:Int) {r:Str} (h:qbc n n_ size_ = some r):qb5 prog fr 119 [.d (.int .i64 n_),.d (.int .i64 size_)] [] (fun v o new=>v = .d (.str (bstr r))∧o = []∧new = []):=by
  refine qar hτ func119 rfl (by simp) (by simp) ?_
  unfold qbc at h
  refine qa5 ?_
  refine qa2 ?_
  refine qa0 hτ rfl rfl rfl ?_
  refine qa4 ?_
  refine qa5 ?_
  refine qa2 ?_
  refine qaq hτ rfl rfl rfl ?_
  refine qa0 hτ rfl rfl rfl ?_
  refine qa4 ?_
  refine qd1 (ι:=List Int) (fun v17=>St.of [(5,.row 0 v17.length 0 v17.length)] [.row 1 (v17.map qiq)] f119.ntmps 0) (fun v17=>qgu n v17 = some r) ?_ (fun hk18=>?_)
  · rintro v17 h
    replace h:qgu n v17 = some r:=h
    unfold qgu at h
    refine qa5 ?_
    refine qa2 ?_
    refine qa0 hτ rfl rfl rfl ?_
    refine qha rfl rfl (qva hτ (f:=qiq) (l:=v17) rfl rfl rfl rfl rfl rfl rfl (fun _=>rfl) (qqu v17 rfl rfl) ⟨qc8 _,by omega⟩) ?_
    refine qa0 hτ rfl rfl rfl ?_
    refine qa4 ?_
    refine qa9 (qa3 [] (l:=[(4,.d (.str (bstr (chars v17))))]) (objs:=[]) rfl (by simp) rfl (by trivial) ⟨rfl,trivial,trivial⟩) ?_
    refine qas ?_
    have hr:=Option.some.inj h
    subst hr
    exact qaf (.inr rfl) [] (objs':=[]) (new:=[]) rfl (by simp) (by simp) rfl (by trivial) rfl rfl (by trivial) (fun _=>⟨by simp [V.flat,V.qb2,V.qay,D.flat],qai⟩) ⟨rfl,rfl,rfl⟩
  · refine qa5 ?_
    refine qa5 ?_
    refine qa2 ?_
    refine qa0 hτ rfl rfl rfl ?_
    refine qa4 ?_
    refine qb6 ?_
    refine qe1 (ι:=Nat × List Int × Int) (fun (m27,v21,v22)=>St.of [(0,.d (.int .i64 n_)),(1,.d (.int .i64 size_)),(5,.row 0 v21.length 0 v21.length),(6,.d (.int .i64 v22))] [.row 1 (v21.map qiq)] f119.ntmps 0) (fun (m27,v21,v22)=>qeh n n_ size_ m27 v21 v22 = some r) (fun x=>x.1) (n,([]:List Int),(0:Int)) h (qa3 [0] (l:=[(0,.d (.int .i64 n_)),(1,.d (.int .i64 size_)),(5,.row 0 (([]:List Int).length) 0 (([]:List Int).length)),(6,.d (.int .i64 (0:Int)))]) (objs:=[.row 1 (([]:List Int).map qiq)]) rfl (by simp) rfl (by trivial) ⟨rfl,trivial,rfl,trivial,rfl,trivial,rfl,trivial,trivial⟩) ?_
    rintro ⟨m27,v21,v22⟩ h
    replace h:qeh n n_ size_ m27 v21 v22 = some r:=h
    rcases m27 with _ | m27
    · rw [qeh] at h;cases h
    rw [qeh] at h
    refine qa5 ?_
    refine qa5 ?_
    refine qa2 ?_
    refine qa0 hτ rfl rfl rfl ?_
    refine qa0 hτ rfl rfl rfl ?_
    refine qa0 hτ rfl rfl rfl ?_
    refine qa4 ?_
    refine qau rfl (fun hc29=>?_) (fun hc29=>?_)
    · have h:=if_t h hc29
      refine qav ?_
      refine qa5 ?_
      refine qb6 ?_
      refine qa2 ?_
      refine qa0 hτ rfl rfl rfl ?_
      refine qa0 hτ rfl rfl rfl ?_
      refine qa0 hτ rfl rfl rfl ?_
      refine qa0 hτ rfl rfl rfl ?_
      refine qa0 hτ rfl rfl rfl ?_
      refine qbh h fun hg30 h=>?_
      refine qbd hτ rfl rfl rfl hg30 ?_
      refine qa0 hτ rfl rfl rfl ?_
      refine qa0 hτ rfl rfl rfl ?_
      refine qaq hτ rfl rfl rfl ?_
      refine qbn (qa3 [0,1] (l:=[(0,.d (.int .i64 n_)),(1,.d (.int .i64 size_)),(5,.row 0 v21.length 0 v21.length),(6,.d (.int .i64 v22)),(13,.row 0 v21.length 0 v21.length),(21,.row 1 ([(IntKind.wrap .u8 ((qj6 .and .i64 (n_.fdiv (2 ^ min (IntKind.wrap .u64 ((w64 ((8:Int) * v22)))).toNat (IntKind.bits .i64))) (255:Int))))].length) 0 ([(IntKind.wrap .u8 ((qj6 .and .i64 (n_.fdiv (2 ^ min (IntKind.wrap .u64 ((w64 ((8:Int) * v22)))).toNat (IntKind.bits .i64))) (255:Int))))].length))]) (objs:=[.row 1 (v21.map qiq),.row 1 ([(IntKind.wrap .u8 ((qj6 .and .i64 (n_.fdiv (2 ^ min (IntKind.wrap .u64 ((w64 ((8:Int) * v22)))).toNat (IntKind.bits .i64))) (255:Int))))].map qiq)]) rfl (by simp) rfl (by trivial) ⟨rfl,trivial,rfl,trivial,rfl,trivial,rfl,trivial,rfl,trivial,rfl,trivial,trivial⟩) ?_
      refine qbh h fun hg31 h=>?_
      refine qlf hτ rfl rfl (Eq.trans rfl (or_append (f:=qiq) v21 [(IntKind.wrap .u8 ((qj6 .and .i64 (n_.fdiv (2 ^ min (IntKind.wrap .u64 ((w64 ((8:Int) * v22)))).toNat (IntKind.bits .i64))) (255:Int))))] rfl)) ⟨⟨rfl,Nat.le_of_ble_eq_true rfl⟩,qc8 _,rfl,rfl,hg31,by decide,(all1 rfl)⟩ ?_
      refine qa0 hτ rfl rfl rfl ?_
      refine qa4 ?_
      refine qa2 ?_
      refine qa0 hτ rfl rfl rfl ?_
      refine qa0 hτ rfl rfl rfl ?_
      refine qa0 hτ rfl rfl rfl ?_
      refine qa4 ?_
      exact ⟨(m27,(v21 ++ [(IntKind.wrap .u8 ((qj6 .and .i64 (n_.fdiv (2 ^ min (IntKind.wrap .u64 ((w64 ((8:Int) * v22)))).toNat (IntKind.bits .i64))) (255:Int))))]),(w64 (v22 + (1:Int)))),h,Nat.lt_succ_self m27,(qa3 [0] (l:=[(0,.d (.int .i64 n_)),(1,.d (.int .i64 size_)),(5,.row 0 ((v21 ++ [(IntKind.wrap .u8 ((qj6 .and .i64 (n_.fdiv (2 ^ min (IntKind.wrap .u64 ((w64 ((8:Int) * v22)))).toNat (IntKind.bits .i64))) (255:Int))))]).length) 0 ((v21 ++ [(IntKind.wrap .u8 ((qj6 .and .i64 (n_.fdiv (2 ^ min (IntKind.wrap .u64 ((w64 ((8:Int) * v22)))).toNat (IntKind.bits .i64))) (255:Int))))]).length)),(6,.d (.int .i64 (w64 (v22 + (1:Int)))))]) (objs:=[.row 1 ((v21 ++ [(IntKind.wrap .u8 ((qj6 .and .i64 (n_.fdiv (2 ^ min (IntKind.wrap .u64 ((w64 ((8:Int) * v22)))).toNat (IntKind.bits .i64))) (255:Int))))]).map qiq)]) rfl (by simp) rfl (by trivial) ⟨rfl,trivial,rfl,trivial,rfl,trivial,rfl,trivial,trivial⟩)⟩
    · have h:=if_f h hc29
      refine qdv ?_
      refine qa9 (qa3 [0] (l:=[(5,.row 0 v21.length 0 v21.length)]) (objs:=[.row 1 (v21.map qiq)]) rfl (by simp) rfl (by trivial) ⟨rfl,trivial,trivial⟩) ?_
      exact hk18 v21 h
theorem qcl (n:Nat) (n_:Int) (size_:Int) {r:Str} (h:qbc n n_ size_ = some r):qb5 prog false 119 [.d (.int .i64 n_),.d (.int .i64 size_)] [] (fun v o new=>v = .d (.str (bstr r))∧o = []∧new = []):=spec_l10Word_ok_fr0 false n n_ size_ h
def qbu (n:Nat) (x_:Cx):Option Str :=
  (qgk n x_.re).bind fun x6 =>
  (qbc n x6 (4:Int)).bind fun x7 =>
  (qgk n x_.im).bind fun x8 =>
  (qbc n x8 (4:Int)).bind fun x9 =>
  grd (x7.length + x9.length ≤ 9223372036854775807) <|
  some (x7 ++ x9)
theorem spec_l10Complex_ok_fr0 (fr:Bool) (n:Nat) (x_:Cx) {r:Str} (h:qbu n x_ = some r):qb5 prog fr 120 [.d (.cx .f32 x_.re x_.im)] [] (fun v o new=>v = .d (.str (bstr r))∧o = []∧new = []):=by
  refine qar hτ func120 rfl (by simp) (by simp) ?_
  unfold qbu at h
  refine qa5 ?_
  refine qa2 ?_
  refine qa0 hτ rfl rfl rfl ?_
  refine qa4 ?_
  refine qa5 ?_
  refine qa2 ?_
  refine qa0 hτ rfl rfl rfl ?_
  refine qa0 hτ rfl rfl rfl ?_
  refine qab h fun x6 hx6 h=>?_
  refine qam hτ false [] rfl rfl rfl (qap func154 rfl rfl) rfl rfl (by simp) ⟨trivial,trivial⟩ (by trivial) (qkq n x_.re hx6) ?_
  rintro r0 o0 n0 ⟨rfl,rfl,rfl⟩ -
  refine qab h fun x7 hx7 h=>?_
  refine qam hτ false [] rfl rfl rfl (qap func119 rfl rfl) rfl rfl (by simp) ⟨trivial,trivial,trivial⟩ (by trivial) (qcl n x6 (4:Int) hx7) ?_
  rintro r0 o0 n0 ⟨rfl,rfl,rfl⟩ -
  refine qa0 hτ rfl rfl rfl ?_
  refine qa0 hτ rfl rfl rfl ?_
  refine qab h fun x8 hx8 h=>?_
  refine qam hτ false [] rfl rfl rfl (qap func154 rfl rfl) rfl rfl (by simp) ⟨trivial,trivial⟩ (by trivial) (qkq n x_.im hx8) ?_
  rintro r0 o0 n0 ⟨rfl,rfl,rfl⟩ -
  refine qab h fun x9 hx9 h=>?_
  refine qam hτ false [] rfl rfl rfl (qap func119 rfl rfl) rfl rfl (by simp) ⟨trivial,trivial,trivial⟩ (by trivial) (qcl n x8 (4:Int) hx9) ?_
  rintro r0 o0 n0 ⟨rfl,rfl,rfl⟩ -
  refine qbh h fun hg10 h=>?_
  refine qbd hτ (v:=.d (.str (bstr (x7 ++ x9)))) rfl rfl (Eq.trans rfl (qh1 _ _)) hg10 ?_
  refine qa0 hτ rfl rfl rfl ?_
  refine qa4 ?_
  refine qa9 (qa3 [] (l:=[(2,.d (.str (bstr (x7 ++ x9))))]) (objs:=[]) rfl (by simp) rfl (by trivial) ⟨rfl,trivial,trivial⟩) ?_
  refine qas ?_
  have hr:=Option.some.inj h
  subst hr
  exact qaf (.inr rfl) [] (objs':=[]) (new:=[]) rfl (by simp) (by simp) rfl (by trivial) rfl rfl (by trivial) (fun _=>⟨by simp [V.flat,V.qb2,V.qay,D.flat],qai⟩) ⟨rfl,rfl,rfl⟩
theorem qeq (n:Nat) (x_:Cx) {r:Str} (h:qbu n x_ = some r):qb5 prog false 120 [.d (.cx .f32 x_.re x_.im)] [] (fun v o new=>v = .d (.str (bstr r))∧o = []∧new = []):=spec_l10Complex_ok_fr0 false n x_ h
def qdz (n:Nat) (p_:qaa):Option Str :=
  (qbu n p_.A).bind fun x6 =>
  (qbu n p_.B).bind fun x7 =>
  grd (x6.length + x7.length ≤ 9223372036854775807) <|
  (qbu n p_.C).bind fun x9 =>
  grd ((x6 ++ x7).length + x9.length ≤ 9223372036854775807) <|
  some ((x6 ++ x7) ++ x9)
theorem spec_l10Phases_ok_fr0 (fr:Bool) (n:Nat) (p_:qaa) {r:Str} (h:qdz n p_ = some r):qb5 prog fr 118 [.agg [.d (.cx .f32 p_.A.re p_.A.im),.d (.cx .f32 p_.B.re p_.B.im),.d (.cx .f32 p_.C.re p_.C.im)]] [] (fun v o new=>v = .d (.str (bstr r))∧o = []∧new = []):=by
  refine qar hτ func118 rfl (by simp) (by simp) ?_
  unfold qdz at h
  refine qa5 ?_
  refine qa2 ?_
  refine qaq hτ rfl rfl rfl ?_
  refine qa0 hτ rfl rfl rfl ?_
  refine qa4 ?_
  refine qa5 ?_
  refine qc9 ?_
  refine qa7 hτ [0] 0 rfl rfl rfl rfl rfl ?_
  refine qa7 hτ [0] 1 rfl rfl rfl rfl rfl ?_
  refine qa7 hτ [0] 3 rfl rfl rfl rfl rfl ?_
  refine qa7 hτ [0] 4 rfl rfl rfl rfl rfl ?_
  refine qa7 hτ [0] 7 rfl rfl rfl rfl rfl ?_
  refine qa7 hτ [0] 8 rfl rfl rfl rfl rfl ?_
  refine qab h fun x6 hx6 h=>?_
  refine qbf hτ false [] [0] 2 rfl rfl rfl rfl (qap func120 rfl rfl) rfl rfl (by simp) ⟨trivial,trivial⟩ (by trivial) (qeq n p_.A hx6) ⟨rfl,trivial⟩ ?_
  refine qab h fun x7 hx7 h=>?_
  refine qbf hτ false [] [0] 5 rfl rfl rfl rfl (qap func120 rfl rfl) rfl rfl (by simp) ⟨trivial,trivial⟩ (by trivial) (qeq n p_.B hx7) ⟨rfl,trivial⟩ ?_
  refine qbh h fun hg8 h=>?_
  refine qcz hτ (v:=.d (.str (bstr (x6 ++ x7)))) [] 6 rfl rfl rfl rfl (Eq.trans rfl (qh1 _ _)) hg8 ?_
  refine qab h fun x9 hx9 h=>?_
  refine qbf hτ false [] [0] 9 rfl rfl rfl rfl (qap func120 rfl rfl) rfl rfl (by simp) ⟨trivial,trivial⟩ (by trivial) (qeq n p_.C hx9) ⟨rfl,trivial⟩ ?_
  refine qbh h fun hg10 h=>?_
  refine qcz hτ (v:=.d (.str (bstr ((x6 ++ x7) ++ x9)))) [] 10 rfl rfl rfl rfl (Eq.trans rfl (qh1 _ _)) hg10 ?_
  refine qa7 hτ [] 11 rfl rfl rfl rfl rfl ?_
  refine qbp mixed (by kernel_rfl) ?_
  refine qa9 (qa3 [] (l:=[(2,.d (.str (bstr ((x6 ++ x7) ++ x9))))]) (objs:=[]) rfl (by simp) rfl (by trivial) ⟨rfl,trivial,trivial⟩) ?_
  refine qas ?_
  have hr:=Option.some.inj h
  subst hr
  exact qaf (.inr rfl) [] (objs':=[]) (new:=[]) rfl (by simp) (by simp) rfl (by trivial) rfl rfl (by trivial) (fun _=>⟨by simp [V.flat,V.qb2,V.qay,D.flat],qai⟩) ⟨rfl,rfl,rfl⟩
theorem qhu (n:Nat) (p_:qaa) {r:Str} (h:qdz n p_ = some r):qb5 prog false 118 [.agg [.d (.cx .f32 p_.A.re p_.A.im),.d (.cx .f32 p_.B.re p_.B.im),.d (.cx .f32 p_.C.re p_.C.im)]] [] (fun v o new=>v = .d (.str (bstr r))∧o = []∧new = []):=spec_l10Phases_ok_fr0 false n p_ h
def qee (n:Nat) (g_:qbi):Nat→Str→Int→Option Str
  | 0,_,_=>none
  | m126 + 1,v111,v112 =>
    if v112 < (g_.Ties.length:Int) then
      (getI g_.Ties v112).bind fun x129 =>
      (qbc n x129.A (1:Int)).bind fun x130 =>
      (qbc n x129.B (1:Int)).bind fun x131 =>
      grd (x130.length + x131.length ≤ 9223372036854775807) <|
      (qbu n x129.Own).bind fun x133 =>
      grd ((x130 ++ x131).length + x133.length ≤ 9223372036854775807) <|
      (qbu n x129.Shared).bind fun x135 =>
      grd (((x130 ++ x131) ++ x133).length + x135.length ≤ 9223372036854775807) <|
      (qbc n x129.Most (4:Int)).bind fun x137 =>
      grd ((((x130 ++ x131) ++ x133) ++ x135).length + x137.length ≤ 9223372036854775807) <|
      grd (v111.length + ((((x130 ++ x131) ++ x133) ++ x135) ++ x137).length ≤ 9223372036854775807) <|
      (qee n g_ m126) (v111 ++ ((((x130 ++ x131) ++ x133) ++ x135) ++ x137)) (w64 (v112 + (1:Int)))
    else
      some v111
def qgt (n:Nat) (g_:qbi) (v97:Str):Option Str :=
  (qbc n (g_.Ties.length:Int) (1:Int)).bind fun x98 =>
  grd (v97.length + x98.length ≤ 9223372036854775807) <|
  qee n g_ n (v97 ++ x98) (0:Int)
def qef (n:Nat) (g_:qbi):Nat→Str→Int→Option Str
  | 0,_,_=>none
  | m171 + 1,v154,v155 =>
    if v155 < (g_.qa1.qac.length:Int) then
      (getI g_.qa1.qac v155).bind fun x174 =>
      (qbc n (w64 (x174.qag + (1:Int))) (1:Int)).bind fun x175 =>
      (qbu n x174.Own).bind fun x176 =>
      grd (x175.length + x176.length ≤ 9223372036854775807) <|
      (qbu n x174.Shared).bind fun x178 =>
      grd ((x175 ++ x176).length + x178.length ≤ 9223372036854775807) <|
      (qbc n x174.Kind (1:Int)).bind fun x180 =>
      grd (((x175 ++ x176) ++ x178).length + x180.length ≤ 9223372036854775807) <|
      grd (v154.length + (((x175 ++ x176) ++ x178) ++ x180).length ≤ 9223372036854775807) <|
      (qdz n x174.Load).bind fun x183 =>
      (qbc n x174.qa6 (4:Int)).bind fun x184 =>
      grd (x183.length + x184.length ≤ 9223372036854775807) <|
      grd ((v154 ++ (((x175 ++ x176) ++ x178) ++ x180)).length + (x183 ++ x184).length ≤ 9223372036854775807) <|
      (qef n g_ m171) ((v154 ++ (((x175 ++ x176) ++ x178) ++ x180)) ++ (x183 ++ x184)) (w64 (v155 + (1:Int)))
    else
      qgt n g_ v154
def qh3 (n:Nat) (g_:qbi):Option Str :=
  (qdz n g_.qa1.Source).bind fun x63 =>
  grd (([70,68,82,49]:Str).length + x63.length ≤ 9223372036854775807) <|
  (qbc n (g_.qa1.qac.length:Int) (1:Int)).bind fun x65 =>
  grd ((([70,68,82,49]:Str) ++ x63).length + x65.length ≤ 9223372036854775807) <|
  qef n g_ n ((([70,68,82,49]:Str) ++ x63) ++ x65) (0:Int)
theorem spec_l10Head_ok (n:Nat) (g_:qbi) {r:Str} (h:qh3 n g_ = some r):qb5 prog false 77 [.ptr 0 0] [.box [.d (.cx .f32 g_.qa1.Source.A.re g_.qa1.Source.A.im),.d (.cx .f32 g_.qa1.Source.B.re g_.qa1.Source.B.im),.d (.cx .f32 g_.qa1.Source.C.re g_.qa1.Source.C.im),.d (.sl false (g_.qa1.qac.map qah)),.d (.sl false (g_.Ties.map qan))]] (fun v o new=>v = .d (.str (bstr r))∧o = [.box [.d (.cx .f32 g_.qa1.Source.A.re g_.qa1.Source.A.im),.d (.cx .f32 g_.qa1.Source.B.re g_.qa1.Source.B.im),.d (.cx .f32 g_.qa1.Source.C.re g_.qa1.Source.C.im),.d (.sl false (g_.qa1.qac.map qah)),.d (.sl false (g_.Ties.map qan))]]∧new = []):=by
  refine qar hτ func77 rfl (by simp) (by simp) ?_
  unfold qh3 at h
  refine qa5 ?_
  refine qa2 ?_
  refine qa0 hτ rfl rfl rfl ?_
  refine qa4 ?_
  refine qa5 ?_
  refine qa2 ?_
  refine qa0 hτ rfl rfl rfl ?_
  refine qa0 hτ rfl rfl rfl ?_
  refine qa0 hτ rfl rfl rfl ?_
  refine qa0 hτ rfl rfl rfl ?_
  refine qa4 ?_
  refine qa5 ?_
  refine qc9 ?_
  refine qa7 hτ [] 0 rfl rfl rfl rfl rfl ?_
  refine qa7 hτ [] 1 rfl rfl rfl rfl rfl ?_
  refine qa7 hτ [0] 2 rfl rfl rfl rfl rfl ?_
  refine qa7 hτ [0] 3 rfl rfl rfl rfl rfl ?_
  refine qa7 hτ [] 6 rfl rfl rfl rfl rfl ?_
  refine qa7 hτ [] 7 rfl rfl rfl rfl rfl ?_
  refine qa7 hτ [0] 8 rfl rfl rfl rfl rfl ?_
  refine qa7 hτ [0] 9 rfl rfl rfl rfl rfl ?_
  refine qa7 hτ (v:=.d (.int .i64 (g_.qa1.qac.length:Int))) [] 10 rfl rfl rfl rfl (Eq.trans rfl (qfo (f:=qah) g_.qa1.qac)) ?_
  refine qab h fun x63 hx63 h=>?_
  refine qbf hτ false [] [0] 4 rfl rfl rfl rfl (qap func118 rfl rfl) rfl rfl (by simp) ⟨(by trivial),trivial⟩ (by trivial) (qhu n g_.qa1.Source hx63) ⟨rfl,trivial⟩ ?_
  refine qbh h fun hg64 h=>?_
  refine qcz hτ (v:=.d (.str (bstr (([70,68,82,49]:Str) ++ x63)))) [] 5 rfl rfl rfl rfl (Eq.trans rfl (qh1 _ _)) hg64 ?_
  refine qab h fun x65 hx65 h=>?_
  refine qbf hτ false [] [0] 11 rfl rfl rfl rfl (qap func119 rfl rfl) rfl rfl (by simp) ⟨trivial,trivial,trivial⟩ (by trivial) (qcl n (g_.qa1.qac.length:Int) (1:Int) hx65) ⟨rfl,trivial⟩ ?_
  refine qbh h fun hg66 h=>?_
  refine qcz hτ (v:=.d (.str (bstr ((([70,68,82,49]:Str) ++ x63) ++ x65)))) [] 12 rfl rfl rfl rfl (Eq.trans rfl (qh1 _ _)) hg66 ?_
  refine qa7 hτ [] 13 rfl rfl rfl rfl rfl ?_
  refine qbp mixed (by kernel_rfl) ?_
  refine qd1 (ι:=Str) (fun v97=>St.of [(0,.ptr 0 0),(4,.d (.str (bstr v97)))] [.box [.d (.cx .f32 g_.qa1.Source.A.re g_.qa1.Source.A.im),.d (.cx .f32 g_.qa1.Source.B.re g_.qa1.Source.B.im),.d (.cx .f32 g_.qa1.Source.C.re g_.qa1.Source.C.im),.d (.sl false (g_.qa1.qac.map qah)),.d (.sl false (g_.Ties.map qan))]] f77.ntmps 1) (fun v97=>qgt n g_ v97 = some r) ?_ (fun hk140=>?_)
  · rintro v97 h
    replace h:qgt n g_ v97 = some r:=h
    unfold qgt at h
    refine qa5 ?_
    refine qa2 ?_
    refine qa0 hτ rfl rfl rfl ?_
    refine qa0 hτ rfl rfl rfl ?_
    refine qa0 hτ rfl rfl rfl ?_
    refine qa0 hτ rfl rfl rfl ?_
    refine qa0 hτ rfl rfl rfl ?_
    refine qa0 hτ (v:=.d (.int .i64 (g_.Ties.length:Int))) rfl rfl (Eq.trans rfl (qfo (f:=qan) g_.Ties)) ?_
    refine qab h fun x98 hx98 h=>?_
    refine qam hτ false [] rfl rfl rfl (qap func119 rfl rfl) rfl rfl (by simp) ⟨trivial,trivial,trivial⟩ (by trivial) (qcl n (g_.Ties.length:Int) (1:Int) hx98) ?_
    rintro r0 o0 n0 ⟨rfl,rfl,rfl⟩ -
    refine qbh h fun hg99 h=>?_
    refine qbd hτ (v:=.d (.str (bstr (v97 ++ x98)))) rfl rfl (Eq.trans rfl (qh1 _ _)) hg99 ?_
    refine qa0 hτ rfl rfl rfl ?_
    refine qa4 ?_
    refine qa5 ?_
    refine qa5 ?_
    refine qa9 (qa3 [0] (l:=[(0,.ptr 0 0),(4,.d (.str (bstr (v97 ++ x98))))]) (objs:=[.box [.d (.cx .f32 g_.qa1.Source.A.re g_.qa1.Source.A.im),.d (.cx .f32 g_.qa1.Source.B.re g_.qa1.Source.B.im),.d (.cx .f32 g_.qa1.Source.C.re g_.qa1.Source.C.im),.d (.sl false (g_.qa1.qac.map qah)),.d (.sl false (g_.Ties.map qan))]]) rfl (by simp) rfl (by trivial) ⟨rfl,trivial,rfl,trivial,trivial⟩) ?_
    refine qa2 ?_
    refine qa0 hτ rfl rfl rfl ?_
    refine qa4 ?_
    refine qb6 ?_
    refine qe1 (ι:=Nat × Str × Int) (fun (m126,v111,v112)=>St.of [(0,.ptr 0 0),(4,.d (.str (bstr v111))),(7,.d (.int .i64 v112))] [.box [.d (.cx .f32 g_.qa1.Source.A.re g_.qa1.Source.A.im),.d (.cx .f32 g_.qa1.Source.B.re g_.qa1.Source.B.im),.d (.cx .f32 g_.qa1.Source.C.re g_.qa1.Source.C.im),.d (.sl false (g_.qa1.qac.map qah)),.d (.sl false (g_.Ties.map qan))]] f77.ntmps 1) (fun (m126,v111,v112)=>qee n g_ m126 v111 v112 = some r) (fun x=>x.1) (n,(v97 ++ x98),(0:Int)) h (qa3 [0] (l:=[(0,.ptr 0 0),(4,.d (.str (bstr (v97 ++ x98)))),(7,.d (.int .i64 (0:Int)))]) (objs:=[.box [.d (.cx .f32 g_.qa1.Source.A.re g_.qa1.Source.A.im),.d (.cx .f32 g_.qa1.Source.B.re g_.qa1.Source.B.im),.d (.cx .f32 g_.qa1.Source.C.re g_.qa1.Source.C.im),.d (.sl false (g_.qa1.qac.map qah)),.d (.sl false (g_.Ties.map qan))]]) rfl (by simp) rfl (by trivial) ⟨rfl,trivial,rfl,trivial,rfl,trivial,trivial⟩) ?_
    rintro ⟨m126,v111,v112⟩ h
    replace h:qee n g_ m126 v111 v112 = some r:=h
    rcases m126 with _ | m126
    · rw [qee] at h;cases h
    rw [qee] at h
    refine qa5 ?_
    refine qa5 ?_
    refine qa2 ?_
    refine qa0 hτ rfl rfl rfl ?_
    refine qa0 hτ rfl rfl rfl ?_
    refine qa0 hτ rfl rfl rfl ?_
    refine qa0 hτ rfl rfl rfl ?_
    refine qa0 hτ rfl rfl rfl ?_
    refine qa0 hτ (v:=.d (.int .i64 (g_.Ties.length:Int))) rfl rfl (Eq.trans rfl (qfo (f:=qan) g_.Ties)) ?_
    refine qa0 hτ rfl rfl rfl ?_
    refine qa4 ?_
    refine qa9 (qa3 [0] (l:=[(0,.ptr 0 0),(4,.d (.str (bstr v111))),(7,.d (.int .i64 v112)),(93,.d (.bool (decide (v112 < (g_.Ties.length:Int)))))]) (objs:=[.box [.d (.cx .f32 g_.qa1.Source.A.re g_.qa1.Source.A.im),.d (.cx .f32 g_.qa1.Source.B.re g_.qa1.Source.B.im),.d (.cx .f32 g_.qa1.Source.C.re g_.qa1.Source.C.im),.d (.sl false (g_.qa1.qac.map qah)),.d (.sl false (g_.Ties.map qan))]]) rfl (by simp) rfl (by trivial) ⟨rfl,trivial,rfl,trivial,rfl,trivial,rfl,trivial,trivial⟩) ?_
    refine qau rfl (fun hc128=>?_) (fun hc128=>?_)
    · have h:=if_t h hc128
      refine qav ?_
      refine qa5 ?_
      refine qb6 ?_
      refine qa5 ?_
      refine qa2 ?_
      refine qa0 hτ rfl rfl rfl ?_
      refine qa0 hτ rfl rfl rfl ?_
      refine qa0 hτ rfl rfl rfl ?_
      refine qa0 hτ rfl rfl rfl ?_
      refine qa0 hτ rfl rfl rfl ?_
      refine qab h fun x129 hx129 h=>?_
      refine qdw hτ rfl rfl rfl (qbo hx129).1 (qcd hx129) rfl ?_
      refine qa0 hτ rfl rfl rfl ?_
      refine qa4 ?_
      refine qa9 (qa3 [0] (l:=[(0,.ptr 0 0),(4,.d (.str (bstr v111))),(7,.d (.int .i64 v112)),(8,.rop [.int .i64 x129.A,.int .i64 x129.B,.cx .f32 x129.Own.re x129.Own.im,.cx .f32 x129.Shared.re x129.Shared.im,.int .i64 x129.Most] 0)]) (objs:=[.box [.d (.cx .f32 g_.qa1.Source.A.re g_.qa1.Source.A.im),.d (.cx .f32 g_.qa1.Source.B.re g_.qa1.Source.B.im),.d (.cx .f32 g_.qa1.Source.C.re g_.qa1.Source.C.im),.d (.sl false (g_.qa1.qac.map qah)),.d (.sl false (g_.Ties.map qan))]]) rfl (by simp) rfl (by trivial) ⟨rfl,trivial,rfl,trivial,rfl,trivial,rfl,trivial,trivial⟩) ?_
      refine qc9 ?_
      refine qa7 hτ [] 0 rfl rfl rfl rfl rfl ?_
      refine qa7 hτ [] 1 rfl rfl rfl rfl rfl ?_
      refine qa7 hτ [] 2 rfl rfl rfl rfl rfl ?_
      refine qa7 hτ [] 3 rfl rfl rfl rfl rfl ?_
      refine qa7 hτ [] 4 rfl rfl rfl rfl rfl ?_
      refine qa7 hτ [] 6 rfl rfl rfl rfl rfl ?_
      refine qa7 hτ [] 7 rfl rfl rfl rfl rfl ?_
      refine qa7 hτ [] 8 rfl rfl rfl rfl rfl ?_
      refine qa7 hτ [] 9 rfl rfl rfl rfl rfl ?_
      refine qa7 hτ [] 12 rfl rfl rfl rfl rfl ?_
      refine qa7 hτ [] 13 rfl rfl rfl rfl rfl ?_
      refine qa7 hτ [] 14 rfl rfl rfl rfl rfl ?_
      refine qa7 hτ [] 15 rfl rfl rfl rfl rfl ?_
      refine qa7 hτ [] 18 rfl rfl rfl rfl rfl ?_
      refine qa7 hτ [] 19 rfl rfl rfl rfl rfl ?_
      refine qa7 hτ [] 20 rfl rfl rfl rfl rfl ?_
      refine qa7 hτ [] 21 rfl rfl rfl rfl rfl ?_
      refine qa7 hτ [] 24 rfl rfl rfl rfl rfl ?_
      refine qa7 hτ [] 25 rfl rfl rfl rfl rfl ?_
      refine qa7 hτ [] 26 rfl rfl rfl rfl rfl ?_
      refine qa7 hτ [] 27 rfl rfl rfl rfl rfl ?_
      refine qab h fun x130 hx130 h=>?_
      refine qbf hτ false [] [0] 5 rfl rfl rfl rfl (qap func119 rfl rfl) rfl rfl (by simp) ⟨trivial,trivial,trivial⟩ (by trivial) (qcl n x129.A (1:Int) hx130) ⟨rfl,trivial⟩ ?_
      refine qab h fun x131 hx131 h=>?_
      refine qbf hτ false [] [0] 10 rfl rfl rfl rfl (qap func119 rfl rfl) rfl rfl (by simp) ⟨trivial,trivial,trivial⟩ (by trivial) (qcl n x129.B (1:Int) hx131) ⟨rfl,trivial⟩ ?_
      refine qbh h fun hg132 h=>?_
      refine qcz hτ (v:=.d (.str (bstr (x130 ++ x131)))) [] 11 rfl rfl rfl rfl (Eq.trans rfl (qh1 _ _)) hg132 ?_
      refine qab h fun x133 hx133 h=>?_
      refine qbf hτ false [] [0] 16 rfl rfl rfl rfl (qap func120 rfl rfl) rfl rfl (by simp) ⟨trivial,trivial⟩ (by trivial) (qeq n x129.Own hx133) ⟨rfl,trivial⟩ ?_
      refine qbh h fun hg134 h=>?_
      refine qcz hτ (v:=.d (.str (bstr ((x130 ++ x131) ++ x133)))) [] 17 rfl rfl rfl rfl (Eq.trans rfl (qh1 _ _)) hg134 ?_
      refine qab h fun x135 hx135 h=>?_
      refine qbf hτ false [] [0] 22 rfl rfl rfl rfl (qap func120 rfl rfl) rfl rfl (by simp) ⟨trivial,trivial⟩ (by trivial) (qeq n x129.Shared hx135) ⟨rfl,trivial⟩ ?_
      refine qbh h fun hg136 h=>?_
      refine qcz hτ (v:=.d (.str (bstr (((x130 ++ x131) ++ x133) ++ x135)))) [] 23 rfl rfl rfl rfl (Eq.trans rfl (qh1 _ _)) hg136 ?_
      refine qab h fun x137 hx137 h=>?_
      refine qbf hτ false [] [0] 28 rfl rfl rfl rfl (qap func119 rfl rfl) rfl rfl (by simp) ⟨trivial,trivial,trivial⟩ (by trivial) (qcl n x129.Most (4:Int) hx137) ⟨rfl,trivial⟩ ?_
      refine qbh h fun hg138 h=>?_
      refine qcz hτ (v:=.d (.str (bstr ((((x130 ++ x131) ++ x133) ++ x135) ++ x137)))) [] 29 rfl rfl rfl rfl (Eq.trans rfl (qh1 _ _)) hg138 ?_
      refine qbh h fun hg139 h=>?_
      refine qcz hτ (v:=.d (.str (bstr (v111 ++ ((((x130 ++ x131) ++ x133) ++ x135) ++ x137))))) [] 30 rfl rfl rfl rfl (Eq.trans rfl (qh1 _ _)) hg139 ?_
      refine qa7 hτ [] 31 rfl rfl rfl rfl rfl ?_
      refine qbp mixed (by kernel_rfl) ?_
      refine qa9 (qa3 [0] (l:=[(0,.ptr 0 0),(4,.d (.str (bstr (v111 ++ ((((x130 ++ x131) ++ x133) ++ x135) ++ x137))))),(7,.d (.int .i64 v112))]) (objs:=[.box [.d (.cx .f32 g_.qa1.Source.A.re g_.qa1.Source.A.im),.d (.cx .f32 g_.qa1.Source.B.re g_.qa1.Source.B.im),.d (.cx .f32 g_.qa1.Source.C.re g_.qa1.Source.C.im),.d (.sl false (g_.qa1.qac.map qah)),.d (.sl false (g_.Ties.map qan))]]) rfl (by simp) rfl (by trivial) ⟨rfl,trivial,rfl,trivial,rfl,trivial,trivial⟩) ?_
      refine qa2 ?_
      refine qa0 hτ rfl rfl rfl ?_
      refine qa0 hτ rfl rfl rfl ?_
      refine qa0 hτ rfl rfl rfl ?_
      refine qa4 ?_
      exact ⟨(m126,(v111 ++ ((((x130 ++ x131) ++ x133) ++ x135) ++ x137)),(w64 (v112 + (1:Int)))),h,Nat.lt_succ_self m126,(qa3 [0] (l:=[(0,.ptr 0 0),(4,.d (.str (bstr (v111 ++ ((((x130 ++ x131) ++ x133) ++ x135) ++ x137))))),(7,.d (.int .i64 (w64 (v112 + (1:Int)))))]) (objs:=[.box [.d (.cx .f32 g_.qa1.Source.A.re g_.qa1.Source.A.im),.d (.cx .f32 g_.qa1.Source.B.re g_.qa1.Source.B.im),.d (.cx .f32 g_.qa1.Source.C.re g_.qa1.Source.C.im),.d (.sl false (g_.qa1.qac.map qah)),.d (.sl false (g_.Ties.map qan))]]) rfl (by simp) rfl (by trivial) ⟨rfl,trivial,rfl,trivial,rfl,trivial,trivial⟩)⟩
    · have h:=if_f h hc128
      refine qdv ?_
      refine qa5 ?_
      refine qa2 ?_
      refine qa0 hτ rfl rfl rfl ?_
      refine qa0 hτ rfl rfl rfl ?_
      refine qa4 ?_
      refine qa9 (qa3 [0] (l:=[(2,.d (.str (bstr v111)))]) (objs:=[.box [.d (.cx .f32 g_.qa1.Source.A.re g_.qa1.Source.A.im),.d (.cx .f32 g_.qa1.Source.B.re g_.qa1.Source.B.im),.d (.cx .f32 g_.qa1.Source.C.re g_.qa1.Source.C.im),.d (.sl false (g_.qa1.qac.map qah)),.d (.sl false (g_.Ties.map qan))]]) rfl (by simp) rfl (by trivial) ⟨rfl,trivial,trivial⟩) ?_
      refine qas ?_
      have hr:=Option.some.inj h
      subst hr
      exact qaf (.inr rfl) [] (objs':=[.box [.d (.cx .f32 g_.qa1.Source.A.re g_.qa1.Source.A.im),.d (.cx .f32 g_.qa1.Source.B.re g_.qa1.Source.B.im),.d (.cx .f32 g_.qa1.Source.C.re g_.qa1.Source.C.im),.d (.sl false (g_.qa1.qac.map qah)),.d (.sl false (g_.Ties.map qan))]]) (new:=[]) rfl (by simp) (by simp) rfl (by trivial) rfl rfl (by trivial) (fun h=>nomatch h) ⟨rfl,rfl,rfl⟩
  · refine qa5 ?_
    refine qa5 ?_
    refine qa9 (qa3 [0] (l:=[(0,.ptr 0 0),(3,.ptr 0 0),(4,.d (.str (bstr ((([70,68,82,49]:Str) ++ x63) ++ x65))))]) (objs:=[.box [.d (.cx .f32 g_.qa1.Source.A.re g_.qa1.Source.A.im),.d (.cx .f32 g_.qa1.Source.B.re g_.qa1.Source.B.im),.d (.cx .f32 g_.qa1.Source.C.re g_.qa1.Source.C.im),.d (.sl false (g_.qa1.qac.map qah)),.d (.sl false (g_.Ties.map qan))]]) rfl (by simp) rfl (by trivial) ⟨rfl,trivial,rfl,trivial,rfl,trivial,trivial⟩) ?_
    refine qa2 ?_
    refine qa0 hτ rfl rfl rfl ?_
    refine qa4 ?_
    refine qb6 ?_
    refine qe1 (ι:=Nat × Str × Int) (fun (m171,v154,v155)=>St.of [(0,.ptr 0 0),(3,.ptr 0 0),(4,.d (.str (bstr v154))),(5,.d (.int .i64 v155))] [.box [.d (.cx .f32 g_.qa1.Source.A.re g_.qa1.Source.A.im),.d (.cx .f32 g_.qa1.Source.B.re g_.qa1.Source.B.im),.d (.cx .f32 g_.qa1.Source.C.re g_.qa1.Source.C.im),.d (.sl false (g_.qa1.qac.map qah)),.d (.sl false (g_.Ties.map qan))]] f77.ntmps 1) (fun (m171,v154,v155)=>qef n g_ m171 v154 v155 = some r) (fun x=>x.1) (n,((([70,68,82,49]:Str) ++ x63) ++ x65),(0:Int)) h (qa3 [0] (l:=[(0,.ptr 0 0),(3,.ptr 0 0),(4,.d (.str (bstr ((([70,68,82,49]:Str) ++ x63) ++ x65)))),(5,.d (.int .i64 (0:Int)))]) (objs:=[.box [.d (.cx .f32 g_.qa1.Source.A.re g_.qa1.Source.A.im),.d (.cx .f32 g_.qa1.Source.B.re g_.qa1.Source.B.im),.d (.cx .f32 g_.qa1.Source.C.re g_.qa1.Source.C.im),.d (.sl false (g_.qa1.qac.map qah)),.d (.sl false (g_.Ties.map qan))]]) rfl (by simp) rfl (by trivial) ⟨rfl,trivial,rfl,trivial,rfl,trivial,rfl,trivial,trivial⟩) ?_
    rintro ⟨m171,v154,v155⟩ h
    replace h:qef n g_ m171 v154 v155 = some r:=h
    rcases m171 with _ | m171
    · rw [qef] at h;cases h
    rw [qef] at h
    refine qa5 ?_
    refine qa5 ?_
    refine qa2 ?_
    refine qa0 hτ rfl rfl rfl ?_
    refine qa0 hτ rfl rfl rfl ?_
    refine qa0 hτ rfl rfl rfl ?_
    refine qa0 hτ rfl rfl rfl ?_
    refine qa0 hτ rfl rfl rfl ?_
    refine qa0 hτ (v:=.d (.int .i64 (g_.qa1.qac.length:Int))) rfl rfl (Eq.trans rfl (qfo (f:=qah) g_.qa1.qac)) ?_
    refine qa0 hτ rfl rfl rfl ?_
    refine qa4 ?_
    refine qa9 (qa3 [0] (l:=[(0,.ptr 0 0),(3,.ptr 0 0),(4,.d (.str (bstr v154))),(5,.d (.int .i64 v155)),(31,.d (.bool (decide (v155 < (g_.qa1.qac.length:Int)))))]) (objs:=[.box [.d (.cx .f32 g_.qa1.Source.A.re g_.qa1.Source.A.im),.d (.cx .f32 g_.qa1.Source.B.re g_.qa1.Source.B.im),.d (.cx .f32 g_.qa1.Source.C.re g_.qa1.Source.C.im),.d (.sl false (g_.qa1.qac.map qah)),.d (.sl false (g_.Ties.map qan))]]) rfl (by simp) rfl (by trivial) ⟨rfl,trivial,rfl,trivial,rfl,trivial,rfl,trivial,rfl,trivial,trivial⟩) ?_
    refine qau rfl (fun hc173=>?_) (fun hc173=>?_)
    · have h:=if_t h hc173
      refine qav ?_
      refine qa5 ?_
      refine qb6 ?_
      refine qa5 ?_
      refine qa2 ?_
      refine qa0 hτ rfl rfl rfl ?_
      refine qa0 hτ rfl rfl rfl ?_
      refine qa0 hτ rfl rfl rfl ?_
      refine qa0 hτ rfl rfl rfl ?_
      refine qa0 hτ rfl rfl rfl ?_
      refine qab h fun x174 hx174 h=>?_
      refine qdw hτ rfl rfl rfl (qbo hx174).1 (qcd hx174) rfl ?_
      refine qa0 hτ rfl rfl rfl ?_
      refine qa4 ?_
      refine qa5 ?_
      refine qa9 (qa3 [0] (l:=[(0,.ptr 0 0),(3,.ptr 0 0),(4,.d (.str (bstr v154))),(5,.d (.int .i64 v155)),(6,.rop [.int .i64 x174.qag,.cx .f32 x174.Own.re x174.Own.im,.cx .f32 x174.Shared.re x174.Shared.im,.int .i64 x174.Kind,.cx .f32 x174.Load.A.re x174.Load.A.im,.cx .f32 x174.Load.B.re x174.Load.B.im,.cx .f32 x174.Load.C.re x174.Load.C.im,.int .i64 x174.qa6] 0)]) (objs:=[.box [.d (.cx .f32 g_.qa1.Source.A.re g_.qa1.Source.A.im),.d (.cx .f32 g_.qa1.Source.B.re g_.qa1.Source.B.im),.d (.cx .f32 g_.qa1.Source.C.re g_.qa1.Source.C.im),.d (.sl false (g_.qa1.qac.map qah)),.d (.sl false (g_.Ties.map qan))]]) rfl (by simp) rfl (by trivial) ⟨rfl,trivial,rfl,trivial,rfl,trivial,rfl,trivial,rfl,trivial,trivial⟩) ?_
      refine qc9 ?_
      refine qa7 hτ [] 0 rfl rfl rfl rfl rfl ?_
      refine qa7 hτ [] 1 rfl rfl rfl rfl rfl ?_
      refine qa7 hτ [] 2 rfl rfl rfl rfl rfl ?_
      refine qa7 hτ [] 3 rfl rfl rfl rfl rfl ?_
      refine qa7 hτ [] 4 rfl rfl rfl rfl rfl ?_
      refine qa7 hτ [] 5 rfl rfl rfl rfl rfl ?_
      refine qa7 hτ [] 7 rfl rfl rfl rfl rfl ?_
      refine qa7 hτ [] 8 rfl rfl rfl rfl rfl ?_
      refine qa7 hτ [] 9 rfl rfl rfl rfl rfl ?_
      refine qa7 hτ [] 10 rfl rfl rfl rfl rfl ?_
      refine qa7 hτ [] 13 rfl rfl rfl rfl rfl ?_
      refine qa7 hτ [] 14 rfl rfl rfl rfl rfl ?_
      refine qa7 hτ [] 15 rfl rfl rfl rfl rfl ?_
      refine qa7 hτ [] 16 rfl rfl rfl rfl rfl ?_
      refine qa7 hτ [] 19 rfl rfl rfl rfl rfl ?_
      refine qa7 hτ [] 20 rfl rfl rfl rfl rfl ?_
      refine qa7 hτ [] 21 rfl rfl rfl rfl rfl ?_
      refine qa7 hτ [] 22 rfl rfl rfl rfl rfl ?_
      refine qab h fun x175 hx175 h=>?_
      refine qbf hτ false [] [0] 6 rfl rfl rfl rfl (qap func119 rfl rfl) rfl rfl (by simp) ⟨trivial,trivial,trivial⟩ (by trivial) (qcl n (w64 (x174.qag + (1:Int))) (1:Int) hx175) ⟨rfl,trivial⟩ ?_
      refine qab h fun x176 hx176 h=>?_
      refine qbf hτ false [] [0] 11 rfl rfl rfl rfl (qap func120 rfl rfl) rfl rfl (by simp) ⟨trivial,trivial⟩ (by trivial) (qeq n x174.Own hx176) ⟨rfl,trivial⟩ ?_
      refine qbh h fun hg177 h=>?_
      refine qcz hτ (v:=.d (.str (bstr (x175 ++ x176)))) [] 12 rfl rfl rfl rfl (Eq.trans rfl (qh1 _ _)) hg177 ?_
      refine qab h fun x178 hx178 h=>?_
      refine qbf hτ false [] [0] 17 rfl rfl rfl rfl (qap func120 rfl rfl) rfl rfl (by simp) ⟨trivial,trivial⟩ (by trivial) (qeq n x174.Shared hx178) ⟨rfl,trivial⟩ ?_
      refine qbh h fun hg179 h=>?_
      refine qcz hτ (v:=.d (.str (bstr ((x175 ++ x176) ++ x178)))) [] 18 rfl rfl rfl rfl (Eq.trans rfl (qh1 _ _)) hg179 ?_
      refine qab h fun x180 hx180 h=>?_
      refine qbf hτ false [] [0] 23 rfl rfl rfl rfl (qap func119 rfl rfl) rfl rfl (by simp) ⟨trivial,trivial,trivial⟩ (by trivial) (qcl n x174.Kind (1:Int) hx180) ⟨rfl,trivial⟩ ?_
      refine qbh h fun hg181 h=>?_
      refine qcz hτ (v:=.d (.str (bstr (((x175 ++ x176) ++ x178) ++ x180)))) [] 24 rfl rfl rfl rfl (Eq.trans rfl (qh1 _ _)) hg181 ?_
      refine qbh h fun hg182 h=>?_
      refine qcz hτ (v:=.d (.str (bstr (v154 ++ (((x175 ++ x176) ++ x178) ++ x180))))) [] 25 rfl rfl rfl rfl (Eq.trans rfl (qh1 _ _)) hg182 ?_
      refine qa7 hτ [] 26 rfl rfl rfl rfl rfl ?_
      refine qbp mixed (by kernel_rfl) ?_
      refine qa9 (qa3 [0] (l:=[(0,.ptr 0 0),(3,.ptr 0 0),(4,.d (.str (bstr (v154 ++ (((x175 ++ x176) ++ x178) ++ x180))))),(5,.d (.int .i64 v155)),(6,.rop [.int .i64 x174.qag,.cx .f32 x174.Own.re x174.Own.im,.cx .f32 x174.Shared.re x174.Shared.im,.int .i64 x174.Kind,.cx .f32 x174.Load.A.re x174.Load.A.im,.cx .f32 x174.Load.B.re x174.Load.B.im,.cx .f32 x174.Load.C.re x174.Load.C.im,.int .i64 x174.qa6] 0)]) (objs:=[.box [.d (.cx .f32 g_.qa1.Source.A.re g_.qa1.Source.A.im),.d (.cx .f32 g_.qa1.Source.B.re g_.qa1.Source.B.im),.d (.cx .f32 g_.qa1.Source.C.re g_.qa1.Source.C.im),.d (.sl false (g_.qa1.qac.map qah)),.d (.sl false (g_.Ties.map qan))]]) rfl (by simp) rfl (by trivial) ⟨rfl,trivial,rfl,trivial,rfl,trivial,rfl,trivial,rfl,trivial,trivial⟩) ?_
      refine qc9 ?_
      refine qa7 hτ [] 0 rfl rfl rfl rfl rfl ?_
      refine qa7 hτ [] 1 rfl rfl rfl rfl rfl ?_
      refine qa7 hτ [] 2 rfl rfl rfl rfl rfl ?_
      refine qa7 hτ [] 3 rfl rfl rfl rfl rfl ?_
      refine qa7 hτ [] 4 rfl rfl rfl rfl rfl ?_
      refine qa7 hτ [] 6 rfl rfl rfl rfl rfl ?_
      refine qa7 hτ [] 7 rfl rfl rfl rfl rfl ?_
      refine qa7 hτ [] 8 rfl rfl rfl rfl rfl ?_
      refine qa7 hτ [] 9 rfl rfl rfl rfl rfl ?_
      refine qab h fun x183 hx183 h=>?_
      refine qbf hτ false [] [0] 5 rfl rfl rfl rfl (qap func118 rfl rfl) rfl rfl (by simp) ⟨(by trivial),trivial⟩ (by trivial) (qhu n x174.Load hx183) ⟨rfl,trivial⟩ ?_
      refine qab h fun x184 hx184 h=>?_
      refine qbf hτ false [] [0] 10 rfl rfl rfl rfl (qap func119 rfl rfl) rfl rfl (by simp) ⟨trivial,trivial,trivial⟩ (by trivial) (qcl n x174.qa6 (4:Int) hx184) ⟨rfl,trivial⟩ ?_
      refine qbh h fun hg185 h=>?_
      refine qcz hτ (v:=.d (.str (bstr (x183 ++ x184)))) [] 11 rfl rfl rfl rfl (Eq.trans rfl (qh1 _ _)) hg185 ?_
      refine qbh h fun hg186 h=>?_
      refine qcz hτ (v:=.d (.str (bstr ((v154 ++ (((x175 ++ x176) ++ x178) ++ x180)) ++ (x183 ++ x184))))) [] 12 rfl rfl rfl rfl (Eq.trans rfl (qh1 _ _)) hg186 ?_
      refine qa7 hτ [] 13 rfl rfl rfl rfl rfl ?_
      refine qbp mixed (by kernel_rfl) ?_
      refine qa9 (qa3 [0] (l:=[(0,.ptr 0 0),(3,.ptr 0 0),(4,.d (.str (bstr ((v154 ++ (((x175 ++ x176) ++ x178) ++ x180)) ++ (x183 ++ x184))))),(5,.d (.int .i64 v155))]) (objs:=[.box [.d (.cx .f32 g_.qa1.Source.A.re g_.qa1.Source.A.im),.d (.cx .f32 g_.qa1.Source.B.re g_.qa1.Source.B.im),.d (.cx .f32 g_.qa1.Source.C.re g_.qa1.Source.C.im),.d (.sl false (g_.qa1.qac.map qah)),.d (.sl false (g_.Ties.map qan))]]) rfl (by simp) rfl (by trivial) ⟨rfl,trivial,rfl,trivial,rfl,trivial,rfl,trivial,trivial⟩) ?_
      refine qa2 ?_
      refine qa0 hτ rfl rfl rfl ?_
      refine qa0 hτ rfl rfl rfl ?_
      refine qa0 hτ rfl rfl rfl ?_
      refine qa4 ?_
      exact ⟨(m171,((v154 ++ (((x175 ++ x176) ++ x178) ++ x180)) ++ (x183 ++ x184)),(w64 (v155 + (1:Int)))),h,Nat.lt_succ_self m171,(qa3 [0] (l:=[(0,.ptr 0 0),(3,.ptr 0 0),(4,.d (.str (bstr ((v154 ++ (((x175 ++ x176) ++ x178) ++ x180)) ++ (x183 ++ x184))))),(5,.d (.int .i64 (w64 (v155 + (1:Int)))))]) (objs:=[.box [.d (.cx .f32 g_.qa1.Source.A.re g_.qa1.Source.A.im),.d (.cx .f32 g_.qa1.Source.B.re g_.qa1.Source.B.im),.d (.cx .f32 g_.qa1.Source.C.re g_.qa1.Source.C.im),.d (.sl false (g_.qa1.qac.map qah)),.d (.sl false (g_.Ties.map qan))]]) rfl (by simp) rfl (by trivial) ⟨rfl,trivial,rfl,trivial,rfl,trivial,rfl,trivial,trivial⟩)⟩
    · have h:=if_f h hc173
      refine qdv ?_
      refine qa9 (qa3 [0] (l:=[(0,.ptr 0 0),(4,.d (.str (bstr v154)))]) (objs:=[.box [.d (.cx .f32 g_.qa1.Source.A.re g_.qa1.Source.A.im),.d (.cx .f32 g_.qa1.Source.B.re g_.qa1.Source.B.im),.d (.cx .f32 g_.qa1.Source.C.re g_.qa1.Source.C.im),.d (.sl false (g_.qa1.qac.map qah)),.d (.sl false (g_.Ties.map qan))]]) rfl (by simp) rfl (by trivial) ⟨rfl,trivial,rfl,trivial,trivial⟩) ?_
      exact hk140 v154 h
def qdr (n:Nat) (s_:Str) (x59:qaa × qb0) (v86:List SBus) (v109:List STie) (v110:Str) (v111:Int) (v112:Bool):Option (qbi × Int × Bool) :=
  if v112 = true then
    (qi3 n (qbi.mk (qck.mk x59.1 v86) v109)).bind fun x115 =>
    if x115 = true then
      grd (0 ≤ (0:Int)∧(0:Int) ≤ v111∧v111 ≤ (s_.length:Int)) <|
      (qh3 n (qbi.mk (qck.mk x59.1 v86) v109)).bind fun x118 =>
      some ((qbi.mk (qck.mk x59.1 v86) v109),v111,(decide (x118 = (sub s_ (0:Int) v111))))
    else
      some ((qbi.mk (qck.mk x59.1 v86) v109),v111,false)
  else
    some ((qbi.mk (qck.mk x59.1 v86) v109),v111,false)
def qf9 (n:Nat) (k140:List STie→Str→Int→Bool→Int→Option (qbi × Int × Bool)) (v125:List STie) (v126:Str) (v127:Int) (v128:Bool) (v129:Int):Option (qbi × Int × Bool) :=
  (qdu n (qb0.mk v126 v127 v128)).bind fun x143 =>
  grd (room (v125.length + 1) 40) <|
  k140 (v125 ++ [x143.1]) x143.2.text x143.2.at_ x143.2.fine (w64 (v129 - (1:Int)))
def qem (n:Nat) (s_:Str) (x59:qaa × qb0) (v86:List SBus) (k140:List STie→Str→Int→Bool→Int→Option (qbi × Int × Bool)) (v125:List STie) (v126:Str) (v127:Int) (v128:Bool) (v129:Int) (v148:Bool):Option (qbi × Int × Bool) :=
  if v148 = true then
    qf9 n k140 v125 v126 v127 v128 v129
  else
    qdr n s_ x59 v86 v125 v126 v127 v128
def qbj (n:Nat) (s_:Str) (x59:qaa × qb0) (v86:List SBus):Nat→List STie→Str→Int→Bool→Int→Option (qbi × Int × Bool)
  | 0,_,_,_,_,_=>none
  | m139 + 1,v125,v126,v127,v128,v129 =>
    if v129 > (0:Int) then
      qem n s_ x59 v86 (qbj n s_ x59 v86 m139) v125 v126 v127 v128 v129 v128
    else
      qem n s_ x59 v86 (qbj n s_ x59 v86 m139) v125 v126 v127 v128 v129 false
def qdq (n:Nat) (s_:Str) (x59:qaa × qb0) (v84:List SBus) (v85:List STie) (v86:List SBus) (v87:Str) (v88:Int) (v89:Bool):Option (qbi × Int × Bool) :=
  (qaj n (qb0.mk v87 v88 v89) (1:Int)).bind fun x120 =>
  qbj n s_ x59 v86 n ([]:List STie) x120.2.text x120.2.at_ x120.2.fine x120.1
def qfa (n:Nat) (k178:List SBus→List STie→List SBus→Str→Int→Bool→Int→Option (qbi × Int × Bool)) (v159:List SBus) (v160:List STie) (v161:List SBus) (v162:Str) (v163:Int) (v164:Bool) (v165:Int):Option (qbi × Int × Bool) :=
  (qdt n (qb0.mk v162 v163 v164)).bind fun x181 =>
  grd (room (v161.length + 1) 64) <|
  k178 v159 v160 (v161 ++ [x181.1]) x181.2.text x181.2.at_ x181.2.fine (w64 (v165 - (1:Int)))
def qen (n:Nat) (s_:Str) (x59:qaa × qb0) (k178:List SBus→List STie→List SBus→Str→Int→Bool→Int→Option (qbi × Int × Bool)) (v159:List SBus) (v160:List STie) (v161:List SBus) (v162:Str) (v163:Int) (v164:Bool) (v165:Int) (v186:Bool):Option (qbi × Int × Bool) :=
  if v186 = true then
    qfa n k178 v159 v160 v161 v162 v163 v164 v165
  else
    qdq n s_ x59 v159 v160 v161 v162 v163 v164
def qbk (n:Nat) (s_:Str) (x59:qaa × qb0):Nat→List SBus→List STie→List SBus→Str→Int→Bool→Int→Option (qbi × Int × Bool)
  | 0,_,_,_,_,_,_,_=>none
  | m177 + 1,v159,v160,v161,v162,v163,v164,v165 =>
    if v165 > (0:Int) then
      qen n s_ x59 (qbk n s_ x59 m177) v159 v160 v161 v162 v163 v164 v165 v164
    else
      qen n s_ x59 (qbk n s_ x59 m177) v159 v160 v161 v162 v163 v164 v165 false
def qdp (n:Nat) (s_:Str):Option (qbi × Int × Bool) :=
  (qba n (qb0.mk s_ (4:Int) true)).bind fun x59 =>
  (qaj n x59.2 (1:Int)).bind fun x153 =>
  qbk n s_ x59 n ([]:List SBus) ([]:List STie) ([]:List SBus) x153.2.text x153.2.at_ x153.2.fine x153.1
def qg0 (n:Nat) (s_:Str) (v194:Bool):Option (qbi × Int × Bool) :=
  if v194 = true then
    some ((qbi.mk (qck.mk (qaa.mk (Cx.mk (0:Nat) (0:Nat)) (Cx.mk (0:Nat) (0:Nat)) (Cx.mk (0:Nat) (0:Nat))) ([]:List SBus)) ([]:List STie)),(0:Int),false)
  else
    qdp n s_
def qgr (n:Nat) (s_:Str):Option (qbi × Int × Bool) :=
  if (s_.length:Int) < (4:Int) then
    qg0 n s_ true
  else
    grd (0 ≤ (0:Int)∧(0:Int) ≤ (4:Int)∧(4:Int) ≤ (s_.length:Int)) <|
    qg0 n s_ (!(decide ((sub s_ (0:Int) (4:Int)) = ([70,68,82,49]:Str))))
theorem spec_l10Begin_ok (n:Nat) (s_:Str) {r:qbi × Int × Bool} (h:qgr n s_ = some r):qb5 prog false 33 [.d (.str (bstr s_))] [] (fun v o new=>v = .tup [.agg [.d (.cx .f32 r.1.qa1.Source.A.re r.1.qa1.Source.A.im),.d (.cx .f32 r.1.qa1.Source.B.re r.1.qa1.Source.B.im),.d (.cx .f32 r.1.qa1.Source.C.re r.1.qa1.Source.C.im),.d (.sl false (r.1.qa1.qac.map qah)),.d (.sl false (r.1.Ties.map qan))],.d (.int .i64 r.2.1),.d (.bool r.2.2)]∧o = []∧new = []):=by
  refine qar hτ func33 rfl (by simp) (by simp) ?_
  unfold qgr at h
  refine qa5 ?_
  refine qa2 ?_
  refine qaq hτ rfl rfl rfl ?_
  refine qa0 hτ rfl rfl rfl ?_
  refine qa0 hτ rfl rfl rfl ?_
  refine qa4 ?_
  refine qa5 ?_
  refine qa2 ?_
  refine qaq hτ rfl rfl rfl ?_
  refine qa0 hτ rfl rfl rfl ?_
  refine qaq hτ rfl rfl rfl ?_
  refine qaq hτ rfl rfl rfl ?_
  refine qa4 ?_
  refine qd1 (ι:=Unit) (fun _=>St.of [(0,.d (.str (bstr s_))),(2,.ptr 0 0),(5,.ptr 1 0)] [.box [.d (.cx .f32 (0:Nat) (0:Nat)),.d (.cx .f32 (0:Nat) (0:Nat)),.d (.cx .f32 (0:Nat) (0:Nat)),.d (.nils),.d (.nils)],.box [.d (.cx .f32 (0:Nat) (0:Nat)),.d (.cx .f32 (0:Nat) (0:Nat)),.d (.cx .f32 (0:Nat) (0:Nat)),.d (.nils),.row 2 (([]:List STie).length) 0 (([]:List STie).length)],.row 5 (([]:List STie).map qan)] f33.ntmps 0) (fun _=>qdp n s_ = some r) ?_ (fun hk190=>?_)
  · rintro ⟨⟩ h
    replace h:qdp n s_ = some r:=h
    unfold qdp at h
    refine qa5 ?_
    refine qa2 ?_
    refine qa0 hτ rfl rfl rfl ?_
    refine qa0 hτ rfl rfl rfl ?_
    refine qaq hτ rfl rfl rfl ?_
    refine qa0 hτ rfl rfl rfl ?_
    refine qa4 ?_
    refine qa5 ?_
    refine qa2 ?_
    refine qa0 hτ rfl rfl rfl ?_
    refine qab h fun x59 hx59 h=>?_
    refine qam hτ false [3] rfl rfl rfl (qap func72 rfl rfl) rfl rfl (by simp) ⟨trivial,trivial⟩ (by trivial) (qg4 n (qb0.mk s_ (4:Int) true) hx59) ?_
    rintro r0 o0 n0 ⟨rfl,rfl,rfl⟩ -
    refine qa0 hτ rfl rfl rfl ?_
    refine qa0 hτ rfl rfl rfl ?_
    refine qaq hτ rfl rfl rfl ?_
    refine qa4 ?_
    refine qd1 (ι:=List SBus × List STie × List SBus × Str × Int × Bool) (fun (v84,v85,v86,v87,v88,v89)=>St.of [(0,.d (.str (bstr s_))),(2,.ptr 0 0),(5,.ptr 3 0),(6,.ptr 6 0)] [.box [.d (.cx .f32 (0:Nat) (0:Nat)),.d (.cx .f32 (0:Nat) (0:Nat)),.d (.cx .f32 (0:Nat) (0:Nat)),.row 1 v84.length 0 v84.length,.row 2 v85.length 0 v85.length],.row 8 (v84.map qah),.row 5 (v85.map qan),.box [.d (.cx .f32 x59.1.A.re x59.1.A.im),.d (.cx .f32 x59.1.B.re x59.1.B.im),.d (.cx .f32 x59.1.C.re x59.1.C.im),.row 4 v86.length 0 v86.length,.row 5 (([]:List STie).length) 0 (([]:List STie).length)],.row 8 (v86.map qah),.row 5 (([]:List STie).map qan),.box [.d (.str (bstr v87)),.d (.int .i64 v88),.d (.bool v89)]] f33.ntmps 0) (fun (v84,v85,v86,v87,v88,v89)=>qdq n s_ x59 v84 v85 v86 v87 v88 v89 = some r) ?_ (fun hk152=>?_)
    · rintro ⟨v84,v85,v86,v87,v88,v89⟩ h
      replace h:qdq n s_ x59 v84 v85 v86 v87 v88 v89 = some r:=h
      unfold qdq at h
      refine qd1 (ι:=List STie × Str × Int × Bool) (fun (v109,v110,v111,v112)=>St.of [(0,.d (.str (bstr s_))),(2,.ptr 0 0),(5,.ptr 3 0),(6,.ptr 6 0)] [.box [.d (.cx .f32 (0:Nat) (0:Nat)),.d (.cx .f32 (0:Nat) (0:Nat)),.d (.cx .f32 (0:Nat) (0:Nat)),.row 1 v84.length 0 v84.length,.row 2 v85.length 0 v85.length],.row 8 (v84.map qah),.row 5 (v85.map qan),.box [.d (.cx .f32 x59.1.A.re x59.1.A.im),.d (.cx .f32 x59.1.B.re x59.1.B.im),.d (.cx .f32 x59.1.C.re x59.1.C.im),.row 4 v86.length 0 v86.length,.row 5 v109.length 0 v109.length],.row 8 (v86.map qah),.row 5 (v109.map qan),.box [.d (.str (bstr v110)),.d (.int .i64 v111),.d (.bool v112)]] f33.ntmps 0) (fun (v109,v110,v111,v112)=>qdr n s_ x59 v86 v109 v110 v111 v112 = some r) ?_ (fun hk119=>?_)
      · rintro ⟨v109,v110,v111,v112⟩ h
        replace h:qdr n s_ x59 v86 v109 v110 v111 v112 = some r:=h
        unfold qdr at h
        refine qa5 ?_
        refine qa9 (qa3 [0,1,2,3,6] (l:=[(0,.d (.str (bstr s_))),(2,.ptr 0 0),(5,.ptr 3 0),(6,.ptr 4 0)]) (objs:=[.box [.d (.cx .f32 (0:Nat) (0:Nat)),.d (.cx .f32 (0:Nat) (0:Nat)),.d (.cx .f32 (0:Nat) (0:Nat)),.row 1 v84.length 0 v84.length,.row 2 v85.length 0 v85.length],.row 8 (v84.map qah),.row 5 (v85.map qan),.box [.d (.cx .f32 x59.1.A.re x59.1.A.im),.d (.cx .f32 x59.1.B.re x59.1.B.im),.d (.cx .f32 x59.1.C.re x59.1.C.im),.d (.sl false (v86.map qah)),.d (.sl false (v109.map qan))],.box [.d (.str (bstr v110)),.d (.int .i64 v111),.d (.bool v112)]]) rfl (by simp) (qbg rfl (qbg rfl (qbg rfl (qbg (qr7 (qbg rfl (qbg rfl (qbg rfl (qbg (qie (f:=qah) v86 rfl rfl rfl) (qbg (qie (f:=qan) v109 rfl rfl rfl) qht)))))) (qbg rfl qht))))) ⟨(by trivial),trivial,trivial,⟨trivial,trivial,trivial,(qif (f:=qah) v86 rfl rfl rfl),(qif (f:=qan) v109 rfl rfl rfl)⟩,(by trivial),trivial⟩ ⟨rfl,trivial,rfl,trivial,rfl,trivial,rfl,trivial,trivial⟩) ?_
        refine qc9 ?_
        refine qa7 hτ [3] 0 rfl rfl rfl rfl rfl ?_
        refine qa7 hτ [] 1 rfl rfl rfl rfl rfl ?_
        refine qa7 hτ [] 2 rfl rfl rfl rfl rfl ?_
        refine qa7 hτ [4] 3 rfl rfl rfl rfl rfl ?_
        refine qa7 hτ [4] 4 rfl rfl rfl rfl rfl ?_
        refine qa7 hτ [] 5 rfl rfl rfl rfl rfl ?_
        refine qa7 hτ [] 6 rfl rfl rfl rfl rfl ?_
        refine qa7 hτ [4] 7 rfl rfl rfl rfl rfl ?_
        refine qa7 hτ [4] 8 rfl rfl rfl rfl rfl ?_
        refine qa7 hτ [] 9 rfl rfl rfl rfl rfl ?_
        refine qga 76 rfl (fun hb114=>?_) (fun hb114=>?_)
        · have h:=qci h hb114
          refine qab h fun x115 hx115 h=>?_
          refine qbf hτ false [3] [0,1,2,3,4] 10 rfl rfl rfl rfl (qap func76 rfl rfl) rfl rfl (by simp) ⟨trivial,trivial⟩ (by trivial) (spec_l08Is_2_ok n (qbi.mk (qck.mk x59.1 v86) v109) hx115) ⟨rfl,rfl,rfl,rfl,rfl,trivial⟩ ?_
          refine qa7 hτ [] 11 rfl rfl rfl rfl rfl ?_
          refine qa7 hτ [] 12 rfl rfl rfl rfl rfl ?_
          refine qga 79 rfl (fun hb116=>?_) (fun hb116=>?_)
          · have h:=qci h hb116
            refine qa7 hτ [] 14 rfl rfl rfl rfl rfl ?_
            refine qa7 hτ [] 15 rfl rfl rfl rfl rfl ?_
            refine qa7 hτ [] 16 rfl rfl rfl rfl rfl ?_
            refine qa7 hτ [4] 17 rfl rfl rfl rfl rfl ?_
            refine qa7 hτ [4] 18 rfl rfl rfl rfl rfl ?_
            refine qbh h fun hg117 h=>?_
            refine qcz hτ (v:=.d (.str (bstr (sub s_ (0:Int) v111)))) [] 19 rfl rfl rfl rfl (Eq.trans rfl (qlc _ _ _)) hg117 ?_
            refine qab h fun x118 hx118 h=>?_
            refine qbf hτ false [3] [0,1,2,3,4] 13 rfl rfl rfl rfl (qap func77 rfl rfl) rfl rfl (by simp) ⟨trivial,trivial⟩ (by trivial) (spec_l10Head_ok n (qbi.mk (qck.mk x59.1 v86) v109) hx118) ⟨rfl,rfl,rfl,rfl,rfl,trivial⟩ ?_
            refine qa7 hτ (v:=.d (.bool (decide (x118 = (sub s_ (0:Int) v111))))) [] 20 rfl rfl rfl rfl (qsf _ _) ?_
            refine qa7 hτ [] 21 rfl rfl rfl rfl rfl ?_
            refine qd3 hτ [1,2,3,4] 22 rfl rfl rfl rfl ⟨rfl,rfl,rfl,rfl,trivial⟩ ?_
            refine qa7 hτ [] 23 rfl rfl rfl rfl rfl ?_
            refine qa7 hτ [] 24 rfl rfl rfl rfl rfl ?_
            refine qbp mixed (by kernel_rfl) ?_
            refine qa9 (qa3 [0] (l:=[(2,.ptr 0 0),(3,.d (.int .i64 v111)),(4,.d (.bool (decide (x118 = (sub s_ (0:Int) v111)))))]) (objs:=[.box [.d (.cx .f32 x59.1.A.re x59.1.A.im),.d (.cx .f32 x59.1.B.re x59.1.B.im),.d (.cx .f32 x59.1.C.re x59.1.C.im),.d (.sl false (v86.map qah)),.d (.sl false (v109.map qan))]]) rfl (by simp) rfl (by trivial) ⟨rfl,trivial,rfl,trivial,rfl,trivial,trivial⟩) ?_
            refine qas ?_
            have hr:=Option.some.inj h
            subst hr
            exact qaf (.inr rfl) [] (objs':=[]) (new:=[]) rfl (by simp) (by simp) rfl (by trivial) rfl rfl (by trivial) (fun h=>nomatch h) ⟨rfl,rfl,rfl⟩
          · have h:=qch h hb116
            refine qak 14 rfl rfl rfl ?_
            refine qak 15 rfl rfl rfl ?_
            refine qak 16 rfl rfl rfl ?_
            refine qak 17 rfl rfl rfl ?_
            refine qak 18 rfl rfl rfl ?_
            refine qak 19 rfl rfl rfl ?_
            refine qak 13 rfl rfl rfl ?_
            refine qak 20 rfl rfl rfl ?_
            refine qa7 hτ [] 21 rfl rfl rfl rfl rfl ?_
            refine qd3 hτ [1,2,3,4] 22 rfl rfl rfl rfl ⟨rfl,rfl,rfl,rfl,trivial⟩ ?_
            refine qa7 hτ [] 23 rfl rfl rfl rfl rfl ?_
            refine qa7 hτ [] 24 rfl rfl rfl rfl rfl ?_
            refine qbp mixed (by kernel_rfl) ?_
            refine qa9 (qa3 [0] (l:=[(2,.ptr 0 0),(3,.d (.int .i64 v111)),(4,.d (.bool false))]) (objs:=[.box [.d (.cx .f32 x59.1.A.re x59.1.A.im),.d (.cx .f32 x59.1.B.re x59.1.B.im),.d (.cx .f32 x59.1.C.re x59.1.C.im),.d (.sl false (v86.map qah)),.d (.sl false (v109.map qan))]]) rfl (by simp) rfl (by trivial) ⟨rfl,trivial,rfl,trivial,rfl,trivial,trivial⟩) ?_
            refine qas ?_
            have hr:=Option.some.inj h
            subst hr
            exact qaf (.inr rfl) [] (objs':=[]) (new:=[]) rfl (by simp) (by simp) rfl (by trivial) rfl rfl (by trivial) (fun h=>nomatch h) ⟨rfl,rfl,rfl⟩
        · have h:=qch h hb114
          refine qak 10 rfl rfl rfl ?_
          refine qa7 hτ [] 11 rfl rfl rfl rfl rfl ?_
          refine qa7 hτ [] 12 rfl rfl rfl rfl rfl ?_
          refine qak 14 rfl rfl rfl ?_
          refine qak 15 rfl rfl rfl ?_
          refine qak 16 rfl rfl rfl ?_
          refine qak 17 rfl rfl rfl ?_
          refine qak 18 rfl rfl rfl ?_
          refine qak 19 rfl rfl rfl ?_
          refine qak 13 rfl rfl rfl ?_
          refine qak 20 rfl rfl rfl ?_
          refine qa7 hτ [] 21 rfl rfl rfl rfl rfl ?_
          refine qd3 hτ [1,2,3,4] 22 rfl rfl rfl rfl ⟨rfl,rfl,rfl,rfl,trivial⟩ ?_
          refine qa7 hτ [] 23 rfl rfl rfl rfl rfl ?_
          refine qa7 hτ [] 24 rfl rfl rfl rfl rfl ?_
          refine qbp mixed (by kernel_rfl) ?_
          refine qa9 (qa3 [0] (l:=[(2,.ptr 0 0),(3,.d (.int .i64 v111)),(4,.d (.bool false))]) (objs:=[.box [.d (.cx .f32 x59.1.A.re x59.1.A.im),.d (.cx .f32 x59.1.B.re x59.1.B.im),.d (.cx .f32 x59.1.C.re x59.1.C.im),.d (.sl false (v86.map qah)),.d (.sl false (v109.map qan))]]) rfl (by simp) rfl (by trivial) ⟨rfl,trivial,rfl,trivial,rfl,trivial,trivial⟩) ?_
          refine qas ?_
          have hr:=Option.some.inj h
          subst hr
          exact qaf (.inr rfl) [] (objs':=[]) (new:=[]) rfl (by simp) (by simp) rfl (by trivial) rfl rfl (by trivial) (fun h=>nomatch h) ⟨rfl,rfl,rfl⟩
      · refine qa5 ?_
        refine qa5 ?_
        refine qa2 ?_
        refine qa0 hτ rfl rfl rfl ?_
        refine qab h fun x120 hx120 h=>?_
        refine qam hτ false [6] rfl rfl rfl (qap func73 rfl rfl) rfl rfl (by simp) ⟨trivial,trivial,trivial⟩ (by trivial) (qbq n (qb0.mk v87 v88 v89) (1:Int) hx120) ?_
        rintro r0 o0 n0 ⟨rfl,rfl,rfl⟩ -
        refine qa0 hτ rfl rfl rfl ?_
        refine qa4 ?_
        refine qb6 ?_
        refine qe1 (ι:=Nat × List STie × Str × Int × Bool × Int) (fun (m139,v125,v126,v127,v128,v129)=>St.of [(0,.d (.str (bstr s_))),(2,.ptr 0 0),(5,.ptr 3 0),(6,.ptr 6 0),(8,.d (.int .i64 v129))] [.box [.d (.cx .f32 (0:Nat) (0:Nat)),.d (.cx .f32 (0:Nat) (0:Nat)),.d (.cx .f32 (0:Nat) (0:Nat)),.row 1 v84.length 0 v84.length,.row 2 v85.length 0 v85.length],.row 8 (v84.map qah),.row 5 (v85.map qan),.box [.d (.cx .f32 x59.1.A.re x59.1.A.im),.d (.cx .f32 x59.1.B.re x59.1.B.im),.d (.cx .f32 x59.1.C.re x59.1.C.im),.row 4 v86.length 0 v86.length,.row 5 v125.length 0 v125.length],.row 8 (v86.map qah),.row 5 (v125.map qan),.box [.d (.str (bstr v126)),.d (.int .i64 v127),.d (.bool v128)]] f33.ntmps 0) (fun (m139,v125,v126,v127,v128,v129)=>qbj n s_ x59 v86 m139 v125 v126 v127 v128 v129 = some r) (fun x=>x.1) (n,([]:List STie),x120.2.text,x120.2.at_,x120.2.fine,x120.1) h (qa3 [0,1,2,3,4,5,6] (l:=[(0,.d (.str (bstr s_))),(2,.ptr 0 0),(5,.ptr 3 0),(6,.ptr 6 0),(8,.d (.int .i64 x120.1))]) (objs:=[.box [.d (.cx .f32 (0:Nat) (0:Nat)),.d (.cx .f32 (0:Nat) (0:Nat)),.d (.cx .f32 (0:Nat) (0:Nat)),.row 1 v84.length 0 v84.length,.row 2 v85.length 0 v85.length],.row 8 (v84.map qah),.row 5 (v85.map qan),.box [.d (.cx .f32 x59.1.A.re x59.1.A.im),.d (.cx .f32 x59.1.B.re x59.1.B.im),.d (.cx .f32 x59.1.C.re x59.1.C.im),.row 4 v86.length 0 v86.length,.row 5 (([]:List STie).length) 0 (([]:List STie).length)],.row 8 (v86.map qah),.row 5 (([]:List STie).map qan),.box [.d (.str (bstr x120.2.text)),.d (.int .i64 x120.2.at_),.d (.bool x120.2.fine)]]) rfl (by simp) rfl (by trivial) ⟨rfl,trivial,rfl,trivial,rfl,trivial,rfl,trivial,rfl,trivial,trivial⟩) ?_
        rintro ⟨m139,v125,v126,v127,v128,v129⟩ h
        replace h:qbj n s_ x59 v86 m139 v125 v126 v127 v128 v129 = some r:=h
        rcases m139 with _ | m139
        · rw [qbj] at h;cases h
        rw [qbj] at h
        refine qd1 (ι:=Unit) (fun _=>St.of [(0,.d (.str (bstr s_))),(2,.ptr 0 0),(5,.ptr 3 0),(6,.ptr 6 0),(8,.d (.int .i64 v129))] [.box [.d (.cx .f32 (0:Nat) (0:Nat)),.d (.cx .f32 (0:Nat) (0:Nat)),.d (.cx .f32 (0:Nat) (0:Nat)),.row 1 v84.length 0 v84.length,.row 2 v85.length 0 v85.length],.row 8 (v84.map qah),.row 5 (v85.map qan),.box [.d (.cx .f32 x59.1.A.re x59.1.A.im),.d (.cx .f32 x59.1.B.re x59.1.B.im),.d (.cx .f32 x59.1.C.re x59.1.C.im),.row 4 v86.length 0 v86.length,.row 5 v125.length 0 v125.length],.row 8 (v86.map qah),.row 5 (v125.map qan),.box [.d (.str (bstr v126)),.d (.int .i64 v127),.d (.bool v128)]] f33.ntmps 0) (fun _=>qf9 n (qbj n s_ x59 v86 m139) v125 v126 v127 v128 v129 = some r) ?_ (fun hk145=>?_)
        · rintro ⟨⟩ h
          replace h:qf9 n (qbj n s_ x59 v86 m139) v125 v126 v127 v128 v129 = some r:=h
          unfold qf9 at h
          refine qa5 ?_
          refine qb6 ?_
          refine qc9 ?_
          refine qa7 hτ [3] 0 rfl rfl rfl rfl rfl ?_
          refine qa7 hτ [3] 1 rfl rfl rfl rfl rfl ?_
          refine qa7 hτ [] 2 rfl rfl rfl rfl rfl ?_
          refine qab h fun x143 hx143 h=>?_
          refine qbf hτ false [6] [0,1,2,3,4,5] 3 rfl rfl rfl rfl (qap func75 rfl rfl) rfl rfl (by simp) ⟨trivial,trivial⟩ (by trivial) (spec_l10Eyes_tie_ok n (qb0.mk v126 v127 v128) hx143) ⟨rfl,rfl,rfl,rfl,rfl,rfl,trivial⟩ ?_
          refine qd3 hτ [0,1,2,3,4,5,6] 4 rfl rfl rfl rfl ⟨rfl,rfl,rfl,rfl,rfl,rfl,rfl,trivial⟩ ?_
          refine qbh h fun hg144 h=>?_
          refine qir hτ [0,1,2,3,4,6,7] 5 rfl rfl rfl (Eq.trans rfl (or_append (f:=qan) v125 [x143.1] rfl)) ⟨⟨rfl,Nat.le_of_ble_eq_true rfl⟩,qc8 _,rfl,rfl,hg144,by decide,(all1 rfl)⟩ ⟨rfl,rfl,rfl,rfl,rfl,rfl,rfl,trivial⟩ ?_
          refine qa7 hτ [3] 6 rfl rfl rfl rfl rfl ?_
          refine qd3 hτ [0,1,2,4,5,6,7] 7 rfl rfl rfl rfl ⟨rfl,rfl,rfl,rfl,rfl,rfl,rfl,trivial⟩ ?_
          refine qbp mixed (by kernel_rfl) ?_
          refine qa9 (qa3 [0,1,2,3,4,5,6] (l:=[(0,.d (.str (bstr s_))),(2,.ptr 0 0),(5,.ptr 3 0),(6,.ptr 6 0),(8,.d (.int .i64 v129))]) (objs:=[.box [.d (.cx .f32 (0:Nat) (0:Nat)),.d (.cx .f32 (0:Nat) (0:Nat)),.d (.cx .f32 (0:Nat) (0:Nat)),.row 1 v84.length 0 v84.length,.row 2 v85.length 0 v85.length],.row 8 (v84.map qah),.row 5 (v85.map qan),.box [.d (.cx .f32 x59.1.A.re x59.1.A.im),.d (.cx .f32 x59.1.B.re x59.1.B.im),.d (.cx .f32 x59.1.C.re x59.1.C.im),.row 4 v86.length 0 v86.length,.row 5 ((v125 ++ [x143.1]).length) 0 ((v125 ++ [x143.1]).length)],.row 8 (v86.map qah),.row 5 ((v125 ++ [x143.1]).map qan),.box [.d (.str (bstr x143.2.text)),.d (.int .i64 x143.2.at_),.d (.bool x143.2.fine)]]) rfl (by simp) rfl (by trivial) ⟨rfl,trivial,rfl,trivial,rfl,trivial,rfl,trivial,rfl,trivial,trivial⟩) ?_
          refine qa2 ?_
          refine qa0 hτ rfl rfl rfl ?_
          refine qa0 hτ rfl rfl rfl ?_
          refine qa0 hτ rfl rfl rfl ?_
          refine qa4 ?_
          exact ⟨(m139,(v125 ++ [x143.1]),x143.2.text,x143.2.at_,x143.2.fine,(w64 (v129 - (1:Int)))),h,Nat.lt_succ_self m139,(qa3 [0,1,2,3,4,5,6] (l:=[(0,.d (.str (bstr s_))),(2,.ptr 0 0),(5,.ptr 3 0),(6,.ptr 6 0),(8,.d (.int .i64 (w64 (v129 - (1:Int)))))]) (objs:=[.box [.d (.cx .f32 (0:Nat) (0:Nat)),.d (.cx .f32 (0:Nat) (0:Nat)),.d (.cx .f32 (0:Nat) (0:Nat)),.row 1 v84.length 0 v84.length,.row 2 v85.length 0 v85.length],.row 8 (v84.map qah),.row 5 (v85.map qan),.box [.d (.cx .f32 x59.1.A.re x59.1.A.im),.d (.cx .f32 x59.1.B.re x59.1.B.im),.d (.cx .f32 x59.1.C.re x59.1.C.im),.row 4 v86.length 0 v86.length,.row 5 ((v125 ++ [x143.1]).length) 0 ((v125 ++ [x143.1]).length)],.row 8 (v86.map qah),.row 5 ((v125 ++ [x143.1]).map qan),.box [.d (.str (bstr x143.2.text)),.d (.int .i64 x143.2.at_),.d (.bool x143.2.fine)]]) rfl (by simp) rfl (by trivial) ⟨rfl,trivial,rfl,trivial,rfl,trivial,rfl,trivial,rfl,trivial,trivial⟩)⟩
        · refine qa5 ?_
          refine qd1 (ι:=Bool) (fun v148=>St.of [(0,.d (.str (bstr s_))),(2,.ptr 0 0),(5,.ptr 3 0),(6,.ptr 6 0),(8,.d (.int .i64 v129)),(57,.d (.bool v148))] [.box [.d (.cx .f32 (0:Nat) (0:Nat)),.d (.cx .f32 (0:Nat) (0:Nat)),.d (.cx .f32 (0:Nat) (0:Nat)),.row 1 v84.length 0 v84.length,.row 2 v85.length 0 v85.length],.row 8 (v84.map qah),.row 5 (v85.map qan),.box [.d (.cx .f32 x59.1.A.re x59.1.A.im),.d (.cx .f32 x59.1.B.re x59.1.B.im),.d (.cx .f32 x59.1.C.re x59.1.C.im),.row 4 v86.length 0 v86.length,.row 5 v125.length 0 v125.length],.row 8 (v86.map qah),.row 5 (v125.map qan),.box [.d (.str (bstr v126)),.d (.int .i64 v127),.d (.bool v128)]] f33.ntmps 0) (fun v148=>qem n s_ x59 v86 (qbj n s_ x59 v86 m139) v125 v126 v127 v128 v129 v148 = some r) ?_ (fun hk150=>?_)
          · rintro v148 h
            replace h:qem n s_ x59 v86 (qbj n s_ x59 v86 m139) v125 v126 v127 v128 v129 v148 = some r:=h
            unfold qem at h
            refine qau rfl (fun hc149=>?_) (fun hc149=>?_)
            · have h:=qci h hc149
              refine qav ?_
              refine qa9 (qa3 [0,1,2,3,4,5,6] (l:=[(0,.d (.str (bstr s_))),(2,.ptr 0 0),(5,.ptr 3 0),(6,.ptr 6 0),(8,.d (.int .i64 v129))]) (objs:=[.box [.d (.cx .f32 (0:Nat) (0:Nat)),.d (.cx .f32 (0:Nat) (0:Nat)),.d (.cx .f32 (0:Nat) (0:Nat)),.row 1 v84.length 0 v84.length,.row 2 v85.length 0 v85.length],.row 8 (v84.map qah),.row 5 (v85.map qan),.box [.d (.cx .f32 x59.1.A.re x59.1.A.im),.d (.cx .f32 x59.1.B.re x59.1.B.im),.d (.cx .f32 x59.1.C.re x59.1.C.im),.row 4 v86.length 0 v86.length,.row 5 v125.length 0 v125.length],.row 8 (v86.map qah),.row 5 (v125.map qan),.box [.d (.str (bstr v126)),.d (.int .i64 v127),.d (.bool v128)]]) rfl (by simp) rfl (by trivial) ⟨rfl,trivial,rfl,trivial,rfl,trivial,rfl,trivial,rfl,trivial,trivial⟩) ?_
              exact hk145 () h
            · have h:=qch h hc149
              refine qdv ?_
              refine qa9 (qa3 [0,1,2,3,4,5,6] (l:=[(0,.d (.str (bstr s_))),(2,.ptr 0 0),(5,.ptr 3 0),(6,.ptr 6 0)]) (objs:=[.box [.d (.cx .f32 (0:Nat) (0:Nat)),.d (.cx .f32 (0:Nat) (0:Nat)),.d (.cx .f32 (0:Nat) (0:Nat)),.row 1 v84.length 0 v84.length,.row 2 v85.length 0 v85.length],.row 8 (v84.map qah),.row 5 (v85.map qan),.box [.d (.cx .f32 x59.1.A.re x59.1.A.im),.d (.cx .f32 x59.1.B.re x59.1.B.im),.d (.cx .f32 x59.1.C.re x59.1.C.im),.row 4 v86.length 0 v86.length,.row 5 v125.length 0 v125.length],.row 8 (v86.map qah),.row 5 (v125.map qan),.box [.d (.str (bstr v126)),.d (.int .i64 v127),.d (.bool v128)]]) rfl (by simp) rfl (by trivial) ⟨rfl,trivial,rfl,trivial,rfl,trivial,rfl,trivial,trivial⟩) ?_
              exact hk119 (v125,v126,v127,v128) h
          · refine qa5 ?_
            refine qa2 ?_
            refine qa0 hτ rfl rfl rfl ?_
            refine qa0 hτ rfl rfl rfl ?_
            refine qa0 hτ rfl rfl rfl ?_
            refine qcm 52 rfl (fun hb151=>?_) (fun hb151=>?_)
            · have h:=if_t h hb151
              refine qa0 hτ rfl rfl rfl ?_
              refine qa0 hτ rfl rfl rfl ?_
              refine qa0 hτ rfl rfl rfl ?_
              refine qa0 hτ rfl rfl rfl ?_
              refine qa0 hτ rfl rfl rfl ?_
              refine qa4 ?_
              refine qa9 (qa3 [0,1,2,3,4,5,6] (l:=[(0,.d (.str (bstr s_))),(2,.ptr 0 0),(5,.ptr 3 0),(6,.ptr 6 0),(8,.d (.int .i64 v129)),(57,.d (.bool v128))]) (objs:=[.box [.d (.cx .f32 (0:Nat) (0:Nat)),.d (.cx .f32 (0:Nat) (0:Nat)),.d (.cx .f32 (0:Nat) (0:Nat)),.row 1 v84.length 0 v84.length,.row 2 v85.length 0 v85.length],.row 8 (v84.map qah),.row 5 (v85.map qan),.box [.d (.cx .f32 x59.1.A.re x59.1.A.im),.d (.cx .f32 x59.1.B.re x59.1.B.im),.d (.cx .f32 x59.1.C.re x59.1.C.im),.row 4 v86.length 0 v86.length,.row 5 v125.length 0 v125.length],.row 8 (v86.map qah),.row 5 (v125.map qan),.box [.d (.str (bstr v126)),.d (.int .i64 v127),.d (.bool v128)]]) rfl (by simp) rfl (by trivial) ⟨rfl,trivial,rfl,trivial,rfl,trivial,rfl,trivial,rfl,trivial,rfl,trivial,trivial⟩) ?_
              exact hk150 v128 h
            · have h:=if_f h hb151
              refine qao rfl rfl ?_
              refine qao rfl rfl ?_
              refine qao rfl rfl ?_
              refine qao rfl rfl ?_
              refine qa0 hτ rfl rfl rfl ?_
              refine qa4 ?_
              refine qa9 (qa3 [0,1,2,3,4,5,6] (l:=[(0,.d (.str (bstr s_))),(2,.ptr 0 0),(5,.ptr 3 0),(6,.ptr 6 0),(8,.d (.int .i64 v129)),(57,.d (.bool false))]) (objs:=[.box [.d (.cx .f32 (0:Nat) (0:Nat)),.d (.cx .f32 (0:Nat) (0:Nat)),.d (.cx .f32 (0:Nat) (0:Nat)),.row 1 v84.length 0 v84.length,.row 2 v85.length 0 v85.length],.row 8 (v84.map qah),.row 5 (v85.map qan),.box [.d (.cx .f32 x59.1.A.re x59.1.A.im),.d (.cx .f32 x59.1.B.re x59.1.B.im),.d (.cx .f32 x59.1.C.re x59.1.C.im),.row 4 v86.length 0 v86.length,.row 5 v125.length 0 v125.length],.row 8 (v86.map qah),.row 5 (v125.map qan),.box [.d (.str (bstr v126)),.d (.int .i64 v127),.d (.bool v128)]]) rfl (by simp) rfl (by trivial) ⟨rfl,trivial,rfl,trivial,rfl,trivial,rfl,trivial,rfl,trivial,rfl,trivial,trivial⟩) ?_
              exact hk150 false h
    · refine qa5 ?_
      refine qa5 ?_
      refine qa9 (qa3 [0,1,2,3] (l:=[(0,.d (.str (bstr s_))),(2,.ptr 0 0),(5,.ptr 1 0),(6,.ptr 3 0)]) (objs:=[.box [.d (.cx .f32 (0:Nat) (0:Nat)),.d (.cx .f32 (0:Nat) (0:Nat)),.d (.cx .f32 (0:Nat) (0:Nat)),.d (.nils),.d (.nils)],.box [.d (.cx .f32 x59.1.A.re x59.1.A.im),.d (.cx .f32 x59.1.B.re x59.1.B.im),.d (.cx .f32 x59.1.C.re x59.1.C.im),.d (.nils),.row 2 (([]:List STie).length) 0 (([]:List STie).length)],.row 5 (([]:List STie).map qan),.box [.d (.str (bstr x59.2.text)),.d (.int .i64 x59.2.at_),.d (.bool x59.2.fine)]]) rfl (by simp) rfl (by trivial) ⟨rfl,trivial,rfl,trivial,rfl,trivial,rfl,trivial,trivial⟩) ?_
      refine qa2 ?_
      refine qa0 hτ rfl rfl rfl ?_
      refine qab h fun x153 hx153 h=>?_
      refine qam hτ false [3] rfl rfl rfl (qap func73 rfl rfl) rfl rfl (by simp) ⟨trivial,trivial,trivial⟩ (by trivial) (qbq n x59.2 (1:Int) hx153) ?_
      rintro r0 o0 n0 ⟨rfl,rfl,rfl⟩ -
      refine qa0 hτ rfl rfl rfl ?_
      refine qa4 ?_
      refine qb6 ?_
      refine qe1 (ι:=Nat × List SBus × List STie × List SBus × Str × Int × Bool × Int) (fun (m177,v159,v160,v161,v162,v163,v164,v165)=>St.of [(0,.d (.str (bstr s_))),(2,.ptr 0 0),(5,.ptr 3 0),(6,.ptr 6 0),(7,.d (.int .i64 v165))] [.box [.d (.cx .f32 (0:Nat) (0:Nat)),.d (.cx .f32 (0:Nat) (0:Nat)),.d (.cx .f32 (0:Nat) (0:Nat)),.row 1 v159.length 0 v159.length,.row 2 v160.length 0 v160.length],.row 8 (v159.map qah),.row 5 (v160.map qan),.box [.d (.cx .f32 x59.1.A.re x59.1.A.im),.d (.cx .f32 x59.1.B.re x59.1.B.im),.d (.cx .f32 x59.1.C.re x59.1.C.im),.row 4 v161.length 0 v161.length,.row 5 (([]:List STie).length) 0 (([]:List STie).length)],.row 8 (v161.map qah),.row 5 (([]:List STie).map qan),.box [.d (.str (bstr v162)),.d (.int .i64 v163),.d (.bool v164)]] f33.ntmps 0) (fun (m177,v159,v160,v161,v162,v163,v164,v165)=>qbk n s_ x59 m177 v159 v160 v161 v162 v163 v164 v165 = some r) (fun x=>x.1) (n,([]:List SBus),([]:List STie),([]:List SBus),x153.2.text,x153.2.at_,x153.2.fine,x153.1) h (Weak.trans (Weak.trans (qa3 [0,1,2,3] (l:=[(0,.d (.str (bstr s_))),(2,.ptr 0 0),(5,.ptr 1 0),(6,.ptr 3 0),(7,.d (.int .i64 x153.1))]) (objs:=[.box [.d (.cx .f32 (0:Nat) (0:Nat)),.d (.cx .f32 (0:Nat) (0:Nat)),.d (.cx .f32 (0:Nat) (0:Nat)),.d (.nils),.d (.nils)],.box [.d (.cx .f32 x59.1.A.re x59.1.A.im),.d (.cx .f32 x59.1.B.re x59.1.B.im),.d (.cx .f32 x59.1.C.re x59.1.C.im),.d (.nils),.row 2 (([]:List STie).length) 0 (([]:List STie).length)],.row 5 (([]:List STie).map qan),.box [.d (.str (bstr x153.2.text)),.d (.int .i64 x153.2.at_),.d (.bool x153.2.fine)]]) rfl (by simp) rfl (by trivial) ⟨rfl,trivial,rfl,trivial,rfl,trivial,rfl,trivial,rfl,trivial,trivial⟩) (qh4 [8,5,8] (l':=[(0,.d (.str (bstr s_))),(2,.ptr 0 0),(5,.ptr 1 0),(6,.ptr 3 0),(7,.d (.int .i64 x153.1))]) (objs':=[.box [.d (.cx .f32 (0:Nat) (0:Nat)),.d (.cx .f32 (0:Nat) (0:Nat)),.d (.cx .f32 (0:Nat) (0:Nat)),.row 4 (([]:List SBus).length) 0 (([]:List SBus).length),.row 5 (([]:List STie).length) 0 (([]:List STie).length)],.box [.d (.cx .f32 x59.1.A.re x59.1.A.im),.d (.cx .f32 x59.1.B.re x59.1.B.im),.d (.cx .f32 x59.1.C.re x59.1.C.im),.row 6 (([]:List SBus).length) 0 (([]:List SBus).length),.row 2 (([]:List STie).length) 0 (([]:List STie).length)],.row 5 (([]:List STie).map qan),.box [.d (.str (bstr x153.2.text)),.d (.int .i64 x153.2.at_),.d (.bool x153.2.fine)]]) (.cons (.c (.refl _)) (.cons (.c (.refl _)) (.cons (.c (.refl _)) (.cons (.c (.refl _)) (.cons (.c (.refl _)) .nil))))) (.cons (.box (.cons (.refl _) (.cons (.refl _) (.cons (.refl _) (.cons (.ghost ⟨Nat.le_of_ble_eq_true rfl,Nat.le_of_ble_eq_true rfl⟩) (.cons (.ghost ⟨Nat.le_of_ble_eq_true rfl,Nat.le_of_ble_eq_true rfl⟩) .nil)))))) (.cons (.box (.cons (.refl _) (.cons (.refl _) (.cons (.refl _) (.cons (.ghost ⟨Nat.le_of_ble_eq_true rfl,Nat.le_of_ble_eq_true rfl⟩) (.cons (.refl _) .nil)))))) (.cons (.refl _) (.cons (.refl _) .nil)))))) (qa3 [0,4,5,1,6,2,3] (l:=[(0,.d (.str (bstr s_))),(2,.ptr 0 0),(5,.ptr 3 0),(6,.ptr 6 0),(7,.d (.int .i64 x153.1))]) (objs:=[.box [.d (.cx .f32 (0:Nat) (0:Nat)),.d (.cx .f32 (0:Nat) (0:Nat)),.d (.cx .f32 (0:Nat) (0:Nat)),.row 1 (([]:List SBus).length) 0 (([]:List SBus).length),.row 2 (([]:List STie).length) 0 (([]:List STie).length)],.row 8 (([]:List SBus).map qah),.row 5 (([]:List STie).map qan),.box [.d (.cx .f32 x59.1.A.re x59.1.A.im),.d (.cx .f32 x59.1.B.re x59.1.B.im),.d (.cx .f32 x59.1.C.re x59.1.C.im),.row 4 (([]:List SBus).length) 0 (([]:List SBus).length),.row 5 (([]:List STie).length) 0 (([]:List STie).length)],.row 8 (([]:List SBus).map qah),.row 5 (([]:List STie).map qan),.box [.d (.str (bstr x153.2.text)),.d (.int .i64 x153.2.at_),.d (.bool x153.2.fine)]]) rfl (by simp) rfl (by trivial) ⟨rfl,trivial,rfl,trivial,rfl,trivial,rfl,trivial,rfl,trivial,trivial⟩)) ?_
      rintro ⟨m177,v159,v160,v161,v162,v163,v164,v165⟩ h
      replace h:qbk n s_ x59 m177 v159 v160 v161 v162 v163 v164 v165 = some r:=h
      rcases m177 with _ | m177
      · rw [qbk] at h;cases h
      rw [qbk] at h
      refine qd1 (ι:=Unit) (fun _=>St.of [(0,.d (.str (bstr s_))),(2,.ptr 0 0),(5,.ptr 3 0),(6,.ptr 6 0),(7,.d (.int .i64 v165))] [.box [.d (.cx .f32 (0:Nat) (0:Nat)),.d (.cx .f32 (0:Nat) (0:Nat)),.d (.cx .f32 (0:Nat) (0:Nat)),.row 1 v159.length 0 v159.length,.row 2 v160.length 0 v160.length],.row 8 (v159.map qah),.row 5 (v160.map qan),.box [.d (.cx .f32 x59.1.A.re x59.1.A.im),.d (.cx .f32 x59.1.B.re x59.1.B.im),.d (.cx .f32 x59.1.C.re x59.1.C.im),.row 4 v161.length 0 v161.length,.row 5 (([]:List STie).length) 0 (([]:List STie).length)],.row 8 (v161.map qah),.row 5 (([]:List STie).map qan),.box [.d (.str (bstr v162)),.d (.int .i64 v163),.d (.bool v164)]] f33.ntmps 0) (fun _=>qfa n (qbk n s_ x59 m177) v159 v160 v161 v162 v163 v164 v165 = some r) ?_ (fun hk183=>?_)
      · rintro ⟨⟩ h
        replace h:qfa n (qbk n s_ x59 m177) v159 v160 v161 v162 v163 v164 v165 = some r:=h
        unfold qfa at h
        refine qa5 ?_
        refine qb6 ?_
        refine qc9 ?_
        refine qa7 hτ [3] 0 rfl rfl rfl rfl rfl ?_
        refine qa7 hτ [3] 1 rfl rfl rfl rfl rfl ?_
        refine qa7 hτ [3] 2 rfl rfl rfl rfl rfl ?_
        refine qa7 hτ [] 3 rfl rfl rfl rfl rfl ?_
        refine qab h fun x181 hx181 h=>?_
        refine qbf hτ false [6] [0,1,2,3,4,5] 4 rfl rfl rfl rfl (qap func74 rfl rfl) rfl rfl (by simp) ⟨trivial,trivial⟩ (by trivial) (spec_l10Eyes_bus_ok n (qb0.mk v162 v163 v164) hx181) ⟨rfl,rfl,rfl,rfl,rfl,rfl,trivial⟩ ?_
        refine qd3 hτ [0,1,2,3,4,5,6] 5 rfl rfl rfl rfl ⟨rfl,rfl,rfl,rfl,rfl,rfl,rfl,trivial⟩ ?_
        refine qbh h fun hg182 h=>?_
        refine qir hτ [0,1,2,3,5,6,7] 6 rfl rfl rfl (Eq.trans rfl (or_append (f:=qah) v161 [x181.1] rfl)) ⟨⟨rfl,Nat.le_of_ble_eq_true rfl⟩,qc8 _,rfl,rfl,hg182,by decide,(all1 rfl)⟩ ⟨rfl,rfl,rfl,rfl,rfl,rfl,rfl,trivial⟩ ?_
        refine qa7 hτ [3] 7 rfl rfl rfl rfl rfl ?_
        refine qa7 hτ [3] 8 rfl rfl rfl rfl rfl ?_
        refine qd3 hτ [0,1,2,4,5,6,7] 9 rfl rfl rfl rfl ⟨rfl,rfl,rfl,rfl,rfl,rfl,rfl,trivial⟩ ?_
        refine qbp mixed (by kernel_rfl) ?_
        refine qa9 (qa3 [0,1,2,3,4,5,6] (l:=[(0,.d (.str (bstr s_))),(2,.ptr 0 0),(5,.ptr 3 0),(6,.ptr 6 0),(7,.d (.int .i64 v165))]) (objs:=[.box [.d (.cx .f32 (0:Nat) (0:Nat)),.d (.cx .f32 (0:Nat) (0:Nat)),.d (.cx .f32 (0:Nat) (0:Nat)),.row 1 v159.length 0 v159.length,.row 2 v160.length 0 v160.length],.row 8 (v159.map qah),.row 5 (v160.map qan),.box [.d (.cx .f32 x59.1.A.re x59.1.A.im),.d (.cx .f32 x59.1.B.re x59.1.B.im),.d (.cx .f32 x59.1.C.re x59.1.C.im),.row 4 ((v161 ++ [x181.1]).length) 0 ((v161 ++ [x181.1]).length),.row 5 (([]:List STie).length) 0 (([]:List STie).length)],.row 8 ((v161 ++ [x181.1]).map qah),.row 5 (([]:List STie).map qan),.box [.d (.str (bstr x181.2.text)),.d (.int .i64 x181.2.at_),.d (.bool x181.2.fine)]]) rfl (by simp) rfl (by trivial) ⟨rfl,trivial,rfl,trivial,rfl,trivial,rfl,trivial,rfl,trivial,trivial⟩) ?_
        refine qa2 ?_
        refine qa0 hτ rfl rfl rfl ?_
        refine qa0 hτ rfl rfl rfl ?_
        refine qa0 hτ rfl rfl rfl ?_
        refine qa4 ?_
        exact ⟨(m177,v159,v160,(v161 ++ [x181.1]),x181.2.text,x181.2.at_,x181.2.fine,(w64 (v165 - (1:Int)))),h,Nat.lt_succ_self m177,(qa3 [0,1,2,3,4,5,6] (l:=[(0,.d (.str (bstr s_))),(2,.ptr 0 0),(5,.ptr 3 0),(6,.ptr 6 0),(7,.d (.int .i64 (w64 (v165 - (1:Int)))))]) (objs:=[.box [.d (.cx .f32 (0:Nat) (0:Nat)),.d (.cx .f32 (0:Nat) (0:Nat)),.d (.cx .f32 (0:Nat) (0:Nat)),.row 1 v159.length 0 v159.length,.row 2 v160.length 0 v160.length],.row 8 (v159.map qah),.row 5 (v160.map qan),.box [.d (.cx .f32 x59.1.A.re x59.1.A.im),.d (.cx .f32 x59.1.B.re x59.1.B.im),.d (.cx .f32 x59.1.C.re x59.1.C.im),.row 4 ((v161 ++ [x181.1]).length) 0 ((v161 ++ [x181.1]).length),.row 5 (([]:List STie).length) 0 (([]:List STie).length)],.row 8 ((v161 ++ [x181.1]).map qah),.row 5 (([]:List STie).map qan),.box [.d (.str (bstr x181.2.text)),.d (.int .i64 x181.2.at_),.d (.bool x181.2.fine)]]) rfl (by simp) rfl (by trivial) ⟨rfl,trivial,rfl,trivial,rfl,trivial,rfl,trivial,rfl,trivial,trivial⟩)⟩
      · refine qa5 ?_
        refine qd1 (ι:=Bool) (fun v186=>St.of [(0,.d (.str (bstr s_))),(2,.ptr 0 0),(5,.ptr 3 0),(6,.ptr 6 0),(7,.d (.int .i64 v165)),(36,.d (.bool v186))] [.box [.d (.cx .f32 (0:Nat) (0:Nat)),.d (.cx .f32 (0:Nat) (0:Nat)),.d (.cx .f32 (0:Nat) (0:Nat)),.row 1 v159.length 0 v159.length,.row 2 v160.length 0 v160.length],.row 8 (v159.map qah),.row 5 (v160.map qan),.box [.d (.cx .f32 x59.1.A.re x59.1.A.im),.d (.cx .f32 x59.1.B.re x59.1.B.im),.d (.cx .f32 x59.1.C.re x59.1.C.im),.row 4 v161.length 0 v161.length,.row 5 (([]:List STie).length) 0 (([]:List STie).length)],.row 8 (v161.map qah),.row 5 (([]:List STie).map qan),.box [.d (.str (bstr v162)),.d (.int .i64 v163),.d (.bool v164)]] f33.ntmps 0) (fun v186=>qen n s_ x59 (qbk n s_ x59 m177) v159 v160 v161 v162 v163 v164 v165 v186 = some r) ?_ (fun hk188=>?_)
        · rintro v186 h
          replace h:qen n s_ x59 (qbk n s_ x59 m177) v159 v160 v161 v162 v163 v164 v165 v186 = some r:=h
          unfold qen at h
          refine qau rfl (fun hc187=>?_) (fun hc187=>?_)
          · have h:=qci h hc187
            refine qav ?_
            refine qa9 (qa3 [0,1,2,3,4,5,6] (l:=[(0,.d (.str (bstr s_))),(2,.ptr 0 0),(5,.ptr 3 0),(6,.ptr 6 0),(7,.d (.int .i64 v165))]) (objs:=[.box [.d (.cx .f32 (0:Nat) (0:Nat)),.d (.cx .f32 (0:Nat) (0:Nat)),.d (.cx .f32 (0:Nat) (0:Nat)),.row 1 v159.length 0 v159.length,.row 2 v160.length 0 v160.length],.row 8 (v159.map qah),.row 5 (v160.map qan),.box [.d (.cx .f32 x59.1.A.re x59.1.A.im),.d (.cx .f32 x59.1.B.re x59.1.B.im),.d (.cx .f32 x59.1.C.re x59.1.C.im),.row 4 v161.length 0 v161.length,.row 5 (([]:List STie).length) 0 (([]:List STie).length)],.row 8 (v161.map qah),.row 5 (([]:List STie).map qan),.box [.d (.str (bstr v162)),.d (.int .i64 v163),.d (.bool v164)]]) rfl (by simp) rfl (by trivial) ⟨rfl,trivial,rfl,trivial,rfl,trivial,rfl,trivial,rfl,trivial,trivial⟩) ?_
            exact hk183 () h
          · have h:=qch h hc187
            refine qdv ?_
            refine qa9 (qa3 [0,1,2,3,4,5,6] (l:=[(0,.d (.str (bstr s_))),(2,.ptr 0 0),(5,.ptr 3 0),(6,.ptr 6 0)]) (objs:=[.box [.d (.cx .f32 (0:Nat) (0:Nat)),.d (.cx .f32 (0:Nat) (0:Nat)),.d (.cx .f32 (0:Nat) (0:Nat)),.row 1 v159.length 0 v159.length,.row 2 v160.length 0 v160.length],.row 8 (v159.map qah),.row 5 (v160.map qan),.box [.d (.cx .f32 x59.1.A.re x59.1.A.im),.d (.cx .f32 x59.1.B.re x59.1.B.im),.d (.cx .f32 x59.1.C.re x59.1.C.im),.row 4 v161.length 0 v161.length,.row 5 (([]:List STie).length) 0 (([]:List STie).length)],.row 8 (v161.map qah),.row 5 (([]:List STie).map qan),.box [.d (.str (bstr v162)),.d (.int .i64 v163),.d (.bool v164)]]) rfl (by simp) rfl (by trivial) ⟨rfl,trivial,rfl,trivial,rfl,trivial,rfl,trivial,trivial⟩) ?_
            exact hk152 (v159,v160,v161,v162,v163,v164) h
        · refine qa5 ?_
          refine qa2 ?_
          refine qa0 hτ rfl rfl rfl ?_
          refine qa0 hτ rfl rfl rfl ?_
          refine qa0 hτ rfl rfl rfl ?_
          refine qcm 31 rfl (fun hb189=>?_) (fun hb189=>?_)
          · have h:=if_t h hb189
            refine qa0 hτ rfl rfl rfl ?_
            refine qa0 hτ rfl rfl rfl ?_
            refine qa0 hτ rfl rfl rfl ?_
            refine qa0 hτ rfl rfl rfl ?_
            refine qa0 hτ rfl rfl rfl ?_
            refine qa4 ?_
            refine qa9 (qa3 [0,1,2,3,4,5,6] (l:=[(0,.d (.str (bstr s_))),(2,.ptr 0 0),(5,.ptr 3 0),(6,.ptr 6 0),(7,.d (.int .i64 v165)),(36,.d (.bool v164))]) (objs:=[.box [.d (.cx .f32 (0:Nat) (0:Nat)),.d (.cx .f32 (0:Nat) (0:Nat)),.d (.cx .f32 (0:Nat) (0:Nat)),.row 1 v159.length 0 v159.length,.row 2 v160.length 0 v160.length],.row 8 (v159.map qah),.row 5 (v160.map qan),.box [.d (.cx .f32 x59.1.A.re x59.1.A.im),.d (.cx .f32 x59.1.B.re x59.1.B.im),.d (.cx .f32 x59.1.C.re x59.1.C.im),.row 4 v161.length 0 v161.length,.row 5 (([]:List STie).length) 0 (([]:List STie).length)],.row 8 (v161.map qah),.row 5 (([]:List STie).map qan),.box [.d (.str (bstr v162)),.d (.int .i64 v163),.d (.bool v164)]]) rfl (by simp) rfl (by trivial) ⟨rfl,trivial,rfl,trivial,rfl,trivial,rfl,trivial,rfl,trivial,rfl,trivial,trivial⟩) ?_
            exact hk188 v164 h
          · have h:=if_f h hb189
            refine qao rfl rfl ?_
            refine qao rfl rfl ?_
            refine qao rfl rfl ?_
            refine qao rfl rfl ?_
            refine qa0 hτ rfl rfl rfl ?_
            refine qa4 ?_
            refine qa9 (qa3 [0,1,2,3,4,5,6] (l:=[(0,.d (.str (bstr s_))),(2,.ptr 0 0),(5,.ptr 3 0),(6,.ptr 6 0),(7,.d (.int .i64 v165)),(36,.d (.bool false))]) (objs:=[.box [.d (.cx .f32 (0:Nat) (0:Nat)),.d (.cx .f32 (0:Nat) (0:Nat)),.d (.cx .f32 (0:Nat) (0:Nat)),.row 1 v159.length 0 v159.length,.row 2 v160.length 0 v160.length],.row 8 (v159.map qah),.row 5 (v160.map qan),.box [.d (.cx .f32 x59.1.A.re x59.1.A.im),.d (.cx .f32 x59.1.B.re x59.1.B.im),.d (.cx .f32 x59.1.C.re x59.1.C.im),.row 4 v161.length 0 v161.length,.row 5 (([]:List STie).length) 0 (([]:List STie).length)],.row 8 (v161.map qah),.row 5 (([]:List STie).map qan),.box [.d (.str (bstr v162)),.d (.int .i64 v163),.d (.bool v164)]]) rfl (by simp) rfl (by trivial) ⟨rfl,trivial,rfl,trivial,rfl,trivial,rfl,trivial,rfl,trivial,rfl,trivial,trivial⟩) ?_
            exact hk188 false h
  · refine qa5 ?_
    refine qd1 (ι:=Bool) (fun v194=>St.of [(0,.d (.str (bstr s_))),(2,.ptr 0 0),(5,.ptr 1 0),(18,.d (.bool v194))] [.box [.d (.cx .f32 (0:Nat) (0:Nat)),.d (.cx .f32 (0:Nat) (0:Nat)),.d (.cx .f32 (0:Nat) (0:Nat)),.d (.nils),.d (.nils)],.box [.d (.cx .f32 (0:Nat) (0:Nat)),.d (.cx .f32 (0:Nat) (0:Nat)),.d (.cx .f32 (0:Nat) (0:Nat)),.d (.nils),.row 2 (([]:List STie).length) 0 (([]:List STie).length)],.row 5 (([]:List STie).map qan)] f33.ntmps 0) (fun v194=>qg0 n s_ v194 = some r) ?_ (fun hk196=>?_)
    · rintro v194 h
      replace h:qg0 n s_ v194 = some r:=h
      unfold qg0 at h
      refine qau rfl (fun hc195=>?_) (fun hc195=>?_)
      · have h:=qci h hc195
        refine qa5 ?_
        refine qa2 ?_
        refine qa0 hτ rfl rfl rfl ?_
        refine qaq hτ rfl rfl rfl ?_
        refine qa0 hτ rfl rfl rfl ?_
        refine qa0 hτ rfl rfl rfl ?_
        refine qa4 ?_
        refine qa9 (qa3 [0] (l:=[(2,.ptr 0 0),(3,.d (.int .i64 (0:Int))),(4,.d (.bool false))]) (objs:=[.box [.d (.cx .f32 (0:Nat) (0:Nat)),.d (.cx .f32 (0:Nat) (0:Nat)),.d (.cx .f32 (0:Nat) (0:Nat)),.d (.nils),.d (.sl false (([]:List STie).map qan))]]) rfl (by simp) (qbg (qr7 (qbg rfl (qbg rfl (qbg rfl (qbg rfl (qbg (qie (f:=qan) ([]:List STie) rfl rfl rfl) qht)))))) qht) ⟨⟨trivial,trivial,trivial,trivial,(qif (f:=qan) ([]:List STie) rfl rfl rfl)⟩,trivial⟩ ⟨rfl,trivial,rfl,trivial,rfl,trivial,trivial⟩) ?_
        refine qa9 (qh4 [] (l':=[(2,.ptr 0 0),(3,.d (.int .i64 (0:Int))),(4,.d (.bool false))]) (objs':=[.box [.d (.cx .f32 (0:Nat) (0:Nat)),.d (.cx .f32 (0:Nat) (0:Nat)),.d (.cx .f32 (0:Nat) (0:Nat)),.d (.sl false (([]:List SBus).map qah)),.d (.sl false (([]:List STie).map qan))]]) (.cons (.c (.refl _)) (.cons (.c (.refl _)) (.cons (.c (.refl _)) .nil))) (.cons (.box (.cons (.refl _) (.cons (.refl _) (.cons (.refl _) (.cons (.d .nil) (.cons (.refl _) .nil)))))) .nil)) ?_
        refine qas ?_
        have hr:=Option.some.inj h
        subst hr
        exact qaf (.inr rfl) [] (objs':=[]) (new:=[]) rfl (by simp) (by simp) rfl (by trivial) rfl rfl (by trivial) (fun h=>nomatch h) ⟨rfl,rfl,rfl⟩
      · have h:=qch h hc195
        refine qav ?_
        refine qa9 (qa3 [0,1,2] (l:=[(0,.d (.str (bstr s_))),(2,.ptr 0 0),(5,.ptr 1 0)]) (objs:=[.box [.d (.cx .f32 (0:Nat) (0:Nat)),.d (.cx .f32 (0:Nat) (0:Nat)),.d (.cx .f32 (0:Nat) (0:Nat)),.d (.nils),.d (.nils)],.box [.d (.cx .f32 (0:Nat) (0:Nat)),.d (.cx .f32 (0:Nat) (0:Nat)),.d (.cx .f32 (0:Nat) (0:Nat)),.d (.nils),.row 2 (([]:List STie).length) 0 (([]:List STie).length)],.row 5 (([]:List STie).map qan)]) rfl (by simp) rfl (by trivial) ⟨rfl,trivial,rfl,trivial,rfl,trivial,trivial⟩) ?_
        exact hk190 () h
    · refine qa5 ?_
      refine qa9 (qa3 [0,2,1] (l:=[(0,.d (.str (bstr s_))),(2,.ptr 0 0),(5,.ptr 1 0)]) (objs:=[.box [.d (.cx .f32 (0:Nat) (0:Nat)),.d (.cx .f32 (0:Nat) (0:Nat)),.d (.cx .f32 (0:Nat) (0:Nat)),.d (.nils),.d (.nils)],.box [.d (.cx .f32 (0:Nat) (0:Nat)),.d (.cx .f32 (0:Nat) (0:Nat)),.d (.cx .f32 (0:Nat) (0:Nat)),.d (.nils),.row 2 (([]:List STie).length) 0 (([]:List STie).length)],.row 5 (([]:List STie).map qan)]) rfl (by simp) rfl (by trivial) ⟨rfl,trivial,rfl,trivial,rfl,trivial,trivial⟩) ?_
      refine qa2 ?_
      refine qa0 hτ rfl rfl rfl ?_
      refine qa0 hτ rfl rfl rfl ?_
      refine qa0 hτ rfl rfl rfl ?_
      refine qa0 hτ rfl rfl rfl ?_
      refine qcm 14 rfl (fun hb197=>?_) (fun hb197=>?_)
      · have h:=if_t h hb197
        refine qao rfl rfl ?_
        refine qao rfl rfl ?_
        refine qao rfl rfl ?_
        refine qa0 hτ rfl rfl rfl ?_
        refine qa4 ?_
        refine qa9 (qa3 [0,1,2] (l:=[(0,.d (.str (bstr s_))),(2,.ptr 0 0),(5,.ptr 1 0),(18,.d (.bool true))]) (objs:=[.box [.d (.cx .f32 (0:Nat) (0:Nat)),.d (.cx .f32 (0:Nat) (0:Nat)),.d (.cx .f32 (0:Nat) (0:Nat)),.d (.nils),.d (.nils)],.box [.d (.cx .f32 (0:Nat) (0:Nat)),.d (.cx .f32 (0:Nat) (0:Nat)),.d (.cx .f32 (0:Nat) (0:Nat)),.d (.nils),.row 2 (([]:List STie).length) 0 (([]:List STie).length)],.row 5 (([]:List STie).map qan)]) rfl (by simp) rfl (by trivial) ⟨rfl,trivial,rfl,trivial,rfl,trivial,rfl,trivial,trivial⟩) ?_
        exact hk196 true h
      · have h:=if_f h hb197
        refine qa0 hτ rfl rfl rfl ?_
        refine qbh h fun hg198 h=>?_
        refine qbd hτ (v:=.d (.str (bstr (sub s_ (0:Int) (4:Int))))) rfl rfl (Eq.trans rfl (qlc _ _ _)) hg198 ?_
        refine qa0 hτ (v:=.d (.bool (!(decide ((sub s_ (0:Int) (4:Int)) = ([70,68,82,49]:Str)))))) rfl rfl (qsg _ _) ?_
        refine qa0 hτ rfl rfl rfl ?_
        refine qa4 ?_
        refine qa9 (qa3 [0,1,2] (l:=[(0,.d (.str (bstr s_))),(2,.ptr 0 0),(5,.ptr 1 0),(18,.d (.bool (!(decide ((sub s_ (0:Int) (4:Int)) = ([70,68,82,49]:Str))))))]) (objs:=[.box [.d (.cx .f32 (0:Nat) (0:Nat)),.d (.cx .f32 (0:Nat) (0:Nat)),.d (.cx .f32 (0:Nat) (0:Nat)),.d (.nils),.d (.nils)],.box [.d (.cx .f32 (0:Nat) (0:Nat)),.d (.cx .f32 (0:Nat) (0:Nat)),.d (.cx .f32 (0:Nat) (0:Nat)),.d (.nils),.row 2 (([]:List STie).length) 0 (([]:List STie).length)],.row 5 (([]:List STie).map qan)]) rfl (by simp) rfl (by trivial) ⟨rfl,trivial,rfl,trivial,rfl,trivial,rfl,trivial,trivial⟩) ?_
        exact hk196 (!(decide ((sub s_ (0:Int) (4:Int)) = ([70,68,82,49]:Str)))) h
def qds (n:Nat) (f_:qbb):Nat→Str→Int→Option Str
  | 0,_,_=>none
  | m42 + 1,v32,v33 =>
    if v33 < (f_.qad.length:Int) then
      (getI f_.qad v33).bind fun x45 =>
      (getI f_.qae v33).bind fun x46 =>
      (qdz n x45).bind fun x47 =>
      (qdz n x46).bind fun x48 =>
      grd (x47.length + x48.length ≤ 9223372036854775807) <|
      grd (v32.length + (x47 ++ x48).length ≤ 9223372036854775807) <|
      (qds n f_ m42) (v32 ++ (x47 ++ x48)) (w64 (v33 + (1:Int)))
    else
      some v32
def qeo (n:Nat) (f_:qbb) (v22:Int):Option Str :=
  (qbc n f_.Rounds (1:Int)).bind fun x23 =>
  (qbc n v22 (1:Int)).bind fun x24 =>
  grd (x23.length + x24.length ≤ 9223372036854775807) <|
  qds n f_ n (x23 ++ x24) (0:Int)
def qf8 (n:Nat) (f_:qbb):Option Str :=
  if f_.qcj = true then
    qeo n f_ (1:Int)
  else
    qeo n f_ (0:Int)
theorem spec_l10Bytes_ok_fr0 (fr:Bool) (n:Nat) (f_:qbb) {r:Str} (h:qf8 n f_ = some r):qb5 prog fr 133 [.ptr 0 0] [.box [.row 1 f_.qad.length 0 f_.qad.length,.row 2 f_.qae.length 0 f_.qae.length,.d (.int .i64 f_.Rounds),.d (.bool f_.qcj)],.row 3 (f_.qad.map qa8),.row 3 (f_.qae.map qa8)] (fun v o new=>v = .d (.str (bstr r))∧o = [.box [.row 1 f_.qad.length 0 f_.qad.length,.row 2 f_.qae.length 0 f_.qae.length,.d (.int .i64 f_.Rounds),.d (.bool f_.qcj)],.row 3 (f_.qad.map qa8),.row 3 (f_.qae.map qa8)]∧new = []):=by
  refine qar hτ func133 rfl (by simp) (by simp) ?_
  unfold qf8 at h
  refine qa5 ?_
  refine qa2 ?_
  refine qa0 hτ rfl rfl rfl ?_
  refine qa4 ?_
  refine qa5 ?_
  refine qa2 ?_
  refine qa0 hτ rfl rfl rfl ?_
  refine qa4 ?_
  refine qd1 (ι:=Int) (fun v22=>St.of [(0,.ptr 0 0),(3,.d (.int .i64 v22))] [.box [.row 1 f_.qad.length 0 f_.qad.length,.row 2 f_.qae.length 0 f_.qae.length,.d (.int .i64 f_.Rounds),.d (.bool f_.qcj)],.row 3 (f_.qad.map qa8),.row 3 (f_.qae.map qa8)] f133.ntmps 3) (fun v22=>qeo n f_ v22 = some r) ?_ (fun hk51=>?_)
  · rintro v22 h
    replace h:qeo n f_ v22 = some r:=h
    unfold qeo at h
    refine qa5 ?_
    refine qa2 ?_
    refine qa0 hτ rfl rfl rfl ?_
    refine qa0 hτ rfl rfl rfl ?_
    refine qa0 hτ rfl rfl rfl ?_
    refine qa0 hτ rfl rfl rfl ?_
    refine qab h fun x23 hx23 h=>?_
    refine qam hτ false [] rfl rfl rfl (qap func119 rfl rfl) rfl rfl (by simp) ⟨trivial,trivial,trivial⟩ (by trivial) (qcl n f_.Rounds (1:Int) hx23) ?_
    rintro r0 o0 n0 ⟨rfl,rfl,rfl⟩ -
    refine qa0 hτ rfl rfl rfl ?_
    refine qab h fun x24 hx24 h=>?_
    refine qam hτ false [] rfl rfl rfl (qap func119 rfl rfl) rfl rfl (by simp) ⟨trivial,trivial,trivial⟩ (by trivial) (qcl n v22 (1:Int) hx24) ?_
    rintro r0 o0 n0 ⟨rfl,rfl,rfl⟩ -
    refine qbh h fun hg25 h=>?_
    refine qbd hτ (v:=.d (.str (bstr (x23 ++ x24)))) rfl rfl (Eq.trans rfl (qh1 _ _)) hg25 ?_
    refine qa0 hτ rfl rfl rfl ?_
    refine qa4 ?_
    refine qa5 ?_
    refine qa5 ?_
    refine qa9 (qa3 [0,1,2] (l:=[(0,.ptr 0 0),(4,.d (.str (bstr (x23 ++ x24))))]) (objs:=[.box [.row 1 f_.qad.length 0 f_.qad.length,.row 2 f_.qae.length 0 f_.qae.length,.d (.int .i64 f_.Rounds),.d (.bool f_.qcj)],.row 3 (f_.qad.map qa8),.row 3 (f_.qae.map qa8)]) rfl (by simp) rfl (by trivial) ⟨rfl,trivial,rfl,trivial,trivial⟩) ?_
    refine qa2 ?_
    refine qa0 hτ rfl rfl rfl ?_
    refine qa4 ?_
    refine qb6 ?_
    refine qe1 (ι:=Nat × Str × Int) (fun (m42,v32,v33)=>St.of [(0,.ptr 0 0),(4,.d (.str (bstr v32))),(5,.d (.int .i64 v33))] [.box [.row 1 f_.qad.length 0 f_.qad.length,.row 2 f_.qae.length 0 f_.qae.length,.d (.int .i64 f_.Rounds),.d (.bool f_.qcj)],.row 3 (f_.qad.map qa8),.row 3 (f_.qae.map qa8)] f133.ntmps 3) (fun (m42,v32,v33)=>qds n f_ m42 v32 v33 = some r) (fun x=>x.1) (n,(x23 ++ x24),(0:Int)) h (qa3 [0,1,2] (l:=[(0,.ptr 0 0),(4,.d (.str (bstr (x23 ++ x24)))),(5,.d (.int .i64 (0:Int)))]) (objs:=[.box [.row 1 f_.qad.length 0 f_.qad.length,.row 2 f_.qae.length 0 f_.qae.length,.d (.int .i64 f_.Rounds),.d (.bool f_.qcj)],.row 3 (f_.qad.map qa8),.row 3 (f_.qae.map qa8)]) rfl (by simp) rfl (by trivial) ⟨rfl,trivial,rfl,trivial,rfl,trivial,trivial⟩) ?_
    rintro ⟨m42,v32,v33⟩ h
    replace h:qds n f_ m42 v32 v33 = some r:=h
    rcases m42 with _ | m42
    · rw [qds] at h;cases h
    rw [qds] at h
    refine qa5 ?_
    refine qa5 ?_
    refine qa2 ?_
    refine qa0 hτ rfl rfl rfl ?_
    refine qa0 hτ rfl rfl rfl ?_
    refine qa0 hτ rfl rfl rfl ?_
    refine qa0 hτ rfl rfl rfl ?_
    refine qa0 hτ rfl rfl rfl ?_
    refine qbd hτ rfl rfl rfl (qc8 _) ?_
    refine qa0 hτ rfl rfl rfl ?_
    refine qa4 ?_
    refine qa9 (qa3 [0,1,2] (l:=[(0,.ptr 0 0),(4,.d (.str (bstr v32))),(5,.d (.int .i64 v33)),(24,.d (.bool (decide (v33 < (f_.qad.length:Int)))))]) (objs:=[.box [.row 1 f_.qad.length 0 f_.qad.length,.row 2 f_.qae.length 0 f_.qae.length,.d (.int .i64 f_.Rounds),.d (.bool f_.qcj)],.row 3 (f_.qad.map qa8),.row 3 (f_.qae.map qa8)]) rfl (by simp) rfl (by trivial) ⟨rfl,trivial,rfl,trivial,rfl,trivial,rfl,trivial,trivial⟩) ?_
    refine qau rfl (fun hc44=>?_) (fun hc44=>?_)
    · have h:=if_t h hc44
      refine qav ?_
      refine qa5 ?_
      refine qb6 ?_
      refine qc9 ?_
      refine qa7 hτ [] 0 rfl rfl rfl rfl rfl ?_
      refine qa7 hτ [] 1 rfl rfl rfl rfl rfl ?_
      refine qa7 hτ [] 2 rfl rfl rfl rfl rfl ?_
      refine qa7 hτ [0] 3 rfl rfl rfl rfl rfl ?_
      refine qa7 hτ [0] 4 rfl rfl rfl rfl rfl ?_
      refine qa7 hτ [] 5 rfl rfl rfl rfl rfl ?_
      refine qab h fun x45 hx45 h=>?_
      refine qcz hτ [1] 6 rfl rfl rfl rfl rfl (qgo hx45) ?_
      refine qic hτ [1] 7 rfl rfl rfl rfl rfl (qc8 _) (qh7 hx45) rfl ?_
      refine qa7 hτ [] 9 rfl rfl rfl rfl rfl ?_
      refine qa7 hτ [] 10 rfl rfl rfl rfl rfl ?_
      refine qa7 hτ [0] 11 rfl rfl rfl rfl rfl ?_
      refine qa7 hτ [0] 12 rfl rfl rfl rfl rfl ?_
      refine qa7 hτ [] 13 rfl rfl rfl rfl rfl ?_
      refine qab h fun x46 hx46 h=>?_
      refine qcz hτ [2] 14 rfl rfl rfl rfl rfl (qgo hx46) ?_
      refine qic hτ [2] 15 rfl rfl rfl rfl rfl (qc8 _) (qh7 hx46) rfl ?_
      refine qab h fun x47 hx47 h=>?_
      refine qbf hτ false [] [0,1,2] 8 rfl rfl rfl rfl (qap func118 rfl rfl) rfl rfl (by simp) ⟨(by trivial),trivial⟩ (by trivial) (qhu n x45 hx47) ⟨rfl,rfl,rfl,trivial⟩ ?_
      refine qab h fun x48 hx48 h=>?_
      refine qbf hτ false [] [0,1,2] 16 rfl rfl rfl rfl (qap func118 rfl rfl) rfl rfl (by simp) ⟨(by trivial),trivial⟩ (by trivial) (qhu n x46 hx48) ⟨rfl,rfl,rfl,trivial⟩ ?_
      refine qbh h fun hg49 h=>?_
      refine qcz hτ (v:=.d (.str (bstr (x47 ++ x48)))) [] 17 rfl rfl rfl rfl (Eq.trans rfl (qh1 _ _)) hg49 ?_
      refine qbh h fun hg50 h=>?_
      refine qcz hτ (v:=.d (.str (bstr (v32 ++ (x47 ++ x48))))) [] 18 rfl rfl rfl rfl (Eq.trans rfl (qh1 _ _)) hg50 ?_
      refine qa7 hτ [] 19 rfl rfl rfl rfl rfl ?_
      refine qbp mixed (by kernel_rfl) ?_
      refine qa9 (qa3 [0,1,2] (l:=[(0,.ptr 0 0),(4,.d (.str (bstr (v32 ++ (x47 ++ x48))))),(5,.d (.int .i64 v33))]) (objs:=[.box [.row 1 f_.qad.length 0 f_.qad.length,.row 2 f_.qae.length 0 f_.qae.length,.d (.int .i64 f_.Rounds),.d (.bool f_.qcj)],.row 3 (f_.qad.map qa8),.row 3 (f_.qae.map qa8)]) rfl (by simp) rfl (by trivial) ⟨rfl,trivial,rfl,trivial,rfl,trivial,trivial⟩) ?_
      refine qa2 ?_
      refine qa0 hτ rfl rfl rfl ?_
      refine qa0 hτ rfl rfl rfl ?_
      refine qa0 hτ rfl rfl rfl ?_
      refine qa4 ?_
      exact ⟨(m42,(v32 ++ (x47 ++ x48)),(w64 (v33 + (1:Int)))),h,Nat.lt_succ_self m42,(qa3 [0,1,2] (l:=[(0,.ptr 0 0),(4,.d (.str (bstr (v32 ++ (x47 ++ x48))))),(5,.d (.int .i64 (w64 (v33 + (1:Int)))))]) (objs:=[.box [.row 1 f_.qad.length 0 f_.qad.length,.row 2 f_.qae.length 0 f_.qae.length,.d (.int .i64 f_.Rounds),.d (.bool f_.qcj)],.row 3 (f_.qad.map qa8),.row 3 (f_.qae.map qa8)]) rfl (by simp) rfl (by trivial) ⟨rfl,trivial,rfl,trivial,rfl,trivial,trivial⟩)⟩
    · have h:=if_f h hc44
      refine qdv ?_
      refine qa5 ?_
      refine qa2 ?_
      refine qa0 hτ rfl rfl rfl ?_
      refine qa0 hτ rfl rfl rfl ?_
      refine qa4 ?_
      refine qa9 (qa3 [0,1,2] (l:=[(2,.d (.str (bstr v32)))]) (objs:=[.box [.row 1 f_.qad.length 0 f_.qad.length,.row 2 f_.qae.length 0 f_.qae.length,.d (.int .i64 f_.Rounds),.d (.bool f_.qcj)],.row 3 (f_.qad.map qa8),.row 3 (f_.qae.map qa8)]) rfl (by simp) rfl (by trivial) ⟨rfl,trivial,trivial⟩) ?_
      refine qas ?_
      have hr:=Option.some.inj h
      subst hr
      exact qaf (.inr rfl) [] (objs':=[.box [.row 1 f_.qad.length 0 f_.qad.length,.row 2 f_.qae.length 0 f_.qae.length,.d (.int .i64 f_.Rounds),.d (.bool f_.qcj)],.row 3 (f_.qad.map qa8),.row 3 (f_.qae.map qa8)]) (new:=[]) rfl (by simp) (by simp) rfl (by trivial) rfl rfl (by trivial) (fun _=>⟨by simp [V.flat,V.qb2,V.qay,D.flat],(qb8 (by simp [AObj.flat,V.qay,D.flat]) (qb8 (qd2 qca _) (qb8 (qd2 qca _) qai)))⟩) ⟨rfl,rfl,rfl⟩
  · refine qa5 ?_
    refine qa5 ?_
    refine qa2 ?_
    refine qa0 hτ rfl rfl rfl ?_
    refine qa0 hτ rfl rfl rfl ?_
    refine qa0 hτ rfl rfl rfl ?_
    refine qa0 hτ rfl rfl rfl ?_
    refine qa4 ?_
    refine qa9 (qa3 [0,1,2] (l:=[(0,.ptr 0 0),(3,.d (.int .i64 (0:Int))),(9,.d (.bool f_.qcj))]) (objs:=[.box [.row 1 f_.qad.length 0 f_.qad.length,.row 2 f_.qae.length 0 f_.qae.length,.d (.int .i64 f_.Rounds),.d (.bool f_.qcj)],.row 3 (f_.qad.map qa8),.row 3 (f_.qae.map qa8)]) rfl (by simp) rfl (by trivial) ⟨rfl,trivial,rfl,trivial,rfl,trivial,trivial⟩) ?_
    refine qau rfl (fun hc52=>?_) (fun hc52=>?_)
    · have h:=qci h hc52
      refine qa2 ?_
      refine qa0 hτ rfl rfl rfl ?_
      refine qa4 ?_
      refine qa9 (qa3 [0,1,2] (l:=[(0,.ptr 0 0),(3,.d (.int .i64 (1:Int)))]) (objs:=[.box [.row 1 f_.qad.length 0 f_.qad.length,.row 2 f_.qae.length 0 f_.qae.length,.d (.int .i64 f_.Rounds),.d (.bool f_.qcj)],.row 3 (f_.qad.map qa8),.row 3 (f_.qae.map qa8)]) rfl (by simp) rfl (by trivial) ⟨rfl,trivial,rfl,trivial,trivial⟩) ?_
      exact hk51 (1:Int) h
    · have h:=qch h hc52
      refine qav ?_
      refine qa9 (qa3 [0,1,2] (l:=[(0,.ptr 0 0),(3,.d (.int .i64 (0:Int)))]) (objs:=[.box [.row 1 f_.qad.length 0 f_.qad.length,.row 2 f_.qae.length 0 f_.qae.length,.d (.int .i64 f_.Rounds),.d (.bool f_.qcj)],.row 3 (f_.qad.map qa8),.row 3 (f_.qae.map qa8)]) rfl (by simp) rfl (by trivial) ⟨rfl,trivial,rfl,trivial,trivial⟩) ?_
      exact hk51 (0:Int) h
theorem qke (n:Nat) (f_:qbb) {r:Str} (h:qf8 n f_ = some r):qb5 prog false 133 [.ptr 0 0] [.box [.row 1 f_.qad.length 0 f_.qad.length,.row 2 f_.qae.length 0 f_.qae.length,.d (.int .i64 f_.Rounds),.d (.bool f_.qcj)],.row 3 (f_.qad.map qa8),.row 3 (f_.qae.map qa8)] (fun v o new=>v = .d (.str (bstr r))∧o = [.box [.row 1 f_.qad.length 0 f_.qad.length,.row 2 f_.qae.length 0 f_.qae.length,.d (.int .i64 f_.Rounds),.d (.bool f_.qcj)],.row 3 (f_.qad.map qa8),.row 3 (f_.qae.map qa8)]∧new = []):=spec_l10Bytes_ok_fr0 false n f_ h
end Go.Proofs.Ytmllgpkgjniomaa.AWN
