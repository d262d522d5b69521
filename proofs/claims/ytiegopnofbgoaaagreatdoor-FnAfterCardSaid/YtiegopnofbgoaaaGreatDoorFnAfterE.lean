/- Models and contracts, printed by program. -/
import Derived.Test.YtiegopnofbgoaaaGreatDoorFnAfterD
set_option linter.unusedVariables false
set_option linter.unusedSimpArgs false
set_option linter.unusedSectionVars false
set_option maxHeartbeats 2000000
namespace Go.Proofs.YtiegopnofbgoaaaGreatDoor.AWN
open Go Go.Proofs.Tryz
def qcc (n:Nat) (k66:List Int→Int→Int→Option (List Int × Int × Bool)) (v50:Int) (v79:List Int) (v80:Int):Option (List Int × Int × Bool) :=
 k66 v79 v80 (IntKind.wrap .u64 (v50 + (1:Int)))
def qbi (n:Nat) (g_:qbk) (bus_:Int):Nat→List Int→Int→Int→Option (List Int × Int × Bool)
 | 0,_,_,_=>none
 | m65 + 1,v48,v49,v50 =>
  if v50 < (IntKind.wrap .u64 ((1:Int) * 2 ^ min (g_.Ties.length:Int).toNat (IntKind.bits .u64))) then
   (qg9 n v50).bind fun x82 =>
   (qh2 n g_ bus_ x82).bind fun x84 =>
   if x84 = true then
    (qgi n g_ bus_ x82).bind fun x86 =>
    (qi0 n v49 x86).bind fun x87 =>
    (qhp n (x82.length:Int) (v48.length:Int)).bind fun x88 =>
    (qia n x82 v48).bind fun x89 =>
    (qn7 n [x87,x88,x89]).bind fun x90 =>
    if x90 < (0:Int) then
     qcc n (qbi n g_ bus_ m65) v50 x82 x86
    else
     qcc n (qbi n g_ bus_ m65) v50 v48 v49
   else
    qcc n (qbi n g_ bus_ m65) v50 v48 v49
  else
   some (v48,v49,true)
def qcv (n:Nat) (g_:qbk) (bus_:Int):Option (List Int × Int × Bool) :=
 (qf2 n g_ bus_).bind fun x33 =>
 if x33 = true then
  (qgi n g_ bus_ []).bind fun x35 =>
  grd (0 ≤ (g_.Ties.length:Int)) <|
  qbi n g_ bus_ n ([]:List Int) x35 (0:Int)
 else
  some (([]:List Int),(0:Int),false)
theorem ql0 (n:Nat) (g_:qbk) (bus_:Int) {r:List Int × Int × Bool} (h:qcv n g_ bus_ = some r):qb1 prog false 8 [.agg [.d (.cx .f32 g_.qa0.Source.A.re g_.qa0.Source.A.im),.d (.cx .f32 g_.qa0.Source.B.re g_.qa0.Source.B.im),.d (.cx .f32 g_.qa0.Source.C.re g_.qa0.Source.C.im),.d (.sl false (g_.qa0.qa7.map qac)),.d (.sl false (g_.Ties.map qam))],.d (.int .i64 bus_)] [] (fun v o new=>v = .tup [.d (.sl false (r.1.map qa6)),.d (.int .i64 r.2.1),.d (.bool r.2.2)]∧o = []∧new = []):=by
 refine qak hτ func8 rfl (by simp) (by simp) ?_
 unfold qcv at h
 refine qa8<|qa2<|qal hτ rfl rfl rfl<|qa1 hτ rfl rfl rfl<|qa1 hτ rfl rfl rfl ?_
 refine qa1 hτ rfl rfl rfl<|qa5<|qa8<|qa8<|qa2 ?_
 refine qa1 hτ rfl rfl rfl ?_
 refine qaf h fun x33 hx33 h=>?_
 refine qae hτ false [0] rfl rfl rfl (qaj func23 rfl rfl) rfl rfl (by simp) ⟨trivial,trivial,trivial⟩ (by trivial) (qkz n g_ bus_ hx33) ?_
 rintro r0 o0 n0 ⟨rfl,rfl,rfl⟩ -
 refine qa1 hτ rfl rfl rfl<|qa5 ?_
 refine qaa (qa3 [0] (l:=[(1,.d (.int .i64 bus_)),(2,.ptr 0 0),(15,.d (.bool (!x33)))]) (objs:=[.box [.d (.cx .f32 g_.qa0.Source.A.re g_.qa0.Source.A.im),.d (.cx .f32 g_.qa0.Source.B.re g_.qa0.Source.B.im),.d (.cx .f32 g_.qa0.Source.C.re g_.qa0.Source.C.im),.d (.sl false (g_.qa0.qa7.map qac)),.d (.sl false (g_.Ties.map qam))]]) rfl (by simp) rfl (by trivial) ⟨rfl,trivial,rfl,trivial,rfl,trivial,trivial⟩) ?_
 refine qaq rfl (fun hc34=>?_) (fun hc34=>?_)
 ·have hc34:=qjf hc34
  have h:=qeg h hc34
  refine qa8<|qa2<|qa1 hτ rfl rfl rfl<|qa1 hτ rfl rfl rfl<|qa1 hτ rfl rfl rfl ?_
  refine qa5 ?_
  refine qaa (qa3 [] (l:=[(4,.d (.nils)),(5,.d (.int .i64 (0:Int))),(6,.d (.bool false))]) (objs:=[]) rfl (by simp) rfl (by trivial) ⟨rfl,trivial,rfl,trivial,rfl,trivial,trivial⟩) ?_
  refine qaa (qjc [] (l':=[(4,.d (.sl false (([]:List Int).map qa6))),(5,.d (.int .i64 (0:Int))),(6,.d (.bool false))]) (objs':=[]) (.cons (.c (.d .nil)) (.cons (.c (.refl _)) (.cons (.c (.refl _)) .nil))) .nil) ?_
  refine qap ?_
  have hr:=Option.some.inj h
  subst hr
  exact qah (.inr rfl) [] (objs':=[]) (new:=[]) rfl (by simp) (by simp) rfl (by trivial) rfl rfl (by trivial) (fun h=>nomatch h) ⟨rfl,rfl,rfl⟩
 ·have hc34:=qje hc34
  have h:=qeh h hc34
  refine qat<|qa8<|qa2<|qal hτ rfl rfl rfl<|qa1 hτ rfl rfl rfl ?_
  refine qaf h fun x35 hx35 h=>?_
  refine qae hτ false [0] rfl rfl rfl (qaj func24 rfl rfl) rfl rfl (by simp) ⟨trivial,trivial,trivial,trivial⟩ (by trivial) (acall_le (.cons (.c (.refl _)) (.cons (.c (.refl _)) (.cons (.c (.d .nil)) .nil))) (qml n g_ bus_ [] hx35)) ?_
  rintro r0 o0 n0 ⟨rfl,rfl,rfl⟩ -
  refine qa1 hτ rfl rfl rfl<|qa1 hτ rfl rfl rfl<|qa5<|qa8<|qa8 ?_
  refine qa2<|qa1 hτ rfl rfl rfl<|qa1 hτ rfl rfl rfl ?_
  refine qa1 hτ (v:=.d (.int .i64 (g_.Ties.length:Int))) rfl rfl (Eq.trans rfl (qei (f:=qam) g_.Ties)) ?_
  refine qci h fun hg36 h=>?_
  refine qcg hτ rfl rfl rfl hg36 ?_
  refine qa1 hτ rfl rfl rfl<|qa5<|qay ?_
  refine qde (ι:=Nat × List Int × Int × Int) (fun (m65,v48,v49,v50)=>St.of [(1,.d (.int .i64 bus_)),(2,.ptr 0 0),(7,.d (.sl false (v48.map qa6))),(8,.d (.int .i64 v49)),(22,.d (.int .u64 (IntKind.wrap .u64 ((1:Int) * 2 ^ min (g_.Ties.length:Int).toNat (IntKind.bits .u64))))),(23,.d (.int .u64 v50))] [.box [.d (.cx .f32 g_.qa0.Source.A.re g_.qa0.Source.A.im),.d (.cx .f32 g_.qa0.Source.B.re g_.qa0.Source.B.im),.d (.cx .f32 g_.qa0.Source.C.re g_.qa0.Source.C.im),.d (.sl false (g_.qa0.qa7.map qac)),.d (.sl false (g_.Ties.map qam))]] f8.ntmps 0) (fun (m65,v48,v49,v50)=>qbi n g_ bus_ m65 v48 v49 v50 = some r) (fun x=>x.1) (n,([]:List Int),x35,(0:Int)) h (qa3 [0] (l:=[(1,.d (.int .i64 bus_)),(2,.ptr 0 0),(7,.d (.sl false (([]:List Int).map qa6))),(8,.d (.int .i64 x35)),(22,.d (.int .u64 (IntKind.wrap .u64 ((1:Int) * 2 ^ min (g_.Ties.length:Int).toNat (IntKind.bits .u64))))),(23,.d (.int .u64 (0:Int)))]) (objs:=[.box [.d (.cx .f32 g_.qa0.Source.A.re g_.qa0.Source.A.im),.d (.cx .f32 g_.qa0.Source.B.re g_.qa0.Source.B.im),.d (.cx .f32 g_.qa0.Source.C.re g_.qa0.Source.C.im),.d (.sl false (g_.qa0.qa7.map qac)),.d (.sl false (g_.Ties.map qam))]]) rfl (by simp) rfl (by trivial) ⟨rfl,trivial,rfl,trivial,(qgy (f:=qa6) (j:=1) (sz:=1) ([]:List Int) rfl rfl rfl),(qfg (f:=qa6) (j:=1) (sz:=1) ([]:List Int) rfl rfl rfl),rfl,trivial,rfl,trivial,rfl,trivial,trivial⟩) ?_
  rintro ⟨m65,v48,v49,v50⟩ h
  replace h:qbi n g_ bus_ m65 v48 v49 v50 = some r:=h
  rcases m65 with _ | m65
  ·rw [qbi] at h;cases h
  rw [qbi] at h
  refine qa8<|qa2<|qa1 hτ rfl rfl rfl<|qa5<|qa8 ?_
  refine qaq rfl (fun hc67=>?_) (fun hc67=>?_)
  ·have h:=if_t h hc67
   refine qat ?_
   refine qby (ι:=List Int × Int) (fun (v79,v80)=>St.of [(1,.d (.int .i64 bus_)),(2,.ptr 0 0),(7,.d (.sl false (v79.map qa6))),(8,.d (.int .i64 v80)),(22,.d (.int .u64 (IntKind.wrap .u64 ((1:Int) * 2 ^ min (g_.Ties.length:Int).toNat (IntKind.bits .u64))))),(23,.d (.int .u64 v50))] [.box [.d (.cx .f32 g_.qa0.Source.A.re g_.qa0.Source.A.im),.d (.cx .f32 g_.qa0.Source.B.re g_.qa0.Source.B.im),.d (.cx .f32 g_.qa0.Source.C.re g_.qa0.Source.C.im),.d (.sl false (g_.qa0.qa7.map qac)),.d (.sl false (g_.Ties.map qam))]] f8.ntmps 0) (fun (v79,v80)=>qcc n (qbi n g_ bus_ m65) v50 v79 v80 = some r) ?_ (fun hk81=>?_)
   ·rintro ⟨v79,v80⟩ h
    replace h:qcc n (qbi n g_ bus_ m65) v50 v79 v80 = some r:=h
    unfold qcc at h
    refine qa2<|qa1 hτ rfl rfl rfl<|qa1 hτ rfl rfl rfl<|qa5 ?_
    exact ⟨(m65,v79,v80,(IntKind.wrap .u64 (v50 + (1:Int)))),h,Nat.lt_succ_self m65,(qa3 [0] (l:=[(1,.d (.int .i64 bus_)),(2,.ptr 0 0),(7,.d (.sl false (v79.map qa6))),(8,.d (.int .i64 v80)),(22,.d (.int .u64 (IntKind.wrap .u64 ((1:Int) * 2 ^ min (g_.Ties.length:Int).toNat (IntKind.bits .u64))))),(23,.d (.int .u64 (IntKind.wrap .u64 (v50 + (1:Int)))))]) (objs:=[.box [.d (.cx .f32 g_.qa0.Source.A.re g_.qa0.Source.A.im),.d (.cx .f32 g_.qa0.Source.B.re g_.qa0.Source.B.im),.d (.cx .f32 g_.qa0.Source.C.re g_.qa0.Source.C.im),.d (.sl false (g_.qa0.qa7.map qac)),.d (.sl false (g_.Ties.map qam))]]) rfl (by simp) rfl (by trivial) ⟨rfl,trivial,rfl,trivial,rfl,trivial,rfl,trivial,rfl,trivial,rfl,trivial,trivial⟩)⟩
   ·refine qa8<|qay<|qa8<|qa2<|qa1 hτ rfl rfl rfl ?_
    refine qa1 hτ rfl rfl rfl<|qa5<|qa8<|qa2<|qa1 hτ rfl rfl rfl ?_
    refine qaf h fun x82 hx82 h=>?_
    refine qae hτ false [] rfl rfl rfl (qaj func25 rfl rfl) rfl rfl (by simp) ⟨trivial,trivial⟩ (by trivial) (qki n v50 hx82) ?_
    rintro r0 o0 n0 ⟨rfl,rfl,rfl⟩ -
    refine qa1 hτ rfl rfl rfl<|qa5<|qa8<|qa8 ?_
    refine qaa (qa3 [0,1] (l:=[(1,.d (.int .i64 bus_)),(2,.ptr 0 0),(7,.d (.sl false (v48.map qa6))),(8,.d (.int .i64 v49)),(10,.row 1 x82.length 0 x82.length),(22,.d (.int .u64 (IntKind.wrap .u64 ((1:Int) * 2 ^ min (g_.Ties.length:Int).toNat (IntKind.bits .u64))))),(23,.d (.int .u64 v50))]) (objs:=[.box [.d (.cx .f32 g_.qa0.Source.A.re g_.qa0.Source.A.im),.d (.cx .f32 g_.qa0.Source.B.re g_.qa0.Source.B.im),.d (.cx .f32 g_.qa0.Source.C.re g_.qa0.Source.C.im),.d (.sl false (g_.qa0.qa7.map qac)),.d (.sl false (g_.Ties.map qam))],.row 1 (x82.map qa6)]) rfl (by simp) rfl (by trivial) ⟨rfl,trivial,rfl,trivial,rfl,trivial,rfl,trivial,rfl,trivial,rfl,trivial,rfl,trivial,trivial⟩) ?_
    refine qa2<|qa1 hτ rfl rfl rfl<|qa1 hτ rfl rfl rfl<|qa1 hτ rfl rfl rfl ?_
    refine qb3 (qa3 [0,1] (l:=[(1,.d (.int .i64 bus_)),(2,.ptr 0 0),(7,.d (.sl false (v48.map qa6))),(8,.d (.int .i64 v49)),(10,.row 1 x82.length 0 x82.length),(22,.d (.int .u64 (IntKind.wrap .u64 ((1:Int) * 2 ^ min (g_.Ties.length:Int).toNat (IntKind.bits .u64))))),(23,.d (.int .u64 v50)),(28,.agg [.d (.cx .f32 g_.qa0.Source.A.re g_.qa0.Source.A.im),.d (.cx .f32 g_.qa0.Source.B.re g_.qa0.Source.B.im),.d (.cx .f32 g_.qa0.Source.C.re g_.qa0.Source.C.im),.d (.sl false (g_.qa0.qa7.map qac)),.d (.sl false (g_.Ties.map qam))]),(29,.d (.int .i64 bus_)),(30,.row 1 x82.length 0 x82.length)]) (objs:=[.box [.d (.cx .f32 g_.qa0.Source.A.re g_.qa0.Source.A.im),.d (.cx .f32 g_.qa0.Source.B.re g_.qa0.Source.B.im),.d (.cx .f32 g_.qa0.Source.C.re g_.qa0.Source.C.im),.d (.sl false (g_.qa0.qa7.map qac)),.d (.sl false (g_.Ties.map qam))],.row 1 (x82.map qa6)]) rfl (by simp) rfl (by trivial) ⟨rfl,trivial,rfl,trivial,rfl,trivial,rfl,trivial,rfl,trivial,rfl,trivial,rfl,trivial,rfl,(by trivial),rfl,trivial,rfl,trivial,trivial⟩) ?_
    refine qaf h fun x84 hx84 h=>?_
    refine qae hτ true [] rfl rfl rfl (qaj func26 rfl rfl) (qbe rfl (qbe rfl (qbe (qgy (f:=qa6) (j:=1) (sz:=1) x82 rfl rfl rfl) qgu))) rfl (by simp) ⟨(by trivial),trivial,(qfg (f:=qa6) (j:=1) (sz:=1) x82 rfl rfl rfl),trivial⟩ (by trivial) (impl_IsPlan_ok_fr n g_ bus_ x82 hx84) ?_
    rintro r0 o0 n0 ⟨rfl,rfl,rfl⟩ -
    refine qa1 hτ rfl rfl rfl<|qa5 ?_
    refine qaq rfl (fun hc85=>?_) (fun hc85=>?_)
    ·have hc85:=qjf hc85
     have h:=qeg h hc85
     refine qd3 ?_
     refine qaa (qa3 [0] (l:=[(1,.d (.int .i64 bus_)),(2,.ptr 0 0),(7,.d (.sl false (v48.map qa6))),(8,.d (.int .i64 v49)),(22,.d (.int .u64 (IntKind.wrap .u64 ((1:Int) * 2 ^ min (g_.Ties.length:Int).toNat (IntKind.bits .u64))))),(23,.d (.int .u64 v50))]) (objs:=[.box [.d (.cx .f32 g_.qa0.Source.A.re g_.qa0.Source.A.im),.d (.cx .f32 g_.qa0.Source.B.re g_.qa0.Source.B.im),.d (.cx .f32 g_.qa0.Source.C.re g_.qa0.Source.C.im),.d (.sl false (g_.qa0.qa7.map qac)),.d (.sl false (g_.Ties.map qam))]]) rfl (by simp) rfl (by trivial) ⟨rfl,trivial,rfl,trivial,rfl,trivial,rfl,trivial,rfl,trivial,rfl,trivial,trivial⟩) ?_
     exact hk81 (v48,v49) h
    ·have hc85:=qje hc85
     have h:=qeh h hc85
     refine qat<|qa8<|qa2<|qa1 hτ rfl rfl rfl<|qa1 hτ rfl rfl rfl ?_
     refine qb3 (qa3 [0] (l:=[(1,.d (.int .i64 bus_)),(2,.ptr 0 0),(7,.d (.sl false (v48.map qa6))),(8,.d (.int .i64 v49)),(10,.d (.sl false (x82.map qa6))),(22,.d (.int .u64 (IntKind.wrap .u64 ((1:Int) * 2 ^ min (g_.Ties.length:Int).toNat (IntKind.bits .u64))))),(23,.d (.int .u64 v50)),(33,.d (.int .i64 bus_)),(34,.d (.sl false (x82.map qa6)))]) (objs:=[.box [.d (.cx .f32 g_.qa0.Source.A.re g_.qa0.Source.A.im),.d (.cx .f32 g_.qa0.Source.B.re g_.qa0.Source.B.im),.d (.cx .f32 g_.qa0.Source.C.re g_.qa0.Source.C.im),.d (.sl false (g_.qa0.qa7.map qac)),.d (.sl false (g_.Ties.map qam))]]) rfl (by simp) rfl (by trivial) ⟨rfl,trivial,rfl,trivial,rfl,trivial,rfl,trivial,(qgy (f:=qa6) (j:=1) (sz:=1) x82 rfl rfl rfl),(qfg (f:=qa6) (j:=1) (sz:=1) x82 rfl rfl rfl),rfl,trivial,rfl,trivial,rfl,trivial,(qgy (f:=qa6) (j:=1) (sz:=1) x82 rfl rfl rfl),(qfg (f:=qa6) (j:=1) (sz:=1) x82 rfl rfl rfl),trivial⟩) ?_
     refine qaf h fun x86 hx86 h=>?_
     refine qae hτ false [0] rfl rfl rfl (qaj func24 rfl rfl) rfl rfl (by simp) ⟨trivial,trivial,trivial,trivial⟩ (by trivial) (qml n g_ bus_ x82 hx86) ?_
     rintro r0 o0 n0 ⟨rfl,rfl,rfl⟩ -
     refine qa1 hτ rfl rfl rfl<|qa5<|qa8<|qa2<|qa1 hτ rfl rfl rfl ?_
     refine qa1 hτ rfl rfl rfl ?_
     refine qaf h fun x87 hx87 h=>?_
     refine qae hτ false [] rfl rfl rfl (qaj func28 rfl rfl) rfl rfl (by simp) ⟨trivial,trivial,trivial⟩ (by trivial) (qnf n v49 x86 hx87) ?_
     rintro r0 o0 n0 ⟨rfl,rfl,rfl⟩ -
     refine qa1 hτ rfl rfl rfl ?_
     refine qa1 hτ (v:=.d (.int .i64 (x82.length:Int))) rfl rfl (Eq.trans rfl (qei (f:=qa6) x82)) ?_
     refine qa1 hτ rfl rfl rfl ?_
     refine qa1 hτ (v:=.d (.int .i64 (v48.length:Int))) rfl rfl (Eq.trans rfl (qei (f:=qa6) v48)) ?_
     refine qaf h fun x88 hx88 h=>?_
     refine qae hτ false [] rfl rfl rfl (qaj func29 rfl rfl) rfl rfl (by simp) ⟨trivial,trivial,trivial⟩ (by trivial) (cmp_Compare_2_ok n (x82.length:Int) (v48.length:Int) hx88) ?_
     rintro r0 o0 n0 ⟨rfl,rfl,rfl⟩ -
     refine qa1 hτ rfl rfl rfl<|qa1 hτ rfl rfl rfl ?_
     refine qb3 (qa3 [0] (l:=[(1,.d (.int .i64 bus_)),(2,.ptr 0 0),(7,.d (.sl false (v48.map qa6))),(8,.d (.int .i64 v49)),(10,.d (.sl false (x82.map qa6))),(11,.d (.int .i64 x86)),(22,.d (.int .u64 (IntKind.wrap .u64 ((1:Int) * 2 ^ min (g_.Ties.length:Int).toNat (IntKind.bits .u64))))),(23,.d (.int .u64 v50)),(38,.d (.int .i64 x87)),(43,.d (.int .i64 x88)),(44,.d (.sl false (x82.map qa6))),(45,.d (.sl false (v48.map qa6)))]) (objs:=[.box [.d (.cx .f32 g_.qa0.Source.A.re g_.qa0.Source.A.im),.d (.cx .f32 g_.qa0.Source.B.re g_.qa0.Source.B.im),.d (.cx .f32 g_.qa0.Source.C.re g_.qa0.Source.C.im),.d (.sl false (g_.qa0.qa7.map qac)),.d (.sl false (g_.Ties.map qam))]]) rfl (by simp) rfl (by trivial) ⟨rfl,trivial,rfl,trivial,rfl,trivial,rfl,trivial,rfl,trivial,rfl,trivial,rfl,trivial,rfl,trivial,rfl,trivial,rfl,trivial,rfl,trivial,rfl,trivial,trivial⟩) ?_
     refine qaf h fun x89 hx89 h=>?_
     refine qae hτ false [] rfl rfl rfl (qaj func30 rfl rfl) rfl rfl (by simp) ⟨trivial,trivial,trivial⟩ (by trivial) (slices_Compare_ok n x82 v48 hx89) ?_
     rintro r0 o0 n0 ⟨rfl,rfl,rfl⟩ -
     refine qal hτ rfl rfl rfl ?_
     refine qb3 (qa3 [0,1] (l:=[(1,.d (.int .i64 bus_)),(2,.ptr 0 0),(7,.d (.sl false (v48.map qa6))),(8,.d (.int .i64 v49)),(10,.d (.sl false (x82.map qa6))),(11,.d (.int .i64 x86)),(22,.d (.int .u64 (IntKind.wrap .u64 ((1:Int) * 2 ^ min (g_.Ties.length:Int).toNat (IntKind.bits .u64))))),(23,.d (.int .u64 v50)),(47,.row 1 ([x87,x88,x89].length) 0 ([x87,x88,x89].length))]) (objs:=[.box [.d (.cx .f32 g_.qa0.Source.A.re g_.qa0.Source.A.im),.d (.cx .f32 g_.qa0.Source.B.re g_.qa0.Source.B.im),.d (.cx .f32 g_.qa0.Source.C.re g_.qa0.Source.C.im),.d (.sl false (g_.qa0.qa7.map qac)),.d (.sl false (g_.Ties.map qam))],.row 1 ([x87,x88,x89].map qa6)]) rfl (by simp) rfl (by trivial) ⟨rfl,trivial,rfl,trivial,rfl,trivial,rfl,trivial,rfl,trivial,rfl,trivial,rfl,trivial,rfl,trivial,rfl,trivial,trivial⟩) ?_
     refine qaf h fun x90 hx90 h=>?_
     refine qae hτ true [] rfl rfl rfl (qaj func27 rfl rfl) (qbe (qgy (f:=qa6) (j:=1) (sz:=1) [x87,x88,x89] rfl rfl rfl) qgu) rfl (by simp) ⟨(qfg (f:=qa6) (j:=1) (sz:=1) [x87,x88,x89] rfl rfl rfl),trivial⟩ (by trivial) (cmp_Or_ok_fr n [x87,x88,x89] hx90) ?_
     rintro r0 o0 n0 ⟨rfl,rfl,rfl⟩ -
     refine qa1 hτ rfl rfl rfl<|qa5<|qa8<|qa2<|qa1 hτ rfl rfl rfl ?_
     refine qa1 hτ rfl rfl rfl<|qa5 ?_
     refine qaq rfl (fun hc91=>?_) (fun hc91=>?_)
     ·have h:=if_t h hc91
      refine qa2<|qa1 hτ rfl rfl rfl<|qa1 hτ rfl rfl rfl<|qa1 hτ rfl rfl rfl<|qa1 hτ rfl rfl rfl ?_
      refine qa5 ?_
      refine qaa (qa3 [0] (l:=[(1,.d (.int .i64 bus_)),(2,.ptr 0 0),(7,.d (.sl false (x82.map qa6))),(8,.d (.int .i64 x86)),(22,.d (.int .u64 (IntKind.wrap .u64 ((1:Int) * 2 ^ min (g_.Ties.length:Int).toNat (IntKind.bits .u64))))),(23,.d (.int .u64 v50))]) (objs:=[.box [.d (.cx .f32 g_.qa0.Source.A.re g_.qa0.Source.A.im),.d (.cx .f32 g_.qa0.Source.B.re g_.qa0.Source.B.im),.d (.cx .f32 g_.qa0.Source.C.re g_.qa0.Source.C.im),.d (.sl false (g_.qa0.qa7.map qac)),.d (.sl false (g_.Ties.map qam))]]) rfl (by simp) rfl (by trivial) ⟨rfl,trivial,rfl,trivial,rfl,trivial,rfl,trivial,rfl,trivial,rfl,trivial,trivial⟩) ?_
      exact hk81 (x82,x86) h
     ·have h:=if_f h hc91
      refine qat ?_
      refine qaa (qa3 [0] (l:=[(1,.d (.int .i64 bus_)),(2,.ptr 0 0),(7,.d (.sl false (v48.map qa6))),(8,.d (.int .i64 v49)),(22,.d (.int .u64 (IntKind.wrap .u64 ((1:Int) * 2 ^ min (g_.Ties.length:Int).toNat (IntKind.bits .u64))))),(23,.d (.int .u64 v50))]) (objs:=[.box [.d (.cx .f32 g_.qa0.Source.A.re g_.qa0.Source.A.im),.d (.cx .f32 g_.qa0.Source.B.re g_.qa0.Source.B.im),.d (.cx .f32 g_.qa0.Source.C.re g_.qa0.Source.C.im),.d (.sl false (g_.qa0.qa7.map qac)),.d (.sl false (g_.Ties.map qam))]]) rfl (by simp) rfl (by trivial) ⟨rfl,trivial,rfl,trivial,rfl,trivial,rfl,trivial,rfl,trivial,rfl,trivial,trivial⟩) ?_
      exact hk81 (v48,v49) h
  ·have h:=if_f h hc67
   refine qd3<|qa8<|qa2<|qa1 hτ rfl rfl rfl<|qa1 hτ rfl rfl rfl ?_
   refine qa1 hτ rfl rfl rfl<|qa1 hτ rfl rfl rfl<|qa1 hτ rfl rfl rfl<|qa5 ?_
   refine qaa (qa3 [] (l:=[(4,.d (.sl false (v48.map qa6))),(5,.d (.int .i64 v49)),(6,.d (.bool true))]) (objs:=[]) rfl (by simp) rfl (by trivial) ⟨rfl,trivial,rfl,trivial,rfl,trivial,trivial⟩) ?_
   refine qap ?_
   have hr:=Option.some.inj h
   subst hr
   exact qah (.inr rfl) [] (objs':=[]) (new:=[]) rfl (by simp) (by simp) rfl (by trivial) rfl rfl (by trivial) (fun h=>nomatch h) ⟨rfl,rfl,rfl⟩
def qer (n:Nat) (k79:List qdg→Int→Option (List qdg)) (v69:Int) (v87:List qdg):Option (List qdg) :=
 k79 v87 (w64 (v69 + (1:Int)))
def qcl (n:Nat) (at_:Int) (k79:List qdg→Int→Option (List qdg)) (v68:List qdg) (v69:Int) (x90:STie) (v93:Bool):Option (List qdg) :=
 if v93 = true then
  grd (room (v68.length + 1) 24) <|
  qer n k79 v69 (v68 ++ [(qdg.mk (w64 ((w64 (x90.A + x90.B)) - at_)) x90.Own x90.Shared)])
 else
  qer n k79 v69 v68
def qbd (n:Nat) (g_:qbk) (at_:Int) (closed_:List Int):Nat→List qdg→Int→Option (List qdg)
 | 0,_,_=>none
 | m78 + 1,v68,v69 =>
  if v69 < (closed_.length:Int) then
   (getI closed_ v69).bind fun x89 =>
   (getI g_.Ties x89).bind fun x90 =>
   if x90.A = at_ then
    qcl n at_ (qbd n g_ at_ closed_ m78) v68 v69 x90 true
   else
    qcl n at_ (qbd n g_ at_ closed_ m78) v68 v69 x90 (decide (x90.B = at_))
  else
   some v68
def qg5 (n:Nat) (g_:qbk) (at_:Int) (closed_:List Int) (v61:List qdg):Option (List qdg) :=
 qbd n g_ at_ closed_ n v61 (0:Int)
def qdc (n:Nat) (k122:List qdg→Int→Option (List qdg)) (v109:Int) (v133:List qdg):Option (List qdg) :=
 k122 v133 (w64 (v109 + (1:Int)))
def qdu (n:Nat) (at_:Int) (k122:List qdg→Int→Option (List qdg)) (v108:List qdg) (v109:Int) (x135:SBus) (x136:SBus) (v139:Bool):Option (List qdg) :=
 if v139 = true then
  qdc n k122 v109 v108
 else
  if x136.qaw = v109 then
   grd (room (v108.length + 1) 24) <|
   qdc n k122 v109 (v108 ++ [(qdg.mk v109 x136.Own x136.Shared)])
  else
   if x135.qaw = at_ then
    grd (room (v108.length + 1) 24) <|
    qdc n k122 v109 (v108 ++ [(qdg.mk v109 x135.Own x135.Shared)])
   else
    qdc n k122 v109 v108
def qbp (n:Nat) (g_:qbk) (failed_:Int) (at_:Int) (closed_:List Int):Nat→List qdg→Int→Option (List qdg)
 | 0,_,_=>none
 | m121 + 1,v108,v109 =>
  if v109 < (g_.qa0.qa7.length:Int) then
   (getI g_.qa0.qa7 v109).bind fun x135 =>
   (getI g_.qa0.qa7 at_).bind fun x136 =>
   if v109 = failed_ then
    qdu n at_ (qbp n g_ failed_ at_ closed_ m121) v108 v109 x135 x136 true
   else
    qdu n at_ (qbp n g_ failed_ at_ closed_ m121) v108 v109 x135 x136 (decide (at_ = failed_))
  else
   qg5 n g_ at_ closed_ v108
def qhq (n:Nat) (g_:qbk) (failed_:Int) (at_:Int) (closed_:List Int):Option (List qdg) :=
 qbp n g_ failed_ at_ closed_ n ([]:List qdg) (0:Int)
theorem impl_Grid_links_ok (n:Nat) (g_:qbk) (failed_:Int) (at_:Int) (closed_:List Int) {r:List qdg} (h:qhq n g_ failed_ at_ closed_ = some r):qb1 prog false 31 [.ptr 0 0,.d (.int .i64 failed_),.d (.int .i64 at_),.d (.sl false (closed_.map qa6))] [.box [.d (.cx .f32 g_.qa0.Source.A.re g_.qa0.Source.A.im),.d (.cx .f32 g_.qa0.Source.B.re g_.qa0.Source.B.im),.d (.cx .f32 g_.qa0.Source.C.re g_.qa0.Source.C.im),.d (.sl false (g_.qa0.qa7.map qac)),.d (.sl false (g_.Ties.map qam))]] (fun v o new=>v = .row 1 r.length 0 r.length∧o = [.box [.d (.cx .f32 g_.qa0.Source.A.re g_.qa0.Source.A.im),.d (.cx .f32 g_.qa0.Source.B.re g_.qa0.Source.B.im),.d (.cx .f32 g_.qa0.Source.C.re g_.qa0.Source.C.im),.d (.sl false (g_.qa0.qa7.map qac)),.d (.sl false (g_.Ties.map qam))]]∧new = [.row 3 (r.map qdh)]):=by
 refine qak hτ func31 rfl (by simp) (by simp) ?_
 unfold qhq at h
 refine qa8<|qa2<|qa1 hτ rfl rfl rfl<|qa5<|qa8 ?_
 refine qa2<|qal hτ rfl rfl rfl<|qa1 hτ rfl rfl rfl<|qa5 ?_
 refine qby (ι:=List qdg) (fun v61=>St.of [(0,.ptr 0 0),(2,.d (.int .i64 at_)),(3,.d (.sl false (closed_.map qa6))),(9,.row 1 v61.length 0 v61.length)] [.box [.d (.cx .f32 g_.qa0.Source.A.re g_.qa0.Source.A.im),.d (.cx .f32 g_.qa0.Source.B.re g_.qa0.Source.B.im),.d (.cx .f32 g_.qa0.Source.C.re g_.qa0.Source.C.im),.d (.sl false (g_.qa0.qa7.map qac)),.d (.sl false (g_.Ties.map qam))],.row 3 (v61.map qdh)] f31.ntmps 1) (fun v61=>qg5 n g_ at_ closed_ v61 = some r) ?_ (fun hk98=>?_)
 ·rintro v61 h
  replace h:qg5 n g_ at_ closed_ v61 = some r:=h
  unfold qg5 at h
  refine qa8<|qa8<|qa2<|qa1 hτ rfl rfl rfl ?_
  refine qa1 hτ (v:=.d (.int .i64 (closed_.length:Int))) rfl rfl (Eq.trans rfl (qei (f:=qa6) closed_)) ?_
  refine qa1 hτ rfl rfl rfl<|qa5<|qay ?_
  refine qde (ι:=Nat × List qdg × Int) (fun (m78,v68,v69)=>St.of [(0,.ptr 0 0),(2,.d (.int .i64 at_)),(9,.row 1 v68.length 0 v68.length),(80,.d (.sl false (closed_.map qa6))),(81,.d (.int .i64 (closed_.length:Int))),(82,.d (.int .i64 v69))] [.box [.d (.cx .f32 g_.qa0.Source.A.re g_.qa0.Source.A.im),.d (.cx .f32 g_.qa0.Source.B.re g_.qa0.Source.B.im),.d (.cx .f32 g_.qa0.Source.C.re g_.qa0.Source.C.im),.d (.sl false (g_.qa0.qa7.map qac)),.d (.sl false (g_.Ties.map qam))],.row 3 (v68.map qdh)] f31.ntmps 1) (fun (m78,v68,v69)=>qbd n g_ at_ closed_ m78 v68 v69 = some r) (fun x=>x.1) (n,v61,(0:Int)) h (qa3 [0,1] (l:=[(0,.ptr 0 0),(2,.d (.int .i64 at_)),(9,.row 1 v61.length 0 v61.length),(80,.d (.sl false (closed_.map qa6))),(81,.d (.int .i64 (closed_.length:Int))),(82,.d (.int .i64 (0:Int)))]) (objs:=[.box [.d (.cx .f32 g_.qa0.Source.A.re g_.qa0.Source.A.im),.d (.cx .f32 g_.qa0.Source.B.re g_.qa0.Source.B.im),.d (.cx .f32 g_.qa0.Source.C.re g_.qa0.Source.C.im),.d (.sl false (g_.qa0.qa7.map qac)),.d (.sl false (g_.Ties.map qam))],.row 3 (v61.map qdh)]) rfl (by simp) rfl (by trivial) ⟨rfl,trivial,rfl,trivial,rfl,trivial,rfl,trivial,rfl,trivial,rfl,trivial,trivial⟩) ?_
  rintro ⟨m78,v68,v69⟩ h
  replace h:qbd n g_ at_ closed_ m78 v68 v69 = some r:=h
  rcases m78 with _ | m78
  ·rw [qbd] at h;cases h
  rw [qbd] at h
  refine qa8<|qa2<|qa1 hτ rfl rfl rfl<|qa5<|qa8 ?_
  refine qaq rfl (fun hc80=>?_) (fun hc80=>?_)
  ·have h:=if_t h hc80
   refine qat ?_
   refine qby (ι:=List qdg) (fun v87=>St.of [(0,.ptr 0 0),(2,.d (.int .i64 at_)),(9,.row 1 v87.length 0 v87.length),(80,.d (.sl false (closed_.map qa6))),(81,.d (.int .i64 (closed_.length:Int))),(82,.d (.int .i64 v69))] [.box [.d (.cx .f32 g_.qa0.Source.A.re g_.qa0.Source.A.im),.d (.cx .f32 g_.qa0.Source.B.re g_.qa0.Source.B.im),.d (.cx .f32 g_.qa0.Source.C.re g_.qa0.Source.C.im),.d (.sl false (g_.qa0.qa7.map qac)),.d (.sl false (g_.Ties.map qam))],.row 3 (v87.map qdh)] f31.ntmps 1) (fun v87=>qer n (qbd n g_ at_ closed_ m78) v69 v87 = some r) ?_ (fun hk88=>?_)
   ·rintro v87 h
    replace h:qer n (qbd n g_ at_ closed_ m78) v69 v87 = some r:=h
    unfold qer at h
    refine qa2<|qa1 hτ rfl rfl rfl<|qa1 hτ rfl rfl rfl<|qa5 ?_
    exact ⟨(m78,v87,(w64 (v69 + (1:Int)))),h,Nat.lt_succ_self m78,(qa3 [0,1] (l:=[(0,.ptr 0 0),(2,.d (.int .i64 at_)),(9,.row 1 v87.length 0 v87.length),(80,.d (.sl false (closed_.map qa6))),(81,.d (.int .i64 (closed_.length:Int))),(82,.d (.int .i64 (w64 (v69 + (1:Int)))))]) (objs:=[.box [.d (.cx .f32 g_.qa0.Source.A.re g_.qa0.Source.A.im),.d (.cx .f32 g_.qa0.Source.B.re g_.qa0.Source.B.im),.d (.cx .f32 g_.qa0.Source.C.re g_.qa0.Source.C.im),.d (.sl false (g_.qa0.qa7.map qac)),.d (.sl false (g_.Ties.map qam))],.row 3 (v87.map qdh)]) rfl (by simp) rfl (by trivial) ⟨rfl,trivial,rfl,trivial,rfl,trivial,rfl,trivial,rfl,trivial,rfl,trivial,trivial⟩)⟩
   ·refine qa8<|qay<|qa8<|qa2 ?_
    refine qaf h fun x89 hx89 h=>?_
    refine qce hτ rfl rfl rfl (qb8 hx89).1 (qbm hx89) rfl ?_
    refine qa1 hτ rfl rfl rfl<|qa1 hτ rfl rfl rfl<|qa5<|qa8<|qa2 ?_
    refine qa1 hτ rfl rfl rfl<|qa1 hτ rfl rfl rfl<|qa1 hτ rfl rfl rfl<|qa1 hτ rfl rfl rfl<|qa1 hτ rfl rfl rfl ?_
    refine qaf h fun x90 hx90 h=>?_
    refine qce hτ rfl rfl rfl (qb8 hx90).1 (qbm hx90) rfl ?_
    refine qa1 hτ rfl rfl rfl<|qal hτ rfl rfl rfl ?_
    refine qb3 (qa3 [0,1,2] (l:=[(0,.ptr 0 0),(2,.d (.int .i64 at_)),(9,.row 1 v68.length 0 v68.length),(15,.ptr 2 0),(80,.d (.sl false (closed_.map qa6))),(81,.d (.int .i64 (closed_.length:Int))),(82,.d (.int .i64 v69)),(92,.agg [.d (.int .i64 x90.A),.d (.int .i64 x90.B),.d (.cx .f32 x90.Own.re x90.Own.im),.d (.cx .f32 x90.Shared.re x90.Shared.im),.d (.int .i64 x90.Most)])]) (objs:=[.box [.d (.cx .f32 g_.qa0.Source.A.re g_.qa0.Source.A.im),.d (.cx .f32 g_.qa0.Source.B.re g_.qa0.Source.B.im),.d (.cx .f32 g_.qa0.Source.C.re g_.qa0.Source.C.im),.d (.sl false (g_.qa0.qa7.map qac)),.d (.sl false (g_.Ties.map qam))],.row 3 (v68.map qdh),.box [.d (.int .i64 (0:Int)),.d (.int .i64 (0:Int)),.d (.cx .f32 (0:Nat) (0:Nat)),.d (.cx .f32 (0:Nat) (0:Nat)),.d (.int .i64 (0:Int))]]) rfl (by simp) rfl (by trivial) ⟨rfl,trivial,rfl,trivial,rfl,trivial,rfl,trivial,rfl,trivial,rfl,trivial,rfl,trivial,rfl,(by trivial),trivial⟩) ?_
    refine qal hτ rfl rfl rfl<|qa5 ?_
    refine qby (ι:=Bool) (fun v93=>St.of [(0,.ptr 0 0),(2,.d (.int .i64 at_)),(9,.row 1 v68.length 0 v68.length),(15,.ptr 2 0),(80,.d (.sl false (closed_.map qa6))),(81,.d (.int .i64 (closed_.length:Int))),(82,.d (.int .i64 v69)),(102,.d (.bool v93))] [.box [.d (.cx .f32 g_.qa0.Source.A.re g_.qa0.Source.A.im),.d (.cx .f32 g_.qa0.Source.B.re g_.qa0.Source.B.im),.d (.cx .f32 g_.qa0.Source.C.re g_.qa0.Source.C.im),.d (.sl false (g_.qa0.qa7.map qac)),.d (.sl false (g_.Ties.map qam))],.row 3 (v68.map qdh),.box [.d (.int .i64 x90.A),.d (.int .i64 x90.B),.d (.cx .f32 x90.Own.re x90.Own.im),.d (.cx .f32 x90.Shared.re x90.Shared.im),.d (.int .i64 x90.Most)]] f31.ntmps 1) (fun v93=>qcl n at_ (qbd n g_ at_ closed_ m78) v68 v69 x90 v93 = some r) ?_ (fun hk96=>?_)
    ·rintro v93 h
     replace h:qcl n at_ (qbd n g_ at_ closed_ m78) v68 v69 x90 v93 = some r:=h
     unfold qcl at h
     refine qaq rfl (fun hc94=>?_) (fun hc94=>?_)
     ·have h:=qeh h hc94
      refine qa2<|qa1 hτ rfl rfl rfl<|qa1 hτ rfl rfl rfl<|qa1 hτ rfl rfl rfl<|qa1 hτ rfl rfl rfl ?_
      refine qa1 hτ rfl rfl rfl<|qa1 hτ rfl rfl rfl<|qa1 hτ rfl rfl rfl<|qa1 hτ rfl rfl rfl<|qa1 hτ rfl rfl rfl ?_
      refine qa1 hτ rfl rfl rfl<|qa1 hτ rfl rfl rfl<|qa1 hτ rfl rfl rfl ?_
      refine qb3 (qa3 [0,1] (l:=[(0,.ptr 0 0),(2,.d (.int .i64 at_)),(80,.d (.sl false (closed_.map qa6))),(81,.d (.int .i64 (closed_.length:Int))),(82,.d (.int .i64 v69)),(103,.row 1 v68.length 0 v68.length),(110,.d (.int .i64 (w64 ((w64 (x90.A + x90.B)) - at_)))),(112,.d (.cx .f32 x90.Own.re x90.Own.im)),(114,.d (.cx .f32 x90.Shared.re x90.Shared.im))]) (objs:=[.box [.d (.cx .f32 g_.qa0.Source.A.re g_.qa0.Source.A.im),.d (.cx .f32 g_.qa0.Source.B.re g_.qa0.Source.B.im),.d (.cx .f32 g_.qa0.Source.C.re g_.qa0.Source.C.im),.d (.sl false (g_.qa0.qa7.map qac)),.d (.sl false (g_.Ties.map qam))],.row 3 (v68.map qdh)]) rfl (by simp) rfl (by trivial) ⟨rfl,trivial,rfl,trivial,rfl,trivial,rfl,trivial,rfl,trivial,rfl,trivial,rfl,trivial,rfl,trivial,rfl,trivial,trivial⟩) ?_
      refine qa1 hτ rfl rfl rfl<|qal hτ rfl rfl rfl ?_
      refine qci h fun hg95 h=>?_
      refine qi7 hτ rfl rfl (Eq.trans rfl (or_append (f:=qdh) v68 [(qdg.mk (w64 ((w64 (x90.A + x90.B)) - at_)) x90.Own x90.Shared)] rfl)) ⟨⟨rfl,Nat.le_of_ble_eq_true rfl⟩,qb4 _,rfl,rfl,hg95,by decide,(all1 rfl)⟩ ?_
      refine qa1 hτ rfl rfl rfl<|qa5 ?_
      refine qaa (qa3 [0,1] (l:=[(0,.ptr 0 0),(2,.d (.int .i64 at_)),(9,.row 1 ((v68 ++ [(qdg.mk (w64 ((w64 (x90.A + x90.B)) - at_)) x90.Own x90.Shared)]).length) 0 ((v68 ++ [(qdg.mk (w64 ((w64 (x90.A + x90.B)) - at_)) x90.Own x90.Shared)]).length)),(80,.d (.sl false (closed_.map qa6))),(81,.d (.int .i64 (closed_.length:Int))),(82,.d (.int .i64 v69))]) (objs:=[.box [.d (.cx .f32 g_.qa0.Source.A.re g_.qa0.Source.A.im),.d (.cx .f32 g_.qa0.Source.B.re g_.qa0.Source.B.im),.d (.cx .f32 g_.qa0.Source.C.re g_.qa0.Source.C.im),.d (.sl false (g_.qa0.qa7.map qac)),.d (.sl false (g_.Ties.map qam))],.row 3 ((v68 ++ [(qdg.mk (w64 ((w64 (x90.A + x90.B)) - at_)) x90.Own x90.Shared)]).map qdh)]) rfl (by simp) rfl (by trivial) ⟨rfl,trivial,rfl,trivial,rfl,trivial,rfl,trivial,rfl,trivial,rfl,trivial,trivial⟩) ?_
      exact hk88 (v68 ++ [(qdg.mk (w64 ((w64 (x90.A + x90.B)) - at_)) x90.Own x90.Shared)]) h
     ·have h:=qeg h hc94
      refine qat ?_
      refine qaa (qa3 [0,1] (l:=[(0,.ptr 0 0),(2,.d (.int .i64 at_)),(9,.row 1 v68.length 0 v68.length),(80,.d (.sl false (closed_.map qa6))),(81,.d (.int .i64 (closed_.length:Int))),(82,.d (.int .i64 v69))]) (objs:=[.box [.d (.cx .f32 g_.qa0.Source.A.re g_.qa0.Source.A.im),.d (.cx .f32 g_.qa0.Source.B.re g_.qa0.Source.B.im),.d (.cx .f32 g_.qa0.Source.C.re g_.qa0.Source.C.im),.d (.sl false (g_.qa0.qa7.map qac)),.d (.sl false (g_.Ties.map qam))],.row 3 (v68.map qdh)]) rfl (by simp) rfl (by trivial) ⟨rfl,trivial,rfl,trivial,rfl,trivial,rfl,trivial,rfl,trivial,rfl,trivial,trivial⟩) ?_
      exact hk88 v68 h
    ·refine qa8<|qa2<|qa1 hτ rfl rfl rfl<|qa1 hτ rfl rfl rfl<|qa1 hτ rfl rfl rfl ?_
     refine qa1 hτ (v:=.d (.bool (decide (x90.A = at_)))) rfl rfl (qeq _ _) ?_
     refine qa1 hτ rfl rfl rfl ?_
     refine qbq 97 rfl (fun hb97=>?_) (fun hb97=>?_)
     ·have h:=if_t h hb97
      refine qab rfl rfl<|qab rfl rfl<|qab rfl rfl<|qab rfl rfl<|qa1 hτ rfl rfl rfl ?_
      refine qa5 ?_
      refine qaa (qa3 [0,1,2] (l:=[(0,.ptr 0 0),(2,.d (.int .i64 at_)),(9,.row 1 v68.length 0 v68.length),(15,.ptr 2 0),(80,.d (.sl false (closed_.map qa6))),(81,.d (.int .i64 (closed_.length:Int))),(82,.d (.int .i64 v69)),(102,.d (.bool true))]) (objs:=[.box [.d (.cx .f32 g_.qa0.Source.A.re g_.qa0.Source.A.im),.d (.cx .f32 g_.qa0.Source.B.re g_.qa0.Source.B.im),.d (.cx .f32 g_.qa0.Source.C.re g_.qa0.Source.C.im),.d (.sl false (g_.qa0.qa7.map qac)),.d (.sl false (g_.Ties.map qam))],.row 3 (v68.map qdh),.box [.d (.int .i64 x90.A),.d (.int .i64 x90.B),.d (.cx .f32 x90.Own.re x90.Own.im),.d (.cx .f32 x90.Shared.re x90.Shared.im),.d (.int .i64 x90.Most)]]) rfl (by simp) rfl (by trivial) ⟨rfl,trivial,rfl,trivial,rfl,trivial,rfl,trivial,rfl,trivial,rfl,trivial,rfl,trivial,rfl,trivial,trivial⟩) ?_
      exact hk96 true h
     ·have h:=if_f h hb97
      refine qa1 hτ rfl rfl rfl<|qa1 hτ rfl rfl rfl<|qa1 hτ rfl rfl rfl ?_
      refine qa1 hτ (v:=.d (.bool (decide (x90.B = at_)))) rfl rfl (qeq _ _) ?_
      refine qa1 hτ rfl rfl rfl<|qa5 ?_
      refine qaa (qa3 [0,1,2] (l:=[(0,.ptr 0 0),(2,.d (.int .i64 at_)),(9,.row 1 v68.length 0 v68.length),(15,.ptr 2 0),(80,.d (.sl false (closed_.map qa6))),(81,.d (.int .i64 (closed_.length:Int))),(82,.d (.int .i64 v69)),(102,.d (.bool (decide (x90.B = at_))))]) (objs:=[.box [.d (.cx .f32 g_.qa0.Source.A.re g_.qa0.Source.A.im),.d (.cx .f32 g_.qa0.Source.B.re g_.qa0.Source.B.im),.d (.cx .f32 g_.qa0.Source.C.re g_.qa0.Source.C.im),.d (.sl false (g_.qa0.qa7.map qac)),.d (.sl false (g_.Ties.map qam))],.row 3 (v68.map qdh),.box [.d (.int .i64 x90.A),.d (.int .i64 x90.B),.d (.cx .f32 x90.Own.re x90.Own.im),.d (.cx .f32 x90.Shared.re x90.Shared.im),.d (.int .i64 x90.Most)]]) rfl (by simp) rfl (by trivial) ⟨rfl,trivial,rfl,trivial,rfl,trivial,rfl,trivial,rfl,trivial,rfl,trivial,rfl,trivial,rfl,trivial,trivial⟩) ?_
      exact hk96 (decide (x90.B = at_)) h
  ·have h:=if_f h hc80
   refine qd3<|qa8<|qa2<|qa1 hτ rfl rfl rfl<|qa1 hτ rfl rfl rfl ?_
   refine qa5 ?_
   refine qaa (qa3 [0,1] (l:=[(8,.row 1 v68.length 0 v68.length)]) (objs:=[.box [.d (.cx .f32 g_.qa0.Source.A.re g_.qa0.Source.A.im),.d (.cx .f32 g_.qa0.Source.B.re g_.qa0.Source.B.im),.d (.cx .f32 g_.qa0.Source.C.re g_.qa0.Source.C.im),.d (.sl false (g_.qa0.qa7.map qac)),.d (.sl false (g_.Ties.map qam))],.row 3 (v68.map qdh)]) rfl (by simp) rfl (by trivial) ⟨rfl,trivial,trivial⟩) ?_
   refine qap ?_
   have hr:=Option.some.inj h
   subst hr
   exact qah (.inr rfl) [1] (objs':=[.box [.d (.cx .f32 g_.qa0.Source.A.re g_.qa0.Source.A.im),.d (.cx .f32 g_.qa0.Source.B.re g_.qa0.Source.B.im),.d (.cx .f32 g_.qa0.Source.C.re g_.qa0.Source.C.im),.d (.sl false (g_.qa0.qa7.map qac)),.d (.sl false (g_.Ties.map qam))]]) (new:=[.row 3 (v68.map qdh)]) rfl (by simp) (by simp) rfl (by trivial) rfl rfl (by trivial) (fun h=>nomatch h) ⟨rfl,rfl,rfl⟩
 ·refine qa8<|qa8<|qa2<|qa1 hτ rfl rfl rfl<|qa1 hτ rfl rfl rfl ?_
  refine qa1 hτ rfl rfl rfl<|qa1 hτ rfl rfl rfl<|qa1 hτ rfl rfl rfl ?_
  refine qa1 hτ (v:=.d (.int .i64 (g_.qa0.qa7.length:Int))) rfl rfl (Eq.trans rfl (qei (f:=qac) g_.qa0.qa7)) ?_
  refine qa1 hτ rfl rfl rfl<|qa5<|qay ?_
  refine qde (ι:=Nat × List qdg × Int) (fun (m121,v108,v109)=>St.of [(0,.ptr 0 0),(1,.d (.int .i64 failed_)),(2,.d (.int .i64 at_)),(3,.d (.sl false (closed_.map qa6))),(9,.row 1 v108.length 0 v108.length),(22,.d (.int .i64 (g_.qa0.qa7.length:Int))),(23,.d (.int .i64 v109))] [.box [.d (.cx .f32 g_.qa0.Source.A.re g_.qa0.Source.A.im),.d (.cx .f32 g_.qa0.Source.B.re g_.qa0.Source.B.im),.d (.cx .f32 g_.qa0.Source.C.re g_.qa0.Source.C.im),.d (.sl false (g_.qa0.qa7.map qac)),.d (.sl false (g_.Ties.map qam))],.row 3 (v108.map qdh)] f31.ntmps 1) (fun (m121,v108,v109)=>qbp n g_ failed_ at_ closed_ m121 v108 v109 = some r) (fun x=>x.1) (n,([]:List qdg),(0:Int)) h (qa3 [0,1] (l:=[(0,.ptr 0 0),(1,.d (.int .i64 failed_)),(2,.d (.int .i64 at_)),(3,.d (.sl false (closed_.map qa6))),(9,.row 1 (([]:List qdg).length) 0 (([]:List qdg).length)),(22,.d (.int .i64 (g_.qa0.qa7.length:Int))),(23,.d (.int .i64 (0:Int)))]) (objs:=[.box [.d (.cx .f32 g_.qa0.Source.A.re g_.qa0.Source.A.im),.d (.cx .f32 g_.qa0.Source.B.re g_.qa0.Source.B.im),.d (.cx .f32 g_.qa0.Source.C.re g_.qa0.Source.C.im),.d (.sl false (g_.qa0.qa7.map qac)),.d (.sl false (g_.Ties.map qam))],.row 3 (([]:List qdg).map qdh)]) rfl (by simp) rfl (by trivial) ⟨rfl,trivial,rfl,trivial,rfl,trivial,rfl,trivial,rfl,trivial,rfl,trivial,rfl,trivial,trivial⟩) ?_
  rintro ⟨m121,v108,v109⟩ h
  replace h:qbp n g_ failed_ at_ closed_ m121 v108 v109 = some r:=h
  rcases m121 with _ | m121
  ·rw [qbp] at h;cases h
  rw [qbp] at h
  refine qa8<|qa2<|qa1 hτ rfl rfl rfl<|qa5<|qa8 ?_
  refine qaq rfl (fun hc123=>?_) (fun hc123=>?_)
  ·have h:=if_t h hc123
   refine qat ?_
   refine qby (ι:=List qdg) (fun v133=>St.of [(0,.ptr 0 0),(1,.d (.int .i64 failed_)),(2,.d (.int .i64 at_)),(3,.d (.sl false (closed_.map qa6))),(9,.row 1 v133.length 0 v133.length),(22,.d (.int .i64 (g_.qa0.qa7.length:Int))),(23,.d (.int .i64 v109))] [.box [.d (.cx .f32 g_.qa0.Source.A.re g_.qa0.Source.A.im),.d (.cx .f32 g_.qa0.Source.B.re g_.qa0.Source.B.im),.d (.cx .f32 g_.qa0.Source.C.re g_.qa0.Source.C.im),.d (.sl false (g_.qa0.qa7.map qac)),.d (.sl false (g_.Ties.map qam))],.row 3 (v133.map qdh)] f31.ntmps 1) (fun v133=>qdc n (qbp n g_ failed_ at_ closed_ m121) v109 v133 = some r) ?_ (fun hk134=>?_)
   ·rintro v133 h
    replace h:qdc n (qbp n g_ failed_ at_ closed_ m121) v109 v133 = some r:=h
    unfold qdc at h
    refine qa2<|qa1 hτ rfl rfl rfl<|qa1 hτ rfl rfl rfl<|qa5 ?_
    exact ⟨(m121,v133,(w64 (v109 + (1:Int)))),h,Nat.lt_succ_self m121,(qa3 [0,1] (l:=[(0,.ptr 0 0),(1,.d (.int .i64 failed_)),(2,.d (.int .i64 at_)),(3,.d (.sl false (closed_.map qa6))),(9,.row 1 v133.length 0 v133.length),(22,.d (.int .i64 (g_.qa0.qa7.length:Int))),(23,.d (.int .i64 (w64 (v109 + (1:Int)))))]) (objs:=[.box [.d (.cx .f32 g_.qa0.Source.A.re g_.qa0.Source.A.im),.d (.cx .f32 g_.qa0.Source.B.re g_.qa0.Source.B.im),.d (.cx .f32 g_.qa0.Source.C.re g_.qa0.Source.C.im),.d (.sl false (g_.qa0.qa7.map qac)),.d (.sl false (g_.Ties.map qam))],.row 3 (v133.map qdh)]) rfl (by simp) rfl (by trivial) ⟨rfl,trivial,rfl,trivial,rfl,trivial,rfl,trivial,rfl,trivial,rfl,trivial,rfl,trivial,trivial⟩)⟩
   ·refine qa8<|qay<|qa8<|qa2<|qa1 hτ rfl rfl rfl ?_
    refine qa1 hτ rfl rfl rfl<|qa5<|qa8<|qa2<|qa1 hτ rfl rfl rfl ?_
    refine qa1 hτ rfl rfl rfl<|qa1 hτ rfl rfl rfl<|qa1 hτ rfl rfl rfl<|qa1 hτ rfl rfl rfl<|qa1 hτ rfl rfl rfl ?_
    refine qaf h fun x135 hx135 h=>?_
    refine qce hτ rfl rfl rfl (qb8 hx135).1 (qbm hx135) rfl ?_
    refine qa1 hτ rfl rfl rfl<|qal hτ rfl rfl rfl ?_
    refine qb3 (qa3 [0,1,2] (l:=[(0,.ptr 0 0),(1,.d (.int .i64 failed_)),(2,.d (.int .i64 at_)),(3,.d (.sl false (closed_.map qa6))),(9,.row 1 v108.length 0 v108.length),(10,.d (.int .i64 v109)),(11,.ptr 2 0),(22,.d (.int .i64 (g_.qa0.qa7.length:Int))),(23,.d (.int .i64 v109)),(33,.agg [.d (.int .i64 x135.qaw),.d (.cx .f32 x135.Own.re x135.Own.im),.d (.cx .f32 x135.Shared.re x135.Shared.im),.d (.int .i64 x135.Kind),.d (.cx .f32 x135.Load.A.re x135.Load.A.im),.d (.cx .f32 x135.Load.B.re x135.Load.B.im),.d (.cx .f32 x135.Load.C.re x135.Load.C.im),.d (.int .i64 x135.qag)])]) (objs:=[.box [.d (.cx .f32 g_.qa0.Source.A.re g_.qa0.Source.A.im),.d (.cx .f32 g_.qa0.Source.B.re g_.qa0.Source.B.im),.d (.cx .f32 g_.qa0.Source.C.re g_.qa0.Source.C.im),.d (.sl false (g_.qa0.qa7.map qac)),.d (.sl false (g_.Ties.map qam))],.row 3 (v108.map qdh),.box [.d (.int .i64 (0:Int)),.d (.cx .f32 (0:Nat) (0:Nat)),.d (.cx .f32 (0:Nat) (0:Nat)),.d (.int .i64 (0:Int)),.d (.cx .f32 (0:Nat) (0:Nat)),.d (.cx .f32 (0:Nat) (0:Nat)),.d (.cx .f32 (0:Nat) (0:Nat)),.d (.int .i64 (0:Int))]]) rfl (by simp) rfl (by trivial) ⟨rfl,trivial,rfl,trivial,rfl,trivial,rfl,trivial,rfl,trivial,rfl,trivial,rfl,trivial,rfl,trivial,rfl,trivial,rfl,(by trivial),trivial⟩) ?_
    refine qal hτ rfl rfl rfl<|qa5<|qa8<|qa2<|qa1 hτ rfl rfl rfl ?_
    refine qa1 hτ rfl rfl rfl<|qa1 hτ rfl rfl rfl<|qa1 hτ rfl rfl rfl<|qa1 hτ rfl rfl rfl<|qa1 hτ rfl rfl rfl ?_
    refine qaf h fun x136 hx136 h=>?_
    refine qce hτ rfl rfl rfl (qb8 hx136).1 (qbm hx136) rfl ?_
    refine qa1 hτ rfl rfl rfl<|qal hτ rfl rfl rfl<|qal hτ rfl rfl rfl<|qa5<|qay ?_
    refine qby (ι:=Bool) (fun v139=>St.of [(0,.ptr 0 0),(1,.d (.int .i64 failed_)),(2,.d (.int .i64 at_)),(3,.d (.sl false (closed_.map qa6))),(9,.row 1 v108.length 0 v108.length),(10,.d (.int .i64 v109)),(11,.ptr 2 0),(12,.ptr 3 0),(22,.d (.int .i64 (g_.qa0.qa7.length:Int))),(23,.d (.int .i64 v109)),(42,.d (.bool v139))] [.box [.d (.cx .f32 g_.qa0.Source.A.re g_.qa0.Source.A.im),.d (.cx .f32 g_.qa0.Source.B.re g_.qa0.Source.B.im),.d (.cx .f32 g_.qa0.Source.C.re g_.qa0.Source.C.im),.d (.sl false (g_.qa0.qa7.map qac)),.d (.sl false (g_.Ties.map qam))],.row 3 (v108.map qdh),.box [.d (.int .i64 x135.qaw),.d (.cx .f32 x135.Own.re x135.Own.im),.d (.cx .f32 x135.Shared.re x135.Shared.im),.d (.int .i64 x135.Kind),.d (.cx .f32 x135.Load.A.re x135.Load.A.im),.d (.cx .f32 x135.Load.B.re x135.Load.B.im),.d (.cx .f32 x135.Load.C.re x135.Load.C.im),.d (.int .i64 x135.qag)],.box [.d (.int .i64 x136.qaw),.d (.cx .f32 x136.Own.re x136.Own.im),.d (.cx .f32 x136.Shared.re x136.Shared.im),.d (.int .i64 x136.Kind),.d (.cx .f32 x136.Load.A.re x136.Load.A.im),.d (.cx .f32 x136.Load.B.re x136.Load.B.im),.d (.cx .f32 x136.Load.C.re x136.Load.C.im),.d (.int .i64 x136.qag)]] f31.ntmps 1) (fun v139=>qdu n at_ (qbp n g_ failed_ at_ closed_ m121) v108 v109 x135 x136 v139 = some r) ?_ (fun hk145=>?_)
    ·rintro v139 h
     replace h:qdu n at_ (qbp n g_ failed_ at_ closed_ m121) v108 v109 x135 x136 v139 = some r:=h
     unfold qdu at h
     refine qaq rfl (fun hc140=>?_) (fun hc140=>?_)
     ·have h:=qeh h hc140
      refine qat ?_
      refine qaa (qa3 [0,1] (l:=[(0,.ptr 0 0),(1,.d (.int .i64 failed_)),(2,.d (.int .i64 at_)),(3,.d (.sl false (closed_.map qa6))),(9,.row 1 v108.length 0 v108.length),(22,.d (.int .i64 (g_.qa0.qa7.length:Int))),(23,.d (.int .i64 v109))]) (objs:=[.box [.d (.cx .f32 g_.qa0.Source.A.re g_.qa0.Source.A.im),.d (.cx .f32 g_.qa0.Source.B.re g_.qa0.Source.B.im),.d (.cx .f32 g_.qa0.Source.C.re g_.qa0.Source.C.im),.d (.sl false (g_.qa0.qa7.map qac)),.d (.sl false (g_.Ties.map qam))],.row 3 (v108.map qdh)]) rfl (by simp) rfl (by trivial) ⟨rfl,trivial,rfl,trivial,rfl,trivial,rfl,trivial,rfl,trivial,rfl,trivial,rfl,trivial,trivial⟩) ?_
      exact hk134 v108 h
     ·have h:=qeg h hc140
      refine qa8<|qa2<|qa1 hτ rfl rfl rfl<|qa1 hτ rfl rfl rfl<|qa1 hτ rfl rfl rfl ?_
      refine qa1 hτ (v:=.d (.bool (decide (x136.qaw = v109)))) rfl rfl (qeq _ _) ?_
      refine qa1 hτ rfl rfl rfl<|qa5 ?_
      refine qaq rfl (fun hc141=>?_) (fun hc141=>?_)
      ·have h:=if_t h hc141
       refine qa2<|qa1 hτ rfl rfl rfl<|qa1 hτ rfl rfl rfl<|qa1 hτ rfl rfl rfl<|qa1 hτ rfl rfl rfl ?_
       refine qa1 hτ rfl rfl rfl<|qa1 hτ rfl rfl rfl<|qa1 hτ rfl rfl rfl ?_
       refine qb3 (qa3 [0,1] (l:=[(0,.ptr 0 0),(1,.d (.int .i64 failed_)),(2,.d (.int .i64 at_)),(3,.d (.sl false (closed_.map qa6))),(22,.d (.int .i64 (g_.qa0.qa7.length:Int))),(23,.d (.int .i64 v109)),(56,.row 1 v108.length 0 v108.length),(62,.agg [.d (.int .i64 v109),.d (.cx .f32 x136.Own.re x136.Own.im),.d (.cx .f32 x136.Shared.re x136.Shared.im)])]) (objs:=[.box [.d (.cx .f32 g_.qa0.Source.A.re g_.qa0.Source.A.im),.d (.cx .f32 g_.qa0.Source.B.re g_.qa0.Source.B.im),.d (.cx .f32 g_.qa0.Source.C.re g_.qa0.Source.C.im),.d (.sl false (g_.qa0.qa7.map qac)),.d (.sl false (g_.Ties.map qam))],.row 3 (v108.map qdh)]) rfl (by simp) rfl (by trivial) ⟨rfl,trivial,rfl,trivial,rfl,trivial,rfl,trivial,rfl,trivial,rfl,trivial,rfl,trivial,rfl,(by trivial),trivial⟩) ?_
       refine qal hτ rfl rfl rfl ?_
       refine qci h fun hg142 h=>?_
       refine qi7 hτ rfl rfl (Eq.trans rfl (or_append (f:=qdh) v108 [(qdg.mk v109 x136.Own x136.Shared)] rfl)) ⟨⟨rfl,Nat.le_of_ble_eq_true rfl⟩,qb4 _,rfl,rfl,hg142,by decide,(all1 rfl)⟩ ?_
       refine qa1 hτ rfl rfl rfl<|qa5 ?_
       refine qaa (qa3 [0,1] (l:=[(0,.ptr 0 0),(1,.d (.int .i64 failed_)),(2,.d (.int .i64 at_)),(3,.d (.sl false (closed_.map qa6))),(9,.row 1 ((v108 ++ [(qdg.mk v109 x136.Own x136.Shared)]).length) 0 ((v108 ++ [(qdg.mk v109 x136.Own x136.Shared)]).length)),(22,.d (.int .i64 (g_.qa0.qa7.length:Int))),(23,.d (.int .i64 v109))]) (objs:=[.box [.d (.cx .f32 g_.qa0.Source.A.re g_.qa0.Source.A.im),.d (.cx .f32 g_.qa0.Source.B.re g_.qa0.Source.B.im),.d (.cx .f32 g_.qa0.Source.C.re g_.qa0.Source.C.im),.d (.sl false (g_.qa0.qa7.map qac)),.d (.sl false (g_.Ties.map qam))],.row 3 ((v108 ++ [(qdg.mk v109 x136.Own x136.Shared)]).map qdh)]) rfl (by simp) rfl (by trivial) ⟨rfl,trivial,rfl,trivial,rfl,trivial,rfl,trivial,rfl,trivial,rfl,trivial,rfl,trivial,trivial⟩) ?_
       exact hk134 (v108 ++ [(qdg.mk v109 x136.Own x136.Shared)]) h
      ·have h:=if_f h hc141
       refine qa8<|qa2<|qa1 hτ rfl rfl rfl<|qa1 hτ rfl rfl rfl<|qa1 hτ rfl rfl rfl ?_
       refine qa1 hτ (v:=.d (.bool (decide (x135.qaw = at_)))) rfl rfl (qeq _ _) ?_
       refine qa1 hτ rfl rfl rfl<|qa5 ?_
       refine qaa (qa3 [0,1,2] (l:=[(0,.ptr 0 0),(1,.d (.int .i64 failed_)),(2,.d (.int .i64 at_)),(3,.d (.sl false (closed_.map qa6))),(9,.row 1 v108.length 0 v108.length),(10,.d (.int .i64 v109)),(11,.ptr 2 0),(22,.d (.int .i64 (g_.qa0.qa7.length:Int))),(23,.d (.int .i64 v109)),(65,.d (.bool (decide (x135.qaw = at_))))]) (objs:=[.box [.d (.cx .f32 g_.qa0.Source.A.re g_.qa0.Source.A.im),.d (.cx .f32 g_.qa0.Source.B.re g_.qa0.Source.B.im),.d (.cx .f32 g_.qa0.Source.C.re g_.qa0.Source.C.im),.d (.sl false (g_.qa0.qa7.map qac)),.d (.sl false (g_.Ties.map qam))],.row 3 (v108.map qdh),.box [.d (.int .i64 x135.qaw),.d (.cx .f32 x135.Own.re x135.Own.im),.d (.cx .f32 x135.Shared.re x135.Shared.im),.d (.int .i64 x135.Kind),.d (.cx .f32 x135.Load.A.re x135.Load.A.im),.d (.cx .f32 x135.Load.B.re x135.Load.B.im),.d (.cx .f32 x135.Load.C.re x135.Load.C.im),.d (.int .i64 x135.qag)]]) rfl (by simp) rfl (by trivial) ⟨rfl,trivial,rfl,trivial,rfl,trivial,rfl,trivial,rfl,trivial,rfl,trivial,rfl,trivial,rfl,trivial,rfl,trivial,rfl,trivial,trivial⟩) ?_
       refine qaq rfl (fun hc143=>?_) (fun hc143=>?_)
       ·have h:=if_t h hc143
        refine qa2<|qa1 hτ rfl rfl rfl<|qa1 hτ rfl rfl rfl<|qa1 hτ rfl rfl rfl<|qa1 hτ rfl rfl rfl ?_
        refine qa1 hτ rfl rfl rfl<|qa1 hτ rfl rfl rfl<|qa1 hτ rfl rfl rfl<|qal hτ rfl rfl rfl ?_
        refine qci h fun hg144 h=>?_
        refine qi7 hτ rfl rfl (Eq.trans rfl (or_append (f:=qdh) v108 [(qdg.mk v109 x135.Own x135.Shared)] rfl)) ⟨⟨rfl,Nat.le_of_ble_eq_true rfl⟩,qb4 _,rfl,rfl,hg144,by decide,(all1 rfl)⟩ ?_
        refine qa1 hτ rfl rfl rfl<|qa5 ?_
        refine qaa (qa3 [0,1] (l:=[(0,.ptr 0 0),(1,.d (.int .i64 failed_)),(2,.d (.int .i64 at_)),(3,.d (.sl false (closed_.map qa6))),(9,.row 1 ((v108 ++ [(qdg.mk v109 x135.Own x135.Shared)]).length) 0 ((v108 ++ [(qdg.mk v109 x135.Own x135.Shared)]).length)),(22,.d (.int .i64 (g_.qa0.qa7.length:Int))),(23,.d (.int .i64 v109))]) (objs:=[.box [.d (.cx .f32 g_.qa0.Source.A.re g_.qa0.Source.A.im),.d (.cx .f32 g_.qa0.Source.B.re g_.qa0.Source.B.im),.d (.cx .f32 g_.qa0.Source.C.re g_.qa0.Source.C.im),.d (.sl false (g_.qa0.qa7.map qac)),.d (.sl false (g_.Ties.map qam))],.row 3 ((v108 ++ [(qdg.mk v109 x135.Own x135.Shared)]).map qdh)]) rfl (by simp) rfl (by trivial) ⟨rfl,trivial,rfl,trivial,rfl,trivial,rfl,trivial,rfl,trivial,rfl,trivial,rfl,trivial,trivial⟩) ?_
        exact hk134 (v108 ++ [(qdg.mk v109 x135.Own x135.Shared)]) h
       ·have h:=if_f h hc143
        refine qat ?_
        refine qaa (qa3 [0,1] (l:=[(0,.ptr 0 0),(1,.d (.int .i64 failed_)),(2,.d (.int .i64 at_)),(3,.d (.sl false (closed_.map qa6))),(9,.row 1 v108.length 0 v108.length),(22,.d (.int .i64 (g_.qa0.qa7.length:Int))),(23,.d (.int .i64 v109))]) (objs:=[.box [.d (.cx .f32 g_.qa0.Source.A.re g_.qa0.Source.A.im),.d (.cx .f32 g_.qa0.Source.B.re g_.qa0.Source.B.im),.d (.cx .f32 g_.qa0.Source.C.re g_.qa0.Source.C.im),.d (.sl false (g_.qa0.qa7.map qac)),.d (.sl false (g_.Ties.map qam))],.row 3 (v108.map qdh)]) rfl (by simp) rfl (by trivial) ⟨rfl,trivial,rfl,trivial,rfl,trivial,rfl,trivial,rfl,trivial,rfl,trivial,rfl,trivial,trivial⟩) ?_
        exact hk134 v108 h
    ·refine qa8 ?_
     refine qaa (qa3 [0,1,2,3] (l:=[(0,.ptr 0 0),(1,.d (.int .i64 failed_)),(2,.d (.int .i64 at_)),(3,.d (.sl false (closed_.map qa6))),(9,.row 1 v108.length 0 v108.length),(10,.d (.int .i64 v109)),(11,.ptr 2 0),(12,.ptr 3 0),(22,.d (.int .i64 (g_.qa0.qa7.length:Int))),(23,.d (.int .i64 v109))]) (objs:=[.box [.d (.cx .f32 g_.qa0.Source.A.re g_.qa0.Source.A.im),.d (.cx .f32 g_.qa0.Source.B.re g_.qa0.Source.B.im),.d (.cx .f32 g_.qa0.Source.C.re g_.qa0.Source.C.im),.d (.sl false (g_.qa0.qa7.map qac)),.d (.sl false (g_.Ties.map qam))],.row 3 (v108.map qdh),.box [.d (.int .i64 x135.qaw),.d (.cx .f32 x135.Own.re x135.Own.im),.d (.cx .f32 x135.Shared.re x135.Shared.im),.d (.int .i64 x135.Kind),.d (.cx .f32 x135.Load.A.re x135.Load.A.im),.d (.cx .f32 x135.Load.B.re x135.Load.B.im),.d (.cx .f32 x135.Load.C.re x135.Load.C.im),.d (.int .i64 x135.qag)],.box [.d (.int .i64 x136.qaw),.d (.cx .f32 x136.Own.re x136.Own.im),.d (.cx .f32 x136.Shared.re x136.Shared.im),.d (.int .i64 x136.Kind),.d (.cx .f32 x136.Load.A.re x136.Load.A.im),.d (.cx .f32 x136.Load.B.re x136.Load.B.im),.d (.cx .f32 x136.Load.C.re x136.Load.C.im),.d (.int .i64 x136.qag)]]) rfl (by simp) rfl (by trivial) ⟨rfl,trivial,rfl,trivial,rfl,trivial,rfl,trivial,rfl,trivial,rfl,trivial,rfl,trivial,rfl,trivial,rfl,trivial,rfl,trivial,trivial⟩) ?_
     refine qa2<|qa1 hτ rfl rfl rfl<|qa1 hτ rfl rfl rfl ?_
     refine qa1 hτ (v:=.d (.bool (decide (v109 = failed_)))) rfl rfl (qeq _ _) ?_
     refine qa1 hτ rfl rfl rfl ?_
     refine qbq 46 rfl (fun hb146=>?_) (fun hb146=>?_)
     ·have h:=if_t h hb146
      refine qab rfl rfl<|qab rfl rfl<|qab rfl rfl<|qa1 hτ rfl rfl rfl<|qa1 hτ rfl rfl rfl ?_
      refine qa5 ?_
      refine qaa (qa3 [0,1,2,3] (l:=[(0,.ptr 0 0),(1,.d (.int .i64 failed_)),(2,.d (.int .i64 at_)),(3,.d (.sl false (closed_.map qa6))),(9,.row 1 v108.length 0 v108.length),(10,.d (.int .i64 v109)),(11,.ptr 2 0),(12,.ptr 3 0),(22,.d (.int .i64 (g_.qa0.qa7.length:Int))),(23,.d (.int .i64 v109)),(42,.d (.bool true))]) (objs:=[.box [.d (.cx .f32 g_.qa0.Source.A.re g_.qa0.Source.A.im),.d (.cx .f32 g_.qa0.Source.B.re g_.qa0.Source.B.im),.d (.cx .f32 g_.qa0.Source.C.re g_.qa0.Source.C.im),.d (.sl false (g_.qa0.qa7.map qac)),.d (.sl false (g_.Ties.map qam))],.row 3 (v108.map qdh),.box [.d (.int .i64 x135.qaw),.d (.cx .f32 x135.Own.re x135.Own.im),.d (.cx .f32 x135.Shared.re x135.Shared.im),.d (.int .i64 x135.Kind),.d (.cx .f32 x135.Load.A.re x135.Load.A.im),.d (.cx .f32 x135.Load.B.re x135.Load.B.im),.d (.cx .f32 x135.Load.C.re x135.Load.C.im),.d (.int .i64 x135.qag)],.box [.d (.int .i64 x136.qaw),.d (.cx .f32 x136.Own.re x136.Own.im),.d (.cx .f32 x136.Shared.re x136.Shared.im),.d (.int .i64 x136.Kind),.d (.cx .f32 x136.Load.A.re x136.Load.A.im),.d (.cx .f32 x136.Load.B.re x136.Load.B.im),.d (.cx .f32 x136.Load.C.re x136.Load.C.im),.d (.int .i64 x136.qag)]]) rfl (by simp) rfl (by trivial) ⟨rfl,trivial,rfl,trivial,rfl,trivial,rfl,trivial,rfl,trivial,rfl,trivial,rfl,trivial,rfl,trivial,rfl,trivial,rfl,trivial,rfl,trivial,trivial⟩) ?_
      exact hk145 true h
     ·have h:=if_f h hb146
      refine qa1 hτ rfl rfl rfl<|qa1 hτ rfl rfl rfl ?_
      refine qa1 hτ (v:=.d (.bool (decide (at_ = failed_)))) rfl rfl (qeq _ _) ?_
      refine qa1 hτ rfl rfl rfl<|qa1 hτ rfl rfl rfl<|qa5 ?_
      refine qaa (qa3 [0,1,2,3] (l:=[(0,.ptr 0 0),(1,.d (.int .i64 failed_)),(2,.d (.int .i64 at_)),(3,.d (.sl false (closed_.map qa6))),(9,.row 1 v108.length 0 v108.length),(10,.d (.int .i64 v109)),(11,.ptr 2 0),(12,.ptr 3 0),(22,.d (.int .i64 (g_.qa0.qa7.length:Int))),(23,.d (.int .i64 v109)),(42,.d (.bool (decide (at_ = failed_))))]) (objs:=[.box [.d (.cx .f32 g_.qa0.Source.A.re g_.qa0.Source.A.im),.d (.cx .f32 g_.qa0.Source.B.re g_.qa0.Source.B.im),.d (.cx .f32 g_.qa0.Source.C.re g_.qa0.Source.C.im),.d (.sl false (g_.qa0.qa7.map qac)),.d (.sl false (g_.Ties.map qam))],.row 3 (v108.map qdh),.box [.d (.int .i64 x135.qaw),.d (.cx .f32 x135.Own.re x135.Own.im),.d (.cx .f32 x135.Shared.re x135.Shared.im),.d (.int .i64 x135.Kind),.d (.cx .f32 x135.Load.A.re x135.Load.A.im),.d (.cx .f32 x135.Load.B.re x135.Load.B.im),.d (.cx .f32 x135.Load.C.re x135.Load.C.im),.d (.int .i64 x135.qag)],.box [.d (.int .i64 x136.qaw),.d (.cx .f32 x136.Own.re x136.Own.im),.d (.cx .f32 x136.Shared.re x136.Shared.im),.d (.int .i64 x136.Kind),.d (.cx .f32 x136.Load.A.re x136.Load.A.im),.d (.cx .f32 x136.Load.B.re x136.Load.B.im),.d (.cx .f32 x136.Load.C.re x136.Load.C.im),.d (.int .i64 x136.qag)]]) rfl (by simp) rfl (by trivial) ⟨rfl,trivial,rfl,trivial,rfl,trivial,rfl,trivial,rfl,trivial,rfl,trivial,rfl,trivial,rfl,trivial,rfl,trivial,rfl,trivial,rfl,trivial,trivial⟩) ?_
      exact hk145 (decide (at_ = failed_)) h
  ·have h:=if_f h hc123
   refine qd3 ?_
   refine qaa (qa3 [0,1] (l:=[(0,.ptr 0 0),(2,.d (.int .i64 at_)),(3,.d (.sl false (closed_.map qa6))),(9,.row 1 v108.length 0 v108.length)]) (objs:=[.box [.d (.cx .f32 g_.qa0.Source.A.re g_.qa0.Source.A.im),.d (.cx .f32 g_.qa0.Source.B.re g_.qa0.Source.B.im),.d (.cx .f32 g_.qa0.Source.C.re g_.qa0.Source.C.im),.d (.sl false (g_.qa0.qa7.map qac)),.d (.sl false (g_.Ties.map qam))],.row 3 (v108.map qdh)]) rfl (by simp) rfl (by trivial) ⟨rfl,trivial,rfl,trivial,rfl,trivial,rfl,trivial,trivial⟩) ?_
   exact hk98 v108 h
def qdr (n:Nat) (s_:List Int) (v_:Int):Nat→Int→Option Int
 | 0,_=>none
 | m9 + 1,v6 =>
  if v6 < (s_.length:Int) then
   (getI s_ v6).bind fun x13 =>
   if v_ = x13 then
    some v6
   else
    (qdr n s_ v_ m9) (w64 (v6 + (1:Int)))
  else
   some (-1:Int)
def qjj (n:Nat) (s_:List Int) (v_:Int):Option Int :=
 qdr n s_ v_ n (0:Int)
theorem slices_Index_ok_fr0 (fr:Bool) (n:Nat) (s_:List Int) (v_:Int) {r:Int} (h:qjj n s_ v_ = some r):qb1 prog fr 52 [.d (.sl false (s_.map qa6)),.d (.int .i64 v_)] [] (fun v o new=>v = .d (.int .i64 r)∧o = []∧new = []):=by
 refine qak hτ func52 rfl (by simp) (by simp) ?_
 unfold qjj at h
 refine qa8<|qa2<|qa1 hτ rfl rfl rfl<|qa5<|qa8 ?_
 refine qa8<|qa2<|qa1 hτ rfl rfl rfl ?_
 refine qa1 hτ (v:=.d (.int .i64 (s_.length:Int))) rfl rfl (Eq.trans rfl (qei (f:=qa6) s_)) ?_
 refine qa1 hτ rfl rfl rfl<|qa5<|qay ?_
 refine qde (ι:=Nat × Int) (fun (m9,v6)=>St.of [(0,.d (.sl false (s_.map qa6))),(1,.d (.int .i64 v_)),(7,.d (.int .i64 (s_.length:Int))),(8,.d (.int .i64 v6))] [] f52.ntmps 0) (fun (m9,v6)=>qdr n s_ v_ m9 v6 = some r) (fun x=>x.1) (n,(0:Int)) h (qa3 [] (l:=[(0,.d (.sl false (s_.map qa6))),(1,.d (.int .i64 v_)),(7,.d (.int .i64 (s_.length:Int))),(8,.d (.int .i64 (0:Int)))]) (objs:=[]) rfl (by simp) rfl (by trivial) ⟨rfl,trivial,rfl,trivial,rfl,trivial,rfl,trivial,trivial⟩) ?_
 rintro ⟨m9,v6⟩ h
 replace h:qdr n s_ v_ m9 v6 = some r:=h
 rcases m9 with _ | m9
 ·rw [qdr] at h;cases h
 rw [qdr] at h
 refine qa8<|qa2<|qa1 hτ rfl rfl rfl<|qa5<|qa8 ?_
 refine qaq rfl (fun hc11=>?_) (fun hc11=>?_)
 ·have h:=if_t h hc11
  refine qat<|qa8<|qay<|qa8<|qa2 ?_
  refine qa1 hτ rfl rfl rfl<|qa1 hτ rfl rfl rfl<|qa5<|qa8<|qa2 ?_
  refine qa1 hτ rfl rfl rfl<|qa1 hτ rfl rfl rfl<|qa1 hτ rfl rfl rfl ?_
  refine qaf h fun x13 hx13 h=>?_
  refine qce hτ rfl rfl rfl (qb8 hx13).1 (qbm hx13) rfl ?_
  refine qa1 hτ rfl rfl rfl ?_
  refine qa1 hτ (v:=.d (.bool (decide (v_ = x13)))) rfl rfl (qeq _ _) ?_
  refine qa5 ?_
  refine qaa (qa3 [] (l:=[(0,.d (.sl false (s_.map qa6))),(1,.d (.int .i64 v_)),(5,.d (.int .i64 v6)),(7,.d (.int .i64 (s_.length:Int))),(8,.d (.int .i64 v6)),(16,.d (.bool (decide (v_ = x13))))]) (objs:=[]) rfl (by simp) rfl (by trivial) ⟨rfl,trivial,rfl,trivial,rfl,trivial,rfl,trivial,rfl,trivial,rfl,trivial,trivial⟩) ?_
  refine qaq rfl (fun hc14=>?_) (fun hc14=>?_)
  ·have h:=if_t h hc14
   refine qa8<|qa2<|qa1 hτ rfl rfl rfl<|qa1 hτ rfl rfl rfl<|qa5 ?_
   refine qaa (qa3 [] (l:=[(4,.d (.int .i64 v6))]) (objs:=[]) rfl (by simp) rfl (by trivial) ⟨rfl,trivial,trivial⟩) ?_
   refine qap ?_
   have hr:=Option.some.inj h
   subst hr
   exact qah (.inr rfl) [] (objs':=[]) (new:=[]) rfl (by simp) (by simp) rfl (by trivial) rfl rfl (by trivial) (fun _=>⟨by simp [V.flat,V.qbg,V.qbb,D.flat],qan⟩) ⟨rfl,rfl,rfl⟩
  ·have h:=if_f h hc14
   refine qat<|qa2<|qa1 hτ rfl rfl rfl<|qa1 hτ rfl rfl rfl<|qa5 ?_
   exact ⟨(m9,(w64 (v6 + (1:Int)))),h,Nat.lt_succ_self m9,(qa3 [] (l:=[(0,.d (.sl false (s_.map qa6))),(1,.d (.int .i64 v_)),(7,.d (.int .i64 (s_.length:Int))),(8,.d (.int .i64 (w64 (v6 + (1:Int)))))]) (objs:=[]) rfl (by simp) rfl (by trivial) ⟨rfl,trivial,rfl,trivial,rfl,trivial,rfl,trivial,trivial⟩)⟩
 ·have h:=if_f h hc11
  refine qd3<|qa8<|qa2<|qa1 hτ rfl rfl rfl<|qa5 ?_
  refine qaa (qa3 [] (l:=[(4,.d (.int .i64 (-1:Int)))]) (objs:=[]) rfl (by simp) rfl (by trivial) ⟨rfl,trivial,trivial⟩) ?_
  refine qap ?_
  have hr:=Option.some.inj h
  subst hr
  exact qah (.inr rfl) [] (objs':=[]) (new:=[]) rfl (by simp) (by simp) rfl (by trivial) rfl rfl (by trivial) (fun _=>⟨by simp [V.flat,V.qbg,V.qbb,D.flat],qan⟩) ⟨rfl,rfl,rfl⟩
theorem slices_Index_ok (n:Nat) (s_:List Int) (v_:Int) {r:Int} (h:qjj n s_ v_ = some r):qb1 prog false 52 [.d (.sl false (s_.map qa6)),.d (.int .i64 v_)] [] (fun v o new=>v = .d (.int .i64 r)∧o = []∧new = []):=slices_Index_ok_fr0 false n s_ v_ h
def qf7 (n:Nat) (s_:List Int) (v_:Int):Option Bool :=
 (qjj n s_ v_).bind fun x2 =>
 some (decide (x2 ≥ (0:Int)))
theorem slices_Contains_ok_fr0 (fr:Bool) (n:Nat) (s_:List Int) (v_:Int) {r:Bool} (h:qf7 n s_ v_ = some r):qb1 prog fr 32 [.d (.sl false (s_.map qa6)),.d (.int .i64 v_)] [] (fun v o new=>v = .d (.bool r)∧o = []∧new = []):=by
 refine qak hτ func32 rfl (by simp) (by simp) ?_
 unfold qf7 at h
 refine qa8<|qa2<|qa1 hτ rfl rfl rfl<|qa5<|qa8 ?_
 refine qa2<|qa1 hτ rfl rfl rfl<|qa1 hτ rfl rfl rfl ?_
 refine qaf h fun x2 hx2 h=>?_
 refine qae hτ false [] rfl rfl rfl (qaj func52 rfl rfl) rfl rfl (by simp) ⟨trivial,trivial,trivial⟩ (by trivial) (slices_Index_ok n s_ v_ hx2) ?_
 rintro r0 o0 n0 ⟨rfl,rfl,rfl⟩ -
 refine qa1 hτ rfl rfl rfl<|qa1 hτ rfl rfl rfl<|qa5 ?_
 refine qaa (qa3 [] (l:=[(4,.d (.bool (decide (x2 ≥ (0:Int)))))]) (objs:=[]) rfl (by simp) rfl (by trivial) ⟨rfl,trivial,trivial⟩) ?_
 refine qap ?_
 have hr:=Option.some.inj h
 subst hr
 exact qah (.inr rfl) [] (objs':=[]) (new:=[]) rfl (by simp) (by simp) rfl (by trivial) rfl rfl (by trivial) (fun _=>⟨by simp [V.flat,V.qbg,V.qbb,D.flat],qan⟩) ⟨rfl,rfl,rfl⟩
theorem qku (n:Nat) (s_:List Int) (v_:Int) {r:Bool} (h:qf7 n s_ v_ = some r):qb1 prog true 32 [.d (.sl false (s_.map qa6)),.d (.int .i64 v_)] [] (fun v o new=>v = .d (.bool r)∧o = []∧new = []):=slices_Contains_ok_fr0 true n s_ v_ h
def qgz (n:Nat) (g_:qbk) (v122:List SBus) (v123:List Int):Option (qau × List Int × Bool) :=
 some ((qau.mk g_.qa0.Source v122),v123,true)
def qfi (n:Nat) (k176:List SBus→List Int→Int→Option (qau × List Int × Bool)) (v149:Int) (v200:List SBus) (v201:List Int):Option (qau × List Int × Bool) :=
 k176 v200 v201 (w64 (v149 + (1:Int)))
def qe8 (n:Nat) (k226:List SBus→List Int→Int→Option (qau × List Int × Bool)) (v214:Int) (v235:List SBus) (v236:List Int):Option (qau × List Int × Bool) :=
 k226 v235 v236 (w64 (v214 + (1:Int)))
def qc9 (n:Nat) (g_:qbk) (k176:List SBus→List Int→Int→Option (qau × List Int × Bool)) (v149:Int) (x204:List qdg):Nat→List SBus→List Int→Int→Option (qau × List Int × Bool)
 | 0,_,_,_=>none
 | m225 + 1,v212,v213,v214 =>
  if v214 < (x204.length:Int) then
   (getI x204 v214).bind fun x238 =>
   (qf7 n v213 x238.bus).bind fun x240 =>
   if x240 = true then
    qe8 n (qc9 n g_ k176 v149 x204 m225) v214 v212 v213
   else
    (getI g_.qa0.qa7 x238.bus).bind fun x242 =>
    grd (room (v212.length + 1) 64) <|
    grd (room (v213.length + 1) 8) <|
    qe8 n (qc9 n g_ k176 v149 x204 m225) v214 (v212 ++ [(SBus.mk v149 x238.own x238.shared x242.Kind x242.Load x242.qag)]) (v213 ++ [x238.bus])
  else
   qfi n k176 v149 v212 v213
def qbh (n:Nat) (g_:qbk) (bus_:Int) (closed_:List Int):Nat→List SBus→List Int→Int→Option (qau × List Int × Bool)
 | 0,_,_,_=>none
 | m175 + 1,v147,v148,v149 =>
  if v149 < (v148.length:Int) then
   (getI v148 v149).bind fun x203 =>
   (qhq n g_ bus_ x203 closed_).bind fun x204 =>
   qc9 n g_ (qbh n g_ bus_ closed_ m175) v149 x204 n v147 v148 (0:Int)
  else
   qgz n g_ v147 v148
def qfh (n:Nat) (g_:qbk) (bus_:Int) (closed_:List Int) (v71:List SBus):Option (qau × List Int × Bool) :=
 qbh n g_ bus_ closed_ n v71 [(0:Int)] (0:Int)
def qft (n:Nat) (g_:qbk) (bus_:Int) (closed_:List Int):Option (qau × List Int × Bool) :=
 (qh2 n g_ bus_ closed_).bind fun x61 =>
 if x61 = true then
  (getI g_.qa0.qa7 (0:Int)).bind fun x246 =>
  qfh n g_ bus_ closed_ [x246]
 else
  some ((qau.mk (qad.mk (Cx.mk (0:Nat) (0:Nat)) (Cx.mk (0:Nat) (0:Nat)) (Cx.mk (0:Nat) (0:Nat))) ([]:List SBus)),([]:List Int),false)
theorem impl_FeederAfter_ok_fr0 (fr:Bool) (n:Nat) (g_:qbk) (bus_:Int) (closed_:List Int) {r:qau × List Int × Bool} (h:qft n g_ bus_ closed_ = some r):qb1 prog fr 9 [.agg [.d (.cx .f32 g_.qa0.Source.A.re g_.qa0.Source.A.im),.d (.cx .f32 g_.qa0.Source.B.re g_.qa0.Source.B.im),.d (.cx .f32 g_.qa0.Source.C.re g_.qa0.Source.C.im),.d (.sl false (g_.qa0.qa7.map qac)),.d (.sl false (g_.Ties.map qam))],.d (.int .i64 bus_),.d (.sl false (closed_.map qa6))] [] (fun v o new=>v = .tup [.agg [.d (.cx .f32 r.1.Source.A.re r.1.Source.A.im),.d (.cx .f32 r.1.Source.B.re r.1.Source.B.im),.d (.cx .f32 r.1.Source.C.re r.1.Source.C.im),.row 0 r.1.qa7.length 0 r.1.qa7.length],.row 1 r.2.1.length 0 r.2.1.length,.d (.bool r.2.2)]∧o = []∧new = [.row 8 (r.1.qa7.map qac),.row 1 (r.2.1.map qa6)]):=by
 refine qak hτ func9 rfl (by simp) (by simp) ?_
 unfold qft at h
 refine qa8<|qa2<|qal hτ rfl rfl rfl<|qal hτ rfl rfl rfl<|qa1 hτ rfl rfl rfl ?_
 refine qa1 hτ rfl rfl rfl<|qa5<|qa8<|qa8<|qa2 ?_
 refine qa1 hτ rfl rfl rfl<|qa1 hτ rfl rfl rfl<|qa1 hτ rfl rfl rfl ?_
 refine qaf h fun x61 hx61 h=>?_
 refine qae hτ false [] rfl rfl rfl (qaj func26 rfl rfl) rfl rfl (by simp) ⟨(by trivial),trivial,trivial,trivial⟩ (by trivial) (impl_IsPlan_ok n g_ bus_ closed_ hx61) ?_
 rintro r0 o0 n0 ⟨rfl,rfl,rfl⟩ -
 refine qa1 hτ rfl rfl rfl<|qa5 ?_
 refine qaa (qa3 [0,1] (l:=[(1,.d (.int .i64 bus_)),(2,.d (.sl false (closed_.map qa6))),(3,.ptr 0 0),(6,.ptr 1 0),(19,.d (.bool (!x61)))]) (objs:=[.box [.d (.cx .f32 g_.qa0.Source.A.re g_.qa0.Source.A.im),.d (.cx .f32 g_.qa0.Source.B.re g_.qa0.Source.B.im),.d (.cx .f32 g_.qa0.Source.C.re g_.qa0.Source.C.im),.d (.sl false (g_.qa0.qa7.map qac)),.d (.sl false (g_.Ties.map qam))],.box [.d (.cx .f32 (0:Nat) (0:Nat)),.d (.cx .f32 (0:Nat) (0:Nat)),.d (.cx .f32 (0:Nat) (0:Nat)),.d (.nils)]]) rfl (by simp) rfl (by trivial) ⟨rfl,trivial,rfl,trivial,rfl,trivial,rfl,trivial,rfl,trivial,trivial⟩) ?_
 refine qaq rfl (fun hc62=>?_) (fun hc62=>?_)
 ·have hc62:=qjf hc62
  have h:=qeg h hc62
  refine qa8<|qa2<|qa1 hτ rfl rfl rfl<|qal hτ rfl rfl rfl<|qa1 hτ rfl rfl rfl ?_
  refine qa1 hτ rfl rfl rfl<|qa5 ?_
  refine qaa (qa3 [1] (l:=[(6,.ptr 0 0),(7,.d (.nils)),(8,.d (.bool false))]) (objs:=[.box [.d (.cx .f32 (0:Nat) (0:Nat)),.d (.cx .f32 (0:Nat) (0:Nat)),.d (.cx .f32 (0:Nat) (0:Nat)),.d (.nils)]]) rfl (by simp) rfl (by trivial) ⟨rfl,trivial,rfl,trivial,rfl,trivial,trivial⟩) ?_
  refine qaa (qjc [1,8] (l':=[(6,.ptr 0 0),(7,.row 1 (([]:List Int).length) 0 (([]:List Int).length)),(8,.d (.bool false))]) (objs':=[.box [.d (.cx .f32 (0:Nat) (0:Nat)),.d (.cx .f32 (0:Nat) (0:Nat)),.d (.cx .f32 (0:Nat) (0:Nat)),.row 2 (([]:List SBus).length) 0 (([]:List SBus).length)]]) (.cons (.c (.refl _)) (.cons (.c (.ghost ⟨Nat.le_of_ble_eq_true rfl,Nat.le_of_ble_eq_true rfl⟩)) (.cons (.c (.refl _)) .nil))) (.cons (.box (.cons (.refl _) (.cons (.refl _) (.cons (.refl _) (.cons (.ghost ⟨Nat.le_of_ble_eq_true rfl,Nat.le_of_ble_eq_true rfl⟩) .nil))))) .nil)) ?_
  refine qaa (qa3 [0,2,1] (l:=[(6,.ptr 0 0),(7,.row 2 (([]:List Int).length) 0 (([]:List Int).length)),(8,.d (.bool false))]) (objs:=[.box [.d (.cx .f32 (0:Nat) (0:Nat)),.d (.cx .f32 (0:Nat) (0:Nat)),.d (.cx .f32 (0:Nat) (0:Nat)),.row 1 (([]:List SBus).length) 0 (([]:List SBus).length)],.row 8 (([]:List SBus).map qac),.row 1 (([]:List Int).map qa6)]) rfl (by simp) rfl (by trivial) ⟨rfl,trivial,rfl,trivial,rfl,trivial,trivial⟩) ?_
  refine qap ?_
  have hr:=Option.some.inj h
  subst hr
  exact qah (.inr rfl) [1,2] (objs':=[]) (new:=[.row 8 (([]:List SBus).map qac),.row 1 (([]:List Int).map qa6)]) rfl (by simp) (by simp) rfl (by trivial) rfl rfl (by trivial) (fun _=>⟨by simp [V.flat,V.qbg,V.qbb,D.flat],(qc8 (qgt qol _) (qc8 (qgt qff _) qan))⟩) ⟨rfl,rfl,rfl⟩
 ·have hc62:=qje hc62
  have h:=qeh h hc62
  refine qat ?_
  refine qby (ι:=List SBus) (fun v71=>St.of [(1,.d (.int .i64 bus_)),(2,.d (.sl false (closed_.map qa6))),(3,.ptr 0 0),(6,.ptr 1 0),(9,.ptr 2 0),(10,.row 4 ([(0:Int)].length) 0 ([(0:Int)].length))] [.box [.d (.cx .f32 g_.qa0.Source.A.re g_.qa0.Source.A.im),.d (.cx .f32 g_.qa0.Source.B.re g_.qa0.Source.B.im),.d (.cx .f32 g_.qa0.Source.C.re g_.qa0.Source.C.im),.d (.sl false (g_.qa0.qa7.map qac)),.d (.sl false (g_.Ties.map qam))],.box [.d (.cx .f32 (0:Nat) (0:Nat)),.d (.cx .f32 (0:Nat) (0:Nat)),.d (.cx .f32 (0:Nat) (0:Nat)),.d (.nils)],.box [.d (.cx .f32 g_.qa0.Source.A.re g_.qa0.Source.A.im),.d (.cx .f32 g_.qa0.Source.B.re g_.qa0.Source.B.im),.d (.cx .f32 g_.qa0.Source.C.re g_.qa0.Source.C.im),.row 3 v71.length 0 v71.length],.row 8 (v71.map qac),.row 1 ([(0:Int)].map qa6)] f9.ntmps 0) (fun v71=>qfh n g_ bus_ closed_ v71 = some r) ?_ (fun hk245=>?_)
  ·rintro v71 h
   replace h:qfh n g_ bus_ closed_ v71 = some r:=h
   unfold qfh at h
   refine qby (ι:=List SBus × List Int) (fun (v122,v123)=>St.of [(6,.ptr 0 0),(9,.ptr 1 0),(10,.row 3 v123.length 0 v123.length)] [.box [.d (.cx .f32 (0:Nat) (0:Nat)),.d (.cx .f32 (0:Nat) (0:Nat)),.d (.cx .f32 (0:Nat) (0:Nat)),.d (.nils)],.box [.d (.cx .f32 g_.qa0.Source.A.re g_.qa0.Source.A.im),.d (.cx .f32 g_.qa0.Source.B.re g_.qa0.Source.B.im),.d (.cx .f32 g_.qa0.Source.C.re g_.qa0.Source.C.im),.row 2 v122.length 0 v122.length],.row 8 (v122.map qac),.row 1 (v123.map qa6)] f9.ntmps 0) (fun (v122,v123)=>qgz n g_ v122 v123 = some r) ?_ (fun hk124=>?_)
   ·rintro ⟨v122,v123⟩ h
    replace h:qgz n g_ v122 v123 = some r:=h
    unfold qgz at h
    refine qa8<|qa2<|qa1 hτ rfl rfl rfl<|qa1 hτ rfl rfl rfl<|qal hτ rfl rfl rfl ?_
    refine qa1 hτ rfl rfl rfl<|qa1 hτ rfl rfl rfl<|qa5 ?_
    refine qaa (qa3 [0,2,3] (l:=[(6,.ptr 0 0),(7,.row 2 v123.length 0 v123.length),(8,.d (.bool true))]) (objs:=[.box [.d (.cx .f32 g_.qa0.Source.A.re g_.qa0.Source.A.im),.d (.cx .f32 g_.qa0.Source.B.re g_.qa0.Source.B.im),.d (.cx .f32 g_.qa0.Source.C.re g_.qa0.Source.C.im),.row 1 v122.length 0 v122.length],.row 8 (v122.map qac),.row 1 (v123.map qa6)]) rfl (by simp) rfl (by trivial) ⟨rfl,trivial,rfl,trivial,rfl,trivial,trivial⟩) ?_
    refine qap ?_
    have hr:=Option.some.inj h
    subst hr
    exact qah (.inr rfl) [1,2] (objs':=[]) (new:=[.row 8 (v122.map qac),.row 1 (v123.map qa6)]) rfl (by simp) (by simp) rfl (by trivial) rfl rfl (by trivial) (fun _=>⟨by simp [V.flat,V.qbg,V.qbb,D.flat],(qc8 (qgt qol _) (qc8 (qgt qff _) qan))⟩) ⟨rfl,rfl,rfl⟩
   ·refine qa8<|qa8<|qa2<|qa1 hτ rfl rfl rfl<|qa5 ?_
    refine qay ?_
    refine qde (ι:=Nat × List SBus × List Int × Int) (fun (m175,v147,v148,v149)=>St.of [(1,.d (.int .i64 bus_)),(2,.d (.sl false (closed_.map qa6))),(3,.ptr 0 0),(6,.ptr 1 0),(9,.ptr 2 0),(10,.row 4 v148.length 0 v148.length),(11,.d (.int .i64 v149))] [.box [.d (.cx .f32 g_.qa0.Source.A.re g_.qa0.Source.A.im),.d (.cx .f32 g_.qa0.Source.B.re g_.qa0.Source.B.im),.d (.cx .f32 g_.qa0.Source.C.re g_.qa0.Source.C.im),.d (.sl false (g_.qa0.qa7.map qac)),.d (.sl false (g_.Ties.map qam))],.box [.d (.cx .f32 (0:Nat) (0:Nat)),.d (.cx .f32 (0:Nat) (0:Nat)),.d (.cx .f32 (0:Nat) (0:Nat)),.d (.nils)],.box [.d (.cx .f32 g_.qa0.Source.A.re g_.qa0.Source.A.im),.d (.cx .f32 g_.qa0.Source.B.re g_.qa0.Source.B.im),.d (.cx .f32 g_.qa0.Source.C.re g_.qa0.Source.C.im),.row 3 v147.length 0 v147.length],.row 8 (v147.map qac),.row 1 (v148.map qa6)] f9.ntmps 0) (fun (m175,v147,v148,v149)=>qbh n g_ bus_ closed_ m175 v147 v148 v149 = some r) (fun x=>x.1) (n,v71,[(0:Int)],(0:Int)) h (qa3 [0,1,2,3,4] (l:=[(1,.d (.int .i64 bus_)),(2,.d (.sl false (closed_.map qa6))),(3,.ptr 0 0),(6,.ptr 1 0),(9,.ptr 2 0),(10,.row 4 ([(0:Int)].length) 0 ([(0:Int)].length)),(11,.d (.int .i64 (0:Int)))]) (objs:=[.box [.d (.cx .f32 g_.qa0.Source.A.re g_.qa0.Source.A.im),.d (.cx .f32 g_.qa0.Source.B.re g_.qa0.Source.B.im),.d (.cx .f32 g_.qa0.Source.C.re g_.qa0.Source.C.im),.d (.sl false (g_.qa0.qa7.map qac)),.d (.sl false (g_.Ties.map qam))],.box [.d (.cx .f32 (0:Nat) (0:Nat)),.d (.cx .f32 (0:Nat) (0:Nat)),.d (.cx .f32 (0:Nat) (0:Nat)),.d (.nils)],.box [.d (.cx .f32 g_.qa0.Source.A.re g_.qa0.Source.A.im),.d (.cx .f32 g_.qa0.Source.B.re g_.qa0.Source.B.im),.d (.cx .f32 g_.qa0.Source.C.re g_.qa0.Source.C.im),.row 3 v71.length 0 v71.length],.row 8 (v71.map qac),.row 1 ([(0:Int)].map qa6)]) rfl (by simp) rfl (by trivial) ⟨rfl,trivial,rfl,trivial,rfl,trivial,rfl,trivial,rfl,trivial,rfl,trivial,rfl,trivial,trivial⟩) ?_
    rintro ⟨m175,v147,v148,v149⟩ h
    replace h:qbh n g_ bus_ closed_ m175 v147 v148 v149 = some r:=h
    rcases m175 with _ | m175
    ·rw [qbh] at h;cases h
    rw [qbh] at h
    refine qa8<|qa8<|qa2<|qa1 hτ rfl rfl rfl<|qa1 hτ rfl rfl rfl ?_
    refine qcg hτ rfl rfl rfl (qb4 _) ?_
    refine qa1 hτ rfl rfl rfl<|qa5 ?_
    refine qaq rfl (fun hc177=>?_) (fun hc177=>?_)
    ·have h:=if_t h hc177
     refine qat ?_
     refine qby (ι:=List SBus × List Int) (fun (v200,v201)=>St.of [(1,.d (.int .i64 bus_)),(2,.d (.sl false (closed_.map qa6))),(3,.ptr 0 0),(6,.ptr 1 0),(9,.ptr 2 0),(10,.row 4 v201.length 0 v201.length),(11,.d (.int .i64 v149))] [.box [.d (.cx .f32 g_.qa0.Source.A.re g_.qa0.Source.A.im),.d (.cx .f32 g_.qa0.Source.B.re g_.qa0.Source.B.im),.d (.cx .f32 g_.qa0.Source.C.re g_.qa0.Source.C.im),.d (.sl false (g_.qa0.qa7.map qac)),.d (.sl false (g_.Ties.map qam))],.box [.d (.cx .f32 (0:Nat) (0:Nat)),.d (.cx .f32 (0:Nat) (0:Nat)),.d (.cx .f32 (0:Nat) (0:Nat)),.d (.nils)],.box [.d (.cx .f32 g_.qa0.Source.A.re g_.qa0.Source.A.im),.d (.cx .f32 g_.qa0.Source.B.re g_.qa0.Source.B.im),.d (.cx .f32 g_.qa0.Source.C.re g_.qa0.Source.C.im),.row 3 v200.length 0 v200.length],.row 8 (v200.map qac),.row 1 (v201.map qa6)] f9.ntmps 0) (fun (v200,v201)=>qfi n (qbh n g_ bus_ closed_ m175) v149 v200 v201 = some r) ?_ (fun hk202=>?_)
     ·rintro ⟨v200,v201⟩ h
      replace h:qfi n (qbh n g_ bus_ closed_ m175) v149 v200 v201 = some r:=h
      unfold qfi at h
      refine qa2<|qa1 hτ rfl rfl rfl<|qa1 hτ rfl rfl rfl<|qa1 hτ rfl rfl rfl<|qa5 ?_
      exact ⟨(m175,v200,v201,(w64 (v149 + (1:Int)))),h,Nat.lt_succ_self m175,(qa3 [0,1,2,3,4] (l:=[(1,.d (.int .i64 bus_)),(2,.d (.sl false (closed_.map qa6))),(3,.ptr 0 0),(6,.ptr 1 0),(9,.ptr 2 0),(10,.row 4 v201.length 0 v201.length),(11,.d (.int .i64 (w64 (v149 + (1:Int)))))]) (objs:=[.box [.d (.cx .f32 g_.qa0.Source.A.re g_.qa0.Source.A.im),.d (.cx .f32 g_.qa0.Source.B.re g_.qa0.Source.B.im),.d (.cx .f32 g_.qa0.Source.C.re g_.qa0.Source.C.im),.d (.sl false (g_.qa0.qa7.map qac)),.d (.sl false (g_.Ties.map qam))],.box [.d (.cx .f32 (0:Nat) (0:Nat)),.d (.cx .f32 (0:Nat) (0:Nat)),.d (.cx .f32 (0:Nat) (0:Nat)),.d (.nils)],.box [.d (.cx .f32 g_.qa0.Source.A.re g_.qa0.Source.A.im),.d (.cx .f32 g_.qa0.Source.B.re g_.qa0.Source.B.im),.d (.cx .f32 g_.qa0.Source.C.re g_.qa0.Source.C.im),.row 3 v200.length 0 v200.length],.row 8 (v200.map qac),.row 1 (v201.map qa6)]) rfl (by simp) rfl (by trivial) ⟨rfl,trivial,rfl,trivial,rfl,trivial,rfl,trivial,rfl,trivial,rfl,trivial,rfl,trivial,trivial⟩)⟩
     ·refine qa8<|qay<|qa8<|qa2<|qa1 hτ rfl rfl rfl ?_
      refine qa1 hτ rfl rfl rfl<|qa1 hτ rfl rfl rfl ?_
      refine qaf h fun x203 hx203 h=>?_
      refine qcg hτ rfl rfl rfl (qcy hx203) ?_
      refine qce hτ rfl rfl rfl (qb4 _) (qds hx203) rfl ?_
      refine qa1 hτ rfl rfl rfl ?_
      refine qaf h fun x204 hx204 h=>?_
      refine qae hτ false [0] rfl rfl rfl (qaj func31 rfl rfl) rfl rfl (by simp) ⟨trivial,trivial,trivial,trivial,trivial⟩ (by trivial) (impl_Grid_links_ok n g_ bus_ x203 closed_ hx204) ?_
      rintro r0 o0 n0 ⟨rfl,rfl,rfl⟩ -
      refine qcg hτ rfl rfl rfl (qb4 _) ?_
      refine qb3 (qa3 [0,1,2,3,4,5] (l:=[(1,.d (.int .i64 bus_)),(2,.d (.sl false (closed_.map qa6))),(3,.ptr 0 0),(6,.ptr 1 0),(9,.ptr 2 0),(10,.row 4 v148.length 0 v148.length),(11,.d (.int .i64 v149)),(44,.row 5 x204.length 0 x204.length),(45,.d (.int .i64 (x204.length:Int)))]) (objs:=[.box [.d (.cx .f32 g_.qa0.Source.A.re g_.qa0.Source.A.im),.d (.cx .f32 g_.qa0.Source.B.re g_.qa0.Source.B.im),.d (.cx .f32 g_.qa0.Source.C.re g_.qa0.Source.C.im),.d (.sl false (g_.qa0.qa7.map qac)),.d (.sl false (g_.Ties.map qam))],.box [.d (.cx .f32 (0:Nat) (0:Nat)),.d (.cx .f32 (0:Nat) (0:Nat)),.d (.cx .f32 (0:Nat) (0:Nat)),.d (.nils)],.box [.d (.cx .f32 g_.qa0.Source.A.re g_.qa0.Source.A.im),.d (.cx .f32 g_.qa0.Source.B.re g_.qa0.Source.B.im),.d (.cx .f32 g_.qa0.Source.C.re g_.qa0.Source.C.im),.row 3 v147.length 0 v147.length],.row 8 (v147.map qac),.row 1 (v148.map qa6),.row 3 (x204.map qdh)]) rfl (by simp) rfl (by trivial) ⟨rfl,trivial,rfl,trivial,rfl,trivial,rfl,trivial,rfl,trivial,rfl,trivial,rfl,trivial,rfl,trivial,rfl,trivial,trivial⟩) ?_
      refine qa1 hτ rfl rfl rfl<|qa5<|qay ?_
      refine qde (ι:=Nat × List SBus × List Int × Int) (fun (m225,v212,v213,v214)=>St.of [(1,.d (.int .i64 bus_)),(2,.d (.sl false (closed_.map qa6))),(3,.ptr 0 0),(6,.ptr 1 0),(9,.ptr 2 0),(10,.row 4 v213.length 0 v213.length),(11,.d (.int .i64 v149)),(44,.row 5 x204.length 0 x204.length),(45,.d (.int .i64 (x204.length:Int))),(46,.d (.int .i64 v214))] [.box [.d (.cx .f32 g_.qa0.Source.A.re g_.qa0.Source.A.im),.d (.cx .f32 g_.qa0.Source.B.re g_.qa0.Source.B.im),.d (.cx .f32 g_.qa0.Source.C.re g_.qa0.Source.C.im),.d (.sl false (g_.qa0.qa7.map qac)),.d (.sl false (g_.Ties.map qam))],.box [.d (.cx .f32 (0:Nat) (0:Nat)),.d (.cx .f32 (0:Nat) (0:Nat)),.d (.cx .f32 (0:Nat) (0:Nat)),.d (.nils)],.box [.d (.cx .f32 g_.qa0.Source.A.re g_.qa0.Source.A.im),.d (.cx .f32 g_.qa0.Source.B.re g_.qa0.Source.B.im),.d (.cx .f32 g_.qa0.Source.C.re g_.qa0.Source.C.im),.row 3 v212.length 0 v212.length],.row 8 (v212.map qac),.row 1 (v213.map qa6),.row 3 (x204.map qdh)] f9.ntmps 0) (fun (m225,v212,v213,v214)=>qc9 n g_ (qbh n g_ bus_ closed_ m175) v149 x204 m225 v212 v213 v214 = some r) (fun x=>x.1) (n,v147,v148,(0:Int)) h (qa3 [0,1,2,3,4,5] (l:=[(1,.d (.int .i64 bus_)),(2,.d (.sl false (closed_.map qa6))),(3,.ptr 0 0),(6,.ptr 1 0),(9,.ptr 2 0),(10,.row 4 v148.length 0 v148.length),(11,.d (.int .i64 v149)),(44,.row 5 x204.length 0 x204.length),(45,.d (.int .i64 (x204.length:Int))),(46,.d (.int .i64 (0:Int)))]) (objs:=[.box [.d (.cx .f32 g_.qa0.Source.A.re g_.qa0.Source.A.im),.d (.cx .f32 g_.qa0.Source.B.re g_.qa0.Source.B.im),.d (.cx .f32 g_.qa0.Source.C.re g_.qa0.Source.C.im),.d (.sl false (g_.qa0.qa7.map qac)),.d (.sl false (g_.Ties.map qam))],.box [.d (.cx .f32 (0:Nat) (0:Nat)),.d (.cx .f32 (0:Nat) (0:Nat)),.d (.cx .f32 (0:Nat) (0:Nat)),.d (.nils)],.box [.d (.cx .f32 g_.qa0.Source.A.re g_.qa0.Source.A.im),.d (.cx .f32 g_.qa0.Source.B.re g_.qa0.Source.B.im),.d (.cx .f32 g_.qa0.Source.C.re g_.qa0.Source.C.im),.row 3 v147.length 0 v147.length],.row 8 (v147.map qac),.row 1 (v148.map qa6),.row 3 (x204.map qdh)]) rfl (by simp) rfl (by trivial) ⟨rfl,trivial,rfl,trivial,rfl,trivial,rfl,trivial,rfl,trivial,rfl,trivial,rfl,trivial,rfl,trivial,rfl,trivial,rfl,trivial,trivial⟩) ?_
      rintro ⟨m225,v212,v213,v214⟩ h
      replace h:qc9 n g_ (qbh n g_ bus_ closed_ m175) v149 x204 m225 v212 v213 v214 = some r:=h
      rcases m225 with _ | m225
      ·rw [qc9] at h;cases h
      rw [qc9] at h
      refine qa8<|qa2<|qa1 hτ rfl rfl rfl<|qa5<|qa8 ?_
      refine qaq rfl (fun hc227=>?_) (fun hc227=>?_)
      ·have h:=if_t h hc227
       refine qat ?_
       refine qby (ι:=List SBus × List Int) (fun (v235,v236)=>St.of [(1,.d (.int .i64 bus_)),(2,.d (.sl false (closed_.map qa6))),(3,.ptr 0 0),(6,.ptr 1 0),(9,.ptr 2 0),(10,.row 4 v236.length 0 v236.length),(11,.d (.int .i64 v149)),(44,.row 5 x204.length 0 x204.length),(45,.d (.int .i64 (x204.length:Int))),(46,.d (.int .i64 v214))] [.box [.d (.cx .f32 g_.qa0.Source.A.re g_.qa0.Source.A.im),.d (.cx .f32 g_.qa0.Source.B.re g_.qa0.Source.B.im),.d (.cx .f32 g_.qa0.Source.C.re g_.qa0.Source.C.im),.d (.sl false (g_.qa0.qa7.map qac)),.d (.sl false (g_.Ties.map qam))],.box [.d (.cx .f32 (0:Nat) (0:Nat)),.d (.cx .f32 (0:Nat) (0:Nat)),.d (.cx .f32 (0:Nat) (0:Nat)),.d (.nils)],.box [.d (.cx .f32 g_.qa0.Source.A.re g_.qa0.Source.A.im),.d (.cx .f32 g_.qa0.Source.B.re g_.qa0.Source.B.im),.d (.cx .f32 g_.qa0.Source.C.re g_.qa0.Source.C.im),.row 3 v235.length 0 v235.length],.row 8 (v235.map qac),.row 1 (v236.map qa6),.row 3 (x204.map qdh)] f9.ntmps 0) (fun (v235,v236)=>qe8 n (qc9 n g_ (qbh n g_ bus_ closed_ m175) v149 x204 m225) v214 v235 v236 = some r) ?_ (fun hk237=>?_)
       ·rintro ⟨v235,v236⟩ h
        replace h:qe8 n (qc9 n g_ (qbh n g_ bus_ closed_ m175) v149 x204 m225) v214 v235 v236 = some r:=h
        unfold qe8 at h
        refine qa2<|qa1 hτ rfl rfl rfl<|qa1 hτ rfl rfl rfl<|qa5 ?_
        exact ⟨(m225,v235,v236,(w64 (v214 + (1:Int)))),h,Nat.lt_succ_self m225,(qa3 [0,1,2,3,4,5] (l:=[(1,.d (.int .i64 bus_)),(2,.d (.sl false (closed_.map qa6))),(3,.ptr 0 0),(6,.ptr 1 0),(9,.ptr 2 0),(10,.row 4 v236.length 0 v236.length),(11,.d (.int .i64 v149)),(44,.row 5 x204.length 0 x204.length),(45,.d (.int .i64 (x204.length:Int))),(46,.d (.int .i64 (w64 (v214 + (1:Int)))))]) (objs:=[.box [.d (.cx .f32 g_.qa0.Source.A.re g_.qa0.Source.A.im),.d (.cx .f32 g_.qa0.Source.B.re g_.qa0.Source.B.im),.d (.cx .f32 g_.qa0.Source.C.re g_.qa0.Source.C.im),.d (.sl false (g_.qa0.qa7.map qac)),.d (.sl false (g_.Ties.map qam))],.box [.d (.cx .f32 (0:Nat) (0:Nat)),.d (.cx .f32 (0:Nat) (0:Nat)),.d (.cx .f32 (0:Nat) (0:Nat)),.d (.nils)],.box [.d (.cx .f32 g_.qa0.Source.A.re g_.qa0.Source.A.im),.d (.cx .f32 g_.qa0.Source.B.re g_.qa0.Source.B.im),.d (.cx .f32 g_.qa0.Source.C.re g_.qa0.Source.C.im),.row 3 v235.length 0 v235.length],.row 8 (v235.map qac),.row 1 (v236.map qa6),.row 3 (x204.map qdh)]) rfl (by simp) rfl (by trivial) ⟨rfl,trivial,rfl,trivial,rfl,trivial,rfl,trivial,rfl,trivial,rfl,trivial,rfl,trivial,rfl,trivial,rfl,trivial,rfl,trivial,trivial⟩)⟩
       ·refine qa8<|qay<|qa8<|qa2 ?_
        refine qaf h fun x238 hx238 h=>?_
        refine qcg hτ rfl rfl rfl (qcy hx238) ?_
        refine qce hτ rfl rfl rfl (qb4 _) (qds hx238) rfl ?_
        refine qal hτ rfl rfl rfl<|qal hτ rfl rfl rfl<|qa5<|qa8<|qa8 ?_
        refine qa2<|qa1 hτ rfl rfl rfl<|qa1 hτ rfl rfl rfl<|qa1 hτ rfl rfl rfl ?_
        refine qb3 (qa3 [0,1,2,3,4,6,5] (l:=[(1,.d (.int .i64 bus_)),(2,.d (.sl false (closed_.map qa6))),(3,.ptr 0 0),(6,.ptr 1 0),(9,.ptr 2 0),(10,.row 4 v213.length 0 v213.length),(11,.d (.int .i64 v149)),(13,.ptr 5 0),(44,.row 6 x204.length 0 x204.length),(45,.d (.int .i64 (x204.length:Int))),(46,.d (.int .i64 v214)),(50,.row 4 v213.length 0 v213.length),(52,.d (.int .i64 x238.bus))]) (objs:=[.box [.d (.cx .f32 g_.qa0.Source.A.re g_.qa0.Source.A.im),.d (.cx .f32 g_.qa0.Source.B.re g_.qa0.Source.B.im),.d (.cx .f32 g_.qa0.Source.C.re g_.qa0.Source.C.im),.d (.sl false (g_.qa0.qa7.map qac)),.d (.sl false (g_.Ties.map qam))],.box [.d (.cx .f32 (0:Nat) (0:Nat)),.d (.cx .f32 (0:Nat) (0:Nat)),.d (.cx .f32 (0:Nat) (0:Nat)),.d (.nils)],.box [.d (.cx .f32 g_.qa0.Source.A.re g_.qa0.Source.A.im),.d (.cx .f32 g_.qa0.Source.B.re g_.qa0.Source.B.im),.d (.cx .f32 g_.qa0.Source.C.re g_.qa0.Source.C.im),.row 3 v212.length 0 v212.length],.row 8 (v212.map qac),.row 1 (v213.map qa6),.box [.d (.int .i64 x238.bus),.d (.cx .f32 x238.own.re x238.own.im),.d (.cx .f32 x238.shared.re x238.shared.im)],.row 3 (x204.map qdh)]) rfl (by simp) rfl (by trivial) ⟨rfl,trivial,rfl,trivial,rfl,trivial,rfl,trivial,rfl,trivial,rfl,trivial,rfl,trivial,rfl,trivial,rfl,trivial,rfl,trivial,rfl,trivial,rfl,trivial,rfl,trivial,trivial⟩) ?_
        refine qaf h fun x240 hx240 h=>?_
        refine qae hτ true [] rfl rfl rfl (qaj func32 rfl rfl) (qbe (qgy (f:=qa6) (j:=4) (sz:=1) v213 rfl rfl rfl) (qbe rfl qgu)) rfl (by simp) ⟨(qfg (f:=qa6) (j:=4) (sz:=1) v213 rfl rfl rfl),trivial,trivial⟩ (by trivial) (qku n v213 x238.bus hx240) ?_
        rintro r0 o0 n0 ⟨rfl,rfl,rfl⟩ -
        refine qa5 ?_
        refine qaq rfl (fun hc241=>?_) (fun hc241=>?_)
        ·have h:=qeh h hc241
         refine qd3 ?_
         refine qaa (qa3 [0,1,2,3,4,6] (l:=[(1,.d (.int .i64 bus_)),(2,.d (.sl false (closed_.map qa6))),(3,.ptr 0 0),(6,.ptr 1 0),(9,.ptr 2 0),(10,.row 4 v213.length 0 v213.length),(11,.d (.int .i64 v149)),(44,.row 5 x204.length 0 x204.length),(45,.d (.int .i64 (x204.length:Int))),(46,.d (.int .i64 v214))]) (objs:=[.box [.d (.cx .f32 g_.qa0.Source.A.re g_.qa0.Source.A.im),.d (.cx .f32 g_.qa0.Source.B.re g_.qa0.Source.B.im),.d (.cx .f32 g_.qa0.Source.C.re g_.qa0.Source.C.im),.d (.sl false (g_.qa0.qa7.map qac)),.d (.sl false (g_.Ties.map qam))],.box [.d (.cx .f32 (0:Nat) (0:Nat)),.d (.cx .f32 (0:Nat) (0:Nat)),.d (.cx .f32 (0:Nat) (0:Nat)),.d (.nils)],.box [.d (.cx .f32 g_.qa0.Source.A.re g_.qa0.Source.A.im),.d (.cx .f32 g_.qa0.Source.B.re g_.qa0.Source.B.im),.d (.cx .f32 g_.qa0.Source.C.re g_.qa0.Source.C.im),.row 3 v212.length 0 v212.length],.row 8 (v212.map qac),.row 1 (v213.map qa6),.row 3 (x204.map qdh)]) rfl (by simp) rfl (by trivial) ⟨rfl,trivial,rfl,trivial,rfl,trivial,rfl,trivial,rfl,trivial,rfl,trivial,rfl,trivial,rfl,trivial,rfl,trivial,rfl,trivial,trivial⟩) ?_
         exact hk237 (v212,v213) h
        ·have h:=qeg h hc241
         refine qat<|qa8<|qa2<|qa1 hτ rfl rfl rfl<|qa1 hτ rfl rfl rfl ?_
         refine qa1 hτ rfl rfl rfl<|qa1 hτ rfl rfl rfl<|qa1 hτ rfl rfl rfl ?_
         refine qaf h fun x242 hx242 h=>?_
         refine qce hτ rfl rfl rfl (qb8 hx242).1 (qbm hx242) rfl ?_
         refine qa1 hτ rfl rfl rfl<|qal hτ rfl rfl rfl<|qal hτ rfl rfl rfl<|qa5<|qa8 ?_
         refine qaa (qa3 [0,1,2,3,4,5,7,6] (l:=[(1,.d (.int .i64 bus_)),(2,.d (.sl false (closed_.map qa6))),(3,.ptr 0 0),(6,.ptr 1 0),(9,.ptr 2 0),(10,.row 4 v213.length 0 v213.length),(11,.d (.int .i64 v149)),(13,.ptr 5 0),(14,.ptr 6 0),(44,.row 7 x204.length 0 x204.length),(45,.d (.int .i64 (x204.length:Int))),(46,.d (.int .i64 v214))]) (objs:=[.box [.d (.cx .f32 g_.qa0.Source.A.re g_.qa0.Source.A.im),.d (.cx .f32 g_.qa0.Source.B.re g_.qa0.Source.B.im),.d (.cx .f32 g_.qa0.Source.C.re g_.qa0.Source.C.im),.d (.sl false (g_.qa0.qa7.map qac)),.d (.sl false (g_.Ties.map qam))],.box [.d (.cx .f32 (0:Nat) (0:Nat)),.d (.cx .f32 (0:Nat) (0:Nat)),.d (.cx .f32 (0:Nat) (0:Nat)),.d (.nils)],.box [.d (.cx .f32 g_.qa0.Source.A.re g_.qa0.Source.A.im),.d (.cx .f32 g_.qa0.Source.B.re g_.qa0.Source.B.im),.d (.cx .f32 g_.qa0.Source.C.re g_.qa0.Source.C.im),.row 3 v212.length 0 v212.length],.row 8 (v212.map qac),.row 1 (v213.map qa6),.box [.d (.int .i64 x238.bus),.d (.cx .f32 x238.own.re x238.own.im),.d (.cx .f32 x238.shared.re x238.shared.im)],.box [.d (.int .i64 x242.qaw),.d (.cx .f32 x242.Own.re x242.Own.im),.d (.cx .f32 x242.Shared.re x242.Shared.im),.d (.int .i64 x242.Kind),.d (.cx .f32 x242.Load.A.re x242.Load.A.im),.d (.cx .f32 x242.Load.B.re x242.Load.B.im),.d (.cx .f32 x242.Load.C.re x242.Load.C.im),.d (.int .i64 x242.qag)],.row 3 (x204.map qdh)]) rfl (by simp) rfl (by trivial) ⟨rfl,trivial,rfl,trivial,rfl,trivial,rfl,trivial,rfl,trivial,rfl,trivial,rfl,trivial,rfl,trivial,rfl,trivial,rfl,trivial,rfl,trivial,rfl,trivial,trivial⟩) ?_
         refine qd5 ?_
         refine qa4 hτ [] 0 rfl rfl rfl rfl rfl ?_
         refine qa4 hτ [5] 1 rfl rfl rfl rfl rfl ?_
         refine qa4 hτ [5] 2 rfl rfl rfl rfl rfl ?_
         refine qa4 hτ [5] 3 rfl rfl rfl rfl rfl ?_
         refine qa4 hτ [5] 4 rfl rfl rfl rfl rfl ?_
         refine qa4 hτ [6] 5 rfl rfl rfl rfl rfl ?_
         refine qbf hτ [0,1,2,3,4,5,7] 6 rfl rfl rfl rfl ⟨rfl,rfl,rfl,rfl,rfl,rfl,rfl,trivial⟩ ?_
         refine qa4 hτ [6] 7 rfl rfl rfl rfl rfl ?_
         refine qbf hτ [0,1,2,3,4,5,7] 8 rfl rfl rfl rfl ⟨rfl,rfl,rfl,rfl,rfl,rfl,rfl,trivial⟩ ?_
         refine qa4 hτ [6] 9 rfl rfl rfl rfl rfl ?_
         refine qbf hτ [0,1,2,3,4,5,7] 10 rfl rfl rfl rfl ⟨rfl,rfl,rfl,rfl,rfl,rfl,rfl,trivial⟩ ?_
         refine qbo mixed (by kernel_rfl) ?_
         refine qaa (qa3 [0,1,2,3,4,5,6,7] (l:=[(1,.d (.int .i64 bus_)),(2,.d (.sl false (closed_.map qa6))),(3,.ptr 0 0),(6,.ptr 1 0),(9,.ptr 2 0),(10,.row 4 v213.length 0 v213.length),(11,.d (.int .i64 v149)),(13,.ptr 5 0),(14,.ptr 6 0),(44,.row 7 x204.length 0 x204.length),(45,.d (.int .i64 (x204.length:Int))),(46,.d (.int .i64 v214))]) (objs:=[.box [.d (.cx .f32 g_.qa0.Source.A.re g_.qa0.Source.A.im),.d (.cx .f32 g_.qa0.Source.B.re g_.qa0.Source.B.im),.d (.cx .f32 g_.qa0.Source.C.re g_.qa0.Source.C.im),.d (.sl false (g_.qa0.qa7.map qac)),.d (.sl false (g_.Ties.map qam))],.box [.d (.cx .f32 (0:Nat) (0:Nat)),.d (.cx .f32 (0:Nat) (0:Nat)),.d (.cx .f32 (0:Nat) (0:Nat)),.d (.nils)],.box [.d (.cx .f32 g_.qa0.Source.A.re g_.qa0.Source.A.im),.d (.cx .f32 g_.qa0.Source.B.re g_.qa0.Source.B.im),.d (.cx .f32 g_.qa0.Source.C.re g_.qa0.Source.C.im),.row 3 v212.length 0 v212.length],.row 8 (v212.map qac),.row 1 (v213.map qa6),.box [.d (.int .i64 x238.bus),.d (.cx .f32 x238.own.re x238.own.im),.d (.cx .f32 x238.shared.re x238.shared.im)],.box [.d (.int .i64 v149),.d (.cx .f32 x238.own.re x238.own.im),.d (.cx .f32 x238.shared.re x238.shared.im),.d (.int .i64 x242.Kind),.d (.cx .f32 x242.Load.A.re x242.Load.A.im),.d (.cx .f32 x242.Load.B.re x242.Load.B.im),.d (.cx .f32 x242.Load.C.re x242.Load.C.im),.d (.int .i64 x242.qag)],.row 3 (x204.map qdh)]) rfl (by simp) rfl (by trivial) ⟨rfl,trivial,rfl,trivial,rfl,trivial,rfl,trivial,rfl,trivial,rfl,trivial,rfl,trivial,rfl,trivial,rfl,trivial,rfl,trivial,rfl,trivial,rfl,trivial,trivial⟩) ?_
         refine qk7 mixed ?_
         refine qa4 hτ [2] 0 rfl rfl rfl rfl rfl ?_
         refine qa4 hτ [2] 1 rfl rfl rfl rfl rfl ?_
         refine qa4 hτ [6] 2 rfl rfl rfl rfl rfl ?_
         refine qa4 hτ [] 5 rfl rfl rfl rfl rfl ?_
         refine qa4 hτ [5] 6 rfl rfl rfl rfl rfl ?_
         refine qa4 hτ [5] 7 rfl rfl rfl rfl rfl ?_
         refine qgs [3,8] (by kernel_rfl) fun _ hfs=>⟨?_,?_,trivial⟩
         ·refine qbf hτ [0,1,2,3,4,5,6,7] 3 rfl rfl rfl rfl ⟨rfl,rfl,rfl,rfl,rfl,rfl,rfl,rfl,trivial⟩ ?_
          refine qfe hfs (by kernel_rfl) fun _=>?_
          refine qgs [4,8] (by kernel_rfl) fun _ hfs=>⟨?_,?_,trivial⟩
          ·refine qci h fun hg243 h=>?_
           refine qif hτ [0,1,2,4,5,6,7,8] 4 rfl rfl rfl (Eq.trans rfl (or_append (f:=qac) v212 [(SBus.mk v149 x238.own x238.shared x242.Kind x242.Load x242.qag)] rfl)) ⟨⟨rfl,Nat.le_of_ble_eq_true rfl⟩,qb4 _,rfl,rfl,hg243,by decide,(all1 rfl)⟩ ⟨rfl,rfl,rfl,rfl,rfl,rfl,rfl,rfl,trivial⟩ ?_
           refine qfe hfs (by kernel_rfl) fun _=>?_
           refine qa4 hτ [2] 10 rfl rfl rfl rfl rfl ?_
           refine qbf hτ [0,1,2,3,4,5,6,7,8] 8 rfl rfl rfl rfl ⟨rfl,rfl,rfl,rfl,rfl,rfl,rfl,rfl,rfl,trivial⟩ ?_
           refine qci h fun hg244 h=>?_
           refine qif hτ [0,1,2,3,5,6,7,8,9] 9 rfl rfl rfl (Eq.trans rfl (or_append (f:=qa6) v213 [x238.bus] rfl)) ⟨⟨rfl,Nat.le_of_ble_eq_true rfl⟩,qb4 _,rfl,rfl,hg244,by decide,(all1 rfl)⟩ ⟨rfl,rfl,rfl,rfl,rfl,rfl,rfl,rfl,rfl,trivial⟩ ?_
           refine qbf hτ [0,1,3,4,5,6,7,8,9] 11 rfl rfl rfl rfl ⟨rfl,rfl,rfl,rfl,rfl,rfl,rfl,rfl,rfl,trivial⟩ ?_
           refine qa4 hτ [] 12 rfl rfl rfl rfl rfl ?_
           refine qg2 (by kernel_rfl) ?_
           refine qaa (qa3 [0,1,2,3,4,7] (l:=[(1,.d (.int .i64 bus_)),(2,.d (.sl false (closed_.map qa6))),(3,.ptr 0 0),(6,.ptr 1 0),(9,.ptr 2 0),(10,.row 4 ((v213 ++ [x238.bus]).length) 0 ((v213 ++ [x238.bus]).length)),(11,.d (.int .i64 v149)),(44,.row 5 x204.length 0 x204.length),(45,.d (.int .i64 (x204.length:Int))),(46,.d (.int .i64 v214))]) (objs:=[.box [.d (.cx .f32 g_.qa0.Source.A.re g_.qa0.Source.A.im),.d (.cx .f32 g_.qa0.Source.B.re g_.qa0.Source.B.im),.d (.cx .f32 g_.qa0.Source.C.re g_.qa0.Source.C.im),.d (.sl false (g_.qa0.qa7.map qac)),.d (.sl false (g_.Ties.map qam))],.box [.d (.cx .f32 (0:Nat) (0:Nat)),.d (.cx .f32 (0:Nat) (0:Nat)),.d (.cx .f32 (0:Nat) (0:Nat)),.d (.nils)],.box [.d (.cx .f32 g_.qa0.Source.A.re g_.qa0.Source.A.im),.d (.cx .f32 g_.qa0.Source.B.re g_.qa0.Source.B.im),.d (.cx .f32 g_.qa0.Source.C.re g_.qa0.Source.C.im),.row 3 ((v212 ++ [(SBus.mk v149 x238.own x238.shared x242.Kind x242.Load x242.qag)]).length) 0 ((v212 ++ [(SBus.mk v149 x238.own x238.shared x242.Kind x242.Load x242.qag)]).length)],.row 8 ((v212 ++ [(SBus.mk v149 x238.own x238.shared x242.Kind x242.Load x242.qag)]).map qac),.row 1 ((v213 ++ [x238.bus]).map qa6),.row 3 (x204.map qdh)]) rfl (by simp) rfl (by trivial) ⟨rfl,trivial,rfl,trivial,rfl,trivial,rfl,trivial,rfl,trivial,rfl,trivial,rfl,trivial,rfl,trivial,rfl,trivial,rfl,trivial,trivial⟩) ?_
           exact hk237 ((v212 ++ [(SBus.mk v149 x238.own x238.shared x242.Kind x242.Load x242.qag)]),(v213 ++ [x238.bus])) h
          ·refine qbf hτ [0,1,2,3,4,5,6,7,8] 8 rfl rfl rfl rfl ⟨rfl,rfl,rfl,rfl,rfl,rfl,rfl,rfl,rfl,trivial⟩ ?_
           refine qfe hfs (by kernel_rfl) fun _=>?_
           refine qci h fun hg243 h=>?_
           refine qif hτ [0,1,2,4,5,6,7,8,9] 4 rfl rfl rfl (Eq.trans rfl (or_append (f:=qac) v212 [(SBus.mk v149 x238.own x238.shared x242.Kind x242.Load x242.qag)] rfl)) ⟨⟨rfl,Nat.le_of_ble_eq_true rfl⟩,qb4 _,rfl,rfl,hg243,by decide,(all1 rfl)⟩ ⟨rfl,rfl,rfl,rfl,rfl,rfl,rfl,rfl,rfl,trivial⟩ ?_
           refine qa4 hτ [2] 10 rfl rfl rfl rfl rfl ?_
           refine qci h fun hg244 h=>?_
           refine qif hτ [0,1,2,3,5,6,7,8,9] 9 rfl rfl rfl (Eq.trans rfl (or_append (f:=qa6) v213 [x238.bus] rfl)) ⟨⟨rfl,Nat.le_of_ble_eq_true rfl⟩,qb4 _,rfl,rfl,hg244,by decide,(all1 rfl)⟩ ⟨rfl,rfl,rfl,rfl,rfl,rfl,rfl,rfl,rfl,trivial⟩ ?_
           refine qbf hτ [0,1,3,4,5,6,7,8,9] 11 rfl rfl rfl rfl ⟨rfl,rfl,rfl,rfl,rfl,rfl,rfl,rfl,rfl,trivial⟩ ?_
           refine qa4 hτ [] 12 rfl rfl rfl rfl rfl ?_
           refine qg2 (by kernel_rfl) ?_
           refine qaa (qa3 [0,1,2,3,4,7] (l:=[(1,.d (.int .i64 bus_)),(2,.d (.sl false (closed_.map qa6))),(3,.ptr 0 0),(6,.ptr 1 0),(9,.ptr 2 0),(10,.row 4 ((v213 ++ [x238.bus]).length) 0 ((v213 ++ [x238.bus]).length)),(11,.d (.int .i64 v149)),(44,.row 5 x204.length 0 x204.length),(45,.d (.int .i64 (x204.length:Int))),(46,.d (.int .i64 v214))]) (objs:=[.box [.d (.cx .f32 g_.qa0.Source.A.re g_.qa0.Source.A.im),.d (.cx .f32 g_.qa0.Source.B.re g_.qa0.Source.B.im),.d (.cx .f32 g_.qa0.Source.C.re g_.qa0.Source.C.im),.d (.sl false (g_.qa0.qa7.map qac)),.d (.sl false (g_.Ties.map qam))],.box [.d (.cx .f32 (0:Nat) (0:Nat)),.d (.cx .f32 (0:Nat) (0:Nat)),.d (.cx .f32 (0:Nat) (0:Nat)),.d (.nils)],.box [.d (.cx .f32 g_.qa0.Source.A.re g_.qa0.Source.A.im),.d (.cx .f32 g_.qa0.Source.B.re g_.qa0.Source.B.im),.d (.cx .f32 g_.qa0.Source.C.re g_.qa0.Source.C.im),.row 3 ((v212 ++ [(SBus.mk v149 x238.own x238.shared x242.Kind x242.Load x242.qag)]).length) 0 ((v212 ++ [(SBus.mk v149 x238.own x238.shared x242.Kind x242.Load x242.qag)]).length)],.row 8 ((v212 ++ [(SBus.mk v149 x238.own x238.shared x242.Kind x242.Load x242.qag)]).map qac),.row 1 ((v213 ++ [x238.bus]).map qa6),.row 3 (x204.map qdh)]) rfl (by simp) rfl (by trivial) ⟨rfl,trivial,rfl,trivial,rfl,trivial,rfl,trivial,rfl,trivial,rfl,trivial,rfl,trivial,rfl,trivial,rfl,trivial,rfl,trivial,trivial⟩) ?_
           exact hk237 ((v212 ++ [(SBus.mk v149 x238.own x238.shared x242.Kind x242.Load x242.qag)]),(v213 ++ [x238.bus])) h
         ·refine qbf hτ [0,1,2,3,4,5,6,7] 8 rfl rfl rfl rfl ⟨rfl,rfl,rfl,rfl,rfl,rfl,rfl,rfl,trivial⟩ ?_
          refine qfe hfs (by kernel_rfl) fun _=>?_
          refine qbf hτ [0,1,2,3,4,5,6,7,8] 3 rfl rfl rfl rfl ⟨rfl,rfl,rfl,rfl,rfl,rfl,rfl,rfl,rfl,trivial⟩ ?_
          refine qci h fun hg243 h=>?_
          refine qif hτ [0,1,2,4,5,6,7,8,9] 4 rfl rfl rfl (Eq.trans rfl (or_append (f:=qac) v212 [(SBus.mk v149 x238.own x238.shared x242.Kind x242.Load x242.qag)] rfl)) ⟨⟨rfl,Nat.le_of_ble_eq_true rfl⟩,qb4 _,rfl,rfl,hg243,by decide,(all1 rfl)⟩ ⟨rfl,rfl,rfl,rfl,rfl,rfl,rfl,rfl,rfl,trivial⟩ ?_
          refine qa4 hτ [2] 10 rfl rfl rfl rfl rfl ?_
          refine qci h fun hg244 h=>?_
          refine qif hτ [0,1,2,3,5,6,7,8,9] 9 rfl rfl rfl (Eq.trans rfl (or_append (f:=qa6) v213 [x238.bus] rfl)) ⟨⟨rfl,Nat.le_of_ble_eq_true rfl⟩,qb4 _,rfl,rfl,hg244,by decide,(all1 rfl)⟩ ⟨rfl,rfl,rfl,rfl,rfl,rfl,rfl,rfl,rfl,trivial⟩ ?_
          refine qbf hτ [0,1,3,4,5,6,7,8,9] 11 rfl rfl rfl rfl ⟨rfl,rfl,rfl,rfl,rfl,rfl,rfl,rfl,rfl,trivial⟩ ?_
          refine qa4 hτ [] 12 rfl rfl rfl rfl rfl ?_
          refine qg2 (by kernel_rfl) ?_
          refine qaa (qa3 [0,1,2,3,4,7] (l:=[(1,.d (.int .i64 bus_)),(2,.d (.sl false (closed_.map qa6))),(3,.ptr 0 0),(6,.ptr 1 0),(9,.ptr 2 0),(10,.row 4 ((v213 ++ [x238.bus]).length) 0 ((v213 ++ [x238.bus]).length)),(11,.d (.int .i64 v149)),(44,.row 5 x204.length 0 x204.length),(45,.d (.int .i64 (x204.length:Int))),(46,.d (.int .i64 v214))]) (objs:=[.box [.d (.cx .f32 g_.qa0.Source.A.re g_.qa0.Source.A.im),.d (.cx .f32 g_.qa0.Source.B.re g_.qa0.Source.B.im),.d (.cx .f32 g_.qa0.Source.C.re g_.qa0.Source.C.im),.d (.sl false (g_.qa0.qa7.map qac)),.d (.sl false (g_.Ties.map qam))],.box [.d (.cx .f32 (0:Nat) (0:Nat)),.d (.cx .f32 (0:Nat) (0:Nat)),.d (.cx .f32 (0:Nat) (0:Nat)),.d (.nils)],.box [.d (.cx .f32 g_.qa0.Source.A.re g_.qa0.Source.A.im),.d (.cx .f32 g_.qa0.Source.B.re g_.qa0.Source.B.im),.d (.cx .f32 g_.qa0.Source.C.re g_.qa0.Source.C.im),.row 3 ((v212 ++ [(SBus.mk v149 x238.own x238.shared x242.Kind x242.Load x242.qag)]).length) 0 ((v212 ++ [(SBus.mk v149 x238.own x238.shared x242.Kind x242.Load x242.qag)]).length)],.row 8 ((v212 ++ [(SBus.mk v149 x238.own x238.shared x242.Kind x242.Load x242.qag)]).map qac),.row 1 ((v213 ++ [x238.bus]).map qa6),.row 3 (x204.map qdh)]) rfl (by simp) rfl (by trivial) ⟨rfl,trivial,rfl,trivial,rfl,trivial,rfl,trivial,rfl,trivial,rfl,trivial,rfl,trivial,rfl,trivial,rfl,trivial,rfl,trivial,trivial⟩) ?_
          exact hk237 ((v212 ++ [(SBus.mk v149 x238.own x238.shared x242.Kind x242.Load x242.qag)]),(v213 ++ [x238.bus])) h
      ·have h:=if_f h hc227
       refine qd3 ?_
       refine qaa (qa3 [0,1,2,3,4] (l:=[(1,.d (.int .i64 bus_)),(2,.d (.sl false (closed_.map qa6))),(3,.ptr 0 0),(6,.ptr 1 0),(9,.ptr 2 0),(10,.row 4 v213.length 0 v213.length),(11,.d (.int .i64 v149))]) (objs:=[.box [.d (.cx .f32 g_.qa0.Source.A.re g_.qa0.Source.A.im),.d (.cx .f32 g_.qa0.Source.B.re g_.qa0.Source.B.im),.d (.cx .f32 g_.qa0.Source.C.re g_.qa0.Source.C.im),.d (.sl false (g_.qa0.qa7.map qac)),.d (.sl false (g_.Ties.map qam))],.box [.d (.cx .f32 (0:Nat) (0:Nat)),.d (.cx .f32 (0:Nat) (0:Nat)),.d (.cx .f32 (0:Nat) (0:Nat)),.d (.nils)],.box [.d (.cx .f32 g_.qa0.Source.A.re g_.qa0.Source.A.im),.d (.cx .f32 g_.qa0.Source.B.re g_.qa0.Source.B.im),.d (.cx .f32 g_.qa0.Source.C.re g_.qa0.Source.C.im),.row 3 v212.length 0 v212.length],.row 8 (v212.map qac),.row 1 (v213.map qa6)]) rfl (by simp) rfl (by trivial) ⟨rfl,trivial,rfl,trivial,rfl,trivial,rfl,trivial,rfl,trivial,rfl,trivial,rfl,trivial,trivial⟩) ?_
       exact hk202 (v212,v213) h
    ·have h:=if_f h hc177
     refine qd3 ?_
     refine qaa (qa3 [1,2,3,4] (l:=[(6,.ptr 0 0),(9,.ptr 1 0),(10,.row 3 v148.length 0 v148.length)]) (objs:=[.box [.d (.cx .f32 (0:Nat) (0:Nat)),.d (.cx .f32 (0:Nat) (0:Nat)),.d (.cx .f32 (0:Nat) (0:Nat)),.d (.nils)],.box [.d (.cx .f32 g_.qa0.Source.A.re g_.qa0.Source.A.im),.d (.cx .f32 g_.qa0.Source.B.re g_.qa0.Source.B.im),.d (.cx .f32 g_.qa0.Source.C.re g_.qa0.Source.C.im),.row 2 v147.length 0 v147.length],.row 8 (v147.map qac),.row 1 (v148.map qa6)]) rfl (by simp) rfl (by trivial) ⟨rfl,trivial,rfl,trivial,rfl,trivial,trivial⟩) ?_
     exact hk124 (v147,v148) h
  ·refine qa8 ?_
   refine qk7 mixed ?_
   refine qa4 hτ [0] 0 rfl rfl rfl rfl rfl ?_
   refine qa4 hτ [0] 1 rfl rfl rfl rfl rfl ?_
   refine qa4 hτ [0] 2 rfl rfl rfl rfl rfl ?_
   refine qa4 hτ [0] 3 rfl rfl rfl rfl rfl ?_
   refine qa4 hτ [0] 4 rfl rfl rfl rfl rfl ?_
   refine qa4 hτ [0] 5 rfl rfl rfl rfl rfl ?_
   refine qaf h fun x246 hx246 h=>?_
   refine qbx hτ [] 6 rfl rfl rfl rfl rfl (qb8 hx246).1 (qbm hx246) rfl ?_
   refine qa4 hτ [] 7 rfl rfl rfl rfl rfl ?_
   refine qgs [8,10,11] (by kernel_rfl) fun _ hfs=>⟨?_,?_,?_,trivial⟩
   ·refine qbf hτ [0,1] 8 rfl rfl rfl rfl ⟨rfl,rfl,trivial⟩ ?_
    refine qfe hfs (by kernel_rfl) fun _=>?_
    refine qa4 hτ [] 9 rfl rfl rfl rfl rfl ?_
    refine qgs [10,11] (by kernel_rfl) fun _ hfs=>⟨?_,?_,trivial⟩
    ·refine qbf hτ [0,1,2] 10 rfl rfl rfl rfl ⟨rfl,rfl,rfl,trivial⟩ ?_
     refine qfe hfs (by kernel_rfl) fun _=>?_
     refine qbf hτ [0,1,2,3] 11 rfl rfl rfl rfl ⟨rfl,rfl,rfl,rfl,trivial⟩ ?_
     refine qbf hτ [0,1,2,3] 12 rfl rfl rfl rfl ⟨rfl,rfl,rfl,rfl,trivial⟩ ?_
     refine qa4 hτ [] 13 rfl rfl rfl rfl rfl ?_
     refine qg2 (by kernel_rfl) ?_
     refine qaa (qa3 [0,1,4,2,3] (l:=[(1,.d (.int .i64 bus_)),(2,.d (.sl false (closed_.map qa6))),(3,.ptr 0 0),(6,.ptr 1 0),(9,.ptr 2 0),(10,.row 4 ([(0:Int)].length) 0 ([(0:Int)].length))]) (objs:=[.box [.d (.cx .f32 g_.qa0.Source.A.re g_.qa0.Source.A.im),.d (.cx .f32 g_.qa0.Source.B.re g_.qa0.Source.B.im),.d (.cx .f32 g_.qa0.Source.C.re g_.qa0.Source.C.im),.d (.sl false (g_.qa0.qa7.map qac)),.d (.sl false (g_.Ties.map qam))],.box [.d (.cx .f32 (0:Nat) (0:Nat)),.d (.cx .f32 (0:Nat) (0:Nat)),.d (.cx .f32 (0:Nat) (0:Nat)),.d (.nils)],.box [.d (.cx .f32 g_.qa0.Source.A.re g_.qa0.Source.A.im),.d (.cx .f32 g_.qa0.Source.B.re g_.qa0.Source.B.im),.d (.cx .f32 g_.qa0.Source.C.re g_.qa0.Source.C.im),.row 3 ([x246].length) 0 ([x246].length)],.row 8 ([x246].map qac),.row 1 ([(0:Int)].map qa6)]) rfl (by simp) rfl (by trivial) ⟨rfl,trivial,rfl,trivial,rfl,trivial,rfl,trivial,rfl,trivial,rfl,trivial,trivial⟩) ?_
     exact hk245 [x246] h
    ·refine qbf hτ [0,1,2] 11 rfl rfl rfl rfl ⟨rfl,rfl,rfl,trivial⟩ ?_
     refine qfe hfs (by kernel_rfl) fun _=>?_
     refine qgs [10,12] (by kernel_rfl) fun _ hfs=>⟨?_,?_,trivial⟩
     ·refine qbf hτ [0,1,2,3] 10 rfl rfl rfl rfl ⟨rfl,rfl,rfl,rfl,trivial⟩ ?_
      refine qfe hfs (by kernel_rfl) fun _=>?_
      refine qbf hτ [0,1,2,4] 12 rfl rfl rfl rfl ⟨rfl,rfl,rfl,rfl,trivial⟩ ?_
      refine qa4 hτ [] 13 rfl rfl rfl rfl rfl ?_
      refine qg2 (by kernel_rfl) ?_
      refine qaa (qa3 [0,1,3,2,4] (l:=[(1,.d (.int .i64 bus_)),(2,.d (.sl false (closed_.map qa6))),(3,.ptr 0 0),(6,.ptr 1 0),(9,.ptr 2 0),(10,.row 4 ([(0:Int)].length) 0 ([(0:Int)].length))]) (objs:=[.box [.d (.cx .f32 g_.qa0.Source.A.re g_.qa0.Source.A.im),.d (.cx .f32 g_.qa0.Source.B.re g_.qa0.Source.B.im),.d (.cx .f32 g_.qa0.Source.C.re g_.qa0.Source.C.im),.d (.sl false (g_.qa0.qa7.map qac)),.d (.sl false (g_.Ties.map qam))],.box [.d (.cx .f32 (0:Nat) (0:Nat)),.d (.cx .f32 (0:Nat) (0:Nat)),.d (.cx .f32 (0:Nat) (0:Nat)),.d (.nils)],.box [.d (.cx .f32 g_.qa0.Source.A.re g_.qa0.Source.A.im),.d (.cx .f32 g_.qa0.Source.B.re g_.qa0.Source.B.im),.d (.cx .f32 g_.qa0.Source.C.re g_.qa0.Source.C.im),.row 3 ([x246].length) 0 ([x246].length)],.row 8 ([x246].map qac),.row 1 ([(0:Int)].map qa6)]) rfl (by simp) rfl (by trivial) ⟨rfl,trivial,rfl,trivial,rfl,trivial,rfl,trivial,rfl,trivial,rfl,trivial,trivial⟩) ?_
      exact hk245 [x246] h
     ·refine qbf hτ [0,1,2] 12 rfl rfl rfl rfl ⟨rfl,rfl,rfl,trivial⟩ ?_
      refine qfe hfs (by kernel_rfl) fun _=>?_
      refine qbf hτ [0,1,2,3] 10 rfl rfl rfl rfl ⟨rfl,rfl,rfl,rfl,trivial⟩ ?_
      refine qa4 hτ [] 13 rfl rfl rfl rfl rfl ?_
      refine qg2 (by kernel_rfl) ?_
      refine qaa (qa3 [0,1,3,2,4] (l:=[(1,.d (.int .i64 bus_)),(2,.d (.sl false (closed_.map qa6))),(3,.ptr 0 0),(6,.ptr 1 0),(9,.ptr 2 0),(10,.row 4 ([(0:Int)].length) 0 ([(0:Int)].length))]) (objs:=[.box [.d (.cx .f32 g_.qa0.Source.A.re g_.qa0.Source.A.im),.d (.cx .f32 g_.qa0.Source.B.re g_.qa0.Source.B.im),.d (.cx .f32 g_.qa0.Source.C.re g_.qa0.Source.C.im),.d (.sl false (g_.qa0.qa7.map qac)),.d (.sl false (g_.Ties.map qam))],.box [.d (.cx .f32 (0:Nat) (0:Nat)),.d (.cx .f32 (0:Nat) (0:Nat)),.d (.cx .f32 (0:Nat) (0:Nat)),.d (.nils)],.box [.d (.cx .f32 g_.qa0.Source.A.re g_.qa0.Source.A.im),.d (.cx .f32 g_.qa0.Source.B.re g_.qa0.Source.B.im),.d (.cx .f32 g_.qa0.Source.C.re g_.qa0.Source.C.im),.row 3 ([x246].length) 0 ([x246].length)],.row 8 ([x246].map qac),.row 1 ([(0:Int)].map qa6)]) rfl (by simp) rfl (by trivial) ⟨rfl,trivial,rfl,trivial,rfl,trivial,rfl,trivial,rfl,trivial,rfl,trivial,trivial⟩) ?_
      exact hk245 [x246] h
   ·refine qbf hτ [0,1] 10 rfl rfl rfl rfl ⟨rfl,rfl,trivial⟩ ?_
    refine qfe hfs (by kernel_rfl) fun _=>?_
    refine qgs [8,11] (by kernel_rfl) fun _ hfs=>⟨?_,?_,trivial⟩
    ·refine qbf hτ [0,1,2] 8 rfl rfl rfl rfl ⟨rfl,rfl,rfl,trivial⟩ ?_
     refine qfe hfs (by kernel_rfl) fun _=>?_
     refine qa4 hτ [] 9 rfl rfl rfl rfl rfl ?_
     refine qbf hτ [0,1,2,3] 11 rfl rfl rfl rfl ⟨rfl,rfl,rfl,rfl,trivial⟩ ?_
     refine qbf hτ [0,1,2,3] 12 rfl rfl rfl rfl ⟨rfl,rfl,rfl,rfl,trivial⟩ ?_
     refine qa4 hτ [] 13 rfl rfl rfl rfl rfl ?_
     refine qg2 (by kernel_rfl) ?_
     refine qaa (qa3 [0,1,4,3,2] (l:=[(1,.d (.int .i64 bus_)),(2,.d (.sl false (closed_.map qa6))),(3,.ptr 0 0),(6,.ptr 1 0),(9,.ptr 2 0),(10,.row 4 ([(0:Int)].length) 0 ([(0:Int)].length))]) (objs:=[.box [.d (.cx .f32 g_.qa0.Source.A.re g_.qa0.Source.A.im),.d (.cx .f32 g_.qa0.Source.B.re g_.qa0.Source.B.im),.d (.cx .f32 g_.qa0.Source.C.re g_.qa0.Source.C.im),.d (.sl false (g_.qa0.qa7.map qac)),.d (.sl false (g_.Ties.map qam))],.box [.d (.cx .f32 (0:Nat) (0:Nat)),.d (.cx .f32 (0:Nat) (0:Nat)),.d (.cx .f32 (0:Nat) (0:Nat)),.d (.nils)],.box [.d (.cx .f32 g_.qa0.Source.A.re g_.qa0.Source.A.im),.d (.cx .f32 g_.qa0.Source.B.re g_.qa0.Source.B.im),.d (.cx .f32 g_.qa0.Source.C.re g_.qa0.Source.C.im),.row 3 ([x246].length) 0 ([x246].length)],.row 8 ([x246].map qac),.row 1 ([(0:Int)].map qa6)]) rfl (by simp) rfl (by trivial) ⟨rfl,trivial,rfl,trivial,rfl,trivial,rfl,trivial,rfl,trivial,rfl,trivial,trivial⟩) ?_
     exact hk245 [x246] h
    ·refine qbf hτ [0,1,2] 11 rfl rfl rfl rfl ⟨rfl,rfl,rfl,trivial⟩ ?_
     refine qfe hfs (by kernel_rfl) fun _=>?_
     refine qbf hτ [0,1,2,3] 8 rfl rfl rfl rfl ⟨rfl,rfl,rfl,rfl,trivial⟩ ?_
     refine qa4 hτ [] 9 rfl rfl rfl rfl rfl ?_
     refine qbf hτ [0,1,2,4] 12 rfl rfl rfl rfl ⟨rfl,rfl,rfl,rfl,trivial⟩ ?_
     refine qa4 hτ [] 13 rfl rfl rfl rfl rfl ?_
     refine qg2 (by kernel_rfl) ?_
     refine qaa (qa3 [0,1,3,4,2] (l:=[(1,.d (.int .i64 bus_)),(2,.d (.sl false (closed_.map qa6))),(3,.ptr 0 0),(6,.ptr 1 0),(9,.ptr 2 0),(10,.row 4 ([(0:Int)].length) 0 ([(0:Int)].length))]) (objs:=[.box [.d (.cx .f32 g_.qa0.Source.A.re g_.qa0.Source.A.im),.d (.cx .f32 g_.qa0.Source.B.re g_.qa0.Source.B.im),.d (.cx .f32 g_.qa0.Source.C.re g_.qa0.Source.C.im),.d (.sl false (g_.qa0.qa7.map qac)),.d (.sl false (g_.Ties.map qam))],.box [.d (.cx .f32 (0:Nat) (0:Nat)),.d (.cx .f32 (0:Nat) (0:Nat)),.d (.cx .f32 (0:Nat) (0:Nat)),.d (.nils)],.box [.d (.cx .f32 g_.qa0.Source.A.re g_.qa0.Source.A.im),.d (.cx .f32 g_.qa0.Source.B.re g_.qa0.Source.B.im),.d (.cx .f32 g_.qa0.Source.C.re g_.qa0.Source.C.im),.row 3 ([x246].length) 0 ([x246].length)],.row 8 ([x246].map qac),.row 1 ([(0:Int)].map qa6)]) rfl (by simp) rfl (by trivial) ⟨rfl,trivial,rfl,trivial,rfl,trivial,rfl,trivial,rfl,trivial,rfl,trivial,trivial⟩) ?_
     exact hk245 [x246] h
   ·refine qbf hτ [0,1] 11 rfl rfl rfl rfl ⟨rfl,rfl,trivial⟩ ?_
    refine qfe hfs (by kernel_rfl) fun _=>?_
    refine qgs [8,10] (by kernel_rfl) fun _ hfs=>⟨?_,?_,trivial⟩
    ·refine qbf hτ [0,1,2] 8 rfl rfl rfl rfl ⟨rfl,rfl,rfl,trivial⟩ ?_
     refine qfe hfs (by kernel_rfl) fun _=>?_
     refine qa4 hτ [] 9 rfl rfl rfl rfl rfl ?_
     refine qgs [10,12] (by kernel_rfl) fun _ hfs=>⟨?_,?_,trivial⟩
     ·refine qbf hτ [0,1,2,3] 10 rfl rfl rfl rfl ⟨rfl,rfl,rfl,rfl,trivial⟩ ?_
      refine qfe hfs (by kernel_rfl) fun _=>?_
      refine qbf hτ [0,1,3,4] 12 rfl rfl rfl rfl ⟨rfl,rfl,rfl,rfl,trivial⟩ ?_
      refine qa4 hτ [] 13 rfl rfl rfl rfl rfl ?_
      refine qg2 (by kernel_rfl) ?_
      refine qaa (qa3 [0,1,2,3,4] (l:=[(1,.d (.int .i64 bus_)),(2,.d (.sl false (closed_.map qa6))),(3,.ptr 0 0),(6,.ptr 1 0),(9,.ptr 2 0),(10,.row 4 ([(0:Int)].length) 0 ([(0:Int)].length))]) (objs:=[.box [.d (.cx .f32 g_.qa0.Source.A.re g_.qa0.Source.A.im),.d (.cx .f32 g_.qa0.Source.B.re g_.qa0.Source.B.im),.d (.cx .f32 g_.qa0.Source.C.re g_.qa0.Source.C.im),.d (.sl false (g_.qa0.qa7.map qac)),.d (.sl false (g_.Ties.map qam))],.box [.d (.cx .f32 (0:Nat) (0:Nat)),.d (.cx .f32 (0:Nat) (0:Nat)),.d (.cx .f32 (0:Nat) (0:Nat)),.d (.nils)],.box [.d (.cx .f32 g_.qa0.Source.A.re g_.qa0.Source.A.im),.d (.cx .f32 g_.qa0.Source.B.re g_.qa0.Source.B.im),.d (.cx .f32 g_.qa0.Source.C.re g_.qa0.Source.C.im),.row 3 ([x246].length) 0 ([x246].length)],.row 8 ([x246].map qac),.row 1 ([(0:Int)].map qa6)]) rfl (by simp) rfl (by trivial) ⟨rfl,trivial,rfl,trivial,rfl,trivial,rfl,trivial,rfl,trivial,rfl,trivial,trivial⟩) ?_
      exact hk245 [x246] h
     ·refine qbf hτ [0,1,3] 12 rfl rfl rfl rfl ⟨rfl,rfl,rfl,trivial⟩ ?_
      refine qfe hfs (by kernel_rfl) fun _=>?_
      refine qbf hτ [0,1,2,3] 10 rfl rfl rfl rfl ⟨rfl,rfl,rfl,rfl,trivial⟩ ?_
      refine qa4 hτ [] 13 rfl rfl rfl rfl rfl ?_
      refine qg2 (by kernel_rfl) ?_
      refine qaa (qa3 [0,1,2,3,4] (l:=[(1,.d (.int .i64 bus_)),(2,.d (.sl false (closed_.map qa6))),(3,.ptr 0 0),(6,.ptr 1 0),(9,.ptr 2 0),(10,.row 4 ([(0:Int)].length) 0 ([(0:Int)].length))]) (objs:=[.box [.d (.cx .f32 g_.qa0.Source.A.re g_.qa0.Source.A.im),.d (.cx .f32 g_.qa0.Source.B.re g_.qa0.Source.B.im),.d (.cx .f32 g_.qa0.Source.C.re g_.qa0.Source.C.im),.d (.sl false (g_.qa0.qa7.map qac)),.d (.sl false (g_.Ties.map qam))],.box [.d (.cx .f32 (0:Nat) (0:Nat)),.d (.cx .f32 (0:Nat) (0:Nat)),.d (.cx .f32 (0:Nat) (0:Nat)),.d (.nils)],.box [.d (.cx .f32 g_.qa0.Source.A.re g_.qa0.Source.A.im),.d (.cx .f32 g_.qa0.Source.B.re g_.qa0.Source.B.im),.d (.cx .f32 g_.qa0.Source.C.re g_.qa0.Source.C.im),.row 3 ([x246].length) 0 ([x246].length)],.row 8 ([x246].map qac),.row 1 ([(0:Int)].map qa6)]) rfl (by simp) rfl (by trivial) ⟨rfl,trivial,rfl,trivial,rfl,trivial,rfl,trivial,rfl,trivial,rfl,trivial,trivial⟩) ?_
      exact hk245 [x246] h
    ·refine qbf hτ [0,1,2] 10 rfl rfl rfl rfl ⟨rfl,rfl,rfl,trivial⟩ ?_
     refine qfe hfs (by kernel_rfl) fun _=>?_
     refine qbf hτ [0,1,2,3] 8 rfl rfl rfl rfl ⟨rfl,rfl,rfl,rfl,trivial⟩ ?_
     refine qa4 hτ [] 9 rfl rfl rfl rfl rfl ?_
     refine qbf hτ [0,1,3,4] 12 rfl rfl rfl rfl ⟨rfl,rfl,rfl,rfl,trivial⟩ ?_
     refine qa4 hτ [] 13 rfl rfl rfl rfl rfl ?_
     refine qg2 (by kernel_rfl) ?_
     refine qaa (qa3 [0,1,2,4,3] (l:=[(1,.d (.int .i64 bus_)),(2,.d (.sl false (closed_.map qa6))),(3,.ptr 0 0),(6,.ptr 1 0),(9,.ptr 2 0),(10,.row 4 ([(0:Int)].length) 0 ([(0:Int)].length))]) (objs:=[.box [.d (.cx .f32 g_.qa0.Source.A.re g_.qa0.Source.A.im),.d (.cx .f32 g_.qa0.Source.B.re g_.qa0.Source.B.im),.d (.cx .f32 g_.qa0.Source.C.re g_.qa0.Source.C.im),.d (.sl false (g_.qa0.qa7.map qac)),.d (.sl false (g_.Ties.map qam))],.box [.d (.cx .f32 (0:Nat) (0:Nat)),.d (.cx .f32 (0:Nat) (0:Nat)),.d (.cx .f32 (0:Nat) (0:Nat)),.d (.nils)],.box [.d (.cx .f32 g_.qa0.Source.A.re g_.qa0.Source.A.im),.d (.cx .f32 g_.qa0.Source.B.re g_.qa0.Source.B.im),.d (.cx .f32 g_.qa0.Source.C.re g_.qa0.Source.C.im),.row 3 ([x246].length) 0 ([x246].length)],.row 8 ([x246].map qac),.row 1 ([(0:Int)].map qa6)]) rfl (by simp) rfl (by trivial) ⟨rfl,trivial,rfl,trivial,rfl,trivial,rfl,trivial,rfl,trivial,rfl,trivial,trivial⟩) ?_
     exact hk245 [x246] h
theorem impl_FeederAfter_ok (n:Nat) (g_:qbk) (bus_:Int) (closed_:List Int) {r:qau × List Int × Bool} (h:qft n g_ bus_ closed_ = some r):qb1 prog false 9 [.agg [.d (.cx .f32 g_.qa0.Source.A.re g_.qa0.Source.A.im),.d (.cx .f32 g_.qa0.Source.B.re g_.qa0.Source.B.im),.d (.cx .f32 g_.qa0.Source.C.re g_.qa0.Source.C.im),.d (.sl false (g_.qa0.qa7.map qac)),.d (.sl false (g_.Ties.map qam))],.d (.int .i64 bus_),.d (.sl false (closed_.map qa6))] [] (fun v o new=>v = .tup [.agg [.d (.cx .f32 r.1.Source.A.re r.1.Source.A.im),.d (.cx .f32 r.1.Source.B.re r.1.Source.B.im),.d (.cx .f32 r.1.Source.C.re r.1.Source.C.im),.row 0 r.1.qa7.length 0 r.1.qa7.length],.row 1 r.2.1.length 0 r.2.1.length,.d (.bool r.2.2)]∧o = []∧new = [.row 8 (r.1.qa7.map qac),.row 1 (r.2.1.map qa6)]):=impl_FeederAfter_ok_fr0 false n g_ bus_ closed_ h
def qhr (n:Nat) (g_:qbk) (bus_:Int) (closed_:List Int):Option (List Int × Bool) :=
 (qf1 n g_ bus_ closed_).bind fun x5 =>
 if x5 = true then
  (qdp n g_ bus_ closed_ (0:Int)).bind fun x7 =>
  (qg9 n x7).bind fun x8 =>
  some (x8,true)
 else
  some (([]:List Int),false)
theorem impl_LitAfter_ok_fr0 (fr:Bool) (n:Nat) (g_:qbk) (bus_:Int) (closed_:List Int) {r:List Int × Bool} (h:qhr n g_ bus_ closed_ = some r):qb1 prog fr 10 [.agg [.d (.cx .f32 g_.qa0.Source.A.re g_.qa0.Source.A.im),.d (.cx .f32 g_.qa0.Source.B.re g_.qa0.Source.B.im),.d (.cx .f32 g_.qa0.Source.C.re g_.qa0.Source.C.im),.d (.sl false (g_.qa0.qa7.map qac)),.d (.sl false (g_.Ties.map qam))],.d (.int .i64 bus_),.d (.sl false (closed_.map qa6))] [] (fun v o new=>v = .tup [.row 0 r.1.length 0 r.1.length,.d (.bool r.2)]∧o = []∧new = [.row 1 (r.1.map qa6)]):=by
 refine qak hτ func10 rfl (by simp) (by simp) ?_
 unfold qhr at h
 refine qa8<|qa2<|qal hτ rfl rfl rfl<|qa1 hτ rfl rfl rfl<|qa1 hτ rfl rfl rfl ?_
 refine qa5<|qa8<|qa8<|qa2<|qa1 hτ rfl rfl rfl ?_
 refine qa1 hτ rfl rfl rfl ?_
 refine qaf h fun x5 hx5 h=>?_
 refine qae hτ false [0] rfl rfl rfl (qaj func33 rfl rfl) rfl rfl (by simp) ⟨trivial,trivial,trivial,trivial⟩ (by trivial) (qky n g_ bus_ closed_ hx5) ?_
 rintro r0 o0 n0 ⟨rfl,rfl,rfl⟩ -
 refine qa1 hτ rfl rfl rfl<|qa5 ?_
 refine qaa (qa3 [0] (l:=[(1,.d (.int .i64 bus_)),(2,.d (.sl false (closed_.map qa6))),(3,.ptr 0 0),(11,.d (.bool (!x5)))]) (objs:=[.box [.d (.cx .f32 g_.qa0.Source.A.re g_.qa0.Source.A.im),.d (.cx .f32 g_.qa0.Source.B.re g_.qa0.Source.B.im),.d (.cx .f32 g_.qa0.Source.C.re g_.qa0.Source.C.im),.d (.sl false (g_.qa0.qa7.map qac)),.d (.sl false (g_.Ties.map qam))]]) rfl (by simp) rfl (by trivial) ⟨rfl,trivial,rfl,trivial,rfl,trivial,rfl,trivial,trivial⟩) ?_
 refine qaq rfl (fun hc6=>?_) (fun hc6=>?_)
 ·have hc6:=qjf hc6
  have h:=qeg h hc6
  refine qa8<|qa2<|qa1 hτ rfl rfl rfl<|qa1 hτ rfl rfl rfl<|qa5 ?_
  refine qaa (qa3 [] (l:=[(6,.d (.nils)),(7,.d (.bool false))]) (objs:=[]) rfl (by simp) rfl (by trivial) ⟨rfl,trivial,rfl,trivial,trivial⟩) ?_
  refine qaa (qjc [1] (l':=[(6,.row 0 (([]:List Int).length) 0 (([]:List Int).length)),(7,.d (.bool false))]) (objs':=[]) (.cons (.c (.ghost ⟨Nat.le_of_ble_eq_true rfl,Nat.le_of_ble_eq_true rfl⟩)) (.cons (.c (.refl _)) .nil)) .nil) ?_
  refine qap ?_
  have hr:=Option.some.inj h
  subst hr
  exact qah (.inr rfl) [0] (objs':=[]) (new:=[.row 1 (([]:List Int).map qa6)]) rfl (by simp) (by simp) rfl (by trivial) rfl rfl (by trivial) (fun _=>⟨by simp [V.flat,V.qbg,V.qbb,D.flat],(qc8 (qgt qff _) qan)⟩) ⟨rfl,rfl,rfl⟩
 ·have hc6:=qje hc6
  have h:=qeh h hc6
  refine qat<|qa8<|qa2<|qa1 hτ rfl rfl rfl<|qa1 hτ rfl rfl rfl ?_
  refine qaf h fun x7 hx7 h=>?_
  refine qae hτ false [0] rfl rfl rfl (qaj func34 rfl rfl) rfl rfl (by simp) ⟨trivial,trivial,trivial,trivial,trivial⟩ (by trivial) (qhn n g_ bus_ closed_ (0:Int) hx7) ?_
  rintro r0 o0 n0 ⟨rfl,rfl,rfl⟩ -
  refine qaf h fun x8 hx8 h=>?_
  refine qae hτ false [] rfl rfl rfl (qaj func25 rfl rfl) rfl rfl (by simp) ⟨trivial,trivial⟩ (by trivial) (qki n x7 hx8) ?_
  rintro r0 o0 n0 ⟨rfl,rfl,rfl⟩ -
  refine qa1 hτ rfl rfl rfl<|qa1 hτ rfl rfl rfl<|qa5 ?_
  refine qaa (qa3 [1] (l:=[(6,.row 0 x8.length 0 x8.length),(7,.d (.bool true))]) (objs:=[.row 1 (x8.map qa6)]) rfl (by simp) rfl (by trivial) ⟨rfl,trivial,rfl,trivial,trivial⟩) ?_
  refine qap ?_
  have hr:=Option.some.inj h
  subst hr
  exact qah (.inr rfl) [0] (objs':=[]) (new:=[.row 1 (x8.map qa6)]) rfl (by simp) (by simp) rfl (by trivial) rfl rfl (by trivial) (fun _=>⟨by simp [V.flat,V.qbg,V.qbb,D.flat],(qc8 (qgt qff _) qan)⟩) ⟨rfl,rfl,rfl⟩
theorem impl_LitAfter_ok (n:Nat) (g_:qbk) (bus_:Int) (closed_:List Int) {r:List Int × Bool} (h:qhr n g_ bus_ closed_ = some r):qb1 prog false 10 [.agg [.d (.cx .f32 g_.qa0.Source.A.re g_.qa0.Source.A.im),.d (.cx .f32 g_.qa0.Source.B.re g_.qa0.Source.B.im),.d (.cx .f32 g_.qa0.Source.C.re g_.qa0.Source.C.im),.d (.sl false (g_.qa0.qa7.map qac)),.d (.sl false (g_.Ties.map qam))],.d (.int .i64 bus_),.d (.sl false (closed_.map qa6))] [] (fun v o new=>v = .tup [.row 0 r.1.length 0 r.1.length,.d (.bool r.2)]∧o = []∧new = [.row 1 (r.1.map qa6)]):=impl_LitAfter_ok_fr0 false n g_ bus_ closed_ h
def qgb (n:Nat) (list_:List Int) (n_:Int):Nat→Int→Option Bool
 | 0,_=>none
 | m9 + 1,v6 =>
  if v6 < (list_.length:Int) then
   (getI list_ v6).bind fun x13 =>
   if x13 = n_ then
    some true
   else
    (qgb n list_ n_ m9) (w64 (v6 + (1:Int)))
  else
   some false
def qiv (n:Nat) (list_:List Int) (n_:Int):Option Bool :=
 qgb n list_ n_ n (0:Int)
theorem laws_r8In_ok_fr0 (fr:Bool) (n:Nat) (list_:List Int) (n_:Int) {r:Bool} (h:qiv n list_ n_ = some r):qb1 prog fr 12 [.d (.sl false (list_.map qa6)),.d (.int .i64 n_)] [] (fun v o new=>v = .d (.bool r)∧o = []∧new = []):=by
 refine qak hτ func12 rfl (by simp) (by simp) ?_
 unfold qiv at h
 refine qa8<|qa2<|qa1 hτ rfl rfl rfl<|qa5<|qa8 ?_
 refine qa8<|qa2<|qa1 hτ rfl rfl rfl<|qa5<|qay ?_
 refine qde (ι:=Nat × Int) (fun (m9,v6)=>St.of [(0,.d (.sl false (list_.map qa6))),(1,.d (.int .i64 n_)),(5,.d (.int .i64 v6))] [] f12.ntmps 0) (fun (m9,v6)=>qgb n list_ n_ m9 v6 = some r) (fun x=>x.1) (n,(0:Int)) h (qa3 [] (l:=[(0,.d (.sl false (list_.map qa6))),(1,.d (.int .i64 n_)),(5,.d (.int .i64 (0:Int)))]) (objs:=[]) rfl (by simp) rfl (by trivial) ⟨rfl,trivial,rfl,trivial,rfl,trivial,trivial⟩) ?_
 rintro ⟨m9,v6⟩ h
 replace h:qgb n list_ n_ m9 v6 = some r:=h
 rcases m9 with _ | m9
 ·rw [qgb] at h;cases h
 rw [qgb] at h
 refine qa8<|qa8<|qa2<|qa1 hτ rfl rfl rfl<|qa1 hτ rfl rfl rfl ?_
 refine qa1 hτ (v:=.d (.int .i64 (list_.length:Int))) rfl rfl (Eq.trans rfl (qei (f:=qa6) list_)) ?_
 refine qa1 hτ rfl rfl rfl<|qa5 ?_
 refine qaq rfl (fun hc11=>?_) (fun hc11=>?_)
 ·have h:=if_t h hc11
  refine qat<|qa8<|qay<|qa8<|qa2 ?_
  refine qa1 hτ rfl rfl rfl<|qa1 hτ rfl rfl rfl ?_
  refine qaf h fun x13 hx13 h=>?_
  refine qce hτ rfl rfl rfl (qb8 hx13).1 (qbm hx13) rfl ?_
  refine qa1 hτ rfl rfl rfl<|qa1 hτ rfl rfl rfl ?_
  refine qa1 hτ (v:=.d (.bool (decide (x13 = n_)))) rfl rfl (qeq _ _) ?_
  refine qa5 ?_
  refine qaa (qa3 [] (l:=[(0,.d (.sl false (list_.map qa6))),(1,.d (.int .i64 n_)),(5,.d (.int .i64 v6)),(17,.d (.bool (decide (x13 = n_))))]) (objs:=[]) rfl (by simp) rfl (by trivial) ⟨rfl,trivial,rfl,trivial,rfl,trivial,rfl,trivial,trivial⟩) ?_
  refine qaq rfl (fun hc14=>?_) (fun hc14=>?_)
  ·have h:=if_t h hc14
   refine qa8<|qa2<|qa1 hτ rfl rfl rfl<|qa5 ?_
   refine qaa (qa3 [] (l:=[(4,.d (.bool true))]) (objs:=[]) rfl (by simp) rfl (by trivial) ⟨rfl,trivial,trivial⟩) ?_
   refine qap ?_
   have hr:=Option.some.inj h
   subst hr
   exact qah (.inr rfl) [] (objs':=[]) (new:=[]) rfl (by simp) (by simp) rfl (by trivial) rfl rfl (by trivial) (fun _=>⟨by simp [V.flat,V.qbg,V.qbb,D.flat],qan⟩) ⟨rfl,rfl,rfl⟩
  ·have h:=if_f h hc14
   refine qat<|qa2<|qa1 hτ rfl rfl rfl<|qa1 hτ rfl rfl rfl<|qa1 hτ rfl rfl rfl ?_
   refine qa5 ?_
   exact ⟨(m9,(w64 (v6 + (1:Int)))),h,Nat.lt_succ_self m9,(qa3 [] (l:=[(0,.d (.sl false (list_.map qa6))),(1,.d (.int .i64 n_)),(5,.d (.int .i64 (w64 (v6 + (1:Int)))))]) (objs:=[]) rfl (by simp) rfl (by trivial) ⟨rfl,trivial,rfl,trivial,rfl,trivial,trivial⟩)⟩
 ·have h:=if_f h hc11
  refine qd3<|qa8<|qa2<|qa1 hτ rfl rfl rfl<|qa5 ?_
  refine qaa (qa3 [] (l:=[(4,.d (.bool false))]) (objs:=[]) rfl (by simp) rfl (by trivial) ⟨rfl,trivial,trivial⟩) ?_
  refine qap ?_
  have hr:=Option.some.inj h
  subst hr
  exact qah (.inr rfl) [] (objs':=[]) (new:=[]) rfl (by simp) (by simp) rfl (by trivial) rfl rfl (by trivial) (fun _=>⟨by simp [V.flat,V.qbg,V.qbb,D.flat],qan⟩) ⟨rfl,rfl,rfl⟩
theorem qmy (n:Nat) (list_:List Int) (n_:Int) {r:Bool} (h:qiv n list_ n_ = some r):qb1 prog true 12 [.d (.sl false (list_.map qa6)),.d (.int .i64 n_)] [] (fun v o new=>v = .d (.bool r)∧o = []∧new = []):=laws_r8In_ok_fr0 true n list_ n_ h
def qex (n:Nat) (x_:Nat):Option Bool :=
 some (fcmp .neq .f32 x_ x_)
theorem impl_isNaN_ok_fr0 (fr:Bool) (n:Nat) (x_:Nat) {r:Bool} (h:qex n x_ = some r):qb1 prog fr 54 [.d (.fl .f32 x_)] [] (fun v o new=>v = .d (.bool r)∧o = []∧new = []):=by
 refine qak hτ func54 rfl (by simp) (by simp) ?_
 unfold qex at h
 refine qa8<|qa2<|qa1 hτ rfl rfl rfl<|qa5<|qa8 ?_
 refine qa2<|qa1 hτ rfl rfl rfl<|qa1 hτ rfl rfl rfl<|qa1 hτ rfl rfl rfl<|qa1 hτ rfl rfl rfl ?_
 refine qa5 ?_
 refine qaa (qa3 [] (l:=[(2,.d (.bool (fcmp .neq .f32 x_ x_)))]) (objs:=[]) rfl (by simp) rfl (by trivial) ⟨rfl,trivial,trivial⟩) ?_
 refine qap ?_
 have hr:=Option.some.inj h
 subst hr
 exact qah (.inr rfl) [] (objs':=[]) (new:=[]) rfl (by simp) (by simp) rfl (by trivial) rfl rfl (by trivial) (fun _=>⟨by simp [V.flat,V.qbg,V.qbb,D.flat],qan⟩) ⟨rfl,rfl,rfl⟩
theorem qiz (n:Nat) (x_:Nat) {r:Bool} (h:qex n x_ = some r):qb1 prog false 54 [.d (.fl .f32 x_)] [] (fun v o new=>v = .d (.bool r)∧o = []∧new = []):=impl_isNaN_ok_fr0 false n x_ h
def qg6 (n:Nat) (a_:Nat) (b_:Nat):Option Bool :=
 grd (isnan .f32 a_ = false) <|
 grd (isnan .f32 b_ = false) <|
 some (decide ((a_:Int) = (b_:Int)))
def qes (n:Nat) (a_:Nat) (b_:Nat) (v26:Bool):Option Bool :=
 if v26 = true then
  (qex n a_).bind fun x28 =>
  if x28 = true then
   (qex n b_).bind fun x30 =>
   some x30
  else
   some false
 else
  qg6 n a_ b_
def qf3 (n:Nat) (a_:Nat) (b_:Nat):Option Bool :=
 (qex n a_).bind fun x32 =>
 if x32 = true then
  qes n a_ b_ true
 else
  (qex n b_).bind fun x34 =>
  qes n a_ b_ x34
theorem impl_SameNumber_ok_fr0 (fr:Bool) (n:Nat) (a_:Nat) (b_:Nat) {r:Bool} (h:qf3 n a_ b_ = some r):qb1 prog fr 37 [.d (.fl .f32 a_),.d (.fl .f32 b_)] [] (fun v o new=>v = .d (.bool r)∧o = []∧new = []):=by
 refine qak hτ func37 rfl (by simp) (by simp) ?_
 unfold qf3 at h
 refine qa8<|qa2<|qa1 hτ rfl rfl rfl<|qa5 ?_
 refine qby (ι:=Unit) (fun _=>St.of [(0,.d (.fl .f32 a_)),(1,.d (.fl .f32 b_))] [] f37.ntmps 0) (fun _=>qg6 n a_ b_ = some r) ?_ (fun hk21=>?_)
 ·rintro ⟨⟩ h
  replace h:qg6 n a_ b_ = some r:=h
  unfold qg6 at h
  refine qa8<|qa2<|qa1 hτ rfl rfl rfl ?_
  refine qci h fun hg19 h=>?_
  refine qpr hτ rfl rfl rfl (qxg hg19) ?_
  refine qa1 hτ rfl rfl rfl ?_
  refine qci h fun hg20 h=>?_
  refine qpr hτ rfl rfl rfl (qxg hg20) ?_
  refine qa1 hτ (v:=.d (.bool (decide ((a_:Int) = (b_:Int))))) rfl rfl (qeq _ _) ?_
  refine qa1 hτ rfl rfl rfl<|qa5 ?_
  refine qaa (qa3 [] (l:=[(4,.d (.bool (decide ((a_:Int) = (b_:Int)))))]) (objs:=[]) rfl (by simp) rfl (by trivial) ⟨rfl,trivial,trivial⟩) ?_
  refine qap ?_
  have hr:=Option.some.inj h
  subst hr
  exact qah (.inr rfl) [] (objs':=[]) (new:=[]) rfl (by simp) (by simp) rfl (by trivial) rfl rfl (by trivial) (fun _=>⟨by simp [V.flat,V.qbg,V.qbb,D.flat],qan⟩) ⟨rfl,rfl,rfl⟩
 ·refine qa8 ?_
  refine qby (ι:=Bool) (fun v26=>St.of [(0,.d (.fl .f32 a_)),(1,.d (.fl .f32 b_)),(10,.d (.bool v26))] [] f37.ntmps 0) (fun v26=>qes n a_ b_ v26 = some r) ?_ (fun hk31=>?_)
  ·rintro v26 h
   replace h:qes n a_ b_ v26 = some r:=h
   unfold qes at h
   refine qaq rfl (fun hc27=>?_) (fun hc27=>?_)
   ·have h:=qeh h hc27
    refine qa8<|qa2<|qa1 hτ rfl rfl rfl ?_
    refine qaf h fun x28 hx28 h=>?_
    refine qae hτ false [] rfl rfl rfl (qaj func54 rfl rfl) rfl rfl (by simp) ⟨trivial,trivial⟩ (by trivial) (qiz n a_ hx28) ?_
    rintro r0 o0 n0 ⟨rfl,rfl,rfl⟩ -
    refine qa1 hτ rfl rfl rfl ?_
    refine qbq 13 rfl (fun hb29=>?_) (fun hb29=>?_)
    ·have h:=qeh h hb29
     refine qa1 hτ rfl rfl rfl ?_
     refine qaf h fun x30 hx30 h=>?_
     refine qae hτ false [] rfl rfl rfl (qaj func54 rfl rfl) rfl rfl (by simp) ⟨trivial,trivial⟩ (by trivial) (qiz n b_ hx30) ?_
     rintro r0 o0 n0 ⟨rfl,rfl,rfl⟩ -
     refine qa1 hτ rfl rfl rfl<|qa1 hτ rfl rfl rfl<|qa5 ?_
     refine qaa (qa3 [] (l:=[(4,.d (.bool x30))]) (objs:=[]) rfl (by simp) rfl (by trivial) ⟨rfl,trivial,trivial⟩) ?_
     refine qap ?_
     have hr:=Option.some.inj h
     subst hr
     exact qah (.inr rfl) [] (objs':=[]) (new:=[]) rfl (by simp) (by simp) rfl (by trivial) rfl rfl (by trivial) (fun _=>⟨by simp [V.flat,V.qbg,V.qbb,D.flat],qan⟩) ⟨rfl,rfl,rfl⟩
    ·have h:=qeg h hb29
     refine qab rfl rfl<|qab rfl rfl<|qa1 hτ rfl rfl rfl<|qa1 hτ rfl rfl rfl<|qa5 ?_
     refine qaa (qa3 [] (l:=[(4,.d (.bool false))]) (objs:=[]) rfl (by simp) rfl (by trivial) ⟨rfl,trivial,trivial⟩) ?_
     refine qap ?_
     have hr:=Option.some.inj h
     subst hr
     exact qah (.inr rfl) [] (objs':=[]) (new:=[]) rfl (by simp) (by simp) rfl (by trivial) rfl rfl (by trivial) (fun _=>⟨by simp [V.flat,V.qbg,V.qbb,D.flat],qan⟩) ⟨rfl,rfl,rfl⟩
   ·have h:=qeg h hc27
    refine qat ?_
    refine qaa (qa3 [] (l:=[(0,.d (.fl .f32 a_)),(1,.d (.fl .f32 b_))]) (objs:=[]) rfl (by simp) rfl (by trivial) ⟨rfl,trivial,rfl,trivial,trivial⟩) ?_
    exact hk21 () h
  ·refine qa8<|qa2<|qa1 hτ rfl rfl rfl ?_
   refine qaf h fun x32 hx32 h=>?_
   refine qae hτ false [] rfl rfl rfl (qaj func54 rfl rfl) rfl rfl (by simp) ⟨trivial,trivial⟩ (by trivial) (qiz n a_ hx32) ?_
   rintro r0 o0 n0 ⟨rfl,rfl,rfl⟩ -
   refine qa1 hτ rfl rfl rfl ?_
   refine qbq 7 rfl (fun hb33=>?_) (fun hb33=>?_)
   ·have h:=qeh h hb33
    refine qab rfl rfl<|qab rfl rfl<|qa1 hτ rfl rfl rfl<|qa5 ?_
    refine qaa (qa3 [] (l:=[(0,.d (.fl .f32 a_)),(1,.d (.fl .f32 b_)),(10,.d (.bool true))]) (objs:=[]) rfl (by simp) rfl (by trivial) ⟨rfl,trivial,rfl,trivial,rfl,trivial,trivial⟩) ?_
    exact hk31 true h
   ·have h:=qeg h hb33
    refine qa1 hτ rfl rfl rfl ?_
    refine qaf h fun x34 hx34 h=>?_
    refine qae hτ false [] rfl rfl rfl (qaj func54 rfl rfl) rfl rfl (by simp) ⟨trivial,trivial⟩ (by trivial) (qiz n b_ hx34) ?_
    rintro r0 o0 n0 ⟨rfl,rfl,rfl⟩ -
    refine qa1 hτ rfl rfl rfl<|qa5 ?_
    refine qaa (qa3 [] (l:=[(0,.d (.fl .f32 a_)),(1,.d (.fl .f32 b_)),(10,.d (.bool x34))]) (objs:=[]) rfl (by simp) rfl (by trivial) ⟨rfl,trivial,rfl,trivial,rfl,trivial,trivial⟩) ?_
    exact hk31 x34 h
theorem qlu (n:Nat) (a_:Nat) (b_:Nat) {r:Bool} (h:qf3 n a_ b_ = some r):qb1 prog false 37 [.d (.fl .f32 a_),.d (.fl .f32 b_)] [] (fun v o new=>v = .d (.bool r)∧o = []∧new = []):=impl_SameNumber_ok_fr0 false n a_ b_ h
def qb9 (n:Nat) (a_:Cx) (b_:Cx):Option Bool :=
 (qf3 n a_.re b_.re).bind fun x5 =>
 if x5 = true then
  (qf3 n a_.im b_.im).bind fun x7 =>
  some x7
 else
  some false
theorem impl_SameComplex_ok_fr0 (fr:Bool) (n:Nat) (a_:Cx) (b_:Cx) {r:Bool} (h:qb9 n a_ b_ = some r):qb1 prog fr 14 [.d (.cx .f32 a_.re a_.im),.d (.cx .f32 b_.re b_.im)] [] (fun v o new=>v = .d (.bool r)∧o = []∧new = []):=by
 refine qak hτ func14 rfl (by simp) (by simp) ?_
 unfold qb9 at h
 refine qa8<|qa2<|qa1 hτ rfl rfl rfl<|qa5<|qa8 ?_
 refine qa2<|qa1 hτ rfl rfl rfl<|qa1 hτ rfl rfl rfl<|qa1 hτ rfl rfl rfl<|qa1 hτ rfl rfl rfl ?_
 refine qaf h fun x5 hx5 h=>?_
 refine qae hτ false [] rfl rfl rfl (qaj func37 rfl rfl) rfl rfl (by simp) ⟨trivial,trivial,trivial⟩ (by trivial) (qlu n a_.re b_.re hx5) ?_
 rintro r0 o0 n0 ⟨rfl,rfl,rfl⟩ -
 refine qa1 hτ rfl rfl rfl ?_
 refine qbq 10 rfl (fun hb6=>?_) (fun hb6=>?_)
 ·have h:=qeh h hb6
  refine qa1 hτ rfl rfl rfl<|qa1 hτ rfl rfl rfl<|qa1 hτ rfl rfl rfl<|qa1 hτ rfl rfl rfl ?_
  refine qaf h fun x7 hx7 h=>?_
  refine qae hτ false [] rfl rfl rfl (qaj func37 rfl rfl) rfl rfl (by simp) ⟨trivial,trivial,trivial⟩ (by trivial) (qlu n a_.im b_.im hx7) ?_
  rintro r0 o0 n0 ⟨rfl,rfl,rfl⟩ -
  refine qb3 (qa3 [] (l:=[(10,.d (.bool true)),(15,.d (.bool x7))]) (objs:=[]) rfl (by simp) rfl (by trivial) ⟨rfl,trivial,rfl,trivial,trivial⟩) ?_
  refine qa1 hτ rfl rfl rfl<|qa1 hτ rfl rfl rfl<|qa5 ?_
  refine qaa (qa3 [] (l:=[(4,.d (.bool x7))]) (objs:=[]) rfl (by simp) rfl (by trivial) ⟨rfl,trivial,trivial⟩) ?_
  refine qap ?_
  have hr:=Option.some.inj h
  subst hr
  exact qah (.inr rfl) [] (objs':=[]) (new:=[]) rfl (by simp) (by simp) rfl (by trivial) rfl rfl (by trivial) (fun _=>⟨by simp [V.flat,V.qbg,V.qbb,D.flat],qan⟩) ⟨rfl,rfl,rfl⟩
 ·have h:=qeg h hb6
  refine qab rfl rfl<|qab rfl rfl<|qab rfl rfl<|qab rfl rfl<|qab rfl rfl ?_
  refine qb3 (qa3 [] (l:=[(10,.d (.bool false)),(15,.und)]) (objs:=[]) rfl (by simp) rfl (by trivial) ⟨rfl,trivial,rfl,trivial,trivial⟩) ?_
  refine qa1 hτ rfl rfl rfl<|qa1 hτ rfl rfl rfl<|qa5 ?_
  refine qaa (qa3 [] (l:=[(4,.d (.bool false))]) (objs:=[]) rfl (by simp) rfl (by trivial) ⟨rfl,trivial,trivial⟩) ?_
  refine qap ?_
  have hr:=Option.some.inj h
  subst hr
  exact qah (.inr rfl) [] (objs':=[]) (new:=[]) rfl (by simp) (by simp) rfl (by trivial) rfl rfl (by trivial) (fun _=>⟨by simp [V.flat,V.qbg,V.qbb,D.flat],qan⟩) ⟨rfl,rfl,rfl⟩
theorem qd8 (n:Nat) (a_:Cx) (b_:Cx) {r:Bool} (h:qb9 n a_ b_ = some r):qb1 prog false 14 [.d (.cx .f32 a_.re a_.im),.d (.cx .f32 b_.re b_.im)] [] (fun v o new=>v = .d (.bool r)∧o = []∧new = []):=impl_SameComplex_ok_fr0 false n a_ b_ h
def qf4 (n:Nat) (a_:qad) (b_:qad):Option Bool :=
 (qb9 n a_.A b_.A).bind fun x8 =>
 if x8 = true then
  (qb9 n a_.B b_.B).bind fun x10 =>
  if x10 = true then
   (qb9 n a_.C b_.C).bind fun x12 =>
   some x12
  else
   some false
 else
  some false
theorem impl_SamePhases_ok_fr0 (fr:Bool) (n:Nat) (a_:qad) (b_:qad) {r:Bool} (h:qf4 n a_ b_ = some r):qb1 prog fr 13 [.agg [.d (.cx .f32 a_.A.re a_.A.im),.d (.cx .f32 a_.B.re a_.B.im),.d (.cx .f32 a_.C.re a_.C.im)],.agg [.d (.cx .f32 b_.A.re b_.A.im),.d (.cx .f32 b_.B.re b_.B.im),.d (.cx .f32 b_.C.re b_.C.im)]] [] (fun v o new=>v = .d (.bool r)∧o = []∧new = []):=by
 refine qak hτ func13 rfl (by simp) (by simp) ?_
 unfold qf4 at h
 refine qa8<|qa2<|qal hτ rfl rfl rfl<|qal hτ rfl rfl rfl<|qa1 hτ rfl rfl rfl ?_
 refine qa5<|qa8<|qa2<|qa1 hτ rfl rfl rfl<|qa1 hτ rfl rfl rfl ?_
 refine qa1 hτ rfl rfl rfl<|qa1 hτ rfl rfl rfl ?_
 refine qaf h fun x8 hx8 h=>?_
 refine qae hτ false [] rfl rfl rfl (qaj func14 rfl rfl) rfl rfl (by simp) ⟨trivial,trivial,trivial⟩ (by trivial) (qd8 n a_.A b_.A hx8) ?_
 rintro r0 o0 n0 ⟨rfl,rfl,rfl⟩ -
 refine qa1 hτ rfl rfl rfl ?_
 refine qbq 10 rfl (fun hb9=>?_) (fun hb9=>?_)
 ·have h:=qeh h hb9
  refine qa1 hτ rfl rfl rfl<|qa1 hτ rfl rfl rfl<|qa1 hτ rfl rfl rfl ?_
  refine qb3 (qa3 [0,1] (l:=[(2,.ptr 0 0),(3,.ptr 1 0),(10,.d (.bool true)),(12,.d (.cx .f32 a_.B.re a_.B.im)),(13,.ptr 1 1)]) (objs:=[.box [.d (.cx .f32 a_.A.re a_.A.im),.d (.cx .f32 a_.B.re a_.B.im),.d (.cx .f32 a_.C.re a_.C.im)],.box [.d (.cx .f32 b_.A.re b_.A.im),.d (.cx .f32 b_.B.re b_.B.im),.d (.cx .f32 b_.C.re b_.C.im)]]) rfl (by simp) rfl (by trivial) ⟨rfl,trivial,rfl,trivial,rfl,trivial,rfl,trivial,rfl,trivial,trivial⟩) ?_
  refine qa1 hτ rfl rfl rfl ?_
  refine qaf h fun x10 hx10 h=>?_
  refine qae hτ false [] rfl rfl rfl (qaj func14 rfl rfl) rfl rfl (by simp) ⟨trivial,trivial,trivial⟩ (by trivial) (qd8 n a_.B b_.B hx10) ?_
  rintro r0 o0 n0 ⟨rfl,rfl,rfl⟩ -
  refine qa1 hτ rfl rfl rfl<|qa1 hτ rfl rfl rfl ?_
  refine qbq 17 rfl (fun hb11=>?_) (fun hb11=>?_)
  ·have h:=qeh h hb11
   refine qa1 hτ rfl rfl rfl<|qa1 hτ rfl rfl rfl<|qa1 hτ rfl rfl rfl<|qa1 hτ rfl rfl rfl ?_
   refine qaf h fun x12 hx12 h=>?_
   refine qae hτ false [] rfl rfl rfl (qaj func14 rfl rfl) rfl rfl (by simp) ⟨trivial,trivial,trivial⟩ (by trivial) (qd8 n a_.C b_.C hx12) ?_
   rintro r0 o0 n0 ⟨rfl,rfl,rfl⟩ -
   refine qa1 hτ rfl rfl rfl<|qa1 hτ rfl rfl rfl<|qa5 ?_
   refine qaa (qa3 [] (l:=[(4,.d (.bool x12))]) (objs:=[]) rfl (by simp) rfl (by trivial) ⟨rfl,trivial,trivial⟩) ?_
   refine qap ?_
   have hr:=Option.some.inj h
   subst hr
   exact qah (.inr rfl) [] (objs':=[]) (new:=[]) rfl (by simp) (by simp) rfl (by trivial) rfl rfl (by trivial) (fun _=>⟨by simp [V.flat,V.qbg,V.qbb,D.flat],qan⟩) ⟨rfl,rfl,rfl⟩
  ·have h:=qeg h hb11
   refine qab rfl rfl<|qab rfl rfl<|qab rfl rfl<|qab rfl rfl<|qab rfl rfl ?_
   refine qa1 hτ rfl rfl rfl<|qa1 hτ rfl rfl rfl<|qa5 ?_
   refine qaa (qa3 [] (l:=[(4,.d (.bool false))]) (objs:=[]) rfl (by simp) rfl (by trivial) ⟨rfl,trivial,trivial⟩) ?_
   refine qap ?_
   have hr:=Option.some.inj h
   subst hr
   exact qah (.inr rfl) [] (objs':=[]) (new:=[]) rfl (by simp) (by simp) rfl (by trivial) rfl rfl (by trivial) (fun _=>⟨by simp [V.flat,V.qbg,V.qbb,D.flat],qan⟩) ⟨rfl,rfl,rfl⟩
 ·have h:=qeg h hb9
  refine qab rfl rfl<|qab rfl rfl<|qab rfl rfl ?_
  refine qb3 (qa3 [0,1] (l:=[(2,.ptr 0 0),(3,.ptr 1 0),(10,.d (.bool false)),(12,.und),(13,.und)]) (objs:=[.box [.d (.cx .f32 a_.A.re a_.A.im),.d (.cx .f32 a_.B.re a_.B.im),.d (.cx .f32 a_.C.re a_.C.im)],.box [.d (.cx .f32 b_.A.re b_.A.im),.d (.cx .f32 b_.B.re b_.B.im),.d (.cx .f32 b_.C.re b_.C.im)]]) rfl (by simp) rfl (by trivial) ⟨rfl,trivial,rfl,trivial,rfl,trivial,rfl,trivial,rfl,trivial,trivial⟩) ?_
  refine qab rfl rfl<|qab rfl rfl<|qa1 hτ rfl rfl rfl<|qa1 hτ rfl rfl rfl<|qab rfl rfl ?_
  refine qab rfl rfl<|qab rfl rfl<|qab rfl rfl<|qab rfl rfl<|qa1 hτ rfl rfl rfl ?_
  refine qa1 hτ rfl rfl rfl<|qa5 ?_
  refine qaa (qa3 [] (l:=[(4,.d (.bool false))]) (objs:=[]) rfl (by simp) rfl (by trivial) ⟨rfl,trivial,trivial⟩) ?_
  refine qap ?_
  have hr:=Option.some.inj h
  subst hr
  exact qah (.inr rfl) [] (objs':=[]) (new:=[]) rfl (by simp) (by simp) rfl (by trivial) rfl rfl (by trivial) (fun _=>⟨by simp [V.flat,V.qbg,V.qbb,D.flat],qan⟩) ⟨rfl,rfl,rfl⟩
theorem impl_SamePhases_ok (n:Nat) (a_:qad) (b_:qad) {r:Bool} (h:qf4 n a_ b_ = some r):qb1 prog false 13 [.agg [.d (.cx .f32 a_.A.re a_.A.im),.d (.cx .f32 a_.B.re a_.B.im),.d (.cx .f32 a_.C.re a_.C.im)],.agg [.d (.cx .f32 b_.A.re b_.A.im),.d (.cx .f32 b_.B.re b_.B.im),.d (.cx .f32 b_.C.re b_.C.im)]] [] (fun v o new=>v = .d (.bool r)∧o = []∧new = []):=impl_SamePhases_ok_fr0 false n a_ b_ h
def qiu (n:Nat) (x_:Nat):Option Bool :=
 some (fcmp .eql .f32 (qao .sub .f32 x_ x_) (0:Nat))
theorem impl_IsFinite_ok_fr0 (fr:Bool) (n:Nat) (x_:Nat) {r:Bool} (h:qiu n x_ = some r):qb1 prog fr 38 [.d (.fl .f32 x_)] [] (fun v o new=>v = .d (.bool r)∧o = []∧new = []):=by
 refine qak hτ func38 rfl (by simp) (by simp) ?_
 unfold qiu at h
 refine qa8<|qa2<|qa1 hτ rfl rfl rfl<|qa5<|qa8 ?_
 refine qa2<|qa1 hτ rfl rfl rfl<|qa1 hτ rfl rfl rfl<|qa1 hτ rfl rfl rfl<|qa1 hτ rfl rfl rfl ?_
 refine qa1 hτ rfl rfl rfl<|qa5 ?_
 refine qaa (qa3 [] (l:=[(2,.d (.bool (fcmp .eql .f32 (qao .sub .f32 x_ x_) (0:Nat))))]) (objs:=[]) rfl (by simp) rfl (by trivial) ⟨rfl,trivial,trivial⟩) ?_
 refine qap ?_
 have hr:=Option.some.inj h
 subst hr
 exact qah (.inr rfl) [] (objs':=[]) (new:=[]) rfl (by simp) (by simp) rfl (by trivial) rfl rfl (by trivial) (fun _=>⟨by simp [V.flat,V.qbg,V.qbb,D.flat],qan⟩) ⟨rfl,rfl,rfl⟩
theorem impl_IsFinite_ok (n:Nat) (x_:Nat) {r:Bool} (h:qiu n x_ = some r):qb1 prog false 38 [.d (.fl .f32 x_)] [] (fun v o new=>v = .d (.bool r)∧o = []∧new = []):=impl_IsFinite_ok_fr0 false n x_ h
def qlv (n:Nat) (x_:Int) (y_:Int):Option (Int × Int) :=
 some ((IntKind.wrap .u64 ((IntKind.wrap .u64 ((IntKind.wrap .u64 ((x_.fdiv (2 ^ min (32:Int).toNat (IntKind.bits .u64))) * (y_.fdiv (2 ^ min (32:Int).toNat (IntKind.bits .u64))))) + ((IntKind.wrap .u64 ((IntKind.wrap .u64 ((x_.fdiv (2 ^ min (32:Int).toNat (IntKind.bits .u64))) * (qcu .and .u64 y_ (4294967295:Int)))) + ((IntKind.wrap .u64 ((qcu .and .u64 x_ (4294967295:Int)) * (qcu .and .u64 y_ (4294967295:Int)))).fdiv (2 ^ min (32:Int).toNat (IntKind.bits .u64))))).fdiv (2 ^ min (32:Int).toNat (IntKind.bits .u64))))) + ((IntKind.wrap .u64 ((qcu .and .u64 (IntKind.wrap .u64 ((IntKind.wrap .u64 ((x_.fdiv (2 ^ min (32:Int).toNat (IntKind.bits .u64))) * (qcu .and .u64 y_ (4294967295:Int)))) + ((IntKind.wrap .u64 ((qcu .and .u64 x_ (4294967295:Int)) * (qcu .and .u64 y_ (4294967295:Int)))).fdiv (2 ^ min (32:Int).toNat (IntKind.bits .u64))))) (4294967295:Int)) + (IntKind.wrap .u64 ((qcu .and .u64 x_ (4294967295:Int)) * (y_.fdiv (2 ^ min (32:Int).toNat (IntKind.bits .u64))))))).fdiv (2 ^ min (32:Int).toNat (IntKind.bits .u64))))),(IntKind.wrap .u64 (x_ * y_)))
theorem bits_Mul64_ok_fr0 (fr:Bool) (n:Nat) (x_:Int) (y_:Int) {r:Int × Int} (h:qlv n x_ y_ = some r):qb1 prog fr 86 [.d (.int .u64 x_),.d (.int .u64 y_)] [] (fun v o new=>v = .tup [.d (.int .u64 r.1),.d (.int .u64 r.2)]∧o = []∧new = []):=by
 refine qak hτ func86 rfl (by simp) (by simp) ?_
 unfold qlv at h
 refine qa8<|qa2<|qa1 hτ rfl rfl rfl<|qa1 hτ rfl rfl rfl<|qa5 ?_
 refine qa8<|qa2<|qa1 hτ rfl rfl rfl<|qa1 hτ rfl rfl rfl<|qa1 hτ rfl rfl rfl ?_
 refine qa5<|qa8<|qa2<|qa1 hτ rfl rfl rfl ?_
 refine qcg hτ rfl rfl rfl (by decide) ?_
 refine qa1 hτ rfl rfl rfl<|qa5<|qa8 ?_
 refine qaa (qa3 [] (l:=[(0,.d (.int .u64 x_)),(1,.d (.int .u64 y_)),(6,.d (.int .u64 (qcu .and .u64 x_ (4294967295:Int)))),(7,.d (.int .u64 (x_.fdiv (2 ^ min (32:Int).toNat (IntKind.bits .u64)))))]) (objs:=[]) rfl (by simp) rfl (by trivial) ⟨rfl,trivial,rfl,trivial,rfl,trivial,rfl,trivial,trivial⟩) ?_
 refine qa2<|qa1 hτ rfl rfl rfl<|qa1 hτ rfl rfl rfl<|qa1 hτ rfl rfl rfl<|qa5 ?_
 refine qa8<|qa2<|qa1 hτ rfl rfl rfl ?_
 refine qcg hτ rfl rfl rfl (by decide) ?_
 refine qa1 hτ rfl rfl rfl<|qa5<|qa8 ?_
 refine qaa (qa3 [] (l:=[(0,.d (.int .u64 x_)),(1,.d (.int .u64 y_)),(6,.d (.int .u64 (qcu .and .u64 x_ (4294967295:Int)))),(7,.d (.int .u64 (x_.fdiv (2 ^ min (32:Int).toNat (IntKind.bits .u64))))),(8,.d (.int .u64 (qcu .and .u64 y_ (4294967295:Int)))),(9,.d (.int .u64 (y_.fdiv (2 ^ min (32:Int).toNat (IntKind.bits .u64)))))]) (objs:=[]) rfl (by simp) rfl (by trivial) ⟨rfl,trivial,rfl,trivial,rfl,trivial,rfl,trivial,rfl,trivial,rfl,trivial,trivial⟩) ?_
 refine qa2<|qa1 hτ rfl rfl rfl<|qa1 hτ rfl rfl rfl<|qa1 hτ rfl rfl rfl<|qa1 hτ rfl rfl rfl ?_
 refine qa5<|qa8<|qa2<|qa1 hτ rfl rfl rfl<|qa1 hτ rfl rfl rfl ?_
 refine qa1 hτ rfl rfl rfl<|qa1 hτ rfl rfl rfl ?_
 refine qcg hτ rfl rfl rfl (by decide) ?_
 refine qa1 hτ rfl rfl rfl<|qa1 hτ rfl rfl rfl<|qa5<|qa8 ?_
 refine qaa (qa3 [] (l:=[(0,.d (.int .u64 x_)),(1,.d (.int .u64 y_)),(6,.d (.int .u64 (qcu .and .u64 x_ (4294967295:Int)))),(7,.d (.int .u64 (x_.fdiv (2 ^ min (32:Int).toNat (IntKind.bits .u64))))),(9,.d (.int .u64 (y_.fdiv (2 ^ min (32:Int).toNat (IntKind.bits .u64))))),(11,.d (.int .u64 (IntKind.wrap .u64 ((IntKind.wrap .u64 ((x_.fdiv (2 ^ min (32:Int).toNat (IntKind.bits .u64))) * (qcu .and .u64 y_ (4294967295:Int)))) + ((IntKind.wrap .u64 ((qcu .and .u64 x_ (4294967295:Int)) * (qcu .and .u64 y_ (4294967295:Int)))).fdiv (2 ^ min (32:Int).toNat (IntKind.bits .u64)))))))]) (objs:=[]) rfl (by simp) rfl (by trivial) ⟨rfl,trivial,rfl,trivial,rfl,trivial,rfl,trivial,rfl,trivial,rfl,trivial,trivial⟩) ?_
 refine qa2<|qa1 hτ rfl rfl rfl<|qa1 hτ rfl rfl rfl<|qa1 hτ rfl rfl rfl<|qa5 ?_
 refine qa8<|qa2<|qa1 hτ rfl rfl rfl ?_
 refine qcg hτ rfl rfl rfl (by decide) ?_
 refine qa1 hτ rfl rfl rfl<|qa5<|qa8 ?_
 refine qaa (qa3 [] (l:=[(0,.d (.int .u64 x_)),(1,.d (.int .u64 y_)),(6,.d (.int .u64 (qcu .and .u64 x_ (4294967295:Int)))),(7,.d (.int .u64 (x_.fdiv (2 ^ min (32:Int).toNat (IntKind.bits .u64))))),(9,.d (.int .u64 (y_.fdiv (2 ^ min (32:Int).toNat (IntKind.bits .u64))))),(12,.d (.int .u64 (qcu .and .u64 (IntKind.wrap .u64 ((IntKind.wrap .u64 ((x_.fdiv (2 ^ min (32:Int).toNat (IntKind.bits .u64))) * (qcu .and .u64 y_ (4294967295:Int)))) + ((IntKind.wrap .u64 ((qcu .and .u64 x_ (4294967295:Int)) * (qcu .and .u64 y_ (4294967295:Int)))).fdiv (2 ^ min (32:Int).toNat (IntKind.bits .u64))))) (4294967295:Int)))),(13,.d (.int .u64 ((IntKind.wrap .u64 ((IntKind.wrap .u64 ((x_.fdiv (2 ^ min (32:Int).toNat (IntKind.bits .u64))) * (qcu .and .u64 y_ (4294967295:Int)))) + ((IntKind.wrap .u64 ((qcu .and .u64 x_ (4294967295:Int)) * (qcu .and .u64 y_ (4294967295:Int)))).fdiv (2 ^ min (32:Int).toNat (IntKind.bits .u64))))).fdiv (2 ^ min (32:Int).toNat (IntKind.bits .u64)))))]) (objs:=[]) rfl (by simp) rfl (by trivial) ⟨rfl,trivial,rfl,trivial,rfl,trivial,rfl,trivial,rfl,trivial,rfl,trivial,rfl,trivial,trivial⟩) ?_
 refine qa2<|qa1 hτ rfl rfl rfl<|qa1 hτ rfl rfl rfl<|qa1 hτ rfl rfl rfl<|qa1 hτ rfl rfl rfl ?_
 refine qa1 hτ rfl rfl rfl<|qa1 hτ rfl rfl rfl<|qa5<|qa8 ?_
 refine qaa (qa3 [] (l:=[(0,.d (.int .u64 x_)),(1,.d (.int .u64 y_)),(7,.d (.int .u64 (x_.fdiv (2 ^ min (32:Int).toNat (IntKind.bits .u64))))),(9,.d (.int .u64 (y_.fdiv (2 ^ min (32:Int).toNat (IntKind.bits .u64))))),(12,.d (.int .u64 (IntKind.wrap .u64 ((qcu .and .u64 (IntKind.wrap .u64 ((IntKind.wrap .u64 ((x_.fdiv (2 ^ min (32:Int).toNat (IntKind.bits .u64))) * (qcu .and .u64 y_ (4294967295:Int)))) + ((IntKind.wrap .u64 ((qcu .and .u64 x_ (4294967295:Int)) * (qcu .and .u64 y_ (4294967295:Int)))).fdiv (2 ^ min (32:Int).toNat (IntKind.bits .u64))))) (4294967295:Int)) + (IntKind.wrap .u64 ((qcu .and .u64 x_ (4294967295:Int)) * (y_.fdiv (2 ^ min (32:Int).toNat (IntKind.bits .u64))))))))),(13,.d (.int .u64 ((IntKind.wrap .u64 ((IntKind.wrap .u64 ((x_.fdiv (2 ^ min (32:Int).toNat (IntKind.bits .u64))) * (qcu .and .u64 y_ (4294967295:Int)))) + ((IntKind.wrap .u64 ((qcu .and .u64 x_ (4294967295:Int)) * (qcu .and .u64 y_ (4294967295:Int)))).fdiv (2 ^ min (32:Int).toNat (IntKind.bits .u64))))).fdiv (2 ^ min (32:Int).toNat (IntKind.bits .u64)))))]) (objs:=[]) rfl (by simp) rfl (by trivial) ⟨rfl,trivial,rfl,trivial,rfl,trivial,rfl,trivial,rfl,trivial,rfl,trivial,trivial⟩) ?_
 refine qa2<|qa1 hτ rfl rfl rfl<|qa1 hτ rfl rfl rfl<|qa1 hτ rfl rfl rfl<|qa1 hτ rfl rfl rfl ?_
 refine qa1 hτ rfl rfl rfl<|qa1 hτ rfl rfl rfl ?_
 refine qcg hτ rfl rfl rfl (by decide) ?_
 refine qa1 hτ rfl rfl rfl<|qa1 hτ rfl rfl rfl<|qa5<|qa8 ?_
 refine qaa (qa3 [] (l:=[(0,.d (.int .u64 x_)),(1,.d (.int .u64 y_)),(4,.d (.int .u64 (IntKind.wrap .u64 ((IntKind.wrap .u64 ((IntKind.wrap .u64 ((x_.fdiv (2 ^ min (32:Int).toNat (IntKind.bits .u64))) * (y_.fdiv (2 ^ min (32:Int).toNat (IntKind.bits .u64))))) + ((IntKind.wrap .u64 ((IntKind.wrap .u64 ((x_.fdiv (2 ^ min (32:Int).toNat (IntKind.bits .u64))) * (qcu .and .u64 y_ (4294967295:Int)))) + ((IntKind.wrap .u64 ((qcu .and .u64 x_ (4294967295:Int)) * (qcu .and .u64 y_ (4294967295:Int)))).fdiv (2 ^ min (32:Int).toNat (IntKind.bits .u64))))).fdiv (2 ^ min (32:Int).toNat (IntKind.bits .u64))))) + ((IntKind.wrap .u64 ((qcu .and .u64 (IntKind.wrap .u64 ((IntKind.wrap .u64 ((x_.fdiv (2 ^ min (32:Int).toNat (IntKind.bits .u64))) * (qcu .and .u64 y_ (4294967295:Int)))) + ((IntKind.wrap .u64 ((qcu .and .u64 x_ (4294967295:Int)) * (qcu .and .u64 y_ (4294967295:Int)))).fdiv (2 ^ min (32:Int).toNat (IntKind.bits .u64))))) (4294967295:Int)) + (IntKind.wrap .u64 ((qcu .and .u64 x_ (4294967295:Int)) * (y_.fdiv (2 ^ min (32:Int).toNat (IntKind.bits .u64))))))).fdiv (2 ^ min (32:Int).toNat (IntKind.bits .u64)))))))]) (objs:=[]) rfl (by simp) rfl (by trivial) ⟨rfl,trivial,rfl,trivial,rfl,trivial,trivial⟩) ?_
 refine qa2<|qa1 hτ rfl rfl rfl<|qa1 hτ rfl rfl rfl<|qa1 hτ rfl rfl rfl<|qa1 hτ rfl rfl rfl ?_
 refine qa5 ?_
 refine qaa (qa3 [] (l:=[(4,.d (.int .u64 (IntKind.wrap .u64 ((IntKind.wrap .u64 ((IntKind.wrap .u64 ((x_.fdiv (2 ^ min (32:Int).toNat (IntKind.bits .u64))) * (y_.fdiv (2 ^ min (32:Int).toNat (IntKind.bits .u64))))) + ((IntKind.wrap .u64 ((IntKind.wrap .u64 ((x_.fdiv (2 ^ min (32:Int).toNat (IntKind.bits .u64))) * (qcu .and .u64 y_ (4294967295:Int)))) + ((IntKind.wrap .u64 ((qcu .and .u64 x_ (4294967295:Int)) * (qcu .and .u64 y_ (4294967295:Int)))).fdiv (2 ^ min (32:Int).toNat (IntKind.bits .u64))))).fdiv (2 ^ min (32:Int).toNat (IntKind.bits .u64))))) + ((IntKind.wrap .u64 ((qcu .and .u64 (IntKind.wrap .u64 ((IntKind.wrap .u64 ((x_.fdiv (2 ^ min (32:Int).toNat (IntKind.bits .u64))) * (qcu .and .u64 y_ (4294967295:Int)))) + ((IntKind.wrap .u64 ((qcu .and .u64 x_ (4294967295:Int)) * (qcu .and .u64 y_ (4294967295:Int)))).fdiv (2 ^ min (32:Int).toNat (IntKind.bits .u64))))) (4294967295:Int)) + (IntKind.wrap .u64 ((qcu .and .u64 x_ (4294967295:Int)) * (y_.fdiv (2 ^ min (32:Int).toNat (IntKind.bits .u64))))))).fdiv (2 ^ min (32:Int).toNat (IntKind.bits .u64))))))),(5,.d (.int .u64 (IntKind.wrap .u64 (x_ * y_))))]) (objs:=[]) rfl (by simp) rfl (by trivial) ⟨rfl,trivial,rfl,trivial,trivial⟩) ?_
 refine qap ?_
 have hr:=Option.some.inj h
 subst hr
 exact qah (.inr rfl) [] (objs':=[]) (new:=[]) rfl (by simp) (by simp) rfl (by trivial) rfl rfl (by trivial) (fun _=>⟨by simp [V.flat,V.qbg,V.qbb,D.flat],qan⟩) ⟨rfl,rfl,rfl⟩
theorem bits_Mul64_ok (n:Nat) (x_:Int) (y_:Int) {r:Int × Int} (h:qlv n x_ y_ = some r):qb1 prog false 86 [.d (.int .u64 x_),.d (.int .u64 y_)] [] (fun v o new=>v = .tup [.d (.int .u64 r.1),.d (.int .u64 r.2)]∧o = []∧new = []):=bits_Mul64_ok_fr0 false n x_ y_ h
def qn6 (n:Nat) (x_:Int) (y_:Int):Option (Int × Int) :=
 (qlv n x_ y_).bind fun x2 =>
 some (x2.1,x2.2)
theorem bits_Mul_ok_fr0 (fr:Bool) (n:Nat) (x_:Int) (y_:Int) {r:Int × Int} (h:qn6 n x_ y_ = some r):qb1 prog fr 71 [.d (.int .u64 x_),.d (.int .u64 y_)] [] (fun v o new=>v = .tup [.d (.int .u64 r.1),.d (.int .u64 r.2)]∧o = []∧new = []):=by
 refine qak hτ func71 rfl (by simp) (by simp) ?_
 unfold qn6 at h
 refine qa8<|qa2<|qa1 hτ rfl rfl rfl<|qa1 hτ rfl rfl rfl<|qa5 ?_
 refine qa8 ?_
 refine qaq (b:=false) rfl (fun hd=>nomatch hd) (fun _=>?_)
 refine qat<|qa8<|qa2<|qa1 hτ rfl rfl rfl<|qa1 hτ rfl rfl rfl ?_
 refine qaf h fun x2 hx2 h=>?_
 refine qae hτ false [] rfl rfl rfl (qaj func86 rfl rfl) rfl rfl (by simp) ⟨trivial,trivial,trivial⟩ (by trivial) (bits_Mul64_ok n x_ y_ hx2) ?_
 rintro r0 o0 n0 ⟨rfl,rfl,rfl⟩ -
 refine qa1 hτ rfl rfl rfl<|qa1 hτ rfl rfl rfl<|qa1 hτ rfl rfl rfl<|qa1 hτ rfl rfl rfl<|qa1 hτ rfl rfl rfl ?_
 refine qa5<|qa8 ?_
 refine qaa (qa3 [] (l:=[(8,.d (.int .u64 x2.1)),(9,.d (.int .u64 x2.2))]) (objs:=[]) rfl (by simp) rfl (by trivial) ⟨rfl,trivial,rfl,trivial,trivial⟩) ?_
 refine qa2<|qa1 hτ rfl rfl rfl<|qa1 hτ rfl rfl rfl<|qa1 hτ rfl rfl rfl<|qa1 hτ rfl rfl rfl ?_
 refine qa5 ?_
 refine qaa (qa3 [] (l:=[(4,.d (.int .u64 x2.1)),(5,.d (.int .u64 x2.2))]) (objs:=[]) rfl (by simp) rfl (by trivial) ⟨rfl,trivial,rfl,trivial,trivial⟩) ?_
 refine qap ?_
 have hr:=Option.some.inj h
 subst hr
 exact qah (.inr rfl) [] (objs':=[]) (new:=[]) rfl (by simp) (by simp) rfl (by trivial) rfl rfl (by trivial) (fun _=>⟨by simp [V.flat,V.qbg,V.qbb,D.flat],qan⟩) ⟨rfl,rfl,rfl⟩
theorem bits_Mul_ok (n:Nat) (x_:Int) (y_:Int) {r:Int × Int} (h:qn6 n x_ y_ = some r):qb1 prog false 71 [.d (.int .u64 x_),.d (.int .u64 y_)] [] (fun v o new=>v = .tup [.d (.int .u64 r.1),.d (.int .u64 r.2)]∧o = []∧new = []):=bits_Mul_ok_fr0 false n x_ y_ h
def qfy (n:Nat):Nat→List qad→Int→Option (List qad)
 | 0,_,_=>none
 | m32 + 1,v25,v26 =>
  if v26 < (v25.length:Int) then
   grd (0 ≤ v26∧v26 ≤ (v25.length:Int)∧(v25.length:Int) ≤ (v25.length:Int)∧0 < v25.length) <|
   grd (0 ≤ (0:Int)∧(0:Int) ≤ v26∧v26 ≤ (v25.length:Int)∧0 < v25.length) <|
   grd ((0 + v26.toNat) + ((v25.length:Int).toNat - v26.toNat) ≤ v25.length∧0 < v25.length) <|
   (qfy n m32) (setL v25 (0 + v26.toNat) ((((v25).drop (0 + (0:Int).toNat)).take (v26.toNat - (0:Int).toNat)).take (min (((v25).drop (0 + (0:Int).toNat)).take (v26.toNat - (0:Int).toNat)).length ((v25.length:Int).toNat - v26.toNat)))) (w64 (v26 + ((min (((v25).drop (0 + (0:Int).toNat)).take (v26.toNat - (0:Int).toNat)).length ((v25.length:Int).toNat - v26.toNat):Nat):Int)))
  else
   some v25
def qip (n:Nat) (x_:List qad) (x17:Int × Int):Option (List qad) :=
 grd (0 ≤ (w64 (x17.2))∧room (w64 (x17.2)).toNat 24) <|
 grd (0 + (List.replicate (w64 (x17.2)).toNat (qad.mk (Cx.mk (0:Nat) (0:Nat)) (Cx.mk (0:Nat) (0:Nat)) (Cx.mk (0:Nat) (0:Nat)))).length ≤ ((List.replicate (w64 (x17.2)).toNat (qad.mk (Cx.mk (0:Nat) (0:Nat)) (Cx.mk (0:Nat) (0:Nat)) (Cx.mk (0:Nat) (0:Nat)))).length)∧0 < ((List.replicate (w64 (x17.2)).toNat (qad.mk (Cx.mk (0:Nat) (0:Nat)) (Cx.mk (0:Nat) (0:Nat)) (Cx.mk (0:Nat) (0:Nat)))).length)) <|
 qfy n n (setL (List.replicate (w64 (x17.2)).toNat (qad.mk (Cx.mk (0:Nat) (0:Nat)) (Cx.mk (0:Nat) (0:Nat)) (Cx.mk (0:Nat) (0:Nat)))) 0 (x_.take (min x_.length ((List.replicate (w64 (x17.2)).toNat (qad.mk (Cx.mk (0:Nat) (0:Nat)) (Cx.mk (0:Nat) (0:Nat)) (Cx.mk (0:Nat) (0:Nat)))).length)))) ((min x_.length ((List.replicate (w64 (x17.2)).toNat (qad.mk (Cx.mk (0:Nat) (0:Nat)) (Cx.mk (0:Nat) (0:Nat)) (Cx.mk (0:Nat) (0:Nat)))).length):Nat):Int)
def qhb (n:Nat) (x_:List qad) (x17:Int × Int) (v41:Bool):Option (List qad) :=
 if v41 = true then
  none
 else
  qip n x_ x17
def qdm (n:Nat) (x_:List qad) (count_:Int):Option (List qad) :=
 if count_ < (0:Int) then
  none
 else
  (qn6 n (IntKind.wrap .u64 ((x_.length:Int))) (IntKind.wrap .u64 (count_))).bind fun x17 =>
  if x17.1 > (0:Int) then
   qhb n x_ x17 true
  else
   qhb n x_ x17 (decide (x17.2 > (9223372036854775807:Int)))
theorem slices_Repeat_ok_fr0 (fr:Bool) (n:Nat) (x_:List qad) (count_:Int) {r:List qad} (h:qdm n x_ count_ = some r):qb1 prog fr 56 [.d (.sl false (x_.map qai)),.d (.int .i64 count_)] [] (fun v o new=>v = .row 0 r.length 0 r.length∧o = []∧new = [.row 3 (r.map qai)]):=by
 refine qak hτ func56 rfl (by simp) (by simp) ?_
 unfold qdm at h
 refine qa8<|qa2<|qa1 hτ rfl rfl rfl<|qa5<|qa8 ?_
 refine qa8<|qa2<|qa1 hτ rfl rfl rfl<|qa1 hτ rfl rfl rfl<|qa5 ?_
 refine qaq rfl (fun hc16=>?_) (fun hc16=>?_)
 ·have h:=if_t h hc16
  refine qa2 ?_
  exact nomatch h
 ·have h:=if_f h hc16
  refine qat<|qa8<|qa2<|qa1 hτ rfl rfl rfl ?_
  refine qa1 hτ (v:=.d (.int .i64 (x_.length:Int))) rfl rfl (Eq.trans rfl (qei (f:=qai) x_)) ?_
  refine qa1 hτ rfl rfl rfl<|qa1 hτ rfl rfl rfl<|qa1 hτ rfl rfl rfl ?_
  refine qaf h fun x17 hx17 h=>?_
  refine qae hτ false [] rfl rfl rfl (qaj func71 rfl rfl) rfl rfl (by simp) ⟨trivial,trivial,trivial⟩ (by trivial) (bits_Mul_ok n (IntKind.wrap .u64 ((x_.length:Int))) (IntKind.wrap .u64 (count_)) hx17) ?_
  rintro r0 o0 n0 ⟨rfl,rfl,rfl⟩ -
  refine qa1 hτ rfl rfl rfl<|qa1 hτ rfl rfl rfl<|qa1 hτ rfl rfl rfl ?_
  refine qb3 (qa3 [] (l:=[(0,.d (.sl false (x_.map qai))),(19,.d (.int .u64 x17.1)),(20,.d (.int .u64 x17.2))]) (objs:=[]) rfl (by simp) rfl (by trivial) ⟨rfl,trivial,rfl,trivial,rfl,trivial,trivial⟩) ?_
  refine qa1 hτ rfl rfl rfl<|qa1 hτ rfl rfl rfl<|qa5 ?_
  refine qby (ι:=Unit) (fun _=>St.of [(0,.d (.sl false (x_.map qai))),(6,.d (.int .u64 x17.2))] [] f56.ntmps 0) (fun _=>qip n x_ x17 = some r) ?_ (fun hk38=>?_)
  ·rintro ⟨⟩ h
   replace h:qip n x_ x17 = some r:=h
   unfold qip at h
   refine qa8<|qa2<|qa1 hτ rfl rfl rfl<|qa1 hτ rfl rfl rfl ?_
   refine qci h fun hg20 h=>?_
   refine qi7 hτ rfl rfl (Eq.trans rfl (or_make (f:=qai) (x:=(qad.mk (Cx.mk (0:Nat) (0:Nat)) (Cx.mk (0:Nat) (0:Nat)) (Cx.mk (0:Nat) (0:Nat)))) rfl)) (make_need hg20 (by decide)) ?_
   refine qa1 hτ rfl rfl rfl<|qa5<|qa8<|qa2<|qa1 hτ rfl rfl rfl ?_
   refine qa1 hτ rfl rfl rfl ?_
   refine qci h fun hg21 h=>?_
   refine qi7 hτ rfl rfl (Eq.trans rfl (qw7 (f:=qai) (List.replicate (w64 (x17.2)).toNat (qad.mk (Cx.mk (0:Nat) (0:Nat)) (Cx.mk (0:Nat) (0:Nat)) (Cx.mk (0:Nat) (0:Nat)))) x_ 0 ((List.replicate (w64 (x17.2)).toNat (qad.mk (Cx.mk (0:Nat) (0:Nat)) (Cx.mk (0:Nat) (0:Nat)) (Cx.mk (0:Nat) (0:Nat)))).length) rfl)) ⟨trivial,(qb4 _),hg21.1,hg21.2,(qo9 (f:=qai) (fun _=>rfl) _)⟩ ?_
   refine qa1 hτ rfl rfl rfl<|qa5<|qa8<|qay ?_
   refine qde (ι:=Nat × List qad × Int) (fun (m32,v25,v26)=>St.of [(7,.row 0 v25.length 0 v25.length),(8,.d (.int .i64 v26))] [.row 3 (v25.map qai)] f56.ntmps 0) (fun (m32,v25,v26)=>qfy n m32 v25 v26 = some r) (fun x=>x.1) (n,(setL (List.replicate (w64 (x17.2)).toNat (qad.mk (Cx.mk (0:Nat) (0:Nat)) (Cx.mk (0:Nat) (0:Nat)) (Cx.mk (0:Nat) (0:Nat)))) 0 (x_.take (min x_.length ((List.replicate (w64 (x17.2)).toNat (qad.mk (Cx.mk (0:Nat) (0:Nat)) (Cx.mk (0:Nat) (0:Nat)) (Cx.mk (0:Nat) (0:Nat)))).length)))),((min x_.length ((List.replicate (w64 (x17.2)).toNat (qad.mk (Cx.mk (0:Nat) (0:Nat)) (Cx.mk (0:Nat) (0:Nat)) (Cx.mk (0:Nat) (0:Nat)))).length):Nat):Int)) h (qa3 [0] (l:=[(7,.row 0 ((setL (List.replicate (w64 (x17.2)).toNat (qad.mk (Cx.mk (0:Nat) (0:Nat)) (Cx.mk (0:Nat) (0:Nat)) (Cx.mk (0:Nat) (0:Nat)))) 0 (x_.take (min x_.length ((List.replicate (w64 (x17.2)).toNat (qad.mk (Cx.mk (0:Nat) (0:Nat)) (Cx.mk (0:Nat) (0:Nat)) (Cx.mk (0:Nat) (0:Nat)))).length)))).length) 0 ((setL (List.replicate (w64 (x17.2)).toNat (qad.mk (Cx.mk (0:Nat) (0:Nat)) (Cx.mk (0:Nat) (0:Nat)) (Cx.mk (0:Nat) (0:Nat)))) 0 (x_.take (min x_.length ((List.replicate (w64 (x17.2)).toNat (qad.mk (Cx.mk (0:Nat) (0:Nat)) (Cx.mk (0:Nat) (0:Nat)) (Cx.mk (0:Nat) (0:Nat)))).length)))).length)),(8,.d (.int .i64 ((min x_.length ((List.replicate (w64 (x17.2)).toNat (qad.mk (Cx.mk (0:Nat) (0:Nat)) (Cx.mk (0:Nat) (0:Nat)) (Cx.mk (0:Nat) (0:Nat)))).length):Nat):Int)))]) (objs:=[.row 3 ((setL (List.replicate (w64 (x17.2)).toNat (qad.mk (Cx.mk (0:Nat) (0:Nat)) (Cx.mk (0:Nat) (0:Nat)) (Cx.mk (0:Nat) (0:Nat)))) 0 (x_.take (min x_.length ((List.replicate (w64 (x17.2)).toNat (qad.mk (Cx.mk (0:Nat) (0:Nat)) (Cx.mk (0:Nat) (0:Nat)) (Cx.mk (0:Nat) (0:Nat)))).length)))).map qai)]) rfl (by simp) rfl (by trivial) ⟨(qpg rfl (by simp [qmi])),trivial,rfl,trivial,trivial⟩) ?_
   rintro ⟨m32,v25,v26⟩ h
   replace h:qfy n m32 v25 v26 = some r:=h
   rcases m32 with _ | m32
   ·rw [qfy] at h;cases h
   rw [qfy] at h
   refine qa8<|qa8<|qa2<|qa1 hτ rfl rfl rfl<|qa1 hτ rfl rfl rfl ?_
   refine qcg hτ rfl rfl rfl (qb4 _) ?_
   refine qa1 hτ rfl rfl rfl<|qa5 ?_
   refine qaq rfl (fun hc34=>?_) (fun hc34=>?_)
   ·have h:=if_t h hc34
    refine qat<|qay<|qd5 ?_
    refine qa4 hτ [] 0 rfl rfl rfl rfl rfl ?_
    refine qa4 hτ [] 1 rfl rfl rfl rfl rfl ?_
    refine qa4 hτ [] 2 rfl rfl rfl rfl rfl ?_
    refine qci h fun hg35 h=>?_
    refine qca hτ (v:=.row 0 v25.length (0 + v26.toNat) ((v25.length:Int).toNat - v26.toNat)) [0] 3 rfl rfl rfl rfl rfl ⟨(qb4 _),hg35.1,hg35.2.1,hg35.2.2.1,by omega,hg35.2.2.2⟩ ?_
    refine qa4 hτ [] 4 rfl rfl rfl rfl rfl ?_
    refine qa4 hτ [] 5 rfl rfl rfl rfl rfl ?_
    refine qci h fun hg36 h=>?_
    refine qca hτ (v:=.row 0 v25.length (0 + (0:Int).toNat) (v26.toNat - (0:Int).toNat)) [0] 6 rfl rfl rfl rfl rfl ⟨(qb4 _),hg36.1,hg36.2.1,hg36.2.2.1,by omega,hg36.2.2.2⟩ ?_
    refine qci h fun hg37 h=>?_
    refine qif hτ [] 7 rfl rfl rfl (Eq.trans rfl (qw7 (f:=qai) v25 (((v25).drop (0 + (0:Int).toNat)).take (v26.toNat - (0:Int).toNat)) (0 + v26.toNat) ((v25.length:Int).toNat - v26.toNat) (qsh _ _ _))) ⟨⟨(qb4 _),by omega⟩,(qb4 _),hg37.1,hg37.2,(by rw [qsh];exact qo9 (f:=qai) (fun _=>rfl) _)⟩ trivial ?_
    refine qa4 hτ [] 8 rfl rfl rfl rfl rfl ?_
    refine qa4 hτ [] 9 rfl rfl rfl rfl rfl ?_
    refine qbo mixed (by kernel_rfl) ?_
    exact ⟨(m32,(setL v25 (0 + v26.toNat) ((((v25).drop (0 + (0:Int).toNat)).take (v26.toNat - (0:Int).toNat)).take (min (((v25).drop (0 + (0:Int).toNat)).take (v26.toNat - (0:Int).toNat)).length ((v25.length:Int).toNat - v26.toNat)))),(w64 (v26 + ((min (((v25).drop (0 + (0:Int).toNat)).take (v26.toNat - (0:Int).toNat)).length ((v25.length:Int).toNat - v26.toNat):Nat):Int)))),h,Nat.lt_succ_self m32,(qa3 [0] (l:=[(7,.row 0 ((setL v25 (0 + v26.toNat) ((((v25).drop (0 + (0:Int).toNat)).take (v26.toNat - (0:Int).toNat)).take (min (((v25).drop (0 + (0:Int).toNat)).take (v26.toNat - (0:Int).toNat)).length ((v25.length:Int).toNat - v26.toNat)))).length) 0 ((setL v25 (0 + v26.toNat) ((((v25).drop (0 + (0:Int).toNat)).take (v26.toNat - (0:Int).toNat)).take (min (((v25).drop (0 + (0:Int).toNat)).take (v26.toNat - (0:Int).toNat)).length ((v25.length:Int).toNat - v26.toNat)))).length)),(8,.d (.int .i64 (w64 (v26 + ((min (((v25).drop (0 + (0:Int).toNat)).take (v26.toNat - (0:Int).toNat)).length ((v25.length:Int).toNat - v26.toNat):Nat):Int)))))]) (objs:=[.row 3 ((setL v25 (0 + v26.toNat) ((((v25).drop (0 + (0:Int).toNat)).take (v26.toNat - (0:Int).toNat)).take (min (((v25).drop (0 + (0:Int).toNat)).take (v26.toNat - (0:Int).toNat)).length ((v25.length:Int).toNat - v26.toNat)))).map qai)]) rfl (by simp) rfl (by trivial) ⟨(qpg rfl (by simp [qmi])),trivial,rfl,trivial,trivial⟩)⟩
   ·have h:=if_f h hc34
    refine qd3<|qa8<|qa2<|qa1 hτ rfl rfl rfl<|qa1 hτ rfl rfl rfl ?_
    refine qa5 ?_
    refine qaa (qa3 [0] (l:=[(4,.row 0 v25.length 0 v25.length)]) (objs:=[.row 3 (v25.map qai)]) rfl (by simp) rfl (by trivial) ⟨rfl,trivial,trivial⟩) ?_
    refine qap ?_
    have hr:=Option.some.inj h
    subst hr
    exact qah (.inr rfl) [0] (objs':=[]) (new:=[.row 3 (v25.map qai)]) rfl (by simp) (by simp) rfl (by trivial) rfl rfl (by trivial) (fun _=>⟨by simp [V.flat,V.qbg,V.qbb,D.flat],(qc8 (qgt qmd _) qan)⟩) ⟨rfl,rfl,rfl⟩
  ·refine qa8 ?_
   refine qby (ι:=Bool) (fun v41=>St.of [(0,.d (.sl false (x_.map qai))),(6,.d (.int .u64 x17.2)),(26,.d (.bool v41))] [] f56.ntmps 0) (fun v41=>qhb n x_ x17 v41 = some r) ?_ (fun hk43=>?_)
   ·rintro v41 h
    replace h:qhb n x_ x17 v41 = some r:=h
    unfold qhb at h
    refine qaq rfl (fun hc42=>?_) (fun hc42=>?_)
    ·have h:=qeh h hc42
     refine qa2 ?_
     exact nomatch h
    ·have h:=qeg h hc42
     refine qat ?_
     refine qaa (qa3 [] (l:=[(0,.d (.sl false (x_.map qai))),(6,.d (.int .u64 x17.2))]) (objs:=[]) rfl (by simp) rfl (by trivial) ⟨rfl,trivial,rfl,trivial,trivial⟩) ?_
     exact hk38 () h
   ·refine qa8<|qa2<|qa1 hτ rfl rfl rfl<|qa1 hτ rfl rfl rfl<|qa1 hτ rfl rfl rfl ?_
    refine qbq 23 rfl (fun hb44=>?_) (fun hb44=>?_)
    ·have h:=if_t h hb44
     refine qab rfl rfl<|qab rfl rfl<|qa1 hτ rfl rfl rfl<|qa5 ?_
     refine qaa (qa3 [] (l:=[(0,.d (.sl false (x_.map qai))),(6,.d (.int .u64 x17.2)),(26,.d (.bool true))]) (objs:=[]) rfl (by simp) rfl (by trivial) ⟨rfl,trivial,rfl,trivial,rfl,trivial,trivial⟩) ?_
     exact hk43 true h
    ·have h:=if_f h hb44
     refine qa1 hτ rfl rfl rfl<|qa1 hτ rfl rfl rfl<|qa1 hτ rfl rfl rfl<|qa5 ?_
     refine qaa (qa3 [] (l:=[(0,.d (.sl false (x_.map qai))),(6,.d (.int .u64 x17.2)),(26,.d (.bool (decide (x17.2 > (9223372036854775807:Int)))))]) (objs:=[]) rfl (by simp) rfl (by trivial) ⟨rfl,trivial,rfl,trivial,rfl,trivial,trivial⟩) ?_
     exact hk43 (decide (x17.2 > (9223372036854775807:Int))) h
theorem slices_Repeat_ok_fr (n:Nat) (x_:List qad) (count_:Int) {r:List qad} (h:qdm n x_ count_ = some r):qb1 prog true 56 [.d (.sl false (x_.map qai)),.d (.int .i64 count_)] [] (fun v o new=>v = .row 0 r.length 0 r.length∧o = []∧new = [.row 3 (r.map qai)]):=slices_Repeat_ok_fr0 true n x_ count_ h
def qh0 (n:Nat) (f_:qau):Option (List qad) :=
 (qdm n [f_.Source] (f_.qa7.length:Int)).bind fun x2 =>
 some x2
theorem impl_Feeder_flat_ok (n:Nat) (f_:qau) {r:List qad} (h:qh0 n f_ = some r):qb1 prog false 39 [.ptr 0 0] [.box [.d (.cx .f32 f_.Source.A.re f_.Source.A.im),.d (.cx .f32 f_.Source.B.re f_.Source.B.im),.d (.cx .f32 f_.Source.C.re f_.Source.C.im),.d (.sl false (f_.qa7.map qac))]] (fun v o new=>v = .row 1 r.length 0 r.length∧o = [.box [.d (.cx .f32 f_.Source.A.re f_.Source.A.im),.d (.cx .f32 f_.Source.B.re f_.Source.B.im),.d (.cx .f32 f_.Source.C.re f_.Source.C.im),.d (.sl false (f_.qa7.map qac))]]∧new = [.row 3 (r.map qai)]):=by
 refine qak hτ func39 rfl (by simp) (by simp) ?_
 unfold qh0 at h
 refine qa8<|qa2<|qa1 hτ rfl rfl rfl<|qa5<|qa8 ?_
 refine qd5 ?_
 refine qa4 hτ [] 0 rfl rfl rfl rfl rfl ?_
 refine qa4 hτ [] 1 rfl rfl rfl rfl rfl ?_
 refine qa4 hτ [0] 2 rfl rfl rfl rfl rfl ?_
 refine qa4 hτ [0] 3 rfl rfl rfl rfl rfl ?_
 refine qa4 hτ [] 5 rfl rfl rfl rfl rfl ?_
 refine qa4 hτ [] 6 rfl rfl rfl rfl rfl ?_
 refine qa4 hτ [0] 7 rfl rfl rfl rfl rfl ?_
 refine qa4 hτ [0] 8 rfl rfl rfl rfl rfl ?_
 refine qa4 hτ (v:=.d (.int .i64 (f_.qa7.length:Int))) [] 9 rfl rfl rfl rfl (Eq.trans rfl (qei (f:=qac) f_.qa7)) ?_
 refine qbf hτ [0] 4 rfl rfl rfl rfl ⟨rfl,trivial⟩ ?_
 refine qaf h fun x2 hx2 h=>?_
 refine qcf hτ true [] [0,1] 10 rfl rfl rfl rfl (qaj func56 rfl rfl) (qbe (qgy (f:=qai) (j:=1) (sz:=3) [f_.Source] rfl rfl rfl) (qbe rfl qgu)) rfl (by simp) ⟨(qfg (f:=qai) (j:=1) (sz:=3) [f_.Source] rfl rfl rfl),trivial,trivial⟩ (by trivial) (slices_Repeat_ok_fr n [f_.Source] (f_.qa7.length:Int) hx2) ⟨rfl,rfl,trivial⟩ ?_
 refine qa4 hτ [] 11 rfl rfl rfl rfl rfl ?_
 refine qbo mixed (by kernel_rfl) ?_
 refine qaa (qa3 [0,2] (l:=[(2,.row 1 x2.length 0 x2.length)]) (objs:=[.box [.d (.cx .f32 f_.Source.A.re f_.Source.A.im),.d (.cx .f32 f_.Source.B.re f_.Source.B.im),.d (.cx .f32 f_.Source.C.re f_.Source.C.im),.d (.sl false (f_.qa7.map qac))],.row 3 (x2.map qai)]) rfl (by simp) rfl (by trivial) ⟨rfl,trivial,trivial⟩) ?_
 refine qap ?_
 have hr:=Option.some.inj h
 subst hr
 exact qah (.inr rfl) [1] (objs':=[.box [.d (.cx .f32 f_.Source.A.re f_.Source.A.im),.d (.cx .f32 f_.Source.B.re f_.Source.B.im),.d (.cx .f32 f_.Source.C.re f_.Source.C.im),.d (.sl false (f_.qa7.map qac))]]) (new:=[.row 3 (x2.map qai)]) rfl (by simp) (by simp) rfl (by trivial) rfl rfl (by trivial) (fun h=>nomatch h) ⟨rfl,rfl,rfl⟩
def qen (n:Nat) (x_:Cx):Option (Nat × Nat) :=
 (ql6 .f32 .f64 x_.re).bind fun x3 =>
 (ql6 .f32 .f64 x_.im).bind fun x4 =>
 some (x3,x4)
theorem impl_wide_ok_fr0 (fr:Bool) (n:Nat) (x_:Cx) {r:Nat × Nat} (h:qen n x_ = some r):qb1 prog fr 94 [.d (.cx .f32 x_.re x_.im)] [] (fun v o new=>v = .tup [.d (.fl .f64 r.1),.d (.fl .f64 r.2)]∧o = []∧new = []):=by
 refine qak hτ func94 rfl (by simp) (by simp) ?_
 unfold qen at h
 refine qa8<|qa2<|qa1 hτ rfl rfl rfl<|qa1 hτ rfl rfl rfl<|qa5 ?_
 refine qa8<|qa2<|qa1 hτ rfl rfl rfl<|qa1 hτ rfl rfl rfl ?_
 refine qaf h fun x3 hx3 h=>?_
 refine qa1 hτ (v:=.d (.fl .f64 x3)) rfl rfl (qnz hx3) ?_
 refine qa1 hτ rfl rfl rfl<|qa1 hτ rfl rfl rfl ?_
 refine qaf h fun x4 hx4 h=>?_
 refine qa1 hτ (v:=.d (.fl .f64 x4)) rfl rfl (qnz hx4) ?_
 refine qa1 hτ rfl rfl rfl<|qa1 hτ rfl rfl rfl<|qa5 ?_
 refine qaa (qa3 [] (l:=[(2,.d (.fl .f64 x3)),(3,.d (.fl .f64 x4))]) (objs:=[]) rfl (by simp) rfl (by trivial) ⟨rfl,trivial,rfl,trivial,trivial⟩) ?_
 refine qap ?_
 have hr:=Option.some.inj h
 subst hr
 exact qah (.inr rfl) [] (objs':=[]) (new:=[]) rfl (by simp) (by simp) rfl (by trivial) rfl rfl (by trivial) (fun _=>⟨by simp [V.flat,V.qbg,V.qbb,D.flat],qan⟩) ⟨rfl,rfl,rfl⟩
theorem qkn (n:Nat) (x_:Cx) {r:Nat × Nat} (h:qen n x_ = some r):qb1 prog false 94 [.d (.cx .f32 x_.re x_.im)] [] (fun v o new=>v = .tup [.d (.fl .f64 r.1),.d (.fl .f64 r.2)]∧o = []∧new = []):=impl_wide_ok_fr0 false n x_ h
def qej (n:Nat) (x_:Cx):Option Cx :=
 some (Cx.mk x_.re (fneg .f32 x_.im))
theorem impl_ConjugateOf_ok_fr0 (fr:Bool) (n:Nat) (x_:Cx) {r:Cx} (h:qej n x_ = some r):qb1 prog fr 89 [.d (.cx .f32 x_.re x_.im)] [] (fun v o new=>v = .d (.cx .f32 r.re r.im)∧o = []∧new = []):=by
 refine qak hτ func89 rfl (by simp) (by simp) ?_
 unfold qej at h
 refine qa8<|qa2<|qa1 hτ rfl rfl rfl<|qa5<|qa8 ?_
 refine qa2<|qa1 hτ rfl rfl rfl<|qa1 hτ rfl rfl rfl<|qa1 hτ rfl rfl rfl<|qa1 hτ rfl rfl rfl ?_
 refine qa1 hτ rfl rfl rfl<|qa1 hτ rfl rfl rfl<|qa1 hτ rfl rfl rfl<|qa5 ?_
 refine qaa (qa3 [] (l:=[(2,.d (.cx .f32 x_.re (fneg .f32 x_.im)))]) (objs:=[]) rfl (by simp) rfl (by trivial) ⟨rfl,trivial,trivial⟩) ?_
 refine qap ?_
 have hr:=Option.some.inj h
 subst hr
 exact qah (.inr rfl) [] (objs':=[]) (new:=[]) rfl (by simp) (by simp) rfl (by trivial) rfl rfl (by trivial) (fun _=>⟨by simp [V.flat,V.qbg,V.qbb,D.flat],qan⟩) ⟨rfl,rfl,rfl⟩
theorem qlg (n:Nat) (x_:Cx) {r:Cx} (h:qej n x_ = some r):qb1 prog false 89 [.d (.cx .f32 x_.re x_.im)] [] (fun v o new=>v = .d (.cx .f32 r.re r.im)∧o = []∧new = []):=impl_ConjugateOf_ok_fr0 false n x_ h
def qh7 (n:Nat) (x_:Cx):Option Nat :=
 (qen n x_).bind fun x2 =>
 some (qao .add .f64 (qao .mul .f64 x2.1 x2.1) (qao .mul .f64 x2.2 x2.2))
theorem impl_power_ok_fr0 (fr:Bool) (n:Nat) (x_:Cx) {r:Nat} (h:qh7 n x_ = some r):qb1 prog fr 79 [.d (.cx .f32 x_.re x_.im)] [] (fun v o new=>v = .d (.fl .f64 r)∧o = []∧new = []):=by
 refine qak hτ func79 rfl (by simp) (by simp) ?_
 unfold qh7 at h
 refine qa8<|qa2<|qa1 hτ rfl rfl rfl<|qa5<|qa8 ?_
 refine qa2<|qa1 hτ rfl rfl rfl ?_
 refine qaf h fun x2 hx2 h=>?_
 refine qae hτ false [] rfl rfl rfl (qaj func94 rfl rfl) rfl rfl (by simp) ⟨trivial,trivial⟩ (by trivial) (qkn n x_ hx2) ?_
 rintro r0 o0 n0 ⟨rfl,rfl,rfl⟩ -
 refine qa1 hτ rfl rfl rfl<|qa1 hτ rfl rfl rfl<|qa1 hτ rfl rfl rfl<|qa1 hτ rfl rfl rfl<|qa1 hτ rfl rfl rfl ?_
 refine qa5<|qa8 ?_
 refine qaa (qa3 [] (l:=[(3,.d (.fl .f64 x2.1)),(4,.d (.fl .f64 x2.2))]) (objs:=[]) rfl (by simp) rfl (by trivial) ⟨rfl,trivial,rfl,trivial,trivial⟩) ?_
 refine qa2<|qa1 hτ rfl rfl rfl<|qa1 hτ rfl rfl rfl<|qa1 hτ rfl rfl rfl<|qa1 hτ rfl rfl rfl ?_
 refine qa1 hτ rfl rfl rfl<|qa1 hτ rfl rfl rfl<|qa1 hτ rfl rfl rfl<|qa1 hτ rfl rfl rfl<|qa5 ?_
 refine qaa (qa3 [] (l:=[(2,.d (.fl .f64 (qao .add .f64 (qao .mul .f64 x2.1 x2.1) (qao .mul .f64 x2.2 x2.2))))]) (objs:=[]) rfl (by simp) rfl (by trivial) ⟨rfl,trivial,trivial⟩) ?_
 refine qap ?_
 have hr:=Option.some.inj h
 subst hr
 exact qah (.inr rfl) [] (objs':=[]) (new:=[]) rfl (by simp) (by simp) rfl (by trivial) rfl rfl (by trivial) (fun _=>⟨by simp [V.flat,V.qbg,V.qbb,D.flat],qan⟩) ⟨rfl,rfl,rfl⟩
theorem qo5 (n:Nat) (x_:Cx) {r:Nat} (h:qh7 n x_ = some r):qb1 prog false 79 [.d (.cx .f32 x_.re x_.im)] [] (fun v o new=>v = .d (.fl .f64 r)∧o = []∧new = []):=impl_power_ok_fr0 false n x_ h
def qm5 (n:Nat) (x_:Cx) (y_:Cx):Option Cx :=
 (qen n x_).bind fun x7 =>
 (qej n y_).bind fun x8 =>
 (qen n x8).bind fun x9 =>
 (qh7 n y_).bind fun x10 =>
 (ql6 .f64 .f32 (qao .quo .f64 (qao .sub .f64 (qao .mul .f64 x7.1 x9.1) (qao .mul .f64 x7.2 x9.2)) x10)).bind fun x11 =>
 (ql6 .f64 .f32 (qao .quo .f64 (qao .add .f64 (qao .mul .f64 x7.1 x9.2) (qao .mul .f64 x7.2 x9.1)) x10)).bind fun x12 =>
 some (Cx.mk x11 x12)
def qem (n:Nat) (x_:Cx) (y_:Cx) (Q_:Cx→Prop):Prop :=
 bndP (qen n x_) fun x7 =>
 bndP (qej n y_) fun x8 =>
 bndP (qen n x8) fun x9 =>
 bndP (qh7 n y_) fun x10 =>
 nrwP .f64 .f32 (qao .quo .f64 (qao .sub .f64 (qao .mul .f64 x7.1 x9.1) (qao .mul .f64 x7.2 x9.2)) x10) fun x11 =>
 nrwP .f64 .f32 (qao .quo .f64 (qao .add .f64 (qao .mul .f64 x7.1 x9.2) (qao .mul .f64 x7.2 x9.1)) x10) fun x12 =>
 Q_ ((Cx.mk x11 x12))
theorem impl_QuotientOf_okP_fr0 (fr:Bool) (n:Nat) (x_:Cx) (y_:Cx) {Q_:Cx→Prop} (h:qem n x_ y_ Q_):qb1 prog fr 90 [.d (.cx .f32 x_.re x_.im),.d (.cx .f32 y_.re y_.im)] [] (fun v o new=>∃ r,Q_ r∧v = .d (.cx .f32 r.re r.im)∧o = []∧new = []):=by
 refine qak hτ func90 rfl (by simp) (by simp) ?_
 unfold qem at h
 refine qa8<|qa2<|qa1 hτ rfl rfl rfl<|qa5<|qa8 ?_
 refine qa2<|qa1 hτ rfl rfl rfl ?_
 refine qaz h fun x7 hx7 h=>?_
 refine qae hτ false [] rfl rfl rfl (qaj func94 rfl rfl) rfl rfl (by simp) ⟨trivial,trivial⟩ (by trivial) (qkn n x_ hx7) ?_
 rintro r0 o0 n0 ⟨rfl,rfl,rfl⟩ -
 refine qa1 hτ rfl rfl rfl<|qa1 hτ rfl rfl rfl<|qa1 hτ rfl rfl rfl<|qa1 hτ rfl rfl rfl<|qa1 hτ rfl rfl rfl ?_
 refine qa5<|qa8 ?_
 refine qaa (qa3 [] (l:=[(1,.d (.cx .f32 y_.re y_.im)),(5,.d (.fl .f64 x7.1)),(6,.d (.fl .f64 x7.2))]) (objs:=[]) rfl (by simp) rfl (by trivial) ⟨rfl,trivial,rfl,trivial,rfl,trivial,trivial⟩) ?_
 refine qa2<|qa1 hτ rfl rfl rfl ?_
 refine qaz h fun x8 hx8 h=>?_
 refine qae hτ false [] rfl rfl rfl (qaj func89 rfl rfl) rfl rfl (by simp) ⟨trivial,trivial⟩ (by trivial) (qlg n y_ hx8) ?_
 rintro r0 o0 n0 ⟨rfl,rfl,rfl⟩ -
 refine qaz h fun x9 hx9 h=>?_
 refine qae hτ false [] rfl rfl rfl (qaj func94 rfl rfl) rfl rfl (by simp) ⟨trivial,trivial⟩ (by trivial) (qkn n x8 hx9) ?_
 rintro r0 o0 n0 ⟨rfl,rfl,rfl⟩ -
 refine qa1 hτ rfl rfl rfl<|qa1 hτ rfl rfl rfl<|qa1 hτ rfl rfl rfl<|qa1 hτ rfl rfl rfl<|qa1 hτ rfl rfl rfl ?_
 refine qa5<|qa8 ?_
 refine qaa (qa3 [] (l:=[(1,.d (.cx .f32 y_.re y_.im)),(5,.d (.fl .f64 x7.1)),(6,.d (.fl .f64 x7.2)),(7,.d (.fl .f64 x9.1)),(8,.d (.fl .f64 x9.2))]) (objs:=[]) rfl (by simp) rfl (by trivial) ⟨rfl,trivial,rfl,trivial,rfl,trivial,rfl,trivial,rfl,trivial,trivial⟩) ?_
 refine qa2<|qa1 hτ rfl rfl rfl ?_
 refine qaz h fun x10 hx10 h=>?_
 refine qae hτ false [] rfl rfl rfl (qaj func79 rfl rfl) rfl rfl (by simp) ⟨trivial,trivial⟩ (by trivial) (qo5 n y_ hx10) ?_
 rintro r0 o0 n0 ⟨rfl,rfl,rfl⟩ -
 refine qa1 hτ rfl rfl rfl<|qa5<|qa8<|qa2<|qa1 hτ rfl rfl rfl ?_
 refine qa1 hτ rfl rfl rfl<|qa1 hτ rfl rfl rfl<|qa1 hτ rfl rfl rfl<|qa1 hτ rfl rfl rfl<|qa1 hτ rfl rfl rfl ?_
 refine qa1 hτ rfl rfl rfl<|qa1 hτ rfl rfl rfl<|qa1 hτ rfl rfl rfl ?_
 refine qb3 (qa3 [] (l:=[(6,.d (.fl .f64 x7.2)),(7,.d (.fl .f64 x9.1)),(9,.d (.fl .f64 x10)),(31,.d (.fl .f64 (qao .sub .f64 (qao .mul .f64 x7.1 x9.1) (qao .mul .f64 x7.2 x9.2)))),(32,.d (.fl .f64 x7.1)),(33,.d (.fl .f64 x9.2))]) (objs:=[]) rfl (by simp) rfl (by trivial) ⟨rfl,trivial,rfl,trivial,rfl,trivial,rfl,trivial,rfl,trivial,rfl,trivial,trivial⟩) ?_
 refine qa1 hτ rfl rfl rfl<|qa1 hτ rfl rfl rfl<|qa1 hτ rfl rfl rfl<|qa1 hτ rfl rfl rfl<|qa1 hτ rfl rfl rfl ?_
 refine qa1 hτ rfl rfl rfl<|qa1 hτ rfl rfl rfl<|qa5<|qa8 ?_
 refine qaa (qa3 [] (l:=[(9,.d (.fl .f64 x10)),(10,.d (.fl .f64 (qao .sub .f64 (qao .mul .f64 x7.1 x9.1) (qao .mul .f64 x7.2 x9.2)))),(11,.d (.fl .f64 (qao .add .f64 (qao .mul .f64 x7.1 x9.2) (qao .mul .f64 x7.2 x9.1))))]) (objs:=[]) rfl (by simp) rfl (by trivial) ⟨rfl,trivial,rfl,trivial,rfl,trivial,trivial⟩) ?_
 refine qa2<|qa1 hτ rfl rfl rfl<|qa1 hτ rfl rfl rfl<|qa1 hτ rfl rfl rfl ?_
 refine qnx hτ h rfl rfl rfl fun x11 h=>?_
 refine qa1 hτ rfl rfl rfl<|qa1 hτ rfl rfl rfl<|qa1 hτ rfl rfl rfl ?_
 refine qnx hτ h rfl rfl rfl fun x12 h=>?_
 refine qa1 hτ rfl rfl rfl<|qa1 hτ rfl rfl rfl<|qa5 ?_
 refine qaa (qa3 [] (l:=[(4,.d (.cx .f32 x11 x12))]) (objs:=[]) rfl (by simp) rfl (by trivial) ⟨rfl,trivial,trivial⟩) ?_
 refine qap ?_
 exact qah (.inr rfl) [] (objs':=[]) (new:=[]) rfl (by simp) (by simp) rfl (by trivial) rfl rfl (by trivial) (fun _=>⟨by simp [V.flat,V.qbg,V.qbb,D.flat],qan⟩) ⟨_,h,rfl,rfl,rfl⟩
theorem qlj (n:Nat) (x_:Cx) (y_:Cx) {Q_:Cx→Prop} (h:qem n x_ y_ Q_):qb1 prog false 90 [.d (.cx .f32 x_.re x_.im),.d (.cx .f32 y_.re y_.im)] [] (fun v o new=>∃ r,Q_ r∧v = .d (.cx .f32 r.re r.im)∧o = []∧new = []):=impl_QuotientOf_okP_fr0 false n x_ y_ h
end Go.Proofs.YtiegopnofbgoaaaGreatDoor.AWN
