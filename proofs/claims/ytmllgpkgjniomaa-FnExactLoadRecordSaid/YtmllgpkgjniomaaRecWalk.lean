/- Rows of data by their blocks; contracts with rows as a walk takes them. -/
import Derived.Test.YtmllgpkgjniomaaRecD
import Derived.Test.YtmllgpkgjniomaaRecTypes
import Derived.Maps.AppendAt
import Derived.Test.YtmllgpkgjniomaaCalcC
import Derived.LoopTactic
import Derived.BigCall
import Derived.Deep.RegionHeld3
set_option linter.unusedVariables false
set_option linter.unusedSimpArgs false
set_option linter.unusedSectionVars false
namespace Go.Proofs.Ytmllgpkgjniomaa.AWN
open Go Go.Shelf Go.RowKit Go.Proofs.Try
def scal:D→Bool
  | .bool _=>true
  | .int _ _=>true
  | .fl _ _=>true
  | .cx _ _ _=>true
  | _=>false
theorem qnd {W W':World} {ok ok':Nat→Prop} {x:D} {v:Value} (h:RelD W ok x v) (hs:scal x=true):RelD W' ok' x v:=by
  cases h with
  | bool b=>exact .bool b
  | int k n=>exact .int k n
  | fl h1 h2=>exact .fl h1 h2
  | cx h1 h2 h3 h4=>exact .cx h1 h2 h3 h4
  | _=>cases hs
structure RowB (W:World) (b cap sz:Nat) (es:List (List D)):Prop where
  wid:∀ e ∈ es,e.length=sz
  le:es.length≤cap
  mx:cap≤maxLen
  cells:∃ vals T fr,W.heap[b]?=some (.cells vals T fr)∧cap*sz≤vals.size∧qtk vals.size fr∧∀ W' ok i c,i < es.length→c < sz→RelD W' ok ((es.getD i []).getD c .nilp) (vals.getD (i*sz+c) undef)
theorem RowB.kept {W W':World} {b cap sz:Nat} {es:List (List D)} (h:RowB W b cap sz es) (e:W'.heap[b]?=W.heap[b]?):RowB W' b cap sz es :=
  ⟨h.wid,h.le,h.mx,by obtain ⟨vals,T,fr,h1,h2⟩:=h.cells;exact ⟨vals,T,fr,e.trans h1,h2⟩⟩
theorem RowB.lt {W:World} {b cap sz:Nat} {es:List (List D)} (h:RowB W b cap sz es):b < W.heap.size:=by
  obtain ⟨vals,T,fr,h1,h2⟩:=h.cells
  exact (Array.getElem?_eq_some_iff.1 h1).1
def SlO (W:World) (o:Option Nat) (sz:Nat) (es:List (List D)) (v:Value):Prop :=
  (o=none∧es=[]∧v=.slice none 0 0) ∨ ∃ b cap,o=some b∧v=.slice (some ⟨b,0,none⟩) es.length cap∧RowB W b cap sz es
theorem SlO.kept {W W':World} {o:Option Nat} {sz:Nat} {es:List (List D)} {v:Value} (h:SlO W o sz es v) (e:∀ b,o=some b→W'.heap[b]?=W.heap[b]?):SlO W' o sz es v:=by
  rcases h with h | ⟨b,cap,rfl,h1,h2⟩
  · exact .inl h
  · exact .inr ⟨b,cap,rfl,h1,h2.kept (e b rfl)⟩
theorem SlO.lt {W:World} {o:Option Nat} {sz:Nat} {es:List (List D)} {v:Value} (h:SlO W o sz es v):∀ b,o=some b→b < W.heap.size:=by
  rintro b rfl
  rcases h with ⟨h,_⟩ | ⟨b',cap,h,h1,h2⟩
  · cases h
  · cases h;exact h2.lt
theorem SlO.some {W:World} {o:Option Nat} {sz:Nat} {es:List (List D)} {v:Value} (h:SlO W o sz es v) (hne:es ≠ []):∃ b cap,o=some b∧v=.slice (some ⟨b,0,none⟩) es.length cap∧RowB W b cap sz es:=by
  rcases h with ⟨_,h,_⟩ | h
  · exact absurd h hne
  · exact h
theorem qsr {W:World} {hb:Handle} {H:Nat→AObj} {ok:Nat→Prop} {j sz:Nat} {es:List (List D)} {v:Value} (hH:H j=.row sz es) (hr:qr1 W hb ok j sz es) (hs:∀ e ∈ es,∀ d ∈ e,scal d=true) (hv:Rel W hb H ok (.row j es.length 0 es.length) v):SlO W (hb j) sz es v:=by
  generalize hL:es.length=L at hv
  cases hv with
  | row h1 h2 h3 h4 h5 h6 h7 h8 h9 =>
    rename_i b sz' cap bs es'
    rw [hH] at h1
    cases h1
    obtain ⟨k0,k⟩:=hr
    rcases k with ⟨_,k⟩ | ⟨b',vals,T,fr,k1,k2,k3,k4,k5⟩
    · rw [k] at h3;cases h3
    · rw [h3] at k1
      cases k1
      rw [qe0 k2] at h4
      cases h4
      rw [Nat.zero_add] at h7
      refine .inr ⟨b,cap,h3,by rw [Nat.zero_mul,hL],k0,by omega,h9,vals,T,fr,k2,h7,k4,fun W' ok' i c hi hc=>qnd (k5 i c hi hc) ?_⟩
      have e1:es.getD i []=es[i]:=by rw [List.getD_eq_getElem?_getD,List.getElem?_eq_getElem hi];rfl
      have hm:es[i] ∈ es:=List.getElem_mem hi
      have hc':c < es[i].length:=by rw [k0 _ hm];exact hc
      have e2:es[i].getD c .nilp=es[i][c]:=by rw [List.getD_eq_getElem?_getD,List.getElem?_eq_getElem hc'];rfl
      rw [e1,e2]
      exact hs _ hm _ (List.getElem_mem hc')
  | rowEmpty h1 h2 h3 =>
    exact absurd h3 (Nat.lt_irrefl _)
  | rowNil h1 h2 =>
    rw [hH] at h1
    cases h1
    exact .inl ⟨h2,rfl,rfl⟩
  | rowStale v h1 h2 h3 =>
    rw [hH] at h1
    cases h1
    omega
theorem SlO.rel {W:World} {o:Option Nat} {sz:Nat} {es:List (List D)} {v:Value} (h:SlO W o sz es v) {hb:Handle} {H:Nat→AObj} {ok:Nat→Prop} {j:Nat} (hH:H j=.row sz es) (hj:hb j=o):Rel W hb H ok (.row j es.length 0 es.length) v:=by
  rcases h with ⟨rfl,rfl,rfl⟩ | ⟨b,cap,rfl,rfl,h⟩
  · exact .rowNil hH hj
  · obtain ⟨vals,T,fr,h1,h2,h3⟩:=h.cells
    have:=Rel.row (W:=W) (hb:=hb) (H:=H) (ok:=ok) (off:=0) hH rfl hj (qe0 h1) (by rw [Nat.zero_add];exact Nat.le_refl _) h.le (by rw [Nat.zero_add];exact h2) (Nat.le_trans h.le h.mx) h.mx
    rw [Nat.zero_mul] at this
    exact this
theorem SlO.rowOk {W:World} {o:Option Nat} {sz:Nat} {es:List (List D)} {v:Value} (h:SlO W o sz es v) {hb:Handle} {ok:Nat→Prop} {j:Nat} (hj:hb j=o):qr1 W hb ok j sz es:=by
  rcases h with ⟨rfl,rfl,rfl⟩ | ⟨b,cap,rfl,rfl,h⟩
  · exact ⟨fun e he=>(by cases he),Or.inl ⟨rfl,hj⟩⟩
  · obtain ⟨vals,T,fr,h1,h2,h3,h4⟩:=h.cells
    exact ⟨h.wid,.inr ⟨b,vals,T,fr,hj,h1,Nat.le_trans (Nat.mul_le_mul_right _ h.le) h2,h3,fun i c hi hc=>h4 _ _ i c hi hc⟩⟩
theorem SlO.data {W:World} {o:Option Nat} {sz:Nat} {es:List (List D)} {v:Value} (h:SlO W o sz es v) {ok:Nat→Prop} (hok:∀ b,o=Option.some b→ok b):RelD W ok (.sl false es) v:=by
  rcases h with ⟨rfl,rfl,rfl⟩ | ⟨b,cap,rfl,rfl,h⟩
  · exact .slnil _
  · obtain ⟨vals,T,fr,h1,h2,h3,h4⟩:=h.cells
    refine .sl sz (fun i c=>vals.getD (i*sz+c) undef) (fun _=>hok b rfl) rfl h.le (fun h=>by cases h) (Nat.le_trans h.le h.mx) (fun i hi=>?_) (fun i c hi hc=>?_) (fun i c hi hc=>h4 _ _ i c hi hc)
    · rw [List.getD_eq_getElem?_getD,List.getElem?_eq_getElem hi]
      exact h.wid _ (List.getElem_mem hi)
    · have h0:i*sz+c < vals.size:=by
        have:(i+1)*sz≤es.length*sz:=Nat.mul_le_mul_right _ hi
        rw [Nat.add_mul,Nat.one_mul] at this
        have h5:=Nat.mul_le_mul_right sz h.le
        omega
      rw [Nat.zero_add,Lib.cell_of_heap h1,Array.getElem?_eq_getElem h0,Array.getD_eq_getD_getElem?,Array.getElem?_eq_getElem h0]
      rfl
theorem qtw (l:List qaa):∀ e ∈ l.map qa8,∀ d ∈ e,scal d=true:=by
  intro e he d hd
  obtain ⟨p,_,rfl⟩:=List.mem_map.1 he
  simp [qa8] at hd
  rcases hd with rfl | rfl | rfl <;> rfl
theorem qtv (l:List SBus):∀ e ∈ l.map qah,∀ d ∈ e,scal d=true:=by
  intro e he d hd
  obtain ⟨p,_,rfl⟩:=List.mem_map.1 he
  simp [qah] at hd
  rcases hd with rfl | rfl | rfl | rfl | rfl | rfl | rfl | rfl <;> rfl
theorem qtx (l:List STie):∀ e ∈ l.map qan,∀ d ∈ e,scal d=true:=by
  intro e he d hd
  obtain ⟨p,_,rfl⟩:=List.mem_map.1 he
  simp [qan] at hd
  rcases hd with rfl | rfl | rfl | rfl | rfl <;> rfl
theorem hs0 (W:World):HSim W ⟨qat [],fun _=>none⟩ (fun _=>True) (fun _=>none) (qat []) ([]:List AObj).length W :=
  { obj:=fun j=>by unfold qg6;rw [qbw];trivial,inj:=fun i j b hi=>absurd (qbw i) hi,hnd:=fun j b hj=>absurd (qbw j) hj,fresh:=fun j _=>qbw j,ext:=Ext.refl _ _,keep:=qjp.refl _ _ _,lay:=fun g vs h=>by cases h }
theorem qk7 {W W':World} (hx:Ext (Args.blk ⟨qat [],fun _=>none⟩) W W'):Below W.heap.size W W' :=
  ⟨hx.os,hx.tape,hx.output,hx.size,fun k hk=>hx.kept k hk (fun ⟨j,hj,_⟩=>hj (qbw j))⟩
end Go.Proofs.Ytmllgpkgjniomaa.AWN

namespace Go.Proofs.Ytmllgpkgjniomaa.AWN
open Go Go.Shelf Go.RowKit Go.Proofs.Try
theorem lm {α β:Type} (f:α→β) (l:List α):l.length=(l.map f).length:=(List.length_map f).symm
theorem qv0 (x:AObj):qat [x] 0=x:=rfl
theorem qs0 (x y:AObj):qat [x,y] 0=x:=rfl
theorem qs1 (x y:AObj):qat [x,y] 1=y:=rfl
theorem qkm {W:World} {hb:Handle} {H:Nat→AObj} {ok:Nat→Prop} {j sz:Nat} {es:List (List D)} (h:qg6 W hb H ok j) (hH:H j=.row sz es):qr1 W hb ok j sz es:=by
  unfold qg6 at h
  rw [hH] at h
  exact h
theorem agg2 {W:World} {hb:Handle} {H:Nat→AObj} {ok:Nat→Prop} {x y:V} {v:Value} (h:Rel W hb H ok (.tup [x,y]) v):∃ a b,v=.tuple #[a,b]∧Rel W hb H ok x a∧Rel W hb H ok y b:=by
  cases h with
  | tup h1 h2 =>
    rename_i a
    have hs:a.size=2:=by simp at h1;omega
    obtain ⟨l,rfl⟩:∃ l,a=⟨l⟩:=⟨a.toList,rfl⟩
    match l,hs with
    | [p,q],_=>exact ⟨p,q,rfl,h2 0 (by simp),h2 1 (by simp)⟩
theorem agg3 {W:World} {hb:Handle} {H:Nat→AObj} {ok:Nat→Prop} {x y z:V} {v:Value} (h:Rel W hb H ok (.tup [x,y,z]) v):∃ a b c,v=.tuple #[a,b,c]∧Rel W hb H ok x a∧Rel W hb H ok y b∧Rel W hb H ok z c:=by
  cases h with
  | tup h1 h2 =>
    rename_i a
    have hs:a.size=3:=by simp at h1;omega
    obtain ⟨l,rfl⟩:∃ l,a=⟨l⟩:=⟨a.toList,rfl⟩
    match l,hs with
    | [p,q,r],_=>exact ⟨p,q,r,rfl,h2 0 (by simp),h2 1 (by simp),h2 2 (by simp)⟩
theorem agg4 {W:World} {hb:Handle} {H:Nat→AObj} {ok:Nat→Prop} {x y z u:V} {v:Value} (h:Rel W hb H ok (.agg [x,y,z,u]) v):∃ a b c d,v=.agg #[a,b,c,d]∧Rel W hb H ok x a∧Rel W hb H ok y b∧Rel W hb H ok z c∧Rel W hb H ok u d:=by
  cases h with
  | agg h1 h2 =>
    rename_i a
    have hs:a.size=4:=by simp at h1;omega
    obtain ⟨l,rfl⟩:∃ l,a=⟨l⟩:=⟨a.toList,rfl⟩
    match l,hs with
    | [p,q,r,s],_=>exact ⟨p,q,r,s,rfl,h2 0 (by simp),h2 1 (by simp),h2 2 (by simp),h2 3 (by simp)⟩
theorem agg5 {W:World} {hb:Handle} {H:Nat→AObj} {ok:Nat→Prop} {x y z u t:V} {v:Value} (h:Rel W hb H ok (.agg [x,y,z,u,t]) v):∃ a b c d e,v=.agg #[a,b,c,d,e]∧Rel W hb H ok x a∧Rel W hb H ok y b∧Rel W hb H ok z c∧Rel W hb H ok u d∧Rel W hb H ok t e:=by
  cases h with
  | agg h1 h2 =>
    rename_i a
    have hs:a.size=5:=by simp at h1;omega
    obtain ⟨l,rfl⟩:∃ l,a=⟨l⟩:=⟨a.toList,rfl⟩
    match l,hs with
    | [p,q,r,s,m],_=>exact ⟨p,q,r,s,m,rfl,h2 0 (by simp),h2 1 (by simp),h2 2 (by simp),h2 3 (by simp),h2 4 (by simp)⟩
def CxW (c:Cx) (a b:Nat):Prop:=canon .f32 a=c.re∧canon .f32 b=c.im∧a < 2 ^ FloatKind.f32.format.width∧b < 2 ^ FloatKind.f32.format.width
theorem qm6 {W:World} {hb:Handle} {H:Nat→AObj} {ok:Nat→Prop} {c:Cx} {v:Value} (h:Rel W hb H ok (.d (.cx .f32 c.re c.im)) v):∃ a b,v=.complex .f32 a b∧CxW c a b:=by
  cases h with
  | d h =>
    obtain ⟨b,c,rfl,h1,h2,h3,h4⟩:=qqq h
    exact ⟨b,c,rfl,h1,h2,h3,h4⟩
theorem CxW.rel {W:World} {hb:Handle} {H:Nat→AObj} {ok:Nat→Prop} {c:Cx} {a b:Nat} (h:CxW c a b):Rel W hb H ok (.d (.cx .f32 c.re c.im)) (.complex .f32 a b):=.d (.cx h.1 h.2.1 h.2.2.1 h.2.2.2)
theorem flow_call {n:Nat} {t:Str} {b:Int} {r:qbb × Bool} (h:qdi n t b=some r) (w:World) :
    Calls prog 42 #[.string (bstr t),.int .i64 b] w fun e w'=>∃ v0 v1 o0 o1,e=.returned (.tuple #[.agg #[v0,v1,.int .i64 r.1.Rounds,.bool r.1.qcj],.bool r.2])∧Below w.heap.size w w' ∧
      SlO w' o0 3 (r.1.qad.map qa8) v0∧SlO w' o1 3 (r.1.qae.map qa8) v1∧(∀ b,o0=some b→w.heap.size≤b)∧(∀ b,o1=some b→w.heap.size≤b)∧(∀ b,o0=some b→o1 ≠ some b):=by
  refine (impl_FlowOfBytes_ok_fr n t b h w ⟨qat [],fun _=>none⟩ (fun _=>none) (fun _=>True) _ rfl rfl (hs0 w) (ql3 (.d (.str _)) (.d (.int _ _)))).mono ?_
  rintro e w' ⟨v,_,_,_,hb',rfl,⟨rfl,rfl,rfl⟩,_,hs,hv⟩
  obtain ⟨x,y,rfl,hx,hy⟩:=agg2 hv
  obtain ⟨v0,v1,v2,v3,rfl,h0,h1,h2,h3⟩:=agg4 hx
  have e2:=qgl h2
  have e3:=qfl h3
  have ey:=qfl hy
  subst e2 e3 ey
  rw [lm qa8 r.1.qad] at h0
  rw [lm qa8 r.1.qae] at h1
  have r0:=qsr (qs0 _ _) (qkm (hs.obj 0) (qs0 _ _)) (qtw _) h0
  have r1:=qsr (qs1 _ _) (qkm (hs.obj 1) (qs1 _ _)) (qtw _) h1
  have n0:qat ([]++[AObj.row 3 (r.1.qad.map qa8),AObj.row 3 (r.1.qae.map qa8)]) 0 ≠ .none:=fun hh=>by cases hh
  have n1:qat ([]++[AObj.row 3 (r.1.qad.map qa8),AObj.row 3 (r.1.qae.map qa8)]) 1 ≠ .none:=fun hh=>by cases hh
  refine ⟨v0,v1,hb' 0,hb' 1,rfl,qk7 hs.ext,r0,r1,fun b hb=>?_,fun b hb=>?_,fun b hb hb1=>?_⟩
  · rcases (hs.hnd 0 b n0 hb).2 with ⟨hh,_⟩ | hh
    · exact absurd (qbw 0) hh
    · exact hh
  · rcases (hs.hnd 1 b n1 hb).2 with ⟨hh,_⟩ | hh
    · exact absurd (qbw 1) hh
    · exact hh
  · have:=hs.inj 0 1 b n0 n1 hb hb1
    cases this
theorem qq9 {n:Nat} {t:Str} {r:qbi × Int × Bool} (h:qcw n t=some r) (w:World) :
    Calls prog 34 #[.string (bstr t)] w fun e w'=>∃ a a' b b' c c' v0 v1 o0 o1,e=.returned (.tuple #[.agg #[.complex .f32 a a',.complex .f32 b b',.complex .f32 c c',v0,v1],.int .i64 r.2.1,.bool r.2.2])∧Below w.heap.size w w' ∧
      CxW r.1.qa1.Source.A a a'∧CxW r.1.qa1.Source.B b b'∧CxW r.1.qa1.Source.C c c' ∧
      SlO w' o0 8 (r.1.qa1.qac.map qah) v0∧SlO w' o1 5 (r.1.Ties.map qan) v1∧(∀ b,o0=some b→w.heap.size≤b)∧(∀ b,o1=some b→w.heap.size≤b)∧(∀ b,o0=some b→o1 ≠ some b):=by
  refine (impl_loadGrid_ok_fr n t h w ⟨qat [],fun _=>none⟩ (fun _=>none) (fun _=>True) _ rfl rfl (hs0 w) (qoo (.d (.str _)))).mono ?_
  rintro e w' ⟨v,_,_,_,hb',rfl,⟨rfl,rfl,rfl⟩,_,hs,hv⟩
  obtain ⟨x,y,z,rfl,hx,hy,hz⟩:=agg3 hv
  obtain ⟨x0,x1,x2,v0,v1,rfl,h0,h1,h2,h3,h4⟩:=agg5 hx
  obtain ⟨a,a',rfl,ca⟩:=qm6 h0
  obtain ⟨b,b',rfl,cb⟩:=qm6 h1
  obtain ⟨c,c',rfl,cc⟩:=qm6 h2
  have ey:=qgl hy
  have ez:=qfl hz
  subst ey ez
  rw [lm qah r.1.qa1.qac] at h3
  rw [lm qan r.1.Ties] at h4
  have r0:=qsr (qs0 _ _) (qkm (hs.obj 0) (qs0 _ _)) (qtv _) h3
  have r1:=qsr (qs1 _ _) (qkm (hs.obj 1) (qs1 _ _)) (qtx _) h4
  have n0:qat ([]++[AObj.row 8 (r.1.qa1.qac.map qah),AObj.row 5 (r.1.Ties.map qan)]) 0 ≠ .none:=fun hh=>by cases hh
  have n1:qat ([]++[AObj.row 8 (r.1.qa1.qac.map qah),AObj.row 5 (r.1.Ties.map qan)]) 1 ≠ .none:=fun hh=>by cases hh
  refine ⟨a,a',b,b',c,c',v0,v1,hb' 0,hb' 1,rfl,qk7 hs.ext,ca,cb,cc,r0,r1,fun b hb=>?_,fun b hb=>?_,fun b hb hb1=>?_⟩
  · rcases (hs.hnd 0 b n0 hb).2 with ⟨hh,_⟩ | hh
    · exact absurd (qbw 0) hh
    · exact hh
  · rcases (hs.hnd 1 b n1 hb).2 with ⟨hh,_⟩ | hh
    · exact absurd (qbw 1) hh
    · exact hh
  · have:=hs.inj 0 1 b n0 n1 hb hb1
    cases this
structure But (P:Nat→Prop) (w w':World):Prop where
  os:w'.os=w.os
  tape:w'.tape=w.tape
  output:w'.output=w.output
  size:w.heap.size≤w'.heap.size
  block:∀ k,k < w.heap.size→¬ P k→w'.heap[k]?=w.heap[k]?
theorem But.refl (P:Nat→Prop) (w:World):But P w w:=⟨rfl,rfl,rfl,Nat.le_refl _,fun _ _ _=>rfl⟩
theorem But.trans {P:Nat→Prop} {a b c:World} (h:But P a b) (k:But P b c):But P a c :=
  ⟨k.os.trans h.os,k.tape.trans h.tape,k.output.trans h.output,Nat.le_trans h.size k.size,fun i hi hp=>(k.block i (Nat.lt_of_lt_of_le hi h.size) hp).trans (h.block i hi hp)⟩
theorem But.mono {P Q:Nat→Prop} {a b:World} (h:But P a b) (hp:∀ k,P k→Q k):But Q a b:=⟨h.os,h.tape,h.output,h.size,fun i hi hq=>h.block i hi fun h=>hq (hp i h)⟩
theorem But.below {P:Nat→Prop} {B:Nat} {a b:World} (h:But P a b) (hB:B≤a.heap.size) (hp:∀ k,P k→B≤k):Below B a b:=⟨h.os,h.tape,h.output,h.size,fun i hi=>h.block i (Nat.lt_of_lt_of_le hi hB) fun h=>absurd (hp i h) (by omega)⟩
theorem quf {P:Nat→Prop} {w w':World} (h:Below w.heap.size w w'):But P w w':=⟨h.os,h.tape,h.output,h.size,fun i hi _=>h.block i hi⟩
theorem qqf {n:Nat} {a:List qaa} {k:Int} {r:Int × List qaa} (h:qby n a k=some r) (hl:r.2.length=a.length) (w:World) (v:Value) (o:Option Nat) (hv:SlO w o 3 (a.map qa8) v) :
    Calls prog 94 #[v,.int .i64 k] w fun e w'=>e=.returned (.int .i64 r.1)∧But (fun b=>o=some b) w w'∧SlO w' o 3 (r.2.map qa8) v:=by
  have hv0:Rel w (fun _=>o) (qat [.row 3 (a.map qa8)]) (okF w (fun _=>True) (fun _=>o) (qat [.row 3 (a.map qa8)]) w) (.row 0 a.length 0 a.length) v:=by
    have:=hv.rel (hb:=fun _=>o) (H:=qat [.row 3 (a.map qa8)]) (ok:=okF w (fun _=>True) (fun _=>o) (qat [.row 3 (a.map qa8)]) w) (j:=0) rfl rfl
    rw [List.length_map] at this
    exact this
  have hs:HSim w ⟨qat [.row 3 (a.map qa8)],fun _=>o⟩ (fun _=>True) (fun _=>o) (qat [.row 3 (a.map qa8)]) [AObj.row 3 (a.map qa8)].length w :=
    { obj:=fun j=>by
        rcases j with _ | j
        · exact hv.rowOk (hb:=fun _=>o) (j:=0) rfl
        · exact trivial
      inj:=fun i j b hi hj _ _=>by
        rcases i with _ | i
        · rcases j with _ | j
          · rfl
          · exact absurd rfl hj
        · exact absurd rfl hi
      hnd:=fun j b hj hb=>⟨hv.lt b hb,.inl ⟨hj,hb⟩⟩
      fresh:=fun j hj=>by
        rcases j with _ | j
        · exact absurd hj (Nat.not_succ_le_zero _)
        · rfl
      ext:=Ext.refl _ _
      keep:=qjp.refl _ _ _
      lay:=fun g vs h=>by cases h }
  refine (laws_markPhasesS_ok_fr n a k h w ⟨qat [.row 3 (a.map qa8)],fun _=>o⟩ (fun _=>o) (fun _=>True) _ rfl rfl hs (ql3 hv0 (.d (.int _ _)))).mono ?_
  rintro e w' ⟨u,_,_,_,hb',rfl,⟨rfl,rfl,rfl⟩,_,hs',hu⟩
  have eu:=qgl hu
  subst eu
  obtain ⟨es',g1,g2,g3⟩:=hs'.keep.row 0 3 (a.map qa8) rfl
  have g1:AObj.row 3 (r.2.map qa8)=.row 3 es':=g1
  cases g1
  obtain ⟨g4,g5⟩:=g3 (by rw [List.length_map,List.length_map,hl])
  have g4:hb' 0=o:=g4
  have ro:=qkm (hs'.obj 0) (qv0 _)
  refine ⟨rfl,⟨hs'.ext.os,hs'.ext.tape,hs'.ext.output,hs'.ext.size,fun i hi hp=>hs'.ext.kept i hi ?_⟩,?_⟩
  · rintro ⟨j,h1,h2⟩
    exact hp h2
  · rcases hv with ⟨rfl,e0,rfl⟩ | ⟨b,cap,rfl,rfl,hB⟩
    · have:a=[]:=by simpa using e0
      subst this
      have:r.2=[]:=by simpa using hl
      rw [this]
      exact .inl ⟨rfl,rfl,rfl⟩
    · obtain ⟨vals,T,fr,c1,c2,c3,c4⟩:=hB.cells
      have sh:=g5 b vals.size rfl (qe0 c1)
      refine .inr ⟨b,cap,rfl,by rw [List.length_map,List.length_map,hl],?_⟩
      obtain ⟨k0,k⟩:=ro
      rcases k with ⟨k1,k2⟩ | ⟨b',vals',T',fr',k1,k2,k3,k4,k5⟩
      · rw [g4] at k2;cases k2
      · rw [g4] at k1
        cases k1
        rw [qe0 k2] at sh
        have sh:=Option.some.inj sh
        refine ⟨k0,by have:=hB.le;rw [List.length_map] at this ⊢;omega,hB.mx,vals',T',fr',k2,by rw [sh];exact c2,k4,fun W' ok' i c hi hc=>qnd (k5 i c hi hc) ?_⟩
        have hs:=qtw r.2
        generalize r.2.map qa8=es at hi k0 hs
        have e1:es.getD i []=es[i]:=by rw [List.getD_eq_getElem?_getD,List.getElem?_eq_getElem hi];rfl
        have hm:es[i] ∈ es:=List.getElem_mem hi
        have hc':c < es[i].length:=by rw [k0 _ hm];exact hc
        have e2:es[i].getD c .nilp=es[i][c]:=by rw [List.getD_eq_getElem?_getD,List.getElem?_eq_getElem hc'];rfl
        rw [e1,e2]
        exact hs _ hm _ (List.getElem_mem hc')
theorem qqt {W w':World} {o:Option Nat} {sz:Nat} {es es2:List (List D)} {v:Value} (hv:SlO W o sz es v) (hl:es2.length=es.length) (hs:∀ e ∈ es2,∀ d ∈ e,scal d=true) {hb':Handle} {ok:Nat→Prop} {j:Nat} (g4:hb' j=o) (ro:qr1 w' hb' ok j sz es2)
    (g5:∀ b bs,o=some b→(W.shape? b).map (·.2)=some bs→(w'.shape? b).map (·.2)=some bs):SlO w' o sz es2 v:=by
  rcases hv with ⟨rfl,e0,rfl⟩ | ⟨b,cap,rfl,rfl,hB⟩
  · subst e0
    have:es2=[]:=by simpa using hl
    exact .inl ⟨rfl,this,rfl⟩
  · obtain ⟨vals,T,fr,c1,c2,c3,c4⟩:=hB.cells
    have sh:=g5 b vals.size rfl (qe0 c1)
    refine .inr ⟨b,cap,rfl,by rw [hl],?_⟩
    obtain ⟨k0,k⟩:=ro
    rcases k with ⟨k1,k2⟩ | ⟨b',vals',T',fr',k1,k2,k3,k4,k5⟩
    · rw [g4] at k2;cases k2
    · rw [g4] at k1
      cases k1
      rw [qe0 k2] at sh
      have sh:=Option.some.inj sh
      refine ⟨k0,by have:=hB.le;omega,hB.mx,vals',T',fr',k2,by rw [sh];exact c2,k4,fun W' ok' i c hi hc=>qnd (k5 i c hi hc) ?_⟩
      have e1:es2.getD i []=es2[i]:=by rw [List.getD_eq_getElem?_getD,List.getElem?_eq_getElem hi];rfl
      have hm:es2[i] ∈ es2:=List.getElem_mem hi
      have hc':c < es2[i].length:=by rw [k0 _ hm];exact hc
      have e2:es2[i].getD c .nilp=es2[i][c]:=by rw [List.getD_eq_getElem?_getD,List.getElem?_eq_getElem hc'];rfl
      rw [e1,e2]
      exact hs _ hm _ (List.getElem_mem hc')
theorem markGrid_call {n:Nat} {g:qbi} {k:Int} {r:Int × List SBus × List STie} (h:qd7 n g k=some r) (hl:r.2.1.length=g.qa1.qac.length) (hl2:r.2.2.length=g.Ties.length) (w:World) (a a' b b' c c':Nat) (v0 v1:Value) (o0 o1:Option Nat)
    (ca:CxW g.qa1.Source.A a a') (cb:CxW g.qa1.Source.B b b') (cc:CxW g.qa1.Source.C c c') (h0:SlO w o0 8 (g.qa1.qac.map qah) v0) (h1:SlO w o1 5 (g.Ties.map qan) v1) (hne:∀ b,o0=some b→o1 ≠ some b) :
    Calls prog 10 #[.agg #[.complex .f32 a a',.complex .f32 b b',.complex .f32 c c',v0,v1],.int .i64 k] w fun e w'=>e=.returned (.int .i64 r.1)∧But (fun b=>o0=some b ∨ o1=some b) w w'∧SlO w' o0 8 (r.2.1.map qah) v0∧SlO w' o1 5 (r.2.2.map qan) v1:=by
  obtain ⟨hb,ehb⟩:∃ hb:Handle,hb=fun j=>if j=0 then o0 else o1:=⟨_,rfl⟩
  have b0:hb 0=o0:=by rw [ehb];rfl
  have b1:hb 1=o1:=by rw [ehb];rfl
  obtain ⟨H,eH⟩:∃ H,H=qat [.row 8 (g.qa1.qac.map qah),.row 5 (g.Ties.map qan)]:=⟨_,rfl⟩
  have H0:H 0=.row 8 (g.qa1.qac.map qah):=by rw [eH];rfl
  have H1:H 1=.row 5 (g.Ties.map qan):=by rw [eH];rfl
  have H2:∀ j,H (j+2)=.none:=fun j=>by rw [eH];rfl
  clear ehb
  have hv0:∀ ok,Rel w hb H ok (.row 0 g.qa1.qac.length 0 g.qa1.qac.length) v0:=fun ok=>by
    have:=h0.rel (ok:=ok) H0 b0
    rw [List.length_map] at this
    exact this
  have hv1:∀ ok,Rel w hb H ok (.row 1 g.Ties.length 0 g.Ties.length) v1:=fun ok=>by
    have:=h1.rel (ok:=ok) H1 b1
    rw [List.length_map] at this
    exact this
  have hs:HSim w ⟨H,hb⟩ (fun _=>True) hb H 2 w :=
    { obj:=fun j=>by
        unfold qg6
        rcases j with _ | _ | j
        · rw [H0];exact h0.rowOk b0
        · rw [show (0+1:Nat)=1 from rfl,H1];exact h1.rowOk b1
        · rw [show j+1+1=j+2 from rfl,H2];trivial
      inj:=fun i j x hi hj hx hy=>by
        rcases i with _ | _ | i
        · rcases j with _ | _ | j
          · rfl
          · exact absurd (b1.symm.trans hy) (hne x (b0.symm.trans hx))
          · exact absurd (H2 j) hj
        · rcases j with _ | _ | j
          · exact absurd (b1.symm.trans hx) (hne x (b0.symm.trans hy))
          · rfl
          · exact absurd (H2 j) hj
        · exact absurd (H2 i) hi
      hnd:=fun j x hj hx=>by
        refine ⟨?_,.inl ⟨hj,hx⟩⟩
        rcases j with _ | _ | j
        · exact h0.lt x (b0.symm.trans hx)
        · exact h1.lt x (b1.symm.trans hx)
        · exact absurd (H2 j) hj
      fresh:=fun j hj=>by
        rcases j with _ | _ | j
        · exact absurd hj (by decide)
        · exact absurd hj (by decide)
        · exact H2 j
      ext:=Ext.refl _ _
      keep:=qjp.refl _ _ _
      lay:=fun g vs h=>by cases h }
  have hr:RelL w hb H (okF w (fun _=>True) hb H w) [.agg [.d (.cx .f32 g.qa1.Source.A.re g.qa1.Source.A.im),.d (.cx .f32 g.qa1.Source.B.re g.qa1.Source.B.im),.d (.cx .f32 g.qa1.Source.C.re g.qa1.Source.C.im),.row 0 g.qa1.qac.length 0 g.qa1.qac.length,.row 1 g.Ties.length 0 g.Ties.length],.d (.int .i64 k)] #[.agg #[.complex .f32 a a',.complex .f32 b b',.complex .f32 c c',v0,v1],.int .i64 k]:=by
    refine ql3 (.agg rfl fun i hi=>?_) (.d (.int _ _))
    rcases i with _ | _ | _ | _ | _ | i
    · exact ca.rel
    · exact cb.rel
    · exact cc.rel
    · exact hv0 _
    · exact hv1 _
    · simp at hi;omega
  rw [eH] at hs hr
  refine (laws_markGrid_ok_fr n g k h w ⟨qat [.row 8 (g.qa1.qac.map qah),.row 5 (g.Ties.map qan)],hb⟩ hb (fun _=>True) _ rfl rfl hs hr).mono ?_
  rintro e w' ⟨u,_,_,_,hb',rfl,⟨rfl,rfl,rfl⟩,_,hs',hu⟩
  have eu:=qgl hu
  subst eu
  obtain ⟨es',g1,g2,g3⟩:=hs'.keep.row 0 8 (g.qa1.qac.map qah) rfl
  have g1:AObj.row 8 (r.2.1.map qah)=.row 8 es':=g1
  cases g1
  obtain ⟨g4,g5⟩:=g3 (by rw [List.length_map,List.length_map,hl])
  obtain ⟨es',f1,f2,f3⟩:=hs'.keep.row 1 5 (g.Ties.map qan) rfl
  have f1:AObj.row 5 (r.2.2.map qan)=.row 5 es':=f1
  cases f1
  obtain ⟨f4,f5⟩:=f3 (by rw [List.length_map,List.length_map,hl2])
  refine ⟨rfl,⟨hs'.ext.os,hs'.ext.tape,hs'.ext.output,hs'.ext.size,fun i hi hp=>hs'.ext.kept i hi ?_⟩,?_,?_⟩
  · rintro ⟨j,q1,q2⟩
    rcases j with _ | _ | j
    · exact hp (.inl (b0.symm.trans q2))
    · exact hp (.inr (b1.symm.trans q2))
    · exact absurd rfl q1
  · exact qqt h0 (by rw [List.length_map,List.length_map,hl]) (qtv _) (g4.trans b0) (qkm (hs'.obj 0) rfl) fun x bs hx=>g5 x bs (b0.trans hx)
  · exact qqt h1 (by rw [List.length_map,List.length_map,hl2]) (qtx _) (f4.trans b1) (qkm (hs'.obj 1) rfl) fun x bs hx=>f5 x bs (b1.trans hx)
end Go.Proofs.Ytmllgpkgjniomaa.AWN

namespace Go.Proofs.Ytmllgpkgjniomaa.AWN
open Go Go.Shelf Go.RowKit Go.Proofs.Try
structure FB where
  (v0 v1:Value)
  (b0 b1:Nat)
def qly (p:FB) (f:qbb):List Value:=[p.v0,p.v1,.int .i64 f.Rounds,.bool f.qcj]
def qih:List FB→List qbb→List Value
  | p :: ps,f :: fs=>qly p f++qih ps fs
  | _,_=>[]
theorem qmy:∀ (ps:List FB) (fs:List qbb) (p:FB) (f:qbb),ps.length=fs.length→qih (ps++[p]) (fs++[f])=qih ps fs++qly p f
  | [],[],p,f,_=>by simp [qih]
  | q :: ps,g :: fs,p,f,h=>by
    simp only [List.cons_append,qih]
    rw [qmy ps fs p f (by simpa using h),List.append_assoc]
  | [],_ :: _,_,_,h=>by simp at h
  | _ :: _,[],_,_,h=>by simp at h
theorem qlz:∀ (ps:List FB) (fs:List qbb) (i:Nat) (p:FB) (f:qbb) (j:Nat),ps.length=fs.length→ps[i]?=some p→fs[i]?=some f→j < 4→(qih ps fs)[i*4+j]?=(qly p f)[j]?
  | q :: ps,g :: fs,0,p,f,j,_,h1,h2,hj=>by
    simp at h1 h2
    subst h1 h2
    simp only [qih]
    rw [List.getElem?_append_left (by show _ < 4;omega),Nat.zero_mul,Nat.zero_add]
  | q :: ps,g :: fs,i+1,p,f,j,h,h1,h2,hj=>by
    simp only [qih]
    rw [List.getElem?_append_right (by show 4≤_;omega)]
    have e:(i+1)*4+j - (qly q g).length=i*4+j:=by show _ - 4=_;omega
    rw [e]
    exact qlz ps fs i p f j (by simpa using h) (by simpa using h1) (by simpa using h2) hj
  | [],_,_,_,_,_,_,h1,_,_=>by simp at h1
  | _ :: _,[],_,_,_,_,_,_,h2,_=>by simp at h2
def blks (o0 o1:Option Nat) (ps:List FB):List Nat:=o0.toList++o1.toList++ps.flatMap fun p=>[p.b0,p.b1]
theorem qmu (o0 o1:Option Nat) (ps:List FB) (p:FB):blks o0 o1 (ps++[p])=blks o0 o1 ps++[p.b0,p.b1]:=by
  unfold blks
  rw [List.flatMap_append,← List.append_assoc]
  simp
structure qes (W:World) (lo:Nat) (X:List Nat) (o0 o1:Option Nat) (v0 v1 v2:Value) (Bs:List SBus) (Ts:List STie) (ps:List FB) (fs:List qbb):Prop where
  bus:SlO W o0 8 (Bs.map qah) v0
  tie:SlO W o1 5 (Ts.map qan) v1
  len:ps.length=fs.length
  own:W.ownsRow lo 82 4 v2 fs.length (qih ps fs)
  row:∀ (i:Nat) (p:FB) (f:qbb),ps[i]?=some p→fs[i]?=some f→SlO W (some p.b0) 3 (f.qad.map qa8) p.v0∧SlO W (some p.b1) 3 (f.qae.map qa8) p.v1
  nod:(X++blks o0 o1 ps).Nodup
  rng:∀ b ∈ blks o0 o1 ps,lo≤b∧b < W.heap.size
  apt:∀ g,v2.ownBlock=some g→g ∉ X++blks o0 o1 ps
section
variable {W W':World} {lo:Nat} {X:List Nat} {o0 o1:Option Nat} {v0 v1 v2:Value} {Bs:List SBus} {Ts:List STie} {ps:List FB} {fs:List qbb}
theorem qjz {b:Nat} (h:o0=some b):b ∈ blks o0 o1 ps:=by subst h;simp [blks]
theorem qk0 {b:Nat} (h:o1=some b):b ∈ blks o0 o1 ps:=by subst h;simp [blks]
theorem qj4 {i:Nat} {p:FB} (h:ps[i]?=some p):p.b0 ∈ blks o0 o1 ps∧p.b1 ∈ blks o0 o1 ps:=by
  have:=List.mem_of_getElem? h
  unfold blks
  exact ⟨List.mem_append.2 (.inr (List.mem_flatMap.2 ⟨p,this,by simp⟩)),List.mem_append.2 (.inr (List.mem_flatMap.2 ⟨p,this,by simp⟩))⟩
theorem qes.but {P:Nat→Prop} (h:qes W lo X o0 o1 v0 v1 v2 Bs Ts ps fs) (k:But P W W') (hp:∀ b,P b→b ∉ blks o0 o1 ps∧v2.ownBlock ≠ some b):qes W' lo X o0 o1 v0 v1 v2 Bs Ts ps fs:=by
  have kk:∀ b,b ∈ blks o0 o1 ps→W'.heap[b]?=W.heap[b]?:=fun b hb=>k.block b (h.rng b hb).2 fun hh=>(hp b hh).1 hb
  refine ⟨h.bus.kept fun b e=>kk b (qjz e),h.tie.kept fun b e=>kk b (qk0 e),h.len,?_,fun i p f h1 h2=>?_,h.nod,fun b hb=>⟨(h.rng b hb).1,Nat.lt_of_lt_of_le (h.rng b hb).2 k.size⟩,h.apt⟩
  · refine ⟨h.own.1,?_⟩
    rcases h.own.2 with hn | ⟨g,cap,cur,rfl,hb,hgg,rest⟩
    · exact .inl hn
    · refine .inr ⟨g,cap,cur,rfl,hb,?_,rest⟩
      rw [k.block g (Array.getElem?_eq_some_iff.1 hgg).1 fun hh=>(hp g hh).2 rfl]
      exact hgg
  · obtain ⟨r1,r2⟩:=h.row i p f h1 h2
    obtain ⟨m1,m2⟩:=qj4 (o0:=o0) (o1:=o1) h1
    exact ⟨r1.kept fun b e=>by cases e;exact kk _ m1,r2.kept fun b e=>by cases e;exact kk _ m2⟩
theorem qes.below (h:qes W lo X o0 o1 v0 v1 v2 Bs Ts ps fs) (k:Below W.heap.size W W'):qes W' lo X o0 o1 v0 v1 v2 Bs Ts ps fs :=
  h.but (P:=fun _=>False) (quf k) fun b hb=>hb.elim
theorem qes.push (h:qes W lo X o0 o1 v0 v1 v2 Bs Ts ps fs) {p:FB} {f:qbb} {v':Value} (hX:∀ b ∈ X,b < W.heap.size)
    (r0:SlO W (some p.b0) 3 (f.qad.map qa8) p.v0) (r1:SlO W (some p.b1) 3 (f.qae.map qa8) p.v1)
    (hl:lo≤p.b0∧lo≤p.b1) (hne:p.b0 ≠ p.b1) (n0:p.b0 ∉ X++blks o0 o1 ps∧p.b1 ∉ X++blks o0 o1 ps) (n1:v2.ownBlock ≠ some p.b0∧v2.ownBlock ≠ some p.b1)
    (ho:W'.ownsRow lo 82 4 v' (fs.length+1) (qih ps fs++qly p f)) (hg:W.grownBy W' v2.ownBlock) (ha:v'.ownBlock=v2.ownBlock ∨ v'.ownBlock=some W.heap.size) :
    qes W' lo X o0 o1 v0 v1 v' Bs Ts (ps++[p]) (fs++[f]):=by
  have kk:∀ b,b < W.heap.size→(v2.ownBlock ≠ some b)→W'.heap[b]?=W.heap[b]?:=fun b hb hn=>hg.block b hb fun e=>hn e.symm
  have k1:∀ b,b ∈ blks o0 o1 ps→W'.heap[b]?=W.heap[b]?:=fun b hb=>kk b (h.rng b hb).2 fun e=>h.apt b e (List.mem_append.2 (.inr hb))
  have l0:=r0.lt _ rfl
  have l1:=r1.lt _ rfl
  have sz:=hg.size
  refine ⟨h.bus.kept fun b e=>k1 b (qjz e),h.tie.kept fun b e=>k1 b (qk0 e),by rw [List.length_append,List.length_append,h.len];rfl,?_,fun i q g e1 e2=>?_,?_,fun b hb=>?_,fun g e=>?_⟩
  · rw [List.length_append,qmy _ _ _ _ h.len]
    exact ho
  · by_cases hi:i < ps.length
    · rw [List.getElem?_append_left hi] at e1
      rw [List.getElem?_append_left (by rw [← h.len];exact hi)] at e2
      obtain ⟨r1,r2⟩:=h.row i q g e1 e2
      obtain ⟨m1,m2⟩:=qj4 (o0:=o0) (o1:=o1) e1
      exact ⟨r1.kept fun b e=>by cases e;exact k1 _ m1,r2.kept fun b e=>by cases e;exact k1 _ m2⟩
    · rw [List.getElem?_append_right (by omega)] at e1
      rw [List.getElem?_append_right (by rw [← h.len];omega),← h.len] at e2
      have:i - ps.length=0:=by
        rcases Nat.eq_zero_or_pos (i - ps.length) with hz | hz
        · exact hz
        · rw [List.getElem?_eq_none (show [p].length≤_ from hz)] at e1;cases e1
      rw [this] at e1 e2
      cases e1
      cases e2
      exact ⟨r0.kept fun b e=>by cases e;exact kk _ l0 n1.1,r1.kept fun b e=>by cases e;exact kk _ l1 n1.2⟩
  · rw [qmu,← List.append_assoc]
    refine List.nodup_append.2 ⟨h.nod,by simp [hne],fun a ha b hb e=>?_⟩
    subst e
    simp at hb
    rcases hb with rfl | rfl
    · exact n0.1 ha
    · exact n0.2 ha
  · rw [qmu] at hb
    rcases List.mem_append.1 hb with hb | hb
    · exact ⟨(h.rng b hb).1,Nat.lt_of_lt_of_le (h.rng b hb).2 sz⟩
    · simp at hb
      rcases hb with rfl | rfl
      · exact ⟨hl.1,by omega⟩
      · exact ⟨hl.2,by omega⟩
  · rw [qmu,← List.append_assoc]
    intro hm
    rcases List.mem_append.1 hm with hm | hm
    · rcases ha with ha | ha
      · exact h.apt g (ha.symm.trans e) hm
      · rw [ha] at e
        cases e
        rcases List.mem_append.1 hm with hm | hm
        · exact Nat.lt_irrefl _ (hX _ hm)
        · exact Nat.lt_irrefl _ (h.rng _ hm).2
    · simp at hm
      rcases ha with ha | ha
      · rcases hm with rfl | rfl
        · exact n1.1 (ha.symm.trans e)
        · exact n1.2 (ha.symm.trans e)
      · rw [ha] at e
        cases e
        rcases hm with hm | hm <;> omega
end
end Go.Proofs.Ytmllgpkgjniomaa.AWN

namespace Go.Proofs.Ytmllgpkgjniomaa.AWN
open Go Go.Shelf Go.RowKit Go.Proofs.Try
def recF (t:Str) (b:Nat) (F:Nat→qbb × Bool) (Bt:Nat→Str):Nat→Nat→List qbb × Nat
  | 0,a=>([],a)
  | k+1,a=>if a+4+48*b≤t.length∧(F a).2=true∧Bt (a+2+48*b)=sub t ((a+2+48*b:Nat):Int) ((a+4+48*b:Nat):Int)
      then ((F a).1 :: (recF t b F Bt k (a+4+48*b)).1,(recF t b F Bt k (a+4+48*b)).2) else ([],a)
theorem info82:(prog.info? 82).map (fun i=>(i.zero,i.size,i.bytes))=some (some (.agg #[.slice none 0 0,.slice none 0 0,.int .i64 0,.bool false]),4,64):=by kernel_rfl
theorem stG0 (wr:World) (x0 x1 x2 x3 x4 v:Value) (T:TypeId) (hv:v.oneCell'=true):(store ⟨wr.heap.size,0,none⟩ v).run prog (wr.alloc (.cells #[x0,x1,x2,x3,x4] T))=.ok () (wr.alloc (.cells #[v,x1,x2,x3,x4] T)):=by
  rw [st1 _ _ _ (by simp) _ hv]
  rfl
theorem stG1 (wr:World) (x0 x1 x2 x3 x4 v:Value) (T:TypeId) (hv:v.oneCell'=true):(store ⟨wr.heap.size,1,none⟩ v).run prog (wr.alloc (.cells #[x0,x1,x2,x3,x4] T))=.ok () (wr.alloc (.cells #[x0,v,x2,x3,x4] T)):=by
  rw [st1 _ _ _ (by simp) _ hv]
  rfl
theorem stG2 (wr:World) (x0 x1 x2 x3 x4 v:Value) (T:TypeId) (hv:v.oneCell'=true):(store ⟨wr.heap.size,2,none⟩ v).run prog (wr.alloc (.cells #[x0,x1,x2,x3,x4] T))=.ok () (wr.alloc (.cells #[x0,x1,v,x3,x4] T)):=by
  rw [st1 _ _ _ (by simp) _ hv]
  rfl
theorem stG3 (wr:World) (x0 x1 x2 x3 x4 v:Value) (T:TypeId) (hv:v.oneCell'=true):(store ⟨wr.heap.size,3,none⟩ v).run prog (wr.alloc (.cells #[x0,x1,x2,x3,x4] T))=.ok () (wr.alloc (.cells #[x0,x1,x2,v,x4] T)):=by
  rw [st1 _ _ _ (by simp) _ hv]
  rfl
theorem stG4 (wr:World) (x0 x1 x2 x3 x4 v:Value) (T:TypeId) (hv:v.oneCell'=true):(store ⟨wr.heap.size,4,none⟩ v).run prog (wr.alloc (.cells #[x0,x1,x2,x3,x4] T))=.ok () (wr.alloc (.cells #[x0,x1,x2,x3,v] T)):=by
  rw [st1 _ _ _ (by simp) _ hv]
  rfl
theorem st1d (wr:World) (i:Nat) (cs:Array Value) (hi:i < cs.size) (v:Value) (hv:v.oneCell'=true) (T:TypeId):(store ⟨wr.heap.size,i,none⟩ v).run prog (wr.alloc (.cells cs T)).drew=.ok () (wr.alloc (.cells (cs.modify i fun _=>v) T)).drew:=by
  have h:(wr.alloc (.cells cs T)).drew.heap[wr.heap.size]?=some (.cells cs T (0,0)):=heap_alloc_new wr _
  rw [run_store _ _ _ _ _ hv,Lib.cell_of_heap h,Array.getElem?_eq_getElem hi]
  dsimp only
  rw [Lib.frozen_of_heap h]
  show Result.ok () ((wr.alloc (.cells cs T)).setCell ⟨wr.heap.size,i,none⟩ v).drew=_
  rw [World.setCell_alloc_at _ _ _ _ _ rfl]
  rfl
theorem stR0d (wr:World) (x0 x1 x2 x3 x4 x5 v:Value) (T:TypeId) (hv:v.oneCell'=true):(store ⟨wr.heap.size,0,none⟩ v).run prog (wr.alloc (.cells #[x0,x1,x2,x3,x4,x5] T)).drew=.ok () (wr.alloc (.cells #[v,x1,x2,x3,x4,x5] T)).drew:=by
  rw [st1d _ _ _ (by simp) _ hv]
  rfl
theorem stR1d (wr:World) (x0 x1 x2 x3 x4 x5 v:Value) (T:TypeId) (hv:v.oneCell'=true):(store ⟨wr.heap.size,1,none⟩ v).run prog (wr.alloc (.cells #[x0,x1,x2,x3,x4,x5] T)).drew=.ok () (wr.alloc (.cells #[x0,v,x2,x3,x4,x5] T)).drew:=by
  rw [st1d _ _ _ (by simp) _ hv]
  rfl
theorem stR2d (wr:World) (x0 x1 x2 x3 x4 x5 v:Value) (T:TypeId) (hv:v.oneCell'=true):(store ⟨wr.heap.size,2,none⟩ v).run prog (wr.alloc (.cells #[x0,x1,x2,x3,x4,x5] T)).drew=.ok () (wr.alloc (.cells #[x0,x1,v,x3,x4,x5] T)).drew:=by
  rw [st1d _ _ _ (by simp) _ hv]
  rfl
theorem stR3d (wr:World) (x0 x1 x2 x3 x4 x5 v:Value) (T:TypeId) (hv:v.oneCell'=true):(store ⟨wr.heap.size,3,none⟩ v).run prog (wr.alloc (.cells #[x0,x1,x2,x3,x4,x5] T)).drew=.ok () (wr.alloc (.cells #[x0,x1,x2,v,x4,x5] T)).drew:=by
  rw [st1d _ _ _ (by simp) _ hv]
  rfl
theorem stR4d (wr:World) (x0 x1 x2 x3 x4 x5 v:Value) (T:TypeId) (hv:v.oneCell'=true):(store ⟨wr.heap.size,4,none⟩ v).run prog (wr.alloc (.cells #[x0,x1,x2,x3,x4,x5] T)).drew=.ok () (wr.alloc (.cells #[x0,x1,x2,x3,v,x5] T)).drew:=by
  rw [st1d _ _ _ (by simp) _ hv]
  rfl
theorem stR5d (wr:World) (x0 x1 x2 x3 x4 x5 v:Value) (T:TypeId) (hv:v.oneCell'=true):(store ⟨wr.heap.size,5,none⟩ v).run prog (wr.alloc (.cells #[x0,x1,x2,x3,x4,x5] T)).drew=.ok () (wr.alloc (.cells #[x0,x1,x2,x3,x4,v] T)).drew:=by
  rw [st1d _ _ _ (by simp) _ hv]
  rfl
theorem stR0 (wr:World) (x0 x1 x2 x3 x4 x5 v:Value) (T:TypeId) (hv:v.oneCell'=true):(store ⟨wr.heap.size,0,none⟩ v).run prog (wr.alloc (.cells #[x0,x1,x2,x3,x4,x5] T))=.ok () (wr.alloc (.cells #[v,x1,x2,x3,x4,x5] T)):=by
  rw [st1 _ _ _ (by simp) _ hv]
  rfl
theorem stR1 (wr:World) (x0 x1 x2 x3 x4 x5 v:Value) (T:TypeId) (hv:v.oneCell'=true):(store ⟨wr.heap.size,1,none⟩ v).run prog (wr.alloc (.cells #[x0,x1,x2,x3,x4,x5] T))=.ok () (wr.alloc (.cells #[x0,v,x2,x3,x4,x5] T)):=by
  rw [st1 _ _ _ (by simp) _ hv]
  rfl
theorem stR2 (wr:World) (x0 x1 x2 x3 x4 x5 v:Value) (T:TypeId) (hv:v.oneCell'=true):(store ⟨wr.heap.size,2,none⟩ v).run prog (wr.alloc (.cells #[x0,x1,x2,x3,x4,x5] T))=.ok () (wr.alloc (.cells #[x0,x1,v,x3,x4,x5] T)):=by
  rw [st1 _ _ _ (by simp) _ hv]
  rfl
theorem stR3 (wr:World) (x0 x1 x2 x3 x4 x5 v:Value) (T:TypeId) (hv:v.oneCell'=true):(store ⟨wr.heap.size,3,none⟩ v).run prog (wr.alloc (.cells #[x0,x1,x2,x3,x4,x5] T))=.ok () (wr.alloc (.cells #[x0,x1,x2,v,x4,x5] T)):=by
  rw [st1 _ _ _ (by simp) _ hv]
  rfl
theorem stR4 (wr:World) (x0 x1 x2 x3 x4 x5 v:Value) (T:TypeId) (hv:v.oneCell'=true):(store ⟨wr.heap.size,4,none⟩ v).run prog (wr.alloc (.cells #[x0,x1,x2,x3,x4,x5] T))=.ok () (wr.alloc (.cells #[x0,x1,x2,x3,v,x5] T)):=by
  rw [st1 _ _ _ (by simp) _ hv]
  rfl
theorem stR5 (wr:World) (x0 x1 x2 x3 x4 x5 v:Value) (T:TypeId) (hv:v.oneCell'=true):(store ⟨wr.heap.size,5,none⟩ v).run prog (wr.alloc (.cells #[x0,x1,x2,x3,x4,x5] T))=.ok () (wr.alloc (.cells #[x0,x1,x2,x3,x4,v] T)):=by
  rw [st1 _ _ _ (by simp) _ hv]
  rfl
theorem qpp {W:World} {b i:Nat} {cs:Array Value} {T:TypeId} (h:W.heap[b]?=some (.cells cs T (0,0))) (hi:i < cs.size) {v:Value} (hv:v.oneCell'=true) :
    (store ⟨b,i,none⟩ v).run prog W=.ok () (W.setCell ⟨b,i,none⟩ v)∧(W.setCell ⟨b,i,none⟩ v).heap[b]?=some (.cells (cs.setIfInBounds i v) T (0,0))∧But (fun x=>x=b) W (W.setCell ⟨b,i,none⟩ v):=by
  refine ⟨?_,heap_setCell_same W b i cs T v h,⟨rfl,rfl,rfl,by simp,fun k _ hk=>heap_setCell_other W ⟨b,i,none⟩ k v (fun e=>hk (by simp [e]))⟩⟩
  rw [run_store _ _ _ _ _ hv,Lib.cell_of_heap h,Array.getElem?_eq_getElem hi]
  dsimp only
  rw [Lib.frozen_of_heap h]
  rfl
theorem qjt (W:World) (b i:Nat) (v:Value):But (fun x=>x=b) W (W.setCell ⟨b,i,none⟩ v) :=
  ⟨rfl,rfl,rfl,by simp,fun k _ hk=>heap_setCell_other W ⟨b,i,none⟩ k v (fun e=>hk (by simp [e]))⟩
theorem qkj {W:World} {rb q:Nat} {x0 x1 x2 x3 x4 x5 z0 z1 z2 z3 z4 z5:Value} (h1:W.heap[rb]?=some (.cells #[x0,x1,x2,x3,x4,x5] 38 (0,0))) (h2:W.heap[q]?=some (.cells #[z0,z1,z2,z3,z4,z5] 38 (0,0)))
    (o0:x0.oneCell'=true) (o1:x1.oneCell'=true) (o2:x2.oneCell'=true) :
    ∃ W1 W2 W3 W4 W5 W6:World,((store ⟨q,0,none⟩ x0).run prog W=.ok () W1∧(store ⟨q,1,none⟩ x1).run prog W1=.ok () W2∧(store ⟨q,2,none⟩ x2).run prog W2=.ok () W3∧W3.setCell ⟨q,3,none⟩ x3=W4∧W4.setCell ⟨q,4,none⟩ x4=W5∧W5.setCell ⟨q,5,none⟩ x5=W6) ∧
    (W.cell? ⟨rb,0,none⟩=some x0∧W.cell? ⟨rb,1,none⟩=some x1∧W.cell? ⟨rb,2,none⟩=some x2∧W.cell? ⟨rb,3,none⟩=some x3∧W.cell? ⟨rb,4,none⟩=some x4∧W.cell? ⟨rb,5,none⟩=some x5) ∧
    (W3.cell? ⟨q,3,none⟩=some z3∧W4.cell? ⟨q,4,none⟩=some z4∧W5.cell? ⟨q,5,none⟩=some z5) ∧
    (W3.frozen? ⟨q,3,none⟩=false∧W4.frozen? ⟨q,4,none⟩=false∧W5.frozen? ⟨q,5,none⟩=false) ∧
    (W6.cell? ⟨q,0,none⟩=some x0∧W6.cell? ⟨q,1,none⟩=some x1∧W6.cell? ⟨q,2,none⟩=some x2∧W6.cell? ⟨q,3,none⟩=some x3∧W6.cell? ⟨q,4,none⟩=some x4∧W6.cell? ⟨q,5,none⟩=some x5)∧But (fun b=>b=q) W W6:=by
  have g0:(W.setCell ⟨q,0,none⟩ x0).heap[q]?=some (.cells #[x0,z1,z2,z3,z4,z5] 38 (0,0)):=by rw [heap_setCell_same _ q 0 _ 38 _ h2];rfl
  have g1:((W.setCell ⟨q,0,none⟩ x0).setCell ⟨q,1,none⟩ x1).heap[q]?=some (.cells #[x0,x1,z2,z3,z4,z5] 38 (0,0)):=by rw [heap_setCell_same _ q 1 _ 38 _ g0];rfl
  have g2:(((W.setCell ⟨q,0,none⟩ x0).setCell ⟨q,1,none⟩ x1).setCell ⟨q,2,none⟩ x2).heap[q]?=some (.cells #[x0,x1,x2,z3,z4,z5] 38 (0,0)):=by rw [heap_setCell_same _ q 2 _ 38 _ g1];rfl
  have g3:((((W.setCell ⟨q,0,none⟩ x0).setCell ⟨q,1,none⟩ x1).setCell ⟨q,2,none⟩ x2).setCell ⟨q,3,none⟩ x3).heap[q]?=some (.cells #[x0,x1,x2,x3,z4,z5] 38 (0,0)):=by rw [heap_setCell_same _ q 3 _ 38 _ g2];rfl
  have g4:(((((W.setCell ⟨q,0,none⟩ x0).setCell ⟨q,1,none⟩ x1).setCell ⟨q,2,none⟩ x2).setCell ⟨q,3,none⟩ x3).setCell ⟨q,4,none⟩ x4).heap[q]?=some (.cells #[x0,x1,x2,x3,x4,z5] 38 (0,0)):=by rw [heap_setCell_same _ q 4 _ 38 _ g3];rfl
  have g5:((((((W.setCell ⟨q,0,none⟩ x0).setCell ⟨q,1,none⟩ x1).setCell ⟨q,2,none⟩ x2).setCell ⟨q,3,none⟩ x3).setCell ⟨q,4,none⟩ x4).setCell ⟨q,5,none⟩ x5).heap[q]?=some (.cells #[x0,x1,x2,x3,x4,x5] 38 (0,0)):=by rw [heap_setCell_same _ q 5 _ 38 _ g4];rfl
  have e0:=(qpp h2 (i:=0) (by simp) o0).1
  have e1:=(qpp g0 (i:=1) (by simp) o1).1
  have e2:=(qpp g1 (i:=2) (by simp) o2).1
  refine ⟨_,_,_,_,_,_,⟨e0,e1,e2,rfl,rfl,rfl⟩,⟨by rw [Lib.cell_of_heap h1];rfl,by rw [Lib.cell_of_heap h1];rfl,by rw [Lib.cell_of_heap h1];rfl,by rw [Lib.cell_of_heap h1];rfl,by rw [Lib.cell_of_heap h1];rfl,by rw [Lib.cell_of_heap h1];rfl⟩,⟨by rw [Lib.cell_of_heap g2];rfl,by rw [Lib.cell_of_heap g3];rfl,by rw [Lib.cell_of_heap g4];rfl⟩,⟨by rw [Lib.frozen_of_heap g2],by rw [Lib.frozen_of_heap g3],by rw [Lib.frozen_of_heap g4]⟩,⟨by rw [Lib.cell_of_heap g5];rfl,by rw [Lib.cell_of_heap g5];rfl,by rw [Lib.cell_of_heap g5];rfl,by rw [Lib.cell_of_heap g5];rfl,by rw [Lib.cell_of_heap g5];rfl,by rw [Lib.cell_of_heap g5];rfl⟩,?_⟩
  exact (((((qjt _ _ _ _).trans (qjt _ _ _ _)).trans (qjt _ _ _ _)).trans (qjt _ _ _ _)).trans (qjt _ _ _ _)).trans (qjt _ _ _ _)
theorem qes.weak {W:World} {lo lo':Nat} {X:List Nat} {o0 o1:Option Nat} {v0 v1 v2:Value} {Bs:List SBus} {Ts:List STie} {ps:List FB} {fs:List qbb} (h:qes W lo X o0 o1 v0 v1 v2 Bs Ts ps fs) (hl:lo'≤lo):qes W lo' [] o0 o1 v0 v1 v2 Bs Ts ps fs:=by
  refine ⟨h.bus,h.tie,h.len,?_,h.row,(List.nodup_append.1 h.nod).2.1,fun b hb=>⟨Nat.le_trans hl (h.rng b hb).1,(h.rng b hb).2⟩,fun g e hm=>h.apt g e (List.mem_append.2 (.inr hm))⟩
  refine ⟨h.own.1,?_⟩
  rcases h.own.2 with hn | ⟨g,cap,cur,rfl,hb,rest⟩
  · exact .inl hn
  · exact .inr ⟨g,cap,cur,rfl,Nat.le_trans hl hb,rest⟩
theorem qp4 {w W W6:World} {X:List Nat} {o0 o1:Option Nat} {v0 v1 v2:Value} {Bs:List SBus} {Ts:List STie} {ps:List FB} {fs:List qbb} (R:qes W (w.heap.size+1) X o0 o1 v0 v1 v2 Bs Ts ps fs) (bel:Below w.heap.size w W) (k:But (fun b=>b=w.heap.size) W W6) :
    Below w.heap.size w W6∧qes W6 w.heap.size [] o0 o1 v0 v1 v2 Bs Ts ps fs:=by
  refine ⟨bel.trans (k.below bel.size fun b hb=>Nat.le_of_eq hb.symm),(R.but k fun b hb=>?_).weak (Nat.le_succ _)⟩
  subst hb
  refine ⟨fun hm=>?_,fun e=>?_⟩
  · have:=(R.rng _ hm).1
    omega
  · have:=(R.own.lt _ e).1
    omega
theorem qes.slice {W:World} {lo:Nat} {X:List Nat} {o0 o1:Option Nat} {v0 v1 v2:Value} {Bs:List SBus} {Ts:List STie} {ps:List FB} {fs:List qbb} (h:qes W lo X o0 o1 v0 v1 v2 Bs Ts ps fs):∃ ad cap,v2=.slice ad fs.length cap:=by
  rcases h.own.2 with ⟨hn,h0⟩ | ⟨g,cap,cur,rfl,hb,rest⟩
  · rw [h0];exact ⟨_,_,hn⟩
  · exact ⟨_,_,rfl⟩
theorem SlO.slice {W:World} {o:Option Nat} {sz:Nat} {es:List (List D)} {v:Value} (h:SlO W o sz es v):∃ ad cap,v=.slice ad es.length cap:=by
  rcases h with ⟨_,rfl,rfl⟩ | ⟨b,cap,_,rfl,_⟩
  · exact ⟨_,_,rfl⟩
  · exact ⟨_,_,rfl⟩
theorem qnm (s:Str) {lo hi:Option Int} {x y:Option Value} (hlo:qmq x lo) (hhi:qmq y hi) (h0:0≤lo.getD 0) (h1:lo.getD 0≤hi.getD s.length) (h2:hi.getD s.length≤s.length) (w:World) :
    (Instr.slice 9 (.string (bstr s)) x y none).run prog w=.ok (.string (bstr (sub s (lo.getD 0) (hi.getD s.length)))) w:=by
  have hb:=qfu s
  simp only [Instr.slice,Sem.run_bind,run_underlying Try.underlying9,Result.andThen_ok,Option.isSome_none,Bool.false_eq_true,if_false,Sem.run_pure]
  rw [qjo false (bstr s).size (bstr s).size hlo hhi (Nat.le_refl _) h0 (by rw [hb];exact h1) (by rw [hb];exact h2)]
  simp only [Result.andThen_ok,Sem.run_bind,Sem.run_pure]
  rw [hb,qrp]
  rfl
theorem flow_call2 {n:Nat} {t:Str} {b:Int} {r:qbb × Bool} (h:qdi n t b=some r) (w:World) :
    Calls prog 42 #[.string (bstr t),.int .i64 b] w fun e w'=>∃ d0 c0 d1 c1 o0 o1,e=.returned (.tuple #[.agg #[.slice d0 r.1.qad.length c0,.slice d1 r.1.qae.length c1,.int .i64 r.1.Rounds,.bool r.1.qcj],.bool r.2])∧Below w.heap.size w w' ∧
      SlO w' o0 3 (r.1.qad.map qa8) (.slice d0 r.1.qad.length c0)∧SlO w' o1 3 (r.1.qae.map qa8) (.slice d1 r.1.qae.length c1)∧(∀ b,o0=some b→w.heap.size≤b)∧(∀ b,o1=some b→w.heap.size≤b)∧(∀ b,o0=some b→o1 ≠ some b):=by
  refine (flow_call h w).mono ?_
  rintro e w' ⟨v0,v1,o0,o1,rfl,h1,h2,h3,h4⟩
  obtain ⟨d0,c0,e0⟩:=h2.slice
  obtain ⟨d1,c1,e1⟩:=h3.slice
  rw [List.length_map] at e0 e1
  subst e0 e1
  exact ⟨d0,c0,d1,c1,o0,o1,rfl,h1,h2,h3,h4⟩
theorem check_call {n:Nat} {t:Str} {c:Int} (h:qgj n 0 t=some (c,true)) (w:World) :
    Calls prog 43 #[.int .i64 0,.string (bstr t)] w fun e w'=>e=.returned (.tuple #[.int .i64 c,.bool true])∧Below w.heap.size w w':=by
  refine (impl_CheckOf_ok n 0 t h w ⟨qat [],fun _=>none⟩ (fun _=>none) (fun _=>True) _ rfl rfl (hs0 w) (ql3 (.d (.int _ _)) (.d (.str _)))).mono ?_
  rintro e w' ⟨v,_,_,_,hb',rfl,⟨rfl,rfl,rfl⟩,_,hs,hv⟩
  obtain ⟨x,y,rfl,hx,hy⟩:=agg2 hv
  have ex:=qgl hx
  have ey:=qfl hy
  subst ex ey
  exact ⟨rfl,qk7 hs.ext⟩
theorem bytes_call {n:Nat} {c:Int} {r:Str} (h:qb7 n c 2=some r) (w:World) :
    Calls prog 44 #[.int .i64 c,.int .i64 2] w fun e w'=>e=.returned (.string (bstr r))∧Below w.heap.size w w':=by
  refine (qhd n c 2 h w ⟨qat [],fun _=>none⟩ (fun _=>none) (fun _=>True) _ rfl rfl (hs0 w) (ql3 (.d (.int _ _)) (.d (.int _ _)))).mono ?_
  rintro e w' ⟨v,_,_,_,hb',rfl,⟨rfl,rfl,rfl⟩,_,hs,hv⟩
  have ex:=qix hv
  subst ex
  exact ⟨rfl,qk7 hs.ext⟩
theorem cuts (t:Str) (a b:Nat) (h:a+4+48*b≤t.length):∃ T1 T2 T3:Str,T1=sub t (a:Int) ((a+2+48*b:Nat):Int)∧T2=sub t 0 ((a+2+48*b:Nat):Int)∧T3=sub t ((a+2+48*b:Nat):Int) ((a+4+48*b:Nat):Int) ∧
    (∀ w,(Instr.slice 9 (.string (bstr t)) (some (.int .i64 (a:Int))) (some (.int .i64 ((a:Int)+2+48*(b:Int)))) none).run prog w=.ok (.string (bstr T1)) w) ∧
    (∀ w,(Instr.slice 9 (.string (bstr t)) none (some (.int .i64 ((a:Int)+2+48*(b:Int)))) none).run prog w=.ok (.string (bstr T2)) w) ∧
    (∀ w,(Instr.slice 9 (.string (bstr t)) (some (.int .i64 ((a:Int)+2+48*(b:Int)))) (some (.int .i64 ((a:Int)+2+48*(b:Int)+2))) none).run prog w=.ok (.string (bstr T3)) w):=by
  have e1:(a:Int)+2+48*(b:Int)=((a+2+48*b:Nat):Int):=by omega
  have e2:((a+2+48*b:Nat):Int)+2=((a+4+48*b:Nat):Int):=by omega
  rw [e1,e2]
  refine ⟨_,_,_,rfl,rfl,rfl,fun w=>?_,fun w=>?_,fun w=>?_⟩
  · exact qnm t (lo:=some (a:Int)) (hi:=some ((a+2+48*b:Nat):Int)) ⟨_,rfl⟩ ⟨_,rfl⟩ (by show (0:Int)≤a;omega) (by show (a:Int)≤((a+2+48*b:Nat):Int);omega) (by show ((a+2+48*b:Nat):Int)≤_;omega) w
  · exact qnm t (lo:=none) (hi:=some ((a+2+48*b:Nat):Int)) rfl ⟨_,rfl⟩ (Int.le_refl _) (by show (0:Int)≤((a+2+48*b:Nat):Int);omega) (by show ((a+2+48*b:Nat):Int)≤_;omega) w
  · exact qnm t (lo:=some ((a+2+48*b:Nat):Int)) (hi:=some ((a+4+48*b:Nat):Int)) ⟨_,rfl⟩ ⟨_,rfl⟩ (by show (0:Int)≤((a+2+48*b:Nat):Int);omega) (by show ((a+2+48*b:Nat):Int)≤((a+4+48*b:Nat):Int);omega) (by show ((a+4+48*b:Nat):Int)≤_;omega) w
theorem wrap_id {n:Int} (h0:-9223372036854775808≤n) (h1:n < 9223372036854775808):IntKind.i64.wrap n=n:=by
  unfold IntKind.wrap
  simp [IntKind.signed,IntKind.bits]
  omega
theorem qsx (s:Str):(bstr s).toList=s:=by
  first
    | exact Lib.toList_bstr s
    | simp [bstr,ByteArray.toList_data]
    | simp [bstr]
theorem bstr_ne {s t:Str} (h:¬ s=t):((bstr s).toList == (bstr t).toList)=false:=by
  rw [qsx,qsx]
  exact beq_eq_false_iff_ne.2 h
theorem new_cells (w:World) (x0 x1 x2 x3:Value) (T:TypeId):∀ j u,[x0,x1,x2,x3][j]?=some u→(w.alloc (.cells #[x0,x1,x2,x3] T)).cell? ((⟨w.heap.size,0,none⟩:Addr).add j)=some u:=by
  intro j u hj
  have h:(w.alloc (.cells #[x0,x1,x2,x3] T)).heap[w.heap.size]?=some (.cells #[x0,x1,x2,x3] T (0,0)):=heap_alloc_new w _
  have e:(⟨w.heap.size,0,none⟩:Addr).add j=⟨w.heap.size,j,none⟩:=by unfold Addr.add;split <;> simp_all
  rw [e,Lib.cell_of_heap h]
  simpa using hj
end Go.Proofs.Ytmllgpkgjniomaa.AWN

namespace Go.Proofs.Ytmllgpkgjniomaa.AWN
open Go Go.Shelf Go.RowKit Go.Proofs.Try
set_option maxHeartbeats 8000000 in
set_option maxRecDepth 100000 in
theorem recover_walk {n:Nat} {t:Str} {g:qbi} {a0:Nat} (hg:qcw n t=some (g,(a0:Int),true)) (ha0:a0≤t.length) (ht:t.length≤1048576)
    (hb1:1≤g.qa1.qac.length) (hb16:g.qa1.qac.length≤16) (F:Nat→qbb × Bool) (C:Nat→Int) (Bt:Nat→Str)
    (hF:∀ a,a+4+48*g.qa1.qac.length≤t.length→qdi n (sub t (a:Int) ((a+2+48*g.qa1.qac.length:Nat):Int)) (g.qa1.qac.length:Int)=some (F a))
    (hFl:∀ a,(F a).2=true→(F a).1.qad ≠ []∧(F a).1.qae ≠ [])
    (hC:∀ e,e≤t.length→qgj n 0 (sub t 0 (e:Int))=some (C e,true))
    (hB:∀ e,qb7 n (C e) 2=some (Bt e)) (w:World) :
    Calls prog 13 #[.string (bstr t)] w fun e w'=>∃ a a' b b' c c' v0 v1 v2 o0 o1 ps,e=.returned (.tuple #[.agg #[.complex .f32 a a',.complex .f32 b b',.complex .f32 c c',v0,v1,v2],.int .i64 (recF t g.qa1.qac.length F Bt 8 a0).2,.bool true])∧Below w.heap.size w w' ∧
      CxW g.qa1.Source.A a a'∧CxW g.qa1.Source.B b b'∧CxW g.qa1.Source.C c c'∧qes w' w.heap.size [] o0 o1 v0 v1 v2 g.qa1.qac g.Ties ps (recF t g.qa1.qac.length F Bt 8 a0).1:=by
  go_enter Try.func13,Try.ntmps13
  go_wp2_with (go_at_call 34;refine (qq9 hg _).mono ?_;rintro e w1 ⟨a,a',b,b',c,c',v0,v1,o0,o1,rfl,b1,ca,cb,cc,s0,s1,l0,l1,hne⟩)
  obtain ⟨bB,capB,rfl,ev0,hRB⟩:=s0.some (by intro h;have:=congrArg List.length h;rw [List.length_map] at this;simp at this;rw [this] at hb1;simp at hb1)
  rw [List.length_map] at ev0
  subst ev0
  obtain ⟨ad1,cap1,ev1⟩:=s1.slice
  rw [List.length_map] at ev1
  subst ev1
  have e0:=fun (wr:World) (x0 x1 x2 x3 x4:Value) (p q:Nat)=>stG0 wr x0 x1 x2 x3 x4 (.complex .f32 p q) 30 rfl
  have e1:=fun (wr:World) (x0 x1 x2 x3 x4:Value) (p q:Nat)=>stG1 wr x0 x1 x2 x3 x4 (.complex .f32 p q) 30 rfl
  have e2:=fun (wr:World) (x0 x1 x2 x3 x4:Value) (p q:Nat)=>stG2 wr x0 x1 x2 x3 x4 (.complex .f32 p q) 30 rfl
  have e3:=fun (wr:World) (x0 x1 x2 x3 x4:Value) (p:Option Addr) (m c:Nat)=>stG3 wr x0 x1 x2 x3 x4 (.slice p m c) 30 rfl
  have e4:=fun (wr:World) (x0 x1 x2 x3 x4:Value) (p:Option Addr) (m c:Nat)=>stG4 wr x0 x1 x2 x3 x4 (.slice p m c) 30 rfl
  simp only [e0,e1,e2,e3,e4,Result.andThen_ok]
  go_wp2
  obtain ⟨W5,hW5⟩:∃ W5,W5=w1.alloc (.cells #[.complex .f32 a a',.complex .f32 b b',.complex .f32 c c',.slice (some ⟨bB,0,none⟩) g.qa1.qac.length capB,(.slice ad1 g.Ties.length cap1)] 30):=⟨_,rfl⟩
  have k2:W5.heap[w1.heap.size]?=some (.cells #[.complex .f32 a a',.complex .f32 b b',.complex .f32 c c',.slice (some ⟨bB,0,none⟩) g.qa1.qac.length capB,(.slice ad1 g.Ties.length cap1)] 30 (0,0)):=by rw [hW5];exact heap_alloc_new w1 _
  have z5:W5.heap.size=w1.heap.size+1:=by rw [hW5];simp
  have b5:Below w1.heap.size w1 W5:=by rw [hW5];exact (Below.refl _ w1).alloc (Nat.le_refl _) _
  rw [← hW5]
  clear e0 e1 e2 e3 e4 hW5
  have c5:∀ w',Below W5.heap.size W5 w'→w'.cell? ⟨w1.heap.size,0,none⟩=some (.complex .f32 a a')∧w'.cell? ⟨w1.heap.size,1,none⟩=some (.complex .f32 b b')∧w'.cell? ⟨w1.heap.size,2,none⟩=some (.complex .f32 c c')∧w'.cell? ⟨w1.heap.size,3,none⟩=some (.slice (some ⟨bB,0,none⟩) g.qa1.qac.length capB)∧w'.cell? ⟨w1.heap.size,4,none⟩=some (.slice ad1 g.Ties.length cap1):=fun w' h=>by
    have hh:=(h.block w1.heap.size (by omega)).trans k2
    exact ⟨by rw [Lib.cell_of_heap hh];rfl,by rw [Lib.cell_of_heap hh];rfl,by rw [Lib.cell_of_heap hh];rfl,by rw [Lib.cell_of_heap hh];rfl,by rw [Lib.cell_of_heap hh];rfl⟩
  have e0:=fun (wr:World) (x0 x1 x2 x3 x4 x5:Value) (p q:Nat)=>stR0 wr x0 x1 x2 x3 x4 x5 (.complex .f32 p q) 38 rfl
  have e1:=fun (wr:World) (x0 x1 x2 x3 x4 x5:Value) (p q:Nat)=>stR1 wr x0 x1 x2 x3 x4 x5 (.complex .f32 p q) 38 rfl
  have e2:=fun (wr:World) (x0 x1 x2 x3 x4 x5:Value) (p q:Nat)=>stR2 wr x0 x1 x2 x3 x4 x5 (.complex .f32 p q) 38 rfl
  have e3:=fun (wr:World) (x0 x1 x2 x3 x4 x5:Value) (p:Option Addr) (m c:Nat)=>stR3 wr x0 x1 x2 x3 x4 x5 (.slice p m c) 38 rfl
  have e4:=fun (wr:World) (x0 x1 x2 x3 x4 x5:Value) (p:Option Addr) (m c:Nat)=>stR4 wr x0 x1 x2 x3 x4 x5 (.slice p m c) 38 rfl
  have e5:=fun (wr:World) (x0 x1 x2 x3 x4 x5:Value) (p:Option Addr) (m c:Nat)=>stR5 wr x0 x1 x2 x3 x4 x5 (.slice p m c) 38 rfl
  have d0:=fun (wr:World) (x0 x1 x2 x3 x4 x5:Value) (p q:Nat)=>stR0d wr x0 x1 x2 x3 x4 x5 (.complex .f32 p q) 38 rfl
  have d1:=fun (wr:World) (x0 x1 x2 x3 x4 x5:Value) (p q:Nat)=>stR1d wr x0 x1 x2 x3 x4 x5 (.complex .f32 p q) 38 rfl
  have d2:=fun (wr:World) (x0 x1 x2 x3 x4 x5:Value) (p q:Nat)=>stR2d wr x0 x1 x2 x3 x4 x5 (.complex .f32 p q) 38 rfl
  have d3:=fun (wr:World) (x0 x1 x2 x3 x4 x5:Value) (p:Option Addr) (m c:Nat)=>stR3d wr x0 x1 x2 x3 x4 x5 (.slice p m c) 38 rfl
  have d4:=fun (wr:World) (x0 x1 x2 x3 x4 x5:Value) (p:Option Addr) (m c:Nat)=>stR4d wr x0 x1 x2 x3 x4 x5 (.slice p m c) 38 rfl
  have d5:=fun (wr:World) (x0 x1 x2 x3 x4 x5:Value) (p:Option Addr) (m c:Nat)=>stR5d wr x0 x1 x2 x3 x4 x5 (.slice p m c) 38 rfl
  obtain ⟨g0,g1,g2,g3,g4⟩:=c5 W5 (Below.refl _ _)
  have hlt5:w1.heap.size < W5.heap.size:=by omega
  clear z5
  go_wp2
  go_region
  clear e0 e1 e2 e3 e4 e5 d0 d1 d2 d3 d4 d5
  obtain ⟨W6,hW6⟩:∃ W6,W6=(W5.alloc (.cells #[.complex .f32 a a',.complex .f32 b b',.complex .f32 c c',.slice (some ⟨bB,0,none⟩) g.qa1.qac.length capB,(.slice ad1 g.Ties.length cap1),.slice none 0 0] 38)).drew:=⟨_,rfl⟩
  have k6:W6.heap[W5.heap.size]?=some (.cells #[.complex .f32 a a',.complex .f32 b b',.complex .f32 c c',.slice (some ⟨bB,0,none⟩) g.qa1.qac.length capB,(.slice ad1 g.Ties.length cap1),.slice none 0 0] 38 (0,0)):=by rw [hW6];exact heap_alloc_new W5 _
  have z6:W6.heap.size=W5.heap.size+1:=by rw [hW6];simp
  have b6:Below W5.heap.size W5 W6:=by rw [hW6];exact ((Below.refl _ W5).alloc (Nat.le_refl _) _).drew
  rw [← hW6]
  clear hW6 k2 c5 g0 g1 g2 g3 g4
  generalize W5.heap.size=rb at k6 z6 b6 hlt5 ⊢
  have zW0:(w.alloc (.cells #[.complex .f32 0 0,.complex .f32 0 0,.complex .f32 0 0,.slice none 0 0,.slice none 0 0,.slice none 0 0] 38)).heap.size=w.heap.size+1:=by simp
  have hW0:(w.alloc (.cells #[.complex .f32 0 0,.complex .f32 0 0,.complex .f32 0 0,.slice none 0 0,.slice none 0 0,.slice none 0 0] 38)).heap[w.heap.size]?=some (.cells #[.complex .f32 0 0,.complex .f32 0 0,.complex .f32 0 0,.slice none 0 0,.slice none 0 0,.slice none 0 0] 38 (0,0)):=heap_alloc_new w _
  have bW0:Below w.heap.size w (w.alloc (.cells #[.complex .f32 0 0,.complex .f32 0 0,.complex .f32 0 0,.slice none 0 0,.slice none 0 0,.slice none 0 0] 38)):=(Below.refl _ w).alloc (Nat.le_refl _) _
  rw [zW0] at b1 l0 l1
  generalize w.alloc (.cells #[.complex .f32 0 0,.complex .f32 0 0,.complex .f32 0 0,.slice none 0 0,.slice none 0 0,.slice none 0 0] 38)=W0 at b1 zW0 hW0 bW0
  have sz1:=b1.size
  have sz5:=b5.size
  have b06:Below W0.heap.size W0 W6:=by
    rw [zW0]
    exact (b1.trans (b5.mono (by omega))).trans (b6.mono (by omega))
  have hres:W6.heap[w.heap.size]?=some (.cells #[.complex .f32 0 0,.complex .f32 0 0,.complex .f32 0 0,.slice none 0 0,.slice none 0 0,.slice none 0 0] 38 (0,0)):=(b06.block _ (by omega)).trans hW0
  have bel6:Below w.heap.size w W6:=bW0.trans (b06.mono (by omega))
  have b16:Below w1.heap.size w1 W6:=b5.trans (b6.mono (by omega))
  have R6:qes W6 (w.heap.size+1) [rb] (some bB) o1 (.slice (some ⟨bB,0,none⟩) g.qa1.qac.length capB) (.slice ad1 g.Ties.length cap1) (.slice none 0 0) g.qa1.qac g.Ties [] []:=by
    have q0:=s0.lt _ rfl
    refine ⟨s0.kept fun x e=>by cases e;exact b16.block _ q0,s1.kept fun x e=>b16.block _ (s1.lt x e),rfl,World.ownsRow_nil _ _ _ _,fun i p f h=>by simp at h,?_,fun x hx=>?_,fun g h=>by cases h⟩
    · cases ho:o1 with
      | none=>simp [blks];omega
      | some y =>
        have q1:=s1.lt y ho
        have q2:=hne bB rfl
        rw [ho] at q2
        simp [blks]
        exact ⟨⟨by omega,by omega⟩,fun h=>q2 (by rw [h])⟩
    · cases ho:o1 with
      | none =>
        rw [ho] at hx
        simp [blks] at hx
        subst hx
        exact ⟨l0 _ rfl,by omega⟩
      | some y =>
        have q1:=s1.lt y ho
        rw [ho] at hx
        simp [blks] at hx
        rcases hx with rfl | rfl
        · exact ⟨l0 _ rfl,by omega⟩
        · exact ⟨l1 _ ho,by omega⟩
  have hrb:w.heap.size+1≤rb:=by omega
  clear b1 b5 b6 sz1 sz5 b06 b16 hW0 zW0 bW0 W0 s0 s1 hRB l0 l1 hne hlt5
  generalize w1.heap.size=q1 at *
  clear w1
  go_wp2
  go_loopw [6] (fun i wr=>∃ (a1:Nat) (v2:Value) (ps:List FB) (fs:List qbb),i=.int .i64 a1∧a1≤t.length∧fs.length≤8 ∧
      recF t g.qa1.qac.length F Bt 8 a0=(fs++(recF t g.qa1.qac.length F Bt (8 - fs.length) a1).1,(recF t g.qa1.qac.length F Bt (8 - fs.length) a1).2) ∧
      wr.heap[rb]?=some (.cells #[.complex .f32 a a',.complex .f32 b b',.complex .f32 c c',.slice (some ⟨bB,0,none⟩) g.qa1.qac.length capB,(.slice ad1 g.Ties.length cap1),v2] 38 (0,0))∧wr.heap[w.heap.size]?=some (.cells #[.complex .f32 0 0,.complex .f32 0 0,.complex .f32 0 0,.slice none 0 0,.slice none 0 0,.slice none 0 0] 38 (0,0)) ∧
      qes wr (w.heap.size+1) [rb] (some bB) o1 (.slice (some ⟨bB,0,none⟩) g.qa1.qac.length capB) (.slice ad1 g.Ties.length cap1) v2 g.qa1.qac g.Ties ps fs∧Below w.heap.size w wr)
    (fun i _=>t.length+1 - (intOf i).toNat)
  case atStart=>exact ⟨a0,_,[],[],rfl,ha0,Nat.zero_le _,rfl,k6,hres,R6,bel6⟩
  case round =>
  obtain ⟨a1,v2,ps,fs,rfl,ha1,h8,hrec,hrb6,hres6,R,bel⟩:=hrel
  clear k6 hres R6 bel6 z6 W6
  obtain ⟨ad,cap2,rfl⟩:=R.slice
  have hbs:=qfu t
  by_cases hfl:fs.length < 8
  · by_cases hlen:a1+4+48*g.qa1.qac.length≤t.length
    · have hFa:=hF a1 hlen
      have hr5:wr.cell? ⟨rb,5,none⟩=some (.slice ad fs.length cap2):=by rw [Lib.cell_of_heap hrb6];rfl
      obtain ⟨T1,T2,T3,hT1,hT2,hT3,sl1,sl2,sl3⟩:=cuts t a1 g.qa1.qac.length hlen
      have hCa:=hC (a1+2+48*g.qa1.qac.length) (by omega)
      have hBa:=hB (a1+2+48*g.qa1.qac.length)
      rw [← hT1] at hFa
      rw [← hT2] at hCa
      have hT3':Bt (a1+2+48*g.qa1.qac.length)=T3 ↔ Bt (a1+2+48*g.qa1.qac.length)=sub t ((a1+2+48*g.qa1.qac.length:Nat):Int) ((a1+4+48*g.qa1.qac.length:Nat):Int):=by rw [hT3]
      have hT3h:Hid _:=hT3'
      clear hT3'
      clear hF hC hB hT1 hT2 hT3
      have hrech:Hid _:=hrec
      clear hrec
      go_wp2_with (go_at_call 42;refine (flow_call2 hFa _).mono ?_;rintro e w2 ⟨d0,c0,d1,c1,p0,p1,rfl,bF,sV,sC,lV,lC,nVC⟩)
      obtain ⟨w3,hw3⟩:∃ w3,w3=w2.alloc (.cells #[.slice d0 (F a1).1.qad.length c0,.slice d1 (F a1).1.qae.length c1,.int .i64 (F a1).1.Rounds,.bool (F a1).1.qcj] 82):=⟨_,rfl⟩
      have h3:w3.heap[w2.heap.size]?=some (.cells #[.slice d0 (F a1).1.qad.length c0,.slice d1 (F a1).1.qae.length c1,.int .i64 (F a1).1.Rounds,.bool (F a1).1.qcj] 82 (0,0)):=by rw [hw3];exact heap_alloc_new w2 _
      have z3:w3.heap.size=w2.heap.size+1:=by rw [hw3];simp
      have b3:Below w2.heap.size w2 w3:=by rw [hw3];exact (Below.refl _ w2).alloc (Nat.le_refl _) _
      rw [← hw3]
      refine (check_call hCa _).mono ?_
      rintro e w4 ⟨rfl,bC⟩
      have h4:w4.heap[w2.heap.size]?=some (.cells #[.slice d0 (F a1).1.qad.length c0,.slice d1 (F a1).1.qae.length c1,.int .i64 (F a1).1.Rounds,.bool (F a1).1.qcj] 82 (0,0)):=(bC.block _ (by omega)).trans h3
      have bel4:Below wr.heap.size wr w4:=by
        have:=bF.size
        exact (bF.trans (b3.mono this)).trans (bC.mono (by omega))
      have R4:=R.below bel4
      have sV4:=sV.kept (W':=w4) fun x e=>(bC.block x (by have:=sV.lt x e;omega)).trans (b3.block x (sV.lt x e))
      have sC4:=sC.kept (W':=w4) fun x e=>(bC.block x (by have:=sC.lt x e;omega)).trans (b3.block x (sC.lt x e))
      have hrblt:rb < wr.heap.size:=(Array.getElem?_eq_some_iff.1 hrb6).1
      have hrb4:=(bel4.block rb hrblt).trans hrb6
      have hres4:=(bel4.block w.heap.size (by omega)).trans hres6
      have belw4:Below w.heap.size w w4:=bel.trans (bel4.mono bel.size)
      have lw2:wr.heap.size≤w2.heap.size:=bF.size
      have lw4:w2.heap.size < w4.heap.size:=by have:=bC.size;omega
      have hblk:∀ x ∈ [rb]++blks (some bB) o1 ps,x < wr.heap.size:=fun x hx=>by
        rcases List.mem_append.1 hx with hx | hx
        · simp at hx;rw [hx];exact hrblt
        · exact (R.rng x hx).2
      have hown0:=R.own.lt
      clear h3 hw3 b3 bC z3 sV sC bF hrb6 hres6 R bel hr5 w3
      have rbl:rb < w4.heap.size:=by omega
      have hwr:IntKind.i64.wrap ((a1:Int)+2+48*(g.qa1.qac.length:Int)+2)=(a1:Int)+2+48*(g.qa1.qac.length:Int)+2:=wrap_id (by omega) (by omega)
      have wl:w.heap.size < w4.heap.size:=by omega
      by_cases hok:(F a1).2=true
      · have hby:∀ wr',Below w4.heap.size w4 wr'→Calls prog 44 #[.int .i64 (C (a1+2+48*g.qa1.qac.length)),.int .i64 2] wr' fun e w'=>e=.returned (.string (bstr (Bt (a1+2+48*g.qa1.qac.length))))∧Below w4.heap.size w4 w':=fun wr' h=>(bytes_call hBa wr').mono fun e w' h'=>⟨h'.1,h.trans (h'.2.mono h.size)⟩
        by_cases hq:Bt (a1+2+48*g.qa1.qac.length)=T3
        · go_wp2
          go_region_held3 (fun w'=>Below w4.heap.size w4 w')
            (first | assumption | exact Below.refl _ _ | exact (Below.refl _ _).drew)
            (first
              | (go_at_call 44;refine (hby _ (by first | assumption | exact Below.refl _ _ | exact (Below.refl _ _).drew)).mono ?_;rintro e w5 ⟨rfl,q⟩))
          have hbb:bstr (Bt (a1+2+48*g.qa1.qac.length))=bstr T3:=by rw [hq]
          have hrb8:=(q.block rb (by omega)).trans hrb4
          have hres8:=(q.block w.heap.size (by omega)).trans hres4
          have R5:=R4.below q
          have h5:=(q.block w2.heap.size (by omega)).trans h4
          have k0:w5.cell? ⟨w2.heap.size,0,none⟩=some (.slice d0 (F a1).1.qad.length c0):=by rw [Lib.cell_of_heap h5];rfl
          have k1:w5.cell? ⟨w2.heap.size,1,none⟩=some (.slice d1 (F a1).1.qae.length c1):=by rw [Lib.cell_of_heap h5];rfl
          have k2:w5.cell? ⟨w2.heap.size,2,none⟩=some (.int .i64 (F a1).1.Rounds):=by rw [Lib.cell_of_heap h5];rfl
          have k3:w5.cell? ⟨w2.heap.size,3,none⟩=some (.bool (F a1).1.qcj):=by rw [Lib.cell_of_heap h5];rfl
          have hr5:w5.cell? ⟨rb,5,none⟩=some (.slice ad fs.length cap2):=by rw [Lib.cell_of_heap hrb8];rfl
          obtain ⟨i0,hi,hz0,hz1,hz2⟩:=info_parts info82
          have hbase:w.heap.size+1≤w5.heap.size:=by have:=q.size;omega
          go_wp2_with (at_builtin;refine wpList_append_own_at _ rfl _ _ 36 rfl (w.heap.size+1) 82 i0 _ 4 64 Try.underlying36 hi hz0 hz1 hz2 rfl (by decide) _ _ _ rfl (R5.own.alloc _) ⟨w5.heap.size,0,none⟩ 1 1 [.slice d0 (F a1).1.qad.length c0,.slice d1 (F a1).1.qae.length c1,.int .i64 (F a1).1.Rounds,.bool (F a1).1.qcj] rfl rfl (new_cells _ _ _ _ _ _) ?c2 ?c3 ?c4 ?c5 ?_)
          case c2 =>
            intro u hu
            simp at hu
            rcases hu with rfl | rfl | rfl | rfl <;> rfl
          case c3=>unfold maxLen;omega
          case c4=>omega
          case c5=>simp;omega
          intro v' w6 hown' hgrow _ hat
          obtain ⟨W,hW⟩:∃ W,W=w5.alloc (.cells #[.slice d0 (F a1).1.qad.length c0,.slice d1 (F a1).1.qae.length c1,.int .i64 (F a1).1.Rounds,.bool (F a1).1.qcj] 82):=⟨_,rfl⟩
          have bA:Below w5.heap.size w5 W:=by rw [hW];exact (Below.refl _ w5).alloc (Nat.le_refl _) _
          have zW:W.heap.size=w5.heap.size+1:=by rw [hW];simp
          rw [← hW] at hgrow
          rw [← zW] at hat
          clear hW
          have RW:=R5.below bA
          obtain ⟨n0,n1⟩:=hFl a1 hok
          have bW:Below w4.heap.size w4 W:=q.trans (bA.mono q.size)
          obtain ⟨bV,cV,rfl,eV,rV⟩:=sV4.some (by intro h;exact n0 (by simpa using h))
          obtain ⟨bC,cC,rfl,eC,rC⟩:=sC4.some (by intro h;exact n1 (by simpa using h))
          have sVW:=sV4.kept (W':=W) fun x e=>bW.block x (sV4.lt x e)
          have sCW:=sC4.kept (W':=W) fun x e=>bW.block x (sC4.lt x e)
          have gV:=lV bV rfl
          have gC:=lC bC rfl
          have gC':wr.heap.size≤bC:=gC
          have gW:w4.heap.size≤W.heap.size:=bW.size
          have P:=RW.push (p:=⟨.slice d0 (F a1).1.qad.length c0,.slice d1 (F a1).1.qae.length c1,bV,bC⟩) (f:=(F a1).1) (v':=v') (W':=w6)
            (fun x hx=>by simp at hx;rw [hx];omega) sVW sCW ⟨by show _≤bV;omega,by show _≤bC;omega⟩ (fun e=>nVC bV rfl (by rw [show bV=bC from e]))
            ⟨fun hm=>by have:bV < _:=hblk bV hm;omega,fun hm=>by have:bC < _:=hblk bC hm;omega⟩ ⟨fun e=>by have:bV < _:=(hown0 bV e).2;omega,fun e=>by have:bC < _:=(hown0 bC e).2;omega⟩ hown' hgrow hat
          obtain ⟨g',cap',rfl⟩:∃ g' cap',v'=.slice (some ⟨g',0,none⟩) (fs.length+1) cap':=by
            rcases hown'.2 with ⟨_,h0⟩ | ⟨g',cap',cur,e,_⟩
            · exact absurd h0 (Nat.succ_ne_zero _)
            · exact ⟨g',cap',e⟩
          have nrb:some rb ≠ Value.ownBlock (.slice ad fs.length cap2):=fun e=>RW.apt rb e.symm (by simp)
          have nwb:some w.heap.size ≠ Value.ownBlock (.slice ad fs.length cap2):=fun e=>by
            have:=(RW.own.lt _ e.symm).1
            omega
          have hrbW:=(bW.block rb (by omega)).trans hrb4
          have hresW:=(bW.block w.heap.size (by omega)).trans hres4
          have hrb9:=(hgrow.block rb (by omega) nrb).trans hrbW
          have hres9:=(hgrow.block w.heap.size (by omega) nwb).trans hresW
          have bel9:Below w.heap.size w w6:=Below.grown (belw4.trans (bW.mono belw4.size)) hgrow (by omega) (fun k e=>by
            have:=(RW.own.lt _ e).1
            omega)
          have q5:w6.cell? ⟨rb,5,none⟩=some (.slice ad fs.length cap2):=by rw [Lib.cell_of_heap hrb9];rfl
          have f5:w6.frozen? ⟨rb,5,none⟩=false:=by rw [Lib.frozen_of_heap hrb9]
          obtain ⟨w7,hw7⟩:∃ w7,w6.setCell ⟨rb,5,none⟩ (.slice (some ⟨g',0,none⟩) (fs.length+1) cap')=w7:=⟨_,rfl⟩
          have b7:=qjt w6 rb 5 (.slice (some ⟨g',0,none⟩) (fs.length+1) cap')
          have hrb10:=heap_setCell_same w6 rb 5 _ 38 (.slice (some ⟨g',0,none⟩) (fs.length+1) cap') hrb9
          rw [hw7] at b7 hrb10
          have hres10:=(b7.block w.heap.size (Array.getElem?_eq_some_iff.1 hres9).1 (by show w.heap.size ≠ rb;omega)).trans hres9
          have nd:=(List.nodup_append.1 P.nod).2.2
          have P10:=P.but b7 fun x hx=>by
            subst hx
            exact ⟨fun hm=>nd x (by simp) x hm rfl,fun e=>P.apt x e (by simp)⟩
          have bel10:Below w.heap.size w w7:=bel9.trans (b7.below bel9.size fun k e=>by rw [e];omega)
          have hrec10:recF t g.qa1.qac.length F Bt 8 a0=(fs++[(F a1).1]++(recF t g.qa1.qac.length F Bt (8 - (fs++[(F a1).1]).length) (a1+4+48*g.qa1.qac.length)).1,(recF t g.qa1.qac.length F Bt (8 - (fs++[(F a1).1]).length) (a1+4+48*g.qa1.qac.length)).2):=by
            have hrec:=hrech
            have hT3:=hT3h
            unfold Hid at hrec hT3
            rw [hrec,show 8 - fs.length=(7 - fs.length)+1 by omega,show 8 - (fs++[(F a1).1]).length=7 - fs.length by rw [List.length_append,List.length_singleton];omega]
            conv=>lhs;unfold recF
            rw [if_pos ⟨hlen,hok,hT3.1 hq⟩,List.append_assoc]
            rfl
          have hrec10:Hid _:=hrec10
          clear hown' hgrow hat RW R5 R4 hrb8 hres8 hrb9 hres9 hrbW hresW hrb4 hres4 h4 h5 k0 k1 k2 k3 hr5 hrech hT3h sV4 sC4 sVW sCW P nd bel9 belw4 bA bW b7 q
          go_wp2
          go_roundw
          case rel =>
            unfold Hid at hrec10
            exact ⟨a1+4+48*g.qa1.qac.length,_,_,_,by go_num,hlen,by rw [List.length_append,List.length_singleton];omega,hrec10,hrb10,hres10,P10,bel10⟩
          case measure=>simp [intOf];omega
        · have hend:recF t g.qa1.qac.length F Bt 8 a0=(fs,a1):=by
            have hrec:=hrech
            have hT3:=hT3h
            unfold Hid at hrec hT3
            rw [hrec,show 8 - fs.length=(7 - fs.length)+1 by omega]
            unfold recF
            rw [if_neg (fun h=>hq (hT3.2 h.2.2)),List.append_nil]
          have hend:Hid _:=hend
          go_wp2
          go_region_held3 (fun w'=>Below w4.heap.size w4 w')
            (first | assumption | exact Below.refl _ _ | exact (Below.refl _ _).drew)
            (first
              | (go_at_call 44;refine (hby _ (by first | assumption | exact Below.refl _ _ | exact (Below.refl _ _).drew)).mono ?_;rintro e w5 ⟨rfl,q⟩))
          have hrb8:=(q.block rb (by omega)).trans hrb4
          have hres8:=(q.block w.heap.size (by omega)).trans hres4
          have hnq:=bstr_ne hq
          have hnq2:(!(bstr (Bt (a1+2+48*g.qa1.qac.length))).toList == (bstr T3).toList)=true:=by rw [hnq];rfl
          (try simp only [hnq,Bool.not_false])
          obtain ⟨W1,W2,W3,W4,W5,W6,⟨t0,t1,t2,t3,t4,t5⟩,⟨r0,r1,r2,r3,r4,r5⟩,⟨y3,y4,y5⟩,⟨f3,f4,f5⟩,⟨x0,x1,x2,x3,x4,x5⟩,hbut⟩:=qkj hrb8 hres8 rfl rfl rfl
          go_wp2
          (try simp only [Exit.inBlock,Exit.then])
          refine bodyPost_ret (by simp [results,Try.results13,go_sem,x0,x1,x2,x3,x4,x5];try rfl) rfl ?_
          unfold Hid at hend
          rw [hend]
          obtain ⟨m1,m2⟩:=qp4 (R4.below q) (belw4.trans (q.mono belw4.size)) hbut
          exact ⟨_,_,_,_,_,_,_,_,_,_,_,_,rfl,m1,ca,cb,cc,m2⟩
      · have hok':(F a1).2=false:=by simpa using hok
        have hend:recF t g.qa1.qac.length F Bt 8 a0=(fs,a1):=by
          have hrec:=hrech
          unfold Hid at hrec
          rw [hrec,show 8 - fs.length=(7 - fs.length)+1 by omega]
          unfold recF
          rw [if_neg (fun h=>hok h.2.1),List.append_nil]
        have hend:Hid _:=hend
        go_wp2
        go_region
        obtain ⟨w8,hw8⟩:∃ w8,w8=w4.drew:=⟨_,rfl⟩
        have bd:Below w4.heap.size w4 w8:=by rw [hw8];exact (Below.refl _ w4).drew
        have hrb8:=(bd.block rb (by omega)).trans hrb4
        have hres8:=(bd.block w.heap.size (by omega)).trans hres4
        rw [← hw8]
        clear hw8
        obtain ⟨W1,W2,W3,W4,W5,W6,⟨t0,t1,t2,t3,t4,t5⟩,⟨r0,r1,r2,r3,r4,r5⟩,⟨y3,y4,y5⟩,⟨f3,f4,f5⟩,⟨x0,x1,x2,x3,x4,x5⟩,hbut⟩:=qkj hrb8 hres8 rfl rfl rfl
        go_wp2
        (try simp only [Exit.inBlock,Exit.then])
        refine bodyPost_ret (by simp [results,Try.results13,go_sem,x0,x1,x2,x3,x4,x5];try rfl) rfl ?_
        unfold Hid at hend
        rw [hend]
        obtain ⟨m1,m2⟩:=qp4 (R4.below bd) (belw4.trans (bd.mono belw4.size)) hbut
        exact ⟨_,_,_,_,_,_,_,_,_,_,_,_,rfl,m1,ca,cb,cc,m2⟩
    · have hend:recF t g.qa1.qac.length F Bt 8 a0=(fs,a1):=by
        rw [hrec,show 8 - fs.length=(7 - fs.length)+1 by omega]
        unfold recF
        rw [if_neg (fun h=>hlen h.1),List.append_nil]
      obtain ⟨W1,W2,W3,W4,W5,W6,⟨t0,t1,t2,t3,t4,t5⟩,⟨r0,r1,r2,r3,r4,r5⟩,⟨y3,y4,y5⟩,⟨f3,f4,f5⟩,⟨x0,x1,x2,x3,x4,x5⟩,hbut⟩:=qkj hrb6 hres6 rfl rfl rfl
      go_wp2
      (try simp only [Exit.inBlock,Exit.then])
      refine bodyPost_ret (by simp [results,Try.results13,go_sem,x0,x1,x2,x3,x4,x5];try rfl) rfl ?_
      rw [hend]
      obtain ⟨m1,m2⟩:=qp4 R bel hbut
      exact ⟨_,_,_,_,_,_,_,_,_,_,_,_,rfl,m1,ca,cb,cc,m2⟩
  · have hend:recF t g.qa1.qac.length F Bt 8 a0=(fs,a1):=by
      rw [hrec,show 8 - fs.length=0 by omega]
      unfold recF
      rw [List.append_nil]
    obtain ⟨W1,W2,W3,W4,W5,W6,⟨t0,t1,t2,t3,t4,t5⟩,⟨r0,r1,r2,r3,r4,r5⟩,⟨y3,y4,y5⟩,⟨f3,f4,f5⟩,⟨x0,x1,x2,x3,x4,x5⟩,hbut⟩:=qkj hrb6 hres6 rfl rfl rfl
    go_wp2
    (try simp only [Exit.inBlock,Exit.then])
    refine bodyPost_ret (by simp [results,Try.results13,go_sem,x0,x1,x2,x3,x4,x5];try rfl) rfl ?_
    rw [hend]
    obtain ⟨m1,m2⟩:=qp4 R bel hbut
    exact ⟨_,_,_,_,_,_,_,_,_,_,_,_,rfl,m1,ca,cb,cc,m2⟩
end Go.Proofs.Ytmllgpkgjniomaa.AWN

namespace Go.Proofs.Ytmllgpkgjniomaa.AWN
open Go Go.Shelf Go.RowKit Go.Proofs.Try
theorem qp6 {ps:List FB} {j:Nat} {q:FB} (h:ps[j]?=some q):q.b0 ∈ ps.flatMap (fun p=>[p.b0,p.b1])∧q.b1 ∈ ps.flatMap (fun p=>[p.b0,p.b1]):=by
  have:=List.mem_of_getElem? h
  exact ⟨List.mem_flatMap.2 ⟨q,this,by simp⟩,List.mem_flatMap.2 ⟨q,this,by simp⟩⟩
theorem qr8:∀ {ps:List FB} {i j:Nat} {p q:FB},(ps.flatMap fun p=>[p.b0,p.b1]).Nodup→ps[i]?=some p→ps[j]?=some q→i ≠ j→p.b0 ≠ q.b0∧p.b0 ≠ q.b1∧p.b1 ≠ q.b0∧p.b1 ≠ q.b1
  | [],i,j,p,q,_,h,_,_=>by simp at h
  | x :: ps,0,0,p,q,_,_,_,h=>absurd rfl h
  | x :: ps,0,j+1,p,q,hn,h1,h2,_=>by
    simp at h1
    subst h1
    rw [List.flatMap_cons] at hn
    have hd:=(List.nodup_append.1 hn).2.2
    obtain ⟨m0,m1⟩:=qp6 (ps:=ps) (j:=j) (q:=q) (by simpa using h2)
    exact ⟨hd _ (by simp) _ m0,hd _ (by simp) _ m1,hd _ (by simp) _ m0,hd _ (by simp) _ m1⟩
  | x :: ps,i+1,0,p,q,hn,h1,h2,_=>by
    simp at h2
    subst h2
    rw [List.flatMap_cons] at hn
    have hd:=(List.nodup_append.1 hn).2.2
    obtain ⟨m0,m1⟩:=qp6 (ps:=ps) (j:=i) (q:=p) (by simpa using h1)
    exact ⟨fun e=>hd x.b0 (by simp) _ m0 e.symm,fun e=>hd x.b1 (by simp) _ m0 e.symm,fun e=>hd x.b0 (by simp) _ m1 e.symm,fun e=>hd x.b1 (by simp) _ m1 e.symm⟩
  | x :: ps,i+1,j+1,p,q,hn,h1,h2,hij=>by
    rw [List.flatMap_cons] at hn
    exact qr8 (List.nodup_append.1 hn).2.1 (by simpa using h1) (by simpa using h2) (by omega)
theorem qn2:∀ {ps:List FB} {i:Nat} {p:FB},(ps.flatMap fun p=>[p.b0,p.b1]).Nodup→ps[i]?=some p→p.b0 ≠ p.b1
  | [],i,p,_,h=>by simp at h
  | x :: ps,0,p,hn,h=>by
    simp at h
    subst h
    rw [List.flatMap_cons] at hn
    have:=(List.nodup_append.1 hn).1
    simpa using this
  | x :: ps,i+1,p,hn,h=>by
    rw [List.flatMap_cons] at hn
    exact qn2 (List.nodup_append.1 hn).2.1 (by simpa using h)
theorem qo6:∀ (ps:List FB) (fs:List qbb) (i:Nat) (p:FB) (f g:qbb) (j:Nat) (v:Value),ps.length=fs.length→ps[i]?=some p→fs[i]?=some f→j < 4→qly p g=(qly p f).set j v→qih ps (fs.set i g)=(qih ps fs).set (i*4+j) v
  | q :: ps,h :: fs,0,p,f,g,j,v,_,h1,h2,hj,he=>by
    simp at h1 h2
    subst h1 h2
    simp only [List.set_cons_zero,qih,he,Nat.zero_mul,Nat.zero_add]
    rw [List.set_append_left _ _ (by show j < 4;exact hj)]
  | q :: ps,h :: fs,i+1,p,f,g,j,v,hl,h1,h2,hj,he=>by
    simp only [List.set_cons_succ,qih]
    rw [List.set_append_right _ _ (by show 4≤_;omega),qo6 ps fs i p f g j v (by simpa using hl) (by simpa using h1) (by simpa using h2) hj he]
    have e:(i+1)*4+j - (qly q h).length=i*4+j:=by show _ - 4=_;omega
    rw [e]
  | [],_,_,_,_,_,_,_,_,h1,_,_,_=>by simp at h1
  | _ :: _,[],_,_,_,_,_,_,_,_,h2,_,_=>by simp at h2
theorem ql7:∀ (ps:List FB) (fs:List qbb) (i:Nat) (f g:qbb),fs[i]?=some f→g.Rounds=f.Rounds→g.qcj=f.qcj→qih ps (fs.set i g)=qih ps fs
  | q :: ps,h :: fs,0,f,g,h2,e1,e2=>by
    simp at h2
    subst h2
    simp only [List.set_cons_zero,qih,qly,e1,e2]
  | q :: ps,h :: fs,i+1,f,g,h2,e1,e2=>by
    simp only [List.set_cons_succ,qih]
    rw [ql7 ps fs i f g (by simpa using h2) e1 e2]
  | [],_ :: _,0,_,_,_,_,_=>rfl
  | [],_ :: _,_+1,_,_,_,_,_=>rfl
  | _,[],_,_,_,h2,_,_=>by simp at h2
section
variable {W W':World} {lo:Nat} {X:List Nat} {o0 o1:Option Nat} {v0 v1 v2:Value} {Bs:List SBus} {Ts:List STie} {ps:List FB} {fs:List qbb} {i:Nat} {p:FB} {f:qbb}
theorem qes.flat (h:qes W lo X o0 o1 v0 v1 v2 Bs Ts ps fs):(ps.flatMap fun p=>[p.b0,p.b1]).Nodup:=by
  have:=(List.nodup_append.1 h.nod).2.1
  unfold blks at this
  exact (List.nodup_append.1 this).2.1
theorem qes.o_ne (h:qes W lo X o0 o1 v0 v1 v2 Bs Ts ps fs) (h1:ps[i]?=some p) (x:Nat) (hx:o0=some x ∨ o1=some x):x ≠ p.b0∧x ≠ p.b1:=by
  have:=(List.nodup_append.1 h.nod).2.1
  unfold blks at this
  have hd:=(List.nodup_append.1 this).2.2
  obtain ⟨m0,m1⟩:=qp6 h1
  have hm:x ∈ o0.toList++o1.toList:=by
    rcases hx with rfl | rfl <;> simp
  exact ⟨hd x hm _ m0,hd x hm _ m1⟩
theorem qes.setV (h:qes W lo X o0 o1 v0 v1 v2 Bs Ts ps fs) (h1:ps[i]?=some p) (h2:fs[i]?=some f) {V:List qaa} (k:But (fun b=>some p.b0=some b) W W') (hr:SlO W' (some p.b0) 3 (V.map qa8) p.v0) :
    qes W' lo X o0 o1 v0 v1 v2 Bs Ts ps (fs.set i ⟨V,f.qae,f.Rounds,f.qcj⟩):=by
  have sz:=k.size
  have nb:∀ x,x ≠ p.b0→x < W.heap.size→W'.heap[x]?=W.heap[x]?:=fun x hx hl=>k.block x hl fun e=>hx (Option.some.inj e).symm
  refine ⟨h.bus.kept fun b e=>nb b (h.o_ne h1 b (.inl e)).1 (h.bus.lt b e),h.tie.kept fun b e=>nb b (h.o_ne h1 b (.inr e)).1 (h.tie.lt b e),by rw [List.length_set];exact h.len,?_,fun j q g e1 e2=>?_,h.nod,fun b hb=>⟨(h.rng b hb).1,Nat.lt_of_lt_of_le (h.rng b hb).2 sz⟩,h.apt⟩
  · rw [ql7 ps fs i f ⟨V,f.qae,f.Rounds,f.qcj⟩ h2 rfl rfl,List.length_set]
    refine ⟨h.own.1,?_⟩
    rcases h.own.2 with hn | ⟨g,cap,cur,rfl,hb,hgg,rest⟩
    · exact .inl hn
    · refine .inr ⟨g,cap,cur,rfl,hb,?_,rest⟩
      rw [nb g (fun e=>h.apt g rfl (List.mem_append.2 (.inr (by rw [e];exact (qj4 h1).1)))) (Array.getElem?_eq_some_iff.1 hgg).1]
      exact hgg
  · by_cases hij:i=j
    · subst hij
      rw [h1] at e1
      cases e1
      rw [List.getElem?_set,if_pos rfl,if_pos (List.getElem?_eq_some_iff.1 h2).1] at e2
      cases e2
      obtain ⟨r1,r2⟩:=h.row i p f h1 h2
      exact ⟨hr,r2.kept fun b e=>by cases e;exact nb _ (fun e=>qn2 h.flat h1 e.symm) (r2.lt _ rfl)⟩
    · rw [List.getElem?_set,if_neg hij] at e2
      obtain ⟨r1,r2⟩:=h.row j q g e1 e2
      obtain ⟨d1,d2,d3,d4⟩:=qr8 h.flat h1 e1 hij
      exact ⟨r1.kept fun b e=>by cases e;exact nb _ (fun e=>d1 e.symm) (r1.lt _ rfl),r2.kept fun b e=>by cases e;exact nb _ (fun e=>d2 e.symm) (r2.lt _ rfl)⟩
theorem qes.setC (h:qes W lo X o0 o1 v0 v1 v2 Bs Ts ps fs) (h1:ps[i]?=some p) (h2:fs[i]?=some f) {V:List qaa} (k:But (fun b=>some p.b1=some b) W W') (hr:SlO W' (some p.b1) 3 (V.map qa8) p.v1) :
    qes W' lo X o0 o1 v0 v1 v2 Bs Ts ps (fs.set i ⟨f.qad,V,f.Rounds,f.qcj⟩):=by
  have sz:=k.size
  have nb:∀ x,x ≠ p.b1→x < W.heap.size→W'.heap[x]?=W.heap[x]?:=fun x hx hl=>k.block x hl fun e=>hx (Option.some.inj e).symm
  refine ⟨h.bus.kept fun b e=>nb b (h.o_ne h1 b (.inl e)).2 (h.bus.lt b e),h.tie.kept fun b e=>nb b (h.o_ne h1 b (.inr e)).2 (h.tie.lt b e),by rw [List.length_set];exact h.len,?_,fun j q g e1 e2=>?_,h.nod,fun b hb=>⟨(h.rng b hb).1,Nat.lt_of_lt_of_le (h.rng b hb).2 sz⟩,h.apt⟩
  · rw [ql7 ps fs i f ⟨f.qad,V,f.Rounds,f.qcj⟩ h2 rfl rfl,List.length_set]
    refine ⟨h.own.1,?_⟩
    rcases h.own.2 with hn | ⟨g,cap,cur,rfl,hb,hgg,rest⟩
    · exact .inl hn
    · refine .inr ⟨g,cap,cur,rfl,hb,?_,rest⟩
      rw [nb g (fun e=>h.apt g rfl (List.mem_append.2 (.inr (by rw [e];exact (qj4 h1).2)))) (Array.getElem?_eq_some_iff.1 hgg).1]
      exact hgg
  · by_cases hij:i=j
    · subst hij
      rw [h1] at e1
      cases e1
      rw [List.getElem?_set,if_pos rfl,if_pos (List.getElem?_eq_some_iff.1 h2).1] at e2
      cases e2
      obtain ⟨r1,r2⟩:=h.row i p f h1 h2
      exact ⟨r1.kept fun b e=>by cases e;exact nb _ (qn2 h.flat h1) (r1.lt _ rfl),hr⟩
    · rw [List.getElem?_set,if_neg hij] at e2
      obtain ⟨r1,r2⟩:=h.row j q g e1 e2
      obtain ⟨d1,d2,d3,d4⟩:=qr8 h.flat h1 e1 hij
      exact ⟨r1.kept fun b e=>by cases e;exact nb _ (fun e=>d3 e.symm) (r1.lt _ rfl),r2.kept fun b e=>by cases e;exact nb _ (fun e=>d4 e.symm) (r2.lt _ rfl)⟩
theorem qes.setN {g cap:Nat} (h:qes W lo X o0 o1 v0 v1 (.slice (some ⟨g,0,none⟩) fs.length cap) Bs Ts ps fs) (h1:ps[i]?=some p) (h2:fs[i]?=some f) {f':qbb} {j:Nat} {v:Value} (hj:j < 4) (he:qly p f'=(qly p f).set j v) (hV:f'.qad=f.qad) (hC:f'.qae=f.qae) :
    qes (W.setCell ⟨g,i*4+j,none⟩ v) lo X o0 o1 v0 v1 (.slice (some ⟨g,0,none⟩) fs.length cap) Bs Ts ps (fs.set i f'):=by
  obtain ⟨s1,s2⟩:=h.own.stored (i*4+j) v
  have k:=qjt W g (i*4+j) v
  have nb:∀ x,x ∈ blks o0 o1 ps→(W.setCell ⟨g,i*4+j,none⟩ v).heap[x]?=W.heap[x]?:=fun x hx=>k.block x (h.rng x hx).2 fun e=>h.apt x (by rw [e];rfl) (List.mem_append.2 (.inr hx))
  refine ⟨h.bus.kept fun b e=>nb b (qjz e),h.tie.kept fun b e=>nb b (qk0 e),by rw [List.length_set];exact h.len,?_,fun m q r e1 e2=>?_,h.nod,fun b hb=>⟨(h.rng b hb).1,Nat.lt_of_lt_of_le (h.rng b hb).2 k.size⟩,h.apt⟩
  · rw [qo6 ps fs i p f f' j v h.len h1 h2 hj he,List.length_set]
    exact s1
  · obtain ⟨m0,m1⟩:=qj4 (o0:=o0) (o1:=o1) e1
    by_cases hij:i=m
    · subst hij
      rw [h1] at e1
      cases e1
      rw [List.getElem?_set,if_pos rfl,if_pos (List.getElem?_eq_some_iff.1 h2).1] at e2
      cases e2
      obtain ⟨r1,r2⟩:=h.row i p f h1 h2
      rw [hV,hC]
      exact ⟨r1.kept fun b e=>by cases e;exact nb _ m0,r2.kept fun b e=>by cases e;exact nb _ m1⟩
    · rw [List.getElem?_set,if_neg hij] at e2
      obtain ⟨r1,r2⟩:=h.row m q r e1 e2
      exact ⟨r1.kept fun b e=>by cases e;exact nb _ m0,r2.kept fun b e=>by cases e;exact nb _ m1⟩
def RecP (o0 o1:Option Nat) (v2:Value) (ps:List FB) (b:Nat):Prop:=b ∈ blks o0 o1 ps ∨ v2.ownBlock=some b
theorem qes.cell {g n cap:Nat} (h:qes W lo X o0 o1 v0 v1 (.slice (some ⟨g,0,none⟩) n cap) Bs Ts ps fs) (hn:fs.length=n) (h1:ps[i]?=some p) (h2:fs[i]?=some f) (j:Nat) (hj:j < 4) :
    W.cell? ⟨g,i*4+j,none⟩=(qly p f)[j]?∧W.frozen? ⟨g,i*4+j,none⟩=false:=by
  have ho:=h.own
  rw [hn] at ho
  have hi:i < fs.length:=(List.getElem?_eq_some_iff.1 h2).1
  exact ⟨by rw [ho.cellAt (i*4+j) (by omega)];exact qlz ps fs i p f j h.len h1 h2 hj,ho.frozenAt _⟩
theorem get_set_same {α:Type} {l:List α} {i:Nat} {x y:α} (h:l[i]?=some x):(l.set i y)[i]?=some y:=by
  rw [List.getElem?_set,if_pos rfl,if_pos (List.getElem?_eq_some_iff.1 h).1]
theorem mark_V {n g N cap:Nat} {k:Int} {k':Int} {V:List qaa} {dV dC:Option Addr} {cV cC:Nat} (h:qes W lo X o0 o1 v0 v1 (.slice (some ⟨g,0,none⟩) N cap) Bs Ts ps fs) (hn:fs.length=N) (hlo:lo≤W.heap.size) (h1:ps[i]?=some p) (h2:fs[i]?=some f)
    (hm:qby n f.qad k=some (k',V)) (hl:V.length=f.qad.length) (eV:p.v0=.slice dV f.qad.length cV) (eC:p.v1=.slice dC f.qae.length cC) :
    Calls prog 94 #[.slice dV f.qad.length cV,.int .i64 k] W fun e w1=>e=.returned (.int .i64 k')∧qes w1 lo X o0 o1 v0 v1 (.slice (some ⟨g,0,none⟩) N cap) Bs Ts ps (fs.set i ⟨V,f.qae,f.Rounds,f.qcj⟩)∧But (RecP o0 o1 (.slice (some ⟨g,0,none⟩) N cap) ps) W w1∧w1.cell? ⟨g,i*4+1,none⟩=some (.slice dC f.qae.length cC):=by
  have hcV:=qqf hm hl W _ _ (h.row i p f h1 h2).1
  rw [eV] at hcV
  refine hcV.mono ?_
  rintro e w1 ⟨rfl,bu,s⟩
  rw [← eV] at s
  have R2:=h.setV h1 h2 bu s
  refine ⟨rfl,R2,bu.mono fun x hx=>?_,?_⟩
  · cases hx;exact .inl (qj4 h1).1
  · rw [(R2.cell (by rw [List.length_set];exact hn) h1 (get_set_same h2) 1 (by omega)).1,← eC]
    rfl
theorem mark_C {n g N cap:Nat} {k:Int} {k':Int} {V:List qaa} {dC:Option Addr} {cC:Nat} (h:qes W lo X o0 o1 v0 v1 (.slice (some ⟨g,0,none⟩) N cap) Bs Ts ps fs) (hn:fs.length=N) (hlo:lo≤W.heap.size) (h1:ps[i]?=some p) (h2:fs[i]?=some f)
    (hm:qby n f.qae k=some (k',V)) (hl:V.length=f.qae.length) (eC:p.v1=.slice dC f.qae.length cC) (R':Int) (S':Bool) :
    Calls prog 94 #[.slice dC f.qae.length cC,.int .i64 k] W fun e w1=>e=.returned (.int .i64 k')∧But (RecP o0 o1 (.slice (some ⟨g,0,none⟩) N cap) ps) W w1∧(w1.cell? ⟨g,i*4+2,none⟩=some (.int .i64 f.Rounds)∧w1.frozen? ⟨g,i*4+2,none⟩=false) ∧
      ∃ w2,w1.setCell ⟨g,i*4+2,none⟩ (.int .i64 R')=w2∧(w2.cell? ⟨g,i*4+3,none⟩=some (.bool f.qcj)∧w2.frozen? ⟨g,i*4+3,none⟩=false) ∧
      ∃ w3,w2.setCell ⟨g,i*4+3,none⟩ (.bool S')=w3∧qes w3 lo X o0 o1 v0 v1 (.slice (some ⟨g,0,none⟩) N cap) Bs Ts ps (fs.set i ⟨f.qad,V,R',S'⟩)∧But (RecP o0 o1 (.slice (some ⟨g,0,none⟩) N cap) ps) W w3:=by
  have hcV:=qqf hm hl W _ _ (h.row i p f h1 h2).2
  rw [eC] at hcV
  refine hcV.mono ?_
  rintro e w1 ⟨rfl,bu,s⟩
  rw [← eC] at s
  have R2:=h.setC h1 h2 bu s
  have b1:But (RecP o0 o1 (.slice (some ⟨g,0,none⟩) N cap) ps) W w1:=bu.mono fun x hx=>by cases hx;exact .inl (qj4 h1).2
  have hn2:(fs.set i ⟨f.qad,V,f.Rounds,f.qcj⟩).length=N:=by rw [List.length_set];exact hn
  have c2:=R2.cell hn2 h1 (get_set_same h2) 2 (by omega)
  subst hn
  have hll:(fs.set i ⟨f.qad,V,f.Rounds,f.qcj⟩).length=fs.length:=List.length_set
  rw [← hll] at R2
  have R3:=R2.setN (f':=⟨f.qad,V,R',f.qcj⟩) (j:=2) (v:=.int .i64 R') h1 (get_set_same h2) (by omega) rfl rfl rfl
  rw [List.set_set] at R3
  have c3:=R3.cell (by rw [List.length_set,List.length_set]) h1 (get_set_same h2) 3 (by omega)
  have hll2:(fs.set i ⟨f.qad,V,R',f.qcj⟩).length=fs.length:=List.length_set
  rw [hll,← hll2] at R3
  have R4:=R3.setN (f':=⟨f.qad,V,R',S'⟩) (j:=3) (v:=.bool S') h1 (get_set_same h2) (by omega) rfl rfl rfl
  rw [List.set_set,hll2] at R4
  have hg:∀ x,x=g→RecP o0 o1 (.slice (some ⟨g,0,none⟩) fs.length cap) ps x:=fun x hx=>.inr (by rw [hx];rfl)
  have b2:=(b1.trans ((qjt w1 g (i*4+2) (.int .i64 R')).mono hg)).trans ((qjt _ g (i*4+3) (.bool S')).mono hg)
  exact ⟨rfl,b1,c2,_,rfl,c3,_,rfl,R4,b2⟩
end
end Go.Proofs.Ytmllgpkgjniomaa.AWN

namespace Go.Proofs.Ytmllgpkgjniomaa.AWN
open Go Go.Shelf Go.RowKit Go.Proofs.Try
def mkFl (mk:Nat→Nat→List qaa) (k:Nat) (f:qbb):qbb :=
  ⟨mk k f.qad.length,mk (k+3*f.qad.length) f.qae.length,((k+3*f.qad.length+3*f.qae.length:Nat):Int),(((k+3*f.qad.length+3*f.qae.length+1:Nat):Int) % 3 == 0)⟩
def qqn (k:Nat) (f:qbb):Nat:=k+3*f.qad.length+3*f.qae.length+2
def kAt (k:Nat) (fs:List qbb):Nat→Nat
  | 0=>k
  | i+1=>match fs[i]? with
    | some f=>qqn (kAt k fs i) f
    | none=>kAt k fs i
def mkAt (mk:Nat→Nat→List qaa) (k:Nat) (fs:List qbb):Nat→List qbb
  | 0=>fs
  | i+1=>match fs[i]? with
    | some f=>(mkAt mk k fs i).set i (mkFl mk (kAt k fs i) f)
    | none=>mkAt mk k fs i
theorem qll (mk:Nat→Nat→List qaa) (k:Nat) (fs:List qbb):∀ i,(mkAt mk k fs i).length=fs.length
  | 0=>rfl
  | i+1=>by
    unfold mkAt
    split
    · rw [List.length_set,qll mk k fs i]
    · exact qll mk k fs i
theorem qrc (mk:Nat→Nat→List qaa) (k:Nat) (fs:List qbb):∀ i j,i≤j→(mkAt mk k fs i)[j]?=fs[j]?
  | 0,j,_=>rfl
  | i+1,j,h=>by
    unfold mkAt
    split
    · rw [List.getElem?_set,if_neg (by omega),qrc mk k fs i j (by omega)]
    · exact qrc mk k fs i j (by omega)
theorem qs6 (k:Nat) (fs:List qbb) (hf:∀ f ∈ fs,f.qad.length≤16∧f.qae.length≤16):∀ i,kAt k fs i≤k+98*i
  | 0=>Nat.le_refl _
  | i+1=>by
    have ih:=qs6 k fs hf i
    unfold kAt
    split
    · rename_i f h
      have:=hf f (List.mem_of_getElem? h)
      unfold qqn
      omega
    · omega
set_option maxHeartbeats 4000000 in
set_option maxRecDepth 100000 in
theorem markFlows_walk {n:Nat} (mk:Nat→Nat→List qaa) (hml:∀ k l,(mk k l).length=l) (hmk:∀ (l:List qaa) (k:Nat),l.length≤16→k≤950→qby n l (k:Int)=some (((k+3*l.length:Nat):Int),mk k l.length))
    {W:World} {lo:Nat} {X:List Nat} {o0 o1:Option Nat} {v0 v1 v2:Value} {Bs:List SBus} {Ts:List STie} {ps:List FB} {fs:List qbb} (R:qes W lo X o0 o1 v0 v1 v2 Bs Ts ps fs) (hn:fs.length≤8) (hf:∀ f ∈ fs,f.qad.length≤16∧f.qae.length≤16) (k:Nat) (hk:k≤160) (hlo:lo≤W.heap.size) :
    Calls prog 46 #[v2,.int .i64 k] W fun e w'=>e=.returned (.int .i64 (kAt k fs fs.length))∧qes w' lo X o0 o1 v0 v1 v2 Bs Ts ps (mkAt mk k fs fs.length)∧But (RecP o0 o1 v2 ps) W w':=by
  obtain ⟨ad,cap2,rfl⟩:=R.slice
  go_enter Try.func46,Try.ntmps46
  go_wp2
  go_loopw [1,5] (fun kk i wr=>∃ m:Nat,m≤fs.length∧i=.int .i64 m∧kk=.int .i64 (kAt k fs m)∧qes wr lo X o0 o1 v0 v1 (.slice ad fs.length cap2) Bs Ts ps (mkAt mk k fs m)∧But (RecP o0 o1 (.slice ad fs.length cap2) ps) W wr)
    (fun _ i _=>fs.length - (intOf i).toNat)
  case atStart=>exact ⟨0,Nat.zero_le _,rfl,rfl,R,But.refl _ _⟩
  case round =>
  obtain ⟨m,hm,rfl,rfl,R1,bel⟩:=hrel
  clear R
  by_cases hlt:m < fs.length
  · have hml':=qll mk k fs m
    obtain ⟨g,rfl⟩:∃ g,ad=some ⟨g,0,none⟩:=by
      rcases R1.own.2 with ⟨e,h0⟩ | ⟨g,cap,cur,e,_⟩
      · omega
      · simp at e
        exact ⟨g,e.1⟩
    have hpl:m < ps.length:=by have:=R1.len;omega
    obtain ⟨p,h1⟩:∃ p,ps[m]?=some p:=⟨_,List.getElem?_eq_getElem hpl⟩
    obtain ⟨f,hfm⟩:∃ f,fs[m]?=some f:=⟨_,List.getElem?_eq_getElem hlt⟩
    have h2:(mkAt mk k fs m)[m]?=some f:=by rw [qrc mk k fs m m (Nat.le_refl _)];exact hfm
    obtain ⟨lV,lC⟩:=hf f (List.mem_of_getElem? hfm)
    have hkk:=qs6 k fs hf m
    have hkA:kAt k fs (m+1)=qqn (kAt k fs m) f:=by
      show (match fs[m]? with | some f=>qqn (kAt k fs m) f | none=>kAt k fs m)=_
      rw [hfm]
    have hmA:mkAt mk k fs (m+1)=(mkAt mk k fs m).set m (mkFl mk (kAt k fs m) f):=by
      show (match fs[m]? with | some f=>(mkAt mk k fs m).set m (mkFl mk (kAt k fs m) f) | none=>mkAt mk k fs m)=_
      rw [hfm]
    have hkAh:Hid _:=hkA
    have hmAh:Hid _:=hmA
    clear hkA hmA
    generalize hkg:kAt k fs m=kk at *
    generalize mkAt mk k fs m=L at *
    obtain ⟨dV,cV,eV⟩:=(R1.row m p f h1 h2).1.slice
    obtain ⟨dC,cC,eC⟩:=(R1.row m p f h1 h2).2.slice
    rw [List.length_map] at eV eC
    have c0:wr.cell? ⟨g,m*4,none⟩=some (.slice dV f.qad.length cV):=by
      have:=(R1.cell hml' h1 h2 0 (by omega)).1
      rw [Nat.add_zero] at this
      rw [this,← eV];rfl
    have hlo':lo≤wr.heap.size:=Nat.le_trans hlo bel.size
    have hc1:=mark_V R1 hml' hlo' h1 h2 (hmk f.qad kk lV (by omega)) (hml _ _) eV eC
    have hm2:qby n f.qae ((kk:Int)+3*(f.qad.length:Int))=some ((kk:Int)+3*(f.qad.length:Int)+3*(f.qae.length:Int),mk (kk+3*f.qad.length) f.qae.length):=by
      have:=hmk f.qae (kk+3*f.qad.length) lC (by omega)
      rw [show ((kk+3*f.qad.length:Nat):Int)=(kk:Int)+3*(f.qad.length:Int) by omega,show ((kk+3*f.qad.length+3*f.qae.length:Nat):Int)=(kk:Int)+3*(f.qad.length:Int)+3*(f.qae.length:Int) by omega] at this
      exact this
    have hc2:∀ w1,qes w1 lo X o0 o1 v0 v1 (.slice (some ⟨g,0,none⟩) fs.length cap2) Bs Ts ps (L.set m ⟨mk kk f.qad.length,f.qae,f.Rounds,f.qcj⟩)→lo≤w1.heap.size→_:=fun w1 R2 hl=>mark_C R2 (by rw [List.length_set];exact hml') hl h1 (get_set_same h2) hm2 (hml _ _) eC ((kk:Int)+3*(f.qad.length:Int)+3*(f.qae.length:Int)) (((kk:Int)+3*(f.qad.length:Int)+3*(f.qae.length:Int)+1) % 3 == 0)
    clear R1 hmk hml eV eC hkg
    go_wp2_with (go_at_call 94;refine hc1.mono ?_;rintro e w1 ⟨rfl,R2,bel1,c1⟩;clear hc1)
    refine (hc2 w1 R2 (Nat.le_trans hlo' bel1.size)).mono ?_
    rintro e w2 ⟨rfl,bel2,⟨c2,f2⟩,w3,t3,⟨c3,f3⟩,w4,t4,R4,bel4⟩
    clear hc2 R2 c0 c1
    have hkA':kAt k fs (m+1)=kk+3*f.qad.length+3*f.qae.length+2:=hkAh
    have hmA':mkAt mk k fs (m+1)=((L.set m ⟨mk kk f.qad.length,f.qae,f.Rounds,f.qcj⟩).set m ⟨mk kk f.qad.length,mk (kk+3*f.qad.length) f.qae.length,(kk:Int)+3*(f.qad.length:Int)+3*(f.qae.length:Int),((kk:Int)+3*(f.qad.length:Int)+3*(f.qae.length:Int)+1) % 3 == 0⟩):=by
      have h:mkAt mk k fs (m+1)=L.set m (mkFl mk kk f):=hmAh
      rw [h,List.set_set]
      unfold mkFl
      rw [show ((kk+3*f.qad.length+3*f.qae.length:Nat):Int)=(kk:Int)+3*(f.qad.length:Int)+3*(f.qae.length:Int) by omega,show ((kk+3*f.qad.length+3*f.qae.length+1:Nat):Int)=(kk:Int)+3*(f.qad.length:Int)+3*(f.qae.length:Int)+1 by omega]
    have R4:qes w4 lo X o0 o1 v0 v1 (.slice (some ⟨g,0,none⟩) fs.length cap2) Bs Ts ps (mkAt mk k fs (m+1)):=by rw [hmA'];exact R4
    clear hmA' hkAh hmAh
    have hkA':Hid _:=hkA'
    go_wp2
    go_roundw
    case rel =>
      unfold Hid at hkA'
      exact ⟨m+1,by omega,by go_num,by rw [hkA'];go_num,R4,bel.trans (bel1.trans bel4)⟩
    case measure=>simp [intOf];omega
  · have hme:m=fs.length:=by omega
    subst hme
    go_wp2
    go_ret
    exact ⟨rfl,R1,bel⟩
end Go.Proofs.Ytmllgpkgjniomaa.AWN

namespace Go.Proofs.Ytmllgpkgjniomaa.AWN
open Go Go.Shelf Go.RowKit Go.Proofs.Try
theorem qes.setG {W W':World} {lo:Nat} {X:List Nat} {o0 o1:Option Nat} {v0 v1 v2:Value} {Bs Bs':List SBus} {Ts Ts':List STie} {ps:List FB} {fs:List qbb} (h:qes W lo X o0 o1 v0 v1 v2 Bs Ts ps fs)
    (k:But (fun b=>o0=some b ∨ o1=some b) W W') (h0:SlO W' o0 8 (Bs'.map qah) v0) (h1:SlO W' o1 5 (Ts'.map qan) v1):qes W' lo X o0 o1 v0 v1 v2 Bs' Ts' ps fs:=by
  have sz:=k.size
  refine ⟨h0,h1,h.len,?_,fun j q g e1 e2=>?_,h.nod,fun b hb=>⟨(h.rng b hb).1,Nat.lt_of_lt_of_le (h.rng b hb).2 sz⟩,h.apt⟩
  · refine ⟨h.own.1,?_⟩
    rcases h.own.2 with hn | ⟨g,cap,cur,rfl,hb,hgg,rest⟩
    · exact .inl hn
    · refine .inr ⟨g,cap,cur,rfl,hb,?_,rest⟩
      rw [k.block g (Array.getElem?_eq_some_iff.1 hgg).1 fun e=>h.apt g rfl (List.mem_append.2 (.inr (by
        rcases e with e | e
        · exact qjz e
        · exact qk0 e)))]
      exact hgg
  · obtain ⟨r1,r2⟩:=h.row j q g e1 e2
    exact ⟨r1.kept fun b e=>by cases e;exact k.block _ (r1.lt _ rfl) fun e=>(h.o_ne e1 q.b0 e).1 rfl,r2.kept fun b e=>by cases e;exact k.block _ (r2.lt _ rfl) fun e=>(h.o_ne e1 q.b1 e).2 rfl⟩
theorem qes.o_ne2 {W:World} {lo:Nat} {X:List Nat} {o0 o1:Option Nat} {v0 v1 v2:Value} {Bs:List SBus} {Ts:List STie} {ps:List FB} {fs:List qbb} (h:qes W lo X o0 o1 v0 v1 v2 Bs Ts ps fs):∀ b,o0=some b→o1 ≠ some b:=by
  rintro b rfl rfl
  have:=(List.nodup_append.1 h.nod).2.1
  unfold blks at this
  have hd:=(List.nodup_append.1 (List.nodup_append.1 this).1).2.2
  exact hd b (by simp) b (by simp) rfl
set_option maxHeartbeats 4000000 in
set_option maxRecDepth 100000 in
theorem markRecord_walk {n:Nat} (mk:Nat→Nat→List qaa) (hml:∀ k l,(mk k l).length=l) (hmk:∀ (l:List qaa) (k:Nat),l.length≤16→k≤950→qby n l (k:Int)=some (((k+3*l.length:Nat):Int),mk k l.length))
    {g:qbi} {k1:Nat} {Bs':List SBus} {Ts':List STie} (hg:qd7 n g 1=some ((k1:Int),Bs',Ts')) (hl1:Bs'.length=g.qa1.qac.length) (hl2:Ts'.length=g.Ties.length) (hk1:k1≤160)
    {W:World} {lo:Nat} {X:List Nat} {o0 o1:Option Nat} {a a' b b' c c':Nat} {v0 v1 v2:Value} {ps:List FB} {fs:List qbb} (ca:CxW g.qa1.Source.A a a') (cb:CxW g.qa1.Source.B b b') (cc:CxW g.qa1.Source.C c c') (R:qes W lo X o0 o1 v0 v1 v2 g.qa1.qac g.Ties ps fs) (hn:fs.length≤8) (hf:∀ f ∈ fs,f.qad.length≤16∧f.qae.length≤16) (hlo:lo≤W.heap.size) :
    Calls prog 15 #[.agg #[.complex .f32 a a',.complex .f32 b b',.complex .f32 c c',v0,v1,v2],.int .i64 1] W fun e w'=>e=.returned (.int .i64 (kAt k1 fs fs.length))∧qes w' lo X o0 o1 v0 v1 v2 Bs' Ts' ps (mkAt mk k1 fs fs.length)∧But (RecP o0 o1 v2 ps) W w':=by
  obtain ⟨d2,c2,rfl⟩:=R.slice
  obtain ⟨d0,c0,e0⟩:=R.bus.slice
  obtain ⟨d1,c1,e1⟩:=R.tie.slice
  subst e0 e1
  obtain ⟨W0,hW0⟩:∃ W0,W0=W.alloc (.cells #[.complex .f32 a a',.complex .f32 b b',.complex .f32 c c',.slice d0 (g.qa1.qac.map qah).length c0,.slice d1 (g.Ties.map qan).length c1,.slice d2 fs.length c2] 38):=⟨_,rfl⟩
  have k0:W0.heap[W.heap.size]?=some (.cells #[.complex .f32 a a',.complex .f32 b b',.complex .f32 c c',.slice d0 (g.qa1.qac.map qah).length c0,.slice d1 (g.Ties.map qan).length c1,.slice d2 fs.length c2] 38 (0,0)):=by rw [hW0];exact heap_alloc_new W _
  have bel0:Below W.heap.size W W0:=by rw [hW0];exact (Below.refl _ W).alloc (Nat.le_refl _) _
  have z0:W0.heap.size=W.heap.size+1:=by rw [hW0];simp
  have R0:=R.below bel0
  have hG:=markGrid_call hg hl1 hl2 W0 a a' b b' c c' _ _ o0 o1 ca cb cc R0.bus R0.tie R0.o_ne2
  have step1:Calls prog 10 #[.agg #[.complex .f32 a a',.complex .f32 b b',.complex .f32 c c',.slice d0 (g.qa1.qac.map qah).length c0,.slice d1 (g.Ties.map qan).length c1],.int .i64 1] W0 fun e w1=>e=.returned (.int .i64 k1)∧qes w1 lo X o0 o1 (.slice d0 (g.qa1.qac.map qah).length c0) (.slice d1 (g.Ties.map qan).length c1) (.slice d2 fs.length c2) Bs' Ts' ps fs∧But (RecP o0 o1 (.slice d2 fs.length c2) ps) W w1∧w1.cell? ⟨W.heap.size,5,none⟩=some (.slice d2 fs.length c2):=by
    refine hG.mono ?_
    rintro e w1 ⟨rfl,bu,s0,s1⟩
    have hnb:¬ (o0=some W.heap.size ∨ o1=some W.heap.size):=fun h=>by
      rcases h with h | h
      · exact Nat.lt_irrefl _ (R.bus.lt _ h)
      · exact Nat.lt_irrefl _ (R.tie.lt _ h)
    refine ⟨rfl,R0.setG bu s0 s1,(quf bel0).trans (bu.mono fun x hx=>?_),?_⟩
    · rcases hx with hx | hx
      · exact .inl (qjz hx)
      · exact .inl (qk0 hx)
    · rw [Lib.cell_of_heap ((bu.block W.heap.size (by omega) hnb).trans k0)]
      rfl
  have q0:W0.cell? ⟨W.heap.size,0,none⟩=some (.complex .f32 a a'):=by rw [Lib.cell_of_heap k0];rfl
  have q1:W0.cell? ⟨W.heap.size,1,none⟩=some (.complex .f32 b b'):=by rw [Lib.cell_of_heap k0];rfl
  have q2:W0.cell? ⟨W.heap.size,2,none⟩=some (.complex .f32 c c'):=by rw [Lib.cell_of_heap k0];rfl
  have q3:W0.cell? ⟨W.heap.size,3,none⟩=some (.slice d0 (g.qa1.qac.map qah).length c0):=by rw [Lib.cell_of_heap k0];rfl
  have q4:W0.cell? ⟨W.heap.size,4,none⟩=some (.slice d1 (g.Ties.map qan).length c1):=by rw [Lib.cell_of_heap k0];rfl
  have step2:∀ w1,qes w1 lo X o0 o1 (.slice d0 (g.qa1.qac.map qah).length c0) (.slice d1 (g.Ties.map qan).length c1) (.slice d2 fs.length c2) Bs' Ts' ps fs→lo≤w1.heap.size→_:=fun w1 R1 hl=>markFlows_walk mk hml hmk R1 hn hf k1 hk1 hl
  clear hG R0 ca cb cc hg hmk hml z0 k0
  generalize (g.qa1.qac.map qah).length=nb at *
  generalize (g.Ties.map qan).length=nt at *
  go_enter Try.func15,Try.ntmps15
  go_wp2_with fail
  rw [← hW0]
  clear hW0
  go_wp2_with fail
  refine step1.mono ?_
  rintro e w1 ⟨rfl,R1,bel1,c5⟩
  have step2:=step2 w1 R1 (Nat.le_trans hlo bel1.size)
  clear step1 q0 q1 q2 q3 q4 R R1
  go_wp2_with fail
  refine step2.mono ?_
  rintro e w2 ⟨rfl,R2,bel2⟩
  clear step2
  go_wp2
  go_ret
  exact ⟨rfl,R2,bel1.trans bel2⟩
end Go.Proofs.Ytmllgpkgjniomaa.AWN

namespace Go.Proofs.Ytmllgpkgjniomaa.AWN
open Go Go.Shelf Go.RowKit Go.Proofs.Try
set_option maxHeartbeats 4000000 in
set_option maxRecDepth 100000 in
theorem recover_fail {n:Nat} {t:Str} {g:qbi} (hg:qcw n t=some (g,0,false)) (w:World) :
    Calls prog 13 #[.string (bstr t)] w fun e w'=>e=.returned (.tuple #[.agg #[.complex .f32 0 0,.complex .f32 0 0,.complex .f32 0 0,.slice none 0 0,.slice none 0 0,.slice none 0 0],.int .i64 0,.bool false])∧Below w.heap.size w w':=by
  go_enter Try.func13,Try.ntmps13
  go_wp2_with (go_at_call 34;refine (qq9 hg _).mono ?_;rintro e w1 ⟨a,a',b,b',c,c',v0,v1,o0,o1,rfl,b1,ca,cb,cc,s0,s1,l0,l1,hne⟩)
  obtain ⟨d0,k0,rfl⟩:=s0.slice
  obtain ⟨d1,k1,rfl⟩:=s1.slice
  clear ca cb cc l0 l1 hne s0 s1
  generalize (g.qa1.qac.map qah).length=nb
  generalize (g.Ties.map qan).length=nt
  have e0:=fun (wr:World) (x0 x1 x2 x3 x4:Value) (p q:Nat)=>stG0 wr x0 x1 x2 x3 x4 (.complex .f32 p q) 30 rfl
  have e1:=fun (wr:World) (x0 x1 x2 x3 x4:Value) (p q:Nat)=>stG1 wr x0 x1 x2 x3 x4 (.complex .f32 p q) 30 rfl
  have e2:=fun (wr:World) (x0 x1 x2 x3 x4:Value) (p q:Nat)=>stG2 wr x0 x1 x2 x3 x4 (.complex .f32 p q) 30 rfl
  have e3:=fun (wr:World) (x0 x1 x2 x3 x4:Value) (p:Option Addr) (m c:Nat)=>stG3 wr x0 x1 x2 x3 x4 (.slice p m c) 30 rfl
  have e4:=fun (wr:World) (x0 x1 x2 x3 x4:Value) (p:Option Addr) (m c:Nat)=>stG4 wr x0 x1 x2 x3 x4 (.slice p m c) 30 rfl
  simp only [e0,e1,e2,e3,e4,Result.andThen_ok]
  clear e0 e1 e2 e3 e4
  obtain ⟨W0,hW0⟩:∃ W0,W0=w.alloc (.cells #[.complex .f32 0 0,.complex .f32 0 0,.complex .f32 0 0,.slice none 0 0,.slice none 0 0,.slice none 0 0] 38):=⟨_,rfl⟩
  have zW0:W0.heap.size=w.heap.size+1:=by rw [hW0];simp
  have hh0:W0.heap[w.heap.size]?=some (.cells #[.complex .f32 0 0,.complex .f32 0 0,.complex .f32 0 0,.slice none 0 0,.slice none 0 0,.slice none 0 0] 38 (0,0)):=by rw [hW0];exact heap_alloc_new w _
  have bW0:Below w.heap.size w W0:=by rw [hW0];exact (Below.refl _ w).alloc (Nat.le_refl _) _
  rw [← hW0] at b1
  clear hW0
  obtain ⟨W5,hW5⟩:∃ W5,W5=w1.alloc (.cells #[.complex .f32 a a',.complex .f32 b b',.complex .f32 c c',.slice d0 nb k0,.slice d1 nt k1] 30):=⟨_,rfl⟩
  have b5:Below w1.heap.size w1 W5:=by rw [hW5];exact (Below.refl _ w1).alloc (Nat.le_refl _) _
  rw [← hW5]
  clear hW5
  have s1:=b1.size
  have hres:W5.heap[w.heap.size]?=some (.cells #[.complex .f32 0 0,.complex .f32 0 0,.complex .f32 0 0,.slice none 0 0,.slice none 0 0,.slice none 0 0] 38 (0,0)):=(b5.block _ (by omega)).trans ((b1.block _ (by omega)).trans hh0)
  have bel:Below w.heap.size w W5:=bW0.trans ((b1.mono (by omega)).trans (b5.mono (by omega)))
  obtain ⟨W1,W2,W3,W4,W6,W7,⟨t0,t1,t2,t3,t4,t5⟩,⟨r0,r1,r2,r3,r4,r5⟩,⟨y3,y4,y5⟩,⟨f3,f4,f5⟩,⟨x0,x1,x2,x3,x4,x5⟩,hbut⟩:=qkj hres hres rfl rfl rfl
  clear r0 r1 r2 r3 r4 r5 b1 b5 bW0 hh0 zW0
  go_wp2
  (try simp only [Exit.inBlock,Exit.then])
  refine bodyPost_ret (by simp [results,Try.results13,go_sem,x0,x1,x2,x3,x4,x5];try rfl) rfl ?_
  exact ⟨rfl,bel.trans (hbut.below bel.size fun b hb=>Nat.le_of_eq hb.symm)⟩
def IsSl (v:Value):Prop:=∃ d n k,v=.slice d n k
set_option maxHeartbeats 4000000 in
set_option maxRecDepth 100000 in
theorem load_zero {t:Str} {z:Int} {ok:Bool} (hc:∀ w,Calls prog 13 #[.string (bstr t)] w fun e w'=>∃ a a' b b' c c' v0 v1 v2,e=.returned (.tuple #[.agg #[.complex .f32 a a',.complex .f32 b b',.complex .f32 c c',v0,v1,v2],.int .i64 z,.bool ok])∧IsSl v0∧IsSl v1∧IsSl v2∧Below w.heap.size w w') (hz:ok=false ∨ z ≠ (t.length:Int)) (w:World) :
    Calls prog 18 #[.string (bstr t)] w fun e w'=>e=.returned (.tuple #[.agg #[.complex .f32 0 0,.complex .f32 0 0,.complex .f32 0 0,.slice none 0 0,.slice none 0 0,.slice none 0 0],.bool false])∧Below w.heap.size w w':=by
  have hbs:=qfu t
  go_enter Try.func18,Try.ntmps18
  go_wp2_with (go_at_call 13;refine (hc _).mono ?_;rintro e w1 ⟨a,a',b,b',c,c',v0,v1,v2,rfl,s0,s1,s2,B1⟩)
  obtain ⟨d0,n0,k0,rfl⟩:=s0
  obtain ⟨d1,n1,k1,rfl⟩:=s1
  obtain ⟨d2,n2,k2,rfl⟩:=s2
  have e0:=fun (wr:World) (x0 x1 x2 x3 x4 x5:Value) (p q:Nat)=>stR0 wr x0 x1 x2 x3 x4 x5 (.complex .f32 p q) 38 rfl
  have e1:=fun (wr:World) (x0 x1 x2 x3 x4 x5:Value) (p q:Nat)=>stR1 wr x0 x1 x2 x3 x4 x5 (.complex .f32 p q) 38 rfl
  have e2:=fun (wr:World) (x0 x1 x2 x3 x4 x5:Value) (p q:Nat)=>stR2 wr x0 x1 x2 x3 x4 x5 (.complex .f32 p q) 38 rfl
  have e3:=fun (wr:World) (x0 x1 x2 x3 x4 x5:Value) (p:Option Addr) (m c:Nat)=>stR3 wr x0 x1 x2 x3 x4 x5 (.slice p m c) 38 rfl
  have e4:=fun (wr:World) (x0 x1 x2 x3 x4 x5:Value) (p:Option Addr) (m c:Nat)=>stR4 wr x0 x1 x2 x3 x4 x5 (.slice p m c) 38 rfl
  have e5:=fun (wr:World) (x0 x1 x2 x3 x4 x5:Value) (p:Option Addr) (m c:Nat)=>stR5 wr x0 x1 x2 x3 x4 x5 (.slice p m c) 38 rfl
  simp only [e0,e1,e2,e3,e4,e5,Result.andThen_ok]
  clear e0 e1 e2 e3 e4 e5
  obtain ⟨W0,hW0⟩:∃ W0,W0=w.alloc (.cells #[.complex .f32 0 0,.complex .f32 0 0,.complex .f32 0 0,.slice none 0 0,.slice none 0 0,.slice none 0 0] 38):=⟨_,rfl⟩
  have zW0:W0.heap.size=w.heap.size+1:=by rw [hW0];simp
  have hh0:W0.heap[w.heap.size]?=some (.cells #[.complex .f32 0 0,.complex .f32 0 0,.complex .f32 0 0,.slice none 0 0,.slice none 0 0,.slice none 0 0] 38 (0,0)):=by rw [hW0];exact heap_alloc_new w _
  have bW0:Below w.heap.size w W0:=by rw [hW0];exact (Below.refl _ w).alloc (Nat.le_refl _) _
  rw [← hW0] at B1
  clear hW0
  obtain ⟨W5,hW5⟩:∃ W5,W5=w1.alloc (.cells #[.complex .f32 a a',.complex .f32 b b',.complex .f32 c c',.slice d0 n0 k0,.slice d1 n1 k1,.slice d2 n2 k2] 38):=⟨_,rfl⟩
  have b5:Below w1.heap.size w1 W5:=by rw [hW5];exact (Below.refl _ w1).alloc (Nat.le_refl _) _
  have h5:W5.heap[w1.heap.size]?=some (.cells #[.complex .f32 a a',.complex .f32 b b',.complex .f32 c c',.slice d0 n0 k0,.slice d1 n1 k1,.slice d2 n2 k2] 38 (0,0)):=by rw [hW5];exact heap_alloc_new w1 _
  rw [← hW5]
  clear hW5
  have s1:=B1.size
  have hres:W5.heap[w.heap.size]?=some (.cells #[.complex .f32 0 0,.complex .f32 0 0,.complex .f32 0 0,.slice none 0 0,.slice none 0 0,.slice none 0 0] 38 (0,0)):=(b5.block _ (by omega)).trans ((B1.block _ (by omega)).trans hh0)
  have bel:Below w.heap.size w W5:=bW0.trans ((B1.mono (by omega)).trans (b5.mono (by omega)))
  obtain ⟨W1,W2,W3,W4,W6,W7,⟨t0,t1,t2,t3,t4,t5⟩,⟨r0,r1,r2,r3,r4,r5⟩,⟨y3,y4,y5⟩,⟨f3,f4,f5⟩,⟨x0,x1,x2,x3,x4,x5⟩,hbut⟩:=qkj hres hres rfl rfl rfl
  clear r0 r1 r2 r3 r4 r5 B1 b5 bW0 hh0 zW0 h5
  cases ok with
  | false =>
    go_wp2
    (try simp only [Exit.inBlock,Exit.then])
    refine bodyPost_ret (by simp [results,Try.results18,go_sem,x0,x1,x2,x3,x4,x5];try rfl) rfl ?_
    exact ⟨rfl,bel.trans (hbut.below bel.size fun b hb=>Nat.le_of_eq hb.symm)⟩
  | true =>
    have hz':z ≠ (t.length:Int):=by
      rcases hz with h | h
      · cases h
      · exact h
    clear hz
    go_wp2
    (try simp only [Exit.inBlock,Exit.then])
    refine bodyPost_ret (by simp [results,Try.results18,go_sem,x0,x1,x2,x3,x4,x5];try rfl) rfl ?_
    exact ⟨rfl,bel.trans (hbut.below bel.size fun b hb=>Nat.le_of_eq hb.symm)⟩
set_option maxHeartbeats 4000000 in
set_option maxRecDepth 100000 in
theorem load_one {t:Str} {Q:Value→World→World→Prop} (hc:∀ w,Calls prog 13 #[.string (bstr t)] w fun e w'=>∃ a a' b b' c c' v0 v1 v2,e=.returned (.tuple #[.agg #[.complex .f32 a a',.complex .f32 b b',.complex .f32 c c',v0,v1,v2],.int .i64 (t.length:Int),.bool true])∧IsSl v0∧IsSl v1∧IsSl v2∧Below w.heap.size w w'∧Q (.agg #[.complex .f32 a a',.complex .f32 b b',.complex .f32 c c',v0,v1,v2]) w w')
    (hQ:∀ v w w1 w2 w3,Q v w1 w2→w.heap.size < w1.heap.size→But (fun b=>b=w.heap.size) w2 w3→Q v w w3) (w:World) :
    Calls prog 18 #[.string (bstr t)] w fun e w'=>∃ v,e=.returned (.tuple #[v,.bool true])∧Below w.heap.size w w'∧Q v w w':=by
  have hbs:=qfu t
  go_enter Try.func18,Try.ntmps18
  go_wp2_with (go_at_call 13;refine (hc _).mono ?_;rintro e w1 ⟨a,a',b,b',c,c',v0,v1,v2,rfl,s0,s1,s2,B1,hq⟩)
  obtain ⟨d0,n0,k0,rfl⟩:=s0
  obtain ⟨d1,n1,k1,rfl⟩:=s1
  obtain ⟨d2,n2,k2,rfl⟩:=s2
  have e0:=fun (wr:World) (x0 x1 x2 x3 x4 x5:Value) (p q:Nat)=>stR0 wr x0 x1 x2 x3 x4 x5 (.complex .f32 p q) 38 rfl
  have e1:=fun (wr:World) (x0 x1 x2 x3 x4 x5:Value) (p q:Nat)=>stR1 wr x0 x1 x2 x3 x4 x5 (.complex .f32 p q) 38 rfl
  have e2:=fun (wr:World) (x0 x1 x2 x3 x4 x5:Value) (p q:Nat)=>stR2 wr x0 x1 x2 x3 x4 x5 (.complex .f32 p q) 38 rfl
  have e3:=fun (wr:World) (x0 x1 x2 x3 x4 x5:Value) (p:Option Addr) (m c:Nat)=>stR3 wr x0 x1 x2 x3 x4 x5 (.slice p m c) 38 rfl
  have e4:=fun (wr:World) (x0 x1 x2 x3 x4 x5:Value) (p:Option Addr) (m c:Nat)=>stR4 wr x0 x1 x2 x3 x4 x5 (.slice p m c) 38 rfl
  have e5:=fun (wr:World) (x0 x1 x2 x3 x4 x5:Value) (p:Option Addr) (m c:Nat)=>stR5 wr x0 x1 x2 x3 x4 x5 (.slice p m c) 38 rfl
  simp only [e0,e1,e2,e3,e4,e5,Result.andThen_ok]
  clear e0 e1 e2 e3 e4 e5
  obtain ⟨W0,hW0⟩:∃ W0,W0=w.alloc (.cells #[.complex .f32 0 0,.complex .f32 0 0,.complex .f32 0 0,.slice none 0 0,.slice none 0 0,.slice none 0 0] 38):=⟨_,rfl⟩
  have zW0:W0.heap.size=w.heap.size+1:=by rw [hW0];simp
  have hh0:W0.heap[w.heap.size]?=some (.cells #[.complex .f32 0 0,.complex .f32 0 0,.complex .f32 0 0,.slice none 0 0,.slice none 0 0,.slice none 0 0] 38 (0,0)):=by rw [hW0];exact heap_alloc_new w _
  have bW0:Below w.heap.size w W0:=by rw [hW0];exact (Below.refl _ w).alloc (Nat.le_refl _) _
  rw [← hW0] at B1 hq
  clear hW0
  obtain ⟨W5,hW5⟩:∃ W5,W5=w1.alloc (.cells #[.complex .f32 a a',.complex .f32 b b',.complex .f32 c c',.slice d0 n0 k0,.slice d1 n1 k1,.slice d2 n2 k2] 38):=⟨_,rfl⟩
  have b5:Below w1.heap.size w1 W5:=by rw [hW5];exact (Below.refl _ w1).alloc (Nat.le_refl _) _
  have h5:W5.heap[w1.heap.size]?=some (.cells #[.complex .f32 a a',.complex .f32 b b',.complex .f32 c c',.slice d0 n0 k0,.slice d1 n1 k1,.slice d2 n2 k2] 38 (0,0)):=by rw [hW5];exact heap_alloc_new w1 _
  rw [← hW5]
  clear hW5
  have s1:=B1.size
  have hres:W5.heap[w.heap.size]?=some (.cells #[.complex .f32 0 0,.complex .f32 0 0,.complex .f32 0 0,.slice none 0 0,.slice none 0 0,.slice none 0 0] 38 (0,0)):=(b5.block _ (by omega)).trans ((B1.block _ (by omega)).trans hh0)
  have bel:Below w.heap.size w W5:=bW0.trans ((B1.mono (by omega)).trans (b5.mono (by omega)))
  obtain ⟨W1,W2,W3,W4,W6,W7,⟨t0,t1,t2,t3,t4,t5⟩,⟨r0,r1,r2,r3,r4,r5⟩,⟨y3,y4,y5⟩,⟨f3,f4,f5⟩,⟨x0,x1,x2,x3,x4,x5⟩,hbut⟩:=qkj h5 hres rfl rfl rfl
  have hq:=hQ _ w W0 w1 W7 hq (by omega) ((quf b5).trans hbut)
  have hq:Hid _:=hq
  clear B1 b5 bW0 hh0 zW0 h5 hQ hc
  go_wp2
  (try simp only [Exit.inBlock,Exit.then])
  refine bodyPost_ret (by simp [results,Try.results18,go_sem,x0,x1,x2,x3,x4,x5];try rfl) rfl ?_
  exact ⟨_,rfl,bel.trans (hbut.below bel.size fun b hb=>Nat.le_of_eq hb.symm),hq⟩
end Go.Proofs.Ytmllgpkgjniomaa.AWN

namespace Go.Proofs.Ytmllgpkgjniomaa.AWN
open Go Go.Shelf Go.RowKit Go.Proofs.Try
structure RecD (N:Nat) (W:World) (a a' b b' c c':Nat) (v0 v1 v2:Value) (r:qc7):Prop where
  ca:CxW r.Grid.qa1.Source.A a a'
  cb:CxW r.Grid.qa1.Source.B b b'
  cc:CxW r.Grid.qa1.Source.C c c'
  bus:RelD W (fun x=>x < N) (.sl false (r.Grid.qa1.qac.map qah)) v0
  tie:RelD W (fun x=>x < N) (.sl false (r.Grid.Ties.map qan)) v1
  flw:RelD W (fun x=>x < N) (.sl false (r.qce.map qbm)) v2
theorem qm5 {N N':Nat} {W W':World} {x:D} {v:Value} (h:RelD W (fun x=>x < N) x v) (k:Below N W W') (hN:N≤N'):RelD W' (fun x=>x < N') x v :=
  h.mono ⟨fun b hb=>Nat.lt_of_lt_of_le hb hN,fun b o v hb hc=>(k.cell (p:=⟨b,o,none⟩) hb).trans hc⟩
theorem RecD.kept {N N':Nat} {W W':World} {a a' b b' c c':Nat} {v0 v1 v2:Value} {r:qc7} (h:RecD N W a a' b b' c c' v0 v1 v2 r) (k:Below N W W') (hN:N≤N'):RecD N' W' a a' b b' c c' v0 v1 v2 r :=
  ⟨h.ca,h.cb,h.cc,qm5 h.bus k hN,qm5 h.tie k hN,qm5 h.flw k hN⟩
theorem qra {W:World} {ok:Nat→Prop} {t:Bool} {es:List (List D)} {v:Value} (h:RelD W ok (.sl t es) v):IsSl v:=by
  cases h with
  | slnil=>exact ⟨_,_,_,rfl⟩
  | sle=>exact ⟨_,_,_,rfl⟩
  | sl=>exact ⟨_,_,_,rfl⟩
theorem data_of_row {W:World} {hb:Handle} {H:Nat→AObj} {ok ok':Nat→Prop} {j sz:Nat} {es:List (List D)} {v:Value} (hH:H j=.row sz es) (hr:qr1 W hb ok j sz es) (hg:∀ b,ok b→ok' b) (hj:∀ b,hb j=some b→ok' b) (hv:Rel W hb H ok (.row j es.length 0 es.length) v):RelD W ok' (.sl false es) v:=by
  generalize hL:es.length=L at hv
  cases hv with
  | row h1 h2 h3 h4 h5 h6 h7 h8 h9 =>
    rename_i b sz' cap bs es'
    rw [hH] at h1
    cases h1
    obtain ⟨k0,k⟩:=hr
    rcases k with ⟨_,k⟩ | ⟨b',vals,T,fr,k1,k2,k3,k4,k5⟩
    · rw [k] at h3;cases h3
    · rw [h3] at k1
      cases k1
      rw [Nat.zero_mul]
      subst hL
      refine .sl sz (fun i c=>vals.getD (i*sz+c) undef) (fun _=>hj b h3) rfl h6 (fun h=>by cases h) (Nat.le_trans h6 h9) (fun i hi=>?_) (fun i c hi hc=>?_) (fun i c hi hc=>(k5 i c hi hc).mono ⟨hg,fun _ _ _ _ h=>h⟩)
      · rw [List.getD_eq_getElem?_getD,List.getElem?_eq_getElem hi]
        exact k0 _ (List.getElem_mem hi)
      · have h0:i*sz+c < vals.size:=by
          have:(i+1)*sz≤es.length*sz:=Nat.mul_le_mul_right _ hi
          rw [Nat.add_mul,Nat.one_mul] at this
          omega
        rw [Nat.zero_add,Lib.cell_of_heap k2,Array.getElem?_eq_getElem h0,Array.getD_eq_getD_getElem?,Array.getElem?_eq_getElem h0]
        rfl
  | rowEmpty h1 h2 h3=>exact absurd h3 (Nat.lt_irrefl _)
  | rowNil h1 h2 =>
    rw [hH] at h1
    cases h1
    exact .slnil _
  | rowStale v h1 h2 h3 =>
    rw [hH] at h1
    cases h1
    omega
theorem agg6 {W:World} {hb:Handle} {H:Nat→AObj} {ok:Nat→Prop} {x y z u t s:V} {v:Value} (h:Rel W hb H ok (.agg [x,y,z,u,t,s]) v):∃ a b c d e f,v=.agg #[a,b,c,d,e,f]∧Rel W hb H ok x a∧Rel W hb H ok y b∧Rel W hb H ok z c∧Rel W hb H ok u d∧Rel W hb H ok t e∧Rel W hb H ok s f:=by
  cases h with
  | agg h1 h2 =>
    rename_i a
    have hs:a.size=6:=by simp at h1;omega
    obtain ⟨l,rfl⟩:∃ l,a=⟨l⟩:=⟨a.toList,rfl⟩
    match l,hs with
    | [p,q,r,s,m,o],_=>exact ⟨p,q,r,s,m,o,rfl,h2 0 (by simp),h2 1 (by simp),h2 2 (by simp),h2 3 (by simp),h2 4 (by simp),h2 5 (by simp)⟩
theorem qsn {W:World} {hb:Handle} {H:Nat→AObj} {ok ok':Nat→Prop} {x:D} {v:Value} (h:Rel W hb H ok (.d x) v) (hg:∀ b,ok b→ok' b):RelD W ok' x v:=by
  cases h with
  | d h=>exact h.mono ⟨hg,fun _ _ _ _ h=>h⟩
theorem qor {n:Nat} {t:Str} {r:qc7 × Int × Bool} (h:qde n t=some r) (w:World) :
    Calls prog 12 #[.string (bstr t)] w fun e w'=>∃ a a' b b' c c' v0 v1 v2,e=.returned (.tuple #[.agg #[.complex .f32 a a',.complex .f32 b b',.complex .f32 c c',v0,v1,v2],.int .i64 r.2.1,.bool r.2.2])∧Below w.heap.size w w'∧RecD w'.heap.size w' a a' b b' c c' v0 v1 v2 r.1:=by
  refine (spec_RecoverRecord_ok n t h w ⟨qat [],fun _=>none⟩ (fun _=>none) (fun _=>True) _ rfl rfl (hs0 w) (qoo (.d (.str _)))).mono ?_
  rintro e w' ⟨v,_,_,_,hb',rfl,⟨rfl,rfl,rfl⟩,_,hs,hv⟩
  obtain ⟨x,y,z,rfl,hx,hy,hz⟩:=agg3 hv
  obtain ⟨x0,x1,x2,v0,v1,v2,rfl,h0,h1,h2,h3,h4,h5⟩:=agg6 hx
  obtain ⟨a,a',rfl,ca⟩:=qm6 h0
  obtain ⟨b,b',rfl,cb⟩:=qm6 h1
  obtain ⟨c,c',rfl,cc⟩:=qm6 h2
  have ey:=qgl hy
  have ez:=qfl hz
  subst ey ez
  rw [lm qbm r.1.qce] at h5
  have n0:qat ([]++[AObj.row 4 (r.1.qce.map qbm)]) 0 ≠ .none:=fun hh=>by cases hh
  refine ⟨a,a',b,b',c,c',v0,v1,v2,rfl,qk7 hs.ext,ca,cb,cc,qsn h3 fun b hb=>hb.1,qsn h4 fun b hb=>hb.1,data_of_row (qv0 _) (qkm (hs.obj 0) (qv0 _)) (fun b hb=>hb.1) (fun b hb=>(hs.hnd 0 b n0 hb).1) h5⟩
set_option maxHeartbeats 2000000 in
theorem spec_LoadRecord_ok (n:Nat) (s_:Str) {r:qc7 × Bool} (h:qhp n s_=some r):qb5 prog false 17 [.d (.str (bstr s_))] [] (fun v o new=>v=.tup [.agg [.d (.cx .f32 r.1.Grid.qa1.Source.A.re r.1.Grid.qa1.Source.A.im),.d (.cx .f32 r.1.Grid.qa1.Source.B.re r.1.Grid.qa1.Source.B.im),.d (.cx .f32 r.1.Grid.qa1.Source.C.re r.1.Grid.qa1.Source.C.im),.d (.sl false (r.1.Grid.qa1.qac.map qah)),.d (.sl false (r.1.Grid.Ties.map qan)),.row 0 r.1.qce.length 0 r.1.qce.length],.d (.bool r.2)]∧o=[]∧new=[.row 4 (r.1.qce.map qbm)]):=by
  refine qar hτ func17 rfl (by simp) (by simp) ?_
  unfold qhp at h
  refine qa5 ?_
  refine qa2 ?_
  refine qaq hτ rfl rfl rfl ?_
  refine qa0 hτ rfl rfl rfl ?_
  refine qa4 ?_
  refine qa5 ?_
  refine qa2 ?_
  refine qa0 hτ rfl rfl rfl ?_
  refine qab h fun x4 hx4 h=>?_
  refine qam hτ false [] rfl rfl rfl (qap func41 rfl rfl) rfl rfl (by simp) ⟨trivial,trivial⟩ (by trivial) (spec_l10Recover_ok n s_ hx4) ?_
  rintro r0 o0 n0 ⟨rfl,rfl,rfl⟩ -
  refine qa0 hτ rfl rfl rfl ?_
  refine qa0 hτ rfl rfl rfl ?_
  refine qa0 hτ rfl rfl rfl ?_
  refine qa0 hτ rfl rfl rfl ?_
  refine qaq hτ rfl rfl rfl ?_
  refine qaq hτ rfl rfl rfl ?_
  refine qa0 hτ rfl rfl rfl ?_
  refine qa0 hτ rfl rfl rfl ?_
  refine qa4 ?_
  refine qd1 (ι:=Unit) (fun _=>St.of [(2,.ptr 0 0),(4,.ptr 1 0)] [.box [.d (.cx .f32 (0:Nat) (0:Nat)),.d (.cx .f32 (0:Nat) (0:Nat)),.d (.cx .f32 (0:Nat) (0:Nat)),.d (.nils),.d (.nils),.d (.nils)],.box [.d (.cx .f32 x4.1.Grid.qa1.Source.A.re x4.1.Grid.qa1.Source.A.im),.d (.cx .f32 x4.1.Grid.qa1.Source.B.re x4.1.Grid.qa1.Source.B.im),.d (.cx .f32 x4.1.Grid.qa1.Source.C.re x4.1.Grid.qa1.Source.C.im),.d (.sl false (x4.1.Grid.qa1.qac.map qah)),.d (.sl false (x4.1.Grid.Ties.map qan)),.row 2 x4.1.qce.length 0 x4.1.qce.length],.row 4 (x4.1.qce.map qbm)] f17.ntmps 0) (fun _=>m_spec_LoadRecord_j1 n x4=some r) ?_ (fun hk7=>?_)
  · rintro ⟨⟩ h
    replace h:m_spec_LoadRecord_j1 n x4=some r:=h
    unfold m_spec_LoadRecord_j1 at h
    refine qa5 ?_
    refine qa2 ?_
    refine qa0 hτ rfl rfl rfl ?_
    refine qaq hτ rfl rfl rfl ?_
    refine qa0 hτ rfl rfl rfl ?_
    refine qa4 ?_
    refine qa9 (qa3 [0,2] (l:=[(2,.ptr 0 0),(3,.d (.bool true))]) (objs:=[.box [.d (.cx .f32 x4.1.Grid.qa1.Source.A.re x4.1.Grid.qa1.Source.A.im),.d (.cx .f32 x4.1.Grid.qa1.Source.B.re x4.1.Grid.qa1.Source.B.im),.d (.cx .f32 x4.1.Grid.qa1.Source.C.re x4.1.Grid.qa1.Source.C.im),.d (.sl false (x4.1.Grid.qa1.qac.map qah)),.d (.sl false (x4.1.Grid.Ties.map qan)),.row 1 x4.1.qce.length 0 x4.1.qce.length],.row 4 (x4.1.qce.map qbm)]) rfl (by simp) rfl (by trivial) ⟨rfl,trivial,rfl,trivial,trivial⟩) ?_
    refine qas ?_
    have hr:=Option.some.inj h
    subst hr
    exact qaf (.inr rfl) [1] (objs':=[]) (new:=[.row 4 (x4.1.qce.map qbm)]) rfl (by simp) (by simp) rfl (by trivial) rfl rfl (by trivial) (fun h=>nomatch h) ⟨rfl,rfl,rfl⟩
  · refine qa5 ?_
    refine qd1 (ι:=Bool) (fun v10=>St.of [(2,.ptr 0 0),(4,.ptr 1 0),(20,.d (.bool v10))] [.box [.d (.cx .f32 (0:Nat) (0:Nat)),.d (.cx .f32 (0:Nat) (0:Nat)),.d (.cx .f32 (0:Nat) (0:Nat)),.d (.nils),.d (.nils),.d (.nils)],.box [.d (.cx .f32 x4.1.Grid.qa1.Source.A.re x4.1.Grid.qa1.Source.A.im),.d (.cx .f32 x4.1.Grid.qa1.Source.B.re x4.1.Grid.qa1.Source.B.im),.d (.cx .f32 x4.1.Grid.qa1.Source.C.re x4.1.Grid.qa1.Source.C.im),.d (.sl false (x4.1.Grid.qa1.qac.map qah)),.d (.sl false (x4.1.Grid.Ties.map qan)),.row 2 x4.1.qce.length 0 x4.1.qce.length],.row 4 (x4.1.qce.map qbm)] f17.ntmps 0) (fun v10=>qhy n x4 v10=some r) ?_ (fun hk12=>?_)
    · rintro v10 h
      replace h:qhy n x4 v10=some r:=h
      unfold qhy at h
      refine qau rfl (fun hc11=>?_) (fun hc11=>?_)
      · have h:=qci h hc11
        refine qa5 ?_
        refine qa2 ?_
        refine qa0 hτ rfl rfl rfl ?_
        refine qaq hτ rfl rfl rfl ?_
        refine qa0 hτ rfl rfl rfl ?_
        refine qa4 ?_
        refine qa9 (qa3 [0] (l:=[(2,.ptr 0 0),(3,.d (.bool false))]) (objs:=[.box [.d (.cx .f32 (0:Nat) (0:Nat)),.d (.cx .f32 (0:Nat) (0:Nat)),.d (.cx .f32 (0:Nat) (0:Nat)),.d (.nils),.d (.nils),.d (.nils)]]) rfl (by simp) rfl (by trivial) ⟨rfl,trivial,rfl,trivial,trivial⟩) ?_
        refine qa9 (qh4 [4] (l':=[(2,.ptr 0 0),(3,.d (.bool false))]) (objs':=[.box [.d (.cx .f32 (0:Nat) (0:Nat)),.d (.cx .f32 (0:Nat) (0:Nat)),.d (.cx .f32 (0:Nat) (0:Nat)),.d (.sl false (([]:List SBus).map qah)),.d (.sl false (([]:List STie).map qan)),.row 1 (([]:List qbb).length) 0 (([]:List qbb).length)]]) (.cons (.c (.refl _)) (.cons (.c (.refl _)) .nil)) (.cons (.box (.cons (.refl _) (.cons (.refl _) (.cons (.refl _) (.cons (.d .nil) (.cons (.d .nil) (.cons (.ghost ⟨Nat.le_of_ble_eq_true rfl,Nat.le_of_ble_eq_true rfl⟩) .nil))))))) .nil)) ?_
        refine qas ?_
        have hr:=Option.some.inj h
        subst hr
        exact qaf (.inr rfl) [1] (objs':=[]) (new:=[.row 4 (([]:List qbb).map qbm)]) rfl (by simp) (by simp) rfl (by trivial) rfl rfl (by trivial) (fun h=>nomatch h) ⟨rfl,rfl,rfl⟩
      · have h:=qch h hc11
        refine qav ?_
        refine qa9 (qa3 [0,1,2] (l:=[(2,.ptr 0 0),(4,.ptr 1 0)]) (objs:=[.box [.d (.cx .f32 (0:Nat) (0:Nat)),.d (.cx .f32 (0:Nat) (0:Nat)),.d (.cx .f32 (0:Nat) (0:Nat)),.d (.nils),.d (.nils),.d (.nils)],.box [.d (.cx .f32 x4.1.Grid.qa1.Source.A.re x4.1.Grid.qa1.Source.A.im),.d (.cx .f32 x4.1.Grid.qa1.Source.B.re x4.1.Grid.qa1.Source.B.im),.d (.cx .f32 x4.1.Grid.qa1.Source.C.re x4.1.Grid.qa1.Source.C.im),.d (.sl false (x4.1.Grid.qa1.qac.map qah)),.d (.sl false (x4.1.Grid.Ties.map qan)),.row 2 x4.1.qce.length 0 x4.1.qce.length],.row 4 (x4.1.qce.map qbm)]) rfl (by simp) rfl (by trivial) ⟨rfl,trivial,rfl,trivial,trivial⟩) ?_
        exact hk7 () h
    · refine qa5 ?_
      refine qa9 (qa3 [0,2,1] (l:=[(0,.d (.str (bstr s_))),(2,.ptr 0 0),(4,.ptr 1 0),(5,.d (.int .i64 x4.2.1)),(6,.d (.bool x4.2.2))]) (objs:=[.box [.d (.cx .f32 (0:Nat) (0:Nat)),.d (.cx .f32 (0:Nat) (0:Nat)),.d (.cx .f32 (0:Nat) (0:Nat)),.d (.nils),.d (.nils),.d (.nils)],.box [.d (.cx .f32 x4.1.Grid.qa1.Source.A.re x4.1.Grid.qa1.Source.A.im),.d (.cx .f32 x4.1.Grid.qa1.Source.B.re x4.1.Grid.qa1.Source.B.im),.d (.cx .f32 x4.1.Grid.qa1.Source.C.re x4.1.Grid.qa1.Source.C.im),.d (.sl false (x4.1.Grid.qa1.qac.map qah)),.d (.sl false (x4.1.Grid.Ties.map qan)),.row 2 x4.1.qce.length 0 x4.1.qce.length],.row 4 (x4.1.qce.map qbm)]) rfl (by simp) rfl (by trivial) ⟨rfl,trivial,rfl,trivial,rfl,trivial,rfl,trivial,rfl,trivial,trivial⟩) ?_
      refine qa2 ?_
      refine qa0 hτ rfl rfl rfl ?_
      refine qa0 hτ rfl rfl rfl ?_
      refine qa0 hτ rfl rfl rfl ?_
      refine qcm 15 rfl (fun hb13=>?_) (fun hb13=>?_)
      · have hb13:=qdd hb13
        have h:=qch h hb13
        refine qao rfl rfl ?_
        refine qao rfl rfl ?_
        refine qao rfl rfl ?_
        refine qao rfl rfl ?_
        refine qa0 hτ rfl rfl rfl ?_
        refine qa4 ?_
        refine qa9 (qa3 [0,1,2] (l:=[(2,.ptr 0 0),(4,.ptr 1 0),(20,.d (.bool true))]) (objs:=[.box [.d (.cx .f32 (0:Nat) (0:Nat)),.d (.cx .f32 (0:Nat) (0:Nat)),.d (.cx .f32 (0:Nat) (0:Nat)),.d (.nils),.d (.nils),.d (.nils)],.box [.d (.cx .f32 x4.1.Grid.qa1.Source.A.re x4.1.Grid.qa1.Source.A.im),.d (.cx .f32 x4.1.Grid.qa1.Source.B.re x4.1.Grid.qa1.Source.B.im),.d (.cx .f32 x4.1.Grid.qa1.Source.C.re x4.1.Grid.qa1.Source.C.im),.d (.sl false (x4.1.Grid.qa1.qac.map qah)),.d (.sl false (x4.1.Grid.Ties.map qan)),.row 2 x4.1.qce.length 0 x4.1.qce.length],.row 4 (x4.1.qce.map qbm)]) rfl (by simp) rfl (by trivial) ⟨rfl,trivial,rfl,trivial,rfl,trivial,trivial⟩) ?_
        exact hk12 true h
      · have hb13:=qdc hb13
        have h:=qci h hb13
        refine qa0 hτ rfl rfl rfl ?_
        refine qa0 hτ rfl rfl rfl ?_
        refine qa0 hτ rfl rfl rfl ?_
        refine qa0 hτ (v:=.d (.bool (!(decide (x4.2.1=(s_.length:Int)))))) rfl rfl (qhx _ _) ?_
        refine qa0 hτ rfl rfl rfl ?_
        refine qa4 ?_
        refine qa9 (qa3 [0,1,2] (l:=[(2,.ptr 0 0),(4,.ptr 1 0),(20,.d (.bool (!(decide (x4.2.1=(s_.length:Int))))))]) (objs:=[.box [.d (.cx .f32 (0:Nat) (0:Nat)),.d (.cx .f32 (0:Nat) (0:Nat)),.d (.cx .f32 (0:Nat) (0:Nat)),.d (.nils),.d (.nils),.d (.nils)],.box [.d (.cx .f32 x4.1.Grid.qa1.Source.A.re x4.1.Grid.qa1.Source.A.im),.d (.cx .f32 x4.1.Grid.qa1.Source.B.re x4.1.Grid.qa1.Source.B.im),.d (.cx .f32 x4.1.Grid.qa1.Source.C.re x4.1.Grid.qa1.Source.C.im),.d (.sl false (x4.1.Grid.qa1.qac.map qah)),.d (.sl false (x4.1.Grid.Ties.map qan)),.row 2 x4.1.qce.length 0 x4.1.qce.length],.row 4 (x4.1.qce.map qbm)]) rfl (by simp) rfl (by trivial) ⟨rfl,trivial,rfl,trivial,rfl,trivial,trivial⟩) ?_
        exact hk12 (!(decide (x4.2.1=(s_.length:Int)))) h
theorem specL_call {n:Nat} {t:Str} {r:qc7 × Bool} (h:qhp n t=some r) (w:World) :
    Calls prog 17 #[.string (bstr t)] w fun e w'=>∃ a a' b b' c c' v0 v1 v2,e=.returned (.tuple #[.agg #[.complex .f32 a a',.complex .f32 b b',.complex .f32 c c',v0,v1,v2],.bool r.2])∧Below w.heap.size w w'∧RecD w'.heap.size w' a a' b b' c c' v0 v1 v2 r.1:=by
  refine (spec_LoadRecord_ok n t h w ⟨qat [],fun _=>none⟩ (fun _=>none) (fun _=>True) _ rfl rfl (hs0 w) (qoo (.d (.str _)))).mono ?_
  rintro e w' ⟨v,_,_,_,hb',rfl,⟨rfl,rfl,rfl⟩,_,hs,hv⟩
  obtain ⟨x,y,rfl,hx,hy⟩:=agg2 hv
  obtain ⟨x0,x1,x2,v0,v1,v2,rfl,h0,h1,h2,h3,h4,h5⟩:=agg6 hx
  obtain ⟨a,a',rfl,ca⟩:=qm6 h0
  obtain ⟨b,b',rfl,cb⟩:=qm6 h1
  obtain ⟨c,c',rfl,cc⟩:=qm6 h2
  have ey:=qfl hy
  subst ey
  rw [lm qbm r.1.qce] at h5
  have n0:qat ([]++[AObj.row 4 (r.1.qce.map qbm)]) 0 ≠ .none:=fun hh=>by cases hh
  refine ⟨a,a',b,b',c,c',v0,v1,v2,rfl,qk7 hs.ext,ca,cb,cc,qsn h3 fun b hb=>hb.1,qsn h4 fun b hb=>hb.1,data_of_row (qv0 _) (qkm (hs.obj 0) (qv0 _)) (fun b hb=>hb.1) (fun b hb=>(hs.hnd 0 b n0 hb).1) h5⟩
theorem RecD.rel {N:Nat} {W:World} {a a' b b' c c':Nat} {v0 v1 v2:Value} {r:qc7} (h:RecD N W a a' b b' c c' v0 v1 v2 r) (hN:N≤W.heap.size) :
    Rel W (fun _=>none) (qat []) (okF W (fun _=>True) (fun _=>none) (qat []) W) (.agg [.d (.cx .f32 r.Grid.qa1.Source.A.re r.Grid.qa1.Source.A.im),.d (.cx .f32 r.Grid.qa1.Source.B.re r.Grid.qa1.Source.B.im),.d (.cx .f32 r.Grid.qa1.Source.C.re r.Grid.qa1.Source.C.im),.d (.sl false (r.Grid.qa1.qac.map qah)),.d (.sl false (r.Grid.Ties.map qan)),.d (.sl false (r.qce.map qbm))]) (.agg #[.complex .f32 a a',.complex .f32 b b',.complex .f32 c c',v0,v1,v2]):=by
  have hg:∀ x,x < N→okF W (fun _=>True) (fun _=>none) (qat []) W x:=fun x hx=>⟨Nat.lt_of_lt_of_le hx hN,.inl trivial,fun j hj=>absurd (qbw j) hj⟩
  refine .agg rfl fun i hi=>?_
  rcases i with _ | _ | _ | _ | _ | _ | i
  · exact h.ca.rel
  · exact h.cb.rel
  · exact h.cc.rel
  · exact .d (h.bus.mono ⟨hg,fun _ _ _ _ h=>h⟩)
  · exact .d (h.tie.mono ⟨hg,fun _ _ _ _ h=>h⟩)
  · exact .d (h.flw.mono ⟨hg,fun _ _ _ _ h=>h⟩)
  · simp at hi;omega
theorem qt8 {n:Nat} {r s:qc7} {q:Bool} (h:qfv n r s=some q) {N M:Nat} {W:World} {a a' b b' c c':Nat} {v0 v1 v2:Value} {x x' y y' z z':Nat} {u0 u1 u2:Value} (D1:RecD N W a a' b b' c c' v0 v1 v2 r) (hN:N≤W.heap.size) (D2:RecD M W x x' y y' z z' u0 u1 u2 s) (hM:M≤W.heap.size) :
    Calls prog 14 #[.agg #[.complex .f32 a a',.complex .f32 b b',.complex .f32 c c',v0,v1,v2],.agg #[.complex .f32 x x',.complex .f32 y y',.complex .f32 z z',u0,u1,u2]] W fun e w'=>e=.returned (.bool q)∧Below W.heap.size W w':=by
  refine (laws_eqRecord_ok n r s h W ⟨qat [],fun _=>none⟩ (fun _=>none) (fun _=>True) _ rfl rfl (hs0 W) (ql3 (D1.rel hN) (D2.rel hM))).mono ?_
  rintro e w' ⟨v,_,_,_,hb',rfl,⟨rfl,rfl,rfl⟩,_,hs,hv⟩
  have ev:=qfl hv
  subst ev
  exact ⟨rfl,qk7 hs.ext⟩
theorem qqa {n:Nat} {r:qc7} {k q:Int} (h:qeu n r k=some q) {N:Nat} {W:World} {a a' b b' c c':Nat} {v0 v1 v2:Value} (D1:RecD N W a a' b b' c c' v0 v1 v2 r) (hN:N≤W.heap.size) :
    Calls prog 16 #[.agg #[.complex .f32 a a',.complex .f32 b b',.complex .f32 c c',v0,v1,v2],.int .i64 k] W fun e w'=>e=.returned (.int .i64 q)∧Below W.heap.size W w':=by
  refine (laws_heldRecord_ok n r k h W ⟨qat [],fun _=>none⟩ (fun _=>none) (fun _=>True) _ rfl rfl (hs0 W) (ql3 (D1.rel hN) (.d (.int _ _)))).mono ?_
  rintro e w' ⟨v,_,_,_,hb',rfl,⟨rfl,rfl,rfl⟩,_,hs,hv⟩
  have ev:=qgl hv
  subst ev
  exact ⟨rfl,qk7 hs.ext⟩
theorem qes.data {W:World} {lo:Nat} {X:List Nat} {o0 o1:Option Nat} {a a' b b' c c':Nat} {v0 v1 v2:Value} {r:qc7} {ps:List FB} (h:qes W lo X o0 o1 v0 v1 v2 r.Grid.qa1.qac r.Grid.Ties ps r.qce) (ca:CxW r.Grid.qa1.Source.A a a') (cb:CxW r.Grid.qa1.Source.B b b') (cc:CxW r.Grid.qa1.Source.C c c'):RecD W.heap.size W a a' b b' c c' v0 v1 v2 r:=by
  refine ⟨ca,cb,cc,h.bus.data fun b e=>(h.rng b (qjz e)).2,h.tie.data fun b e=>(h.rng b (qk0 e)).2,?_⟩
  rcases h.own.2 with ⟨hn,h0⟩ | ⟨g,cap,cur,rfl,hb,hgg,hnc,hcm,hcs,htake⟩
  · rw [hn]
    have:r.qce=[]:=List.eq_nil_of_length_eq_zero h0
    rw [this]
    exact .slnil _
  · have hlt:∀ i,i < r.qce.length→∀ j,j < 4→cur[i*4+j]?=(qih ps r.qce)[i*4+j]?:=fun i hi j hj=>by
      rw [← htake,List.getElem?_take,if_pos (by omega)]
      simp
    have hp:∀ i (hi:i < r.qce.length),∃ p,ps[i]?=some p:=fun i hi=>⟨_,List.getElem?_eq_getElem (by rw [h.len];exact hi)⟩
    have hl:=(lm qbm r.qce).symm
    refine .sl 4 (fun i c=>cur.getD (i*4+c) undef) (fun _=>(Array.getElem?_eq_some_iff.1 hgg).1) hl hnc (fun h=>by cases h) (Nat.le_trans hnc hcm) (fun i hi=>?_) (fun i c hi hc=>?_) (fun i c hi hc=>?_)
    · rw [List.getD_eq_getElem?_getD,List.getElem?_map,List.getElem?_eq_getElem hi]
      rfl
    · have h0:i*4+c < cur.size:=by omega
      rw [Nat.zero_add,Lib.cell_of_heap hgg,Array.getElem?_eq_getElem h0,Array.getD_eq_getD_getElem?,Array.getElem?_eq_getElem h0]
      rfl
    · obtain ⟨p,hpi⟩:=hp i hi
      have hfi:r.qce[i]?=some r.qce[i]:=List.getElem?_eq_getElem hi
      obtain ⟨r0,r1⟩:=h.row i p _ hpi hfi
      obtain ⟨m0,m1⟩:=qj4 (o0:=o0) (o1:=o1) hpi
      have ek:(r.qce.map qbm).getD i []=qbm r.qce[i]:=by
        rw [List.getD_eq_getElem?_getD,List.getElem?_map,hfi];rfl
      have ec:cur.getD (i*4+c) undef=((qly p r.qce[i])[c]?).getD undef:=by
        rw [Array.getD_eq_getD_getElem?,hlt i hi c hc,qlz ps r.qce i p _ c h.len hpi hfi hc]
      rw [ek,ec]
      rcases c with _ | _ | _ | _ | c
      · exact r0.data fun b e=>by cases e;exact (h.rng _ m0).2
      · exact r1.data fun b e=>by cases e;exact (h.rng _ m1).2
      · exact .int _ _
      · exact .bool _
      · omega
end Go.Proofs.Ytmllgpkgjniomaa.AWN

namespace Go.Proofs.Ytmllgpkgjniomaa.AWN
open Go Go.Shelf Go.RowKit Go.Proofs.Try
end Go.Proofs.Ytmllgpkgjniomaa.AWN

namespace Go.Proofs.Ytmllgpkgjniomaa.AWN
open Go Go.Shelf Go.RowKit Go.Proofs.Try
set_option maxHeartbeats 8000000 in
set_option maxRecDepth 100000 in
theorem law5 {n:Nat} {t:Str} {r:qc7} {Z:Int} {ok:Bool} (ht:t.length≤1048576)
    (hS:∀ w,Calls prog 17 #[.string (bstr t)] w fun e w'=>∃ a a' b b' c c' v0 v1 v2,e=.returned (.tuple #[.agg #[.complex .f32 a a',.complex .f32 b b',.complex .f32 c c',v0,v1,v2],.bool ok])∧Below w.heap.size w w'∧RecD w'.heap.size w' a a' b b' c c' v0 v1 v2 r)
    (hI:∀ w,Calls prog 18 #[.string (bstr t)] w fun e w'=>∃ a a' b b' c c' v0 v1 v2 o0 o1 ps,e=.returned (.tuple #[.agg #[.complex .f32 a a',.complex .f32 b b',.complex .f32 c c',v0,v1,v2],.bool ok])∧Below w.heap.size w w'∧CxW r.Grid.qa1.Source.A a a'∧CxW r.Grid.qa1.Source.B b b'∧CxW r.Grid.qa1.Source.C c c'∧qes w' w.heap.size [] o0 o1 v0 v1 v2 r.Grid.qa1.qac r.Grid.Ties ps r.qce)
    (hE:qfv n r r=some true)
    (mk:Nat→Nat→List qaa) (hml:∀ k l,(mk k l).length=l) (hmk:∀ (l:List qaa) (k:Nat),l.length≤16→k≤950→qby n l (k:Int)=some (((k+3*l.length:Nat):Int),mk k l.length))
    {k1:Nat} {Bs':List SBus} {Ts':List STie} (hg:qd7 n r.Grid 1=some ((k1:Int),Bs',Ts')) (hl1:Bs'.length=r.Grid.qa1.qac.length) (hl2:Ts'.length=r.Grid.Ties.length) (hk1:k1≤160) (hn:r.qce.length≤8) (hf:∀ f ∈ r.qce,f.qad.length≤16∧f.qae.length≤16)
    (hH:qeu n ⟨⟨⟨r.Grid.qa1.Source,Bs'⟩,Ts'⟩,mkAt mk k1 r.qce r.qce.length⟩ 1=some (kAt k1 r.qce r.qce.length:Int)) (w:World) :
    Calls prog 5 #[.string (bstr t)] w fun e w'=>e=.returned (.bool true)∧Below w.heap.size w w':=by
  have hbs:=qfu t
  go_enter Try.func5,Try.ntmps5
  go_wp2_with (go_at_call 17;refine (hS _).mono ?_;rintro e w1 ⟨a,a',b,b',c,c',v0,v1,v2,rfl,B1,D1⟩)
  obtain ⟨d0,n0,k0,rfl⟩:=qra D1.bus
  obtain ⟨d1,n1,k9,rfl⟩:=qra D1.tie
  obtain ⟨d2,n2,k2,rfl⟩:=qra D1.flw
  have e0:=fun (wr:World) (x0 x1 x2 x3 x4 x5:Value) (p q:Nat)=>stR0 wr x0 x1 x2 x3 x4 x5 (.complex .f32 p q) 38 rfl
  have e1:=fun (wr:World) (x0 x1 x2 x3 x4 x5:Value) (p q:Nat)=>stR1 wr x0 x1 x2 x3 x4 x5 (.complex .f32 p q) 38 rfl
  have e2:=fun (wr:World) (x0 x1 x2 x3 x4 x5:Value) (p q:Nat)=>stR2 wr x0 x1 x2 x3 x4 x5 (.complex .f32 p q) 38 rfl
  have e3:=fun (wr:World) (x0 x1 x2 x3 x4 x5:Value) (p:Option Addr) (m c:Nat)=>stR3 wr x0 x1 x2 x3 x4 x5 (.slice p m c) 38 rfl
  have e4:=fun (wr:World) (x0 x1 x2 x3 x4 x5:Value) (p:Option Addr) (m c:Nat)=>stR4 wr x0 x1 x2 x3 x4 x5 (.slice p m c) 38 rfl
  have e5:=fun (wr:World) (x0 x1 x2 x3 x4 x5:Value) (p:Option Addr) (m c:Nat)=>stR5 wr x0 x1 x2 x3 x4 x5 (.slice p m c) 38 rfl
  simp only [e0,e1,e2,e3,e4,e5,Result.andThen_ok]
  clear e0 e1 e2 e3 e4 e5
  obtain ⟨W1,hW1⟩:∃ W1,W1=w1.alloc (.cells #[.complex .f32 a a',.complex .f32 b b',.complex .f32 c c',.slice d0 n0 k0,.slice d1 n1 k9,.slice d2 n2 k2] 38):=⟨_,rfl⟩
  have HA:W1.heap[w1.heap.size]?=some (.cells #[.complex .f32 a a',.complex .f32 b b',.complex .f32 c c',.slice d0 n0 k0,.slice d1 n1 k9,.slice d2 n2 k2] 38 (0,0)):=by rw [hW1];exact heap_alloc_new w1 _
  have zA:W1.heap.size=w1.heap.size+1:=by rw [hW1];simp
  have bA:Below w1.heap.size w1 W1:=by rw [hW1];exact (Below.refl _ w1).alloc (Nat.le_refl _) _
  rw [← hW1]
  clear hW1
  replace D1:=D1.kept bA (Nat.le_refl _)
  have bw1:Below w.heap.size w W1:=B1.trans (bA.mono B1.size)
  have p0:w.heap.size≤w1.heap.size:=B1.size
  clear B1 bA hS
  generalize w1.heap.size=P1 at *
  clear w1
  go_wp2_with fail
  refine (hI _).mono ?_
  rintro e w2 ⟨x,x',y,y',z,z',v0,v1,v2,o0,o1,ps,rfl,B2,ca,cb,cc,R2⟩
  go_wp2_with fail
  obtain ⟨g0,l0,e0⟩:=R2.bus.slice
  obtain ⟨g1,l1,e1⟩:=R2.tie.slice
  obtain ⟨g2,l2,e2⟩:=R2.slice
  obtain ⟨m0,em0⟩:∃ m,m=(r.Grid.qa1.qac.map qah).length:=⟨_,rfl⟩
  obtain ⟨m1,em1⟩:∃ m,m=(r.Grid.Ties.map qan).length:=⟨_,rfl⟩
  obtain ⟨m2,em2⟩:∃ m,m=r.qce.length:=⟨_,rfl⟩
  rw [← em0] at e0
  rw [← em1] at e1
  rw [← em2] at e2
  subst e0 e1 e2
  clear em0 em1 em2
  have e0:=fun (wr:World) (x0 x1 x2 x3 x4 x5:Value) (p q:Nat)=>stR0 wr x0 x1 x2 x3 x4 x5 (.complex .f32 p q) 38 rfl
  have e1:=fun (wr:World) (x0 x1 x2 x3 x4 x5:Value) (p q:Nat)=>stR1 wr x0 x1 x2 x3 x4 x5 (.complex .f32 p q) 38 rfl
  have e2:=fun (wr:World) (x0 x1 x2 x3 x4 x5:Value) (p q:Nat)=>stR2 wr x0 x1 x2 x3 x4 x5 (.complex .f32 p q) 38 rfl
  have e3:=fun (wr:World) (x0 x1 x2 x3 x4 x5:Value) (p:Option Addr) (m c:Nat)=>stR3 wr x0 x1 x2 x3 x4 x5 (.slice p m c) 38 rfl
  have e4:=fun (wr:World) (x0 x1 x2 x3 x4 x5:Value) (p:Option Addr) (m c:Nat)=>stR4 wr x0 x1 x2 x3 x4 x5 (.slice p m c) 38 rfl
  have e5:=fun (wr:World) (x0 x1 x2 x3 x4 x5:Value) (p:Option Addr) (m c:Nat)=>stR5 wr x0 x1 x2 x3 x4 x5 (.slice p m c) 38 rfl
  simp only [e0,e1,e2,e3,e4,e5,Result.andThen_ok]
  clear e0 e1 e2 e3 e4 e5
  obtain ⟨W2,hW2⟩:∃ W2,W2=w2.alloc (.cells #[.complex .f32 x x',.complex .f32 y y',.complex .f32 z z',.slice g0 m0 l0,.slice g1 m1 l1,.slice g2 m2 l2] 38):=⟨_,rfl⟩
  have HB:W2.heap[w2.heap.size]?=some (.cells #[.complex .f32 x x',.complex .f32 y y',.complex .f32 z z',.slice g0 m0 l0,.slice g1 m1 l1,.slice g2 m2 l2] 38 (0,0)):=by rw [hW2];exact heap_alloc_new w2 _
  have zB:W2.heap.size=w2.heap.size+1:=by rw [hW2];simp
  have bB:Below w2.heap.size w2 W2:=by rw [hW2];exact (Below.refl _ w2).alloc (Nat.le_refl _) _
  rw [← hW2]
  clear hW2
  have hmx:∀ b,RecP o0 o1 (.slice g2 m2 l2) ps b→W1.heap.size≤b∧b < w2.heap.size:=fun b hb=>by
    rcases hb with hb | hb
    · exact R2.rng b hb
    · exact R2.own.lt b hb
  have R3:=R2.below bB
  have D3:=R3.data ca cb cc
  have b12:Below W1.heap.size W1 W2:=B2.trans (bB.mono B2.size)
  replace D1:=D1.kept (b12.mono (by omega)) (Nat.le_refl _)
  replace HA:=(b12.block P1 (by omega)).trans HA
  have bw2:Below w.heap.size w W2:=bw1.trans (b12.mono bw1.size)
  have p2:W1.heap.size≤w2.heap.size:=B2.size
  clear B2 bB R2 b12 bw1
  generalize w2.heap.size=P2 at *
  clear w2
  have Ac0:W2.cell? ⟨P1,0,none⟩=some (.complex .f32 a a'):=by rw [Lib.cell_of_heap HA];rfl
  have Ac1:W2.cell? ⟨P1,1,none⟩=some (.complex .f32 b b'):=by rw [Lib.cell_of_heap HA];rfl
  have Ac2:W2.cell? ⟨P1,2,none⟩=some (.complex .f32 c c'):=by rw [Lib.cell_of_heap HA];rfl
  have Ac3:W2.cell? ⟨P1,3,none⟩=some (.slice d0 n0 k0):=by rw [Lib.cell_of_heap HA];rfl
  have Ac4:W2.cell? ⟨P1,4,none⟩=some (.slice d1 n1 k9):=by rw [Lib.cell_of_heap HA];rfl
  have Ac5:W2.cell? ⟨P1,5,none⟩=some (.slice d2 n2 k2):=by rw [Lib.cell_of_heap HA];rfl
  have Bc0:W2.cell? ⟨P2,0,none⟩=some (.complex .f32 x x'):=by rw [Lib.cell_of_heap HB];rfl
  have Bc1:W2.cell? ⟨P2,1,none⟩=some (.complex .f32 y y'):=by rw [Lib.cell_of_heap HB];rfl
  have Bc2:W2.cell? ⟨P2,2,none⟩=some (.complex .f32 z z'):=by rw [Lib.cell_of_heap HB];rfl
  have Bc3:W2.cell? ⟨P2,3,none⟩=some (.slice g0 m0 l0):=by rw [Lib.cell_of_heap HB];rfl
  have Bc4:W2.cell? ⟨P2,4,none⟩=some (.slice g1 m1 l1):=by rw [Lib.cell_of_heap HB];rfl
  have Bc5:W2.cell? ⟨P2,5,none⟩=some (.slice g2 m2 l2):=by rw [Lib.cell_of_heap HB];rfl
  have hq:=qt8 hE D3 (Nat.le_refl _) D1 (by omega)
  clear D3
  go_wp2_with fail
  refine hq.mono ?_
  rintro e w3 ⟨rfl,B3⟩
  clear hq Ac0 Ac1 Ac2 Ac3 Ac4 Ac5 Bc0 Bc1 Bc2 Bc3 Bc4 Bc5
  replace HA:=(B3.block P1 (by omega)).trans HA
  replace HB:=(B3.block P2 (by omega)).trans HB
  replace D1:=D1.kept (B3.mono (by omega)) (Nat.le_refl _)
  replace R3:=R3.below B3
  have bw3:Below w.heap.size w w3:=bw2.trans (B3.mono bw2.size)
  have z3:P2 < w3.heap.size:=by have:=B3.size;omega
  clear B3 bw2 zB W2
  have Bc0:w3.cell? ⟨P2,0,none⟩=some (.complex .f32 x x'):=by rw [Lib.cell_of_heap HB];rfl
  have Bc1:w3.cell? ⟨P2,1,none⟩=some (.complex .f32 y y'):=by rw [Lib.cell_of_heap HB];rfl
  have Bc2:w3.cell? ⟨P2,2,none⟩=some (.complex .f32 z z'):=by rw [Lib.cell_of_heap HB];rfl
  have Bc3:w3.cell? ⟨P2,3,none⟩=some (.slice g0 m0 l0):=by rw [Lib.cell_of_heap HB];rfl
  have Bc4:w3.cell? ⟨P2,4,none⟩=some (.slice g1 m1 l1):=by rw [Lib.cell_of_heap HB];rfl
  have Bc5:w3.cell? ⟨P2,5,none⟩=some (.slice g2 m2 l2):=by rw [Lib.cell_of_heap HB];rfl
  have hM:=markRecord_walk mk hml hmk hg hl1 hl2 hk1 ca cb cc R3 hn hf (by omega)
  clear hmk hml hg
  go_wp2_with fail
  refine hM.mono ?_
  rintro e w4 ⟨rfl,R4,u4⟩
  clear hM Bc0 Bc1 Bc2 Bc3 Bc4 Bc5
  have n2:¬ RecP o0 o1 (.slice g2 m2 l2) ps P2:=fun h=>by have:=(hmx P2 h).2;omega
  have u4':Below W1.heap.size w3 w4:=u4.below (by omega) fun k h=>(hmx k h).1
  replace HA:=(u4'.block P1 (by omega)).trans HA
  replace HB:=(u4.block P2 z3 n2).trans HB
  replace D1:=D1.kept (u4'.mono (by omega)) (Nat.le_refl _)
  have bw4:Below w.heap.size w w4:=bw3.trans (u4'.mono (by omega))
  have z4:P2 < w4.heap.size:=by have:=u4.size;omega
  clear u4 u4' n2 hmx R3 bw3 z3 w3
  have D4:=qes.data (r:=⟨⟨⟨r.Grid.qa1.Source,Bs'⟩,Ts'⟩,mkAt mk k1 r.qce r.qce.length⟩) R4 ca cb cc
  clear R4 ca cb cc
  have Bc0:w4.cell? ⟨P2,0,none⟩=some (.complex .f32 x x'):=by rw [Lib.cell_of_heap HB];rfl
  have Bc1:w4.cell? ⟨P2,1,none⟩=some (.complex .f32 y y'):=by rw [Lib.cell_of_heap HB];rfl
  have Bc2:w4.cell? ⟨P2,2,none⟩=some (.complex .f32 z z'):=by rw [Lib.cell_of_heap HB];rfl
  have Bc3:w4.cell? ⟨P2,3,none⟩=some (.slice g0 m0 l0):=by rw [Lib.cell_of_heap HB];rfl
  have Bc4:w4.cell? ⟨P2,4,none⟩=some (.slice g1 m1 l1):=by rw [Lib.cell_of_heap HB];rfl
  have Bc5:w4.cell? ⟨P2,5,none⟩=some (.slice g2 m2 l2):=by rw [Lib.cell_of_heap HB];rfl
  have hh:=qqa hH D4 (Nat.le_refl _)
  have hKlt:=qs6 k1 r.qce hf r.qce.length
  generalize kAt k1 r.qce r.qce.length=K at *
  go_wp2_with fail
  refine hh.mono ?_
  rintro e w5 ⟨rfl,B5⟩
  clear hh Bc0 Bc1 Bc2 Bc3 Bc4 Bc5
  replace HA:=(B5.block P1 (by omega)).trans HA
  replace HB:=(B5.block P2 z4).trans HB
  replace D1:=D1.kept (B5.mono (by omega)) (Nat.le_refl _)
  replace D4:=D4.kept B5 (Nat.le_refl _)
  have bw5:Below w.heap.size w w5:=bw4.trans (B5.mono bw4.size)
  have z5:w4.heap.size≤w5.heap.size:=B5.size
  clear B5 bw4
  go_wp2_with fail
  refine (hI w5).mono ?_
  rintro e w6 ⟨s,s',q,q',u,u',v0,v1,v2,o0',o1',ps',rfl,B6,ca,cb,cc,R6⟩
  go_wp2_with fail
  obtain ⟨h0,j0,e0⟩:=R6.bus.slice
  obtain ⟨h1,j1,e1⟩:=R6.tie.slice
  obtain ⟨h2,j2,e2⟩:=R6.slice
  obtain ⟨i0,em0⟩:∃ m,m=(r.Grid.qa1.qac.map qah).length:=⟨_,rfl⟩
  obtain ⟨i1,em1⟩:∃ m,m=(r.Grid.Ties.map qan).length:=⟨_,rfl⟩
  obtain ⟨i2,em2⟩:∃ m,m=r.qce.length:=⟨_,rfl⟩
  rw [← em0] at e0
  rw [← em1] at e1
  rw [← em2] at e2
  subst e0 e1 e2
  clear em0 em1 em2
  have e0:=fun (wr:World) (x0 x1 x2 x3 x4 x5:Value) (p q:Nat)=>stR0 wr x0 x1 x2 x3 x4 x5 (.complex .f32 p q) 38 rfl
  have e1:=fun (wr:World) (x0 x1 x2 x3 x4 x5:Value) (p q:Nat)=>stR1 wr x0 x1 x2 x3 x4 x5 (.complex .f32 p q) 38 rfl
  have e2:=fun (wr:World) (x0 x1 x2 x3 x4 x5:Value) (p q:Nat)=>stR2 wr x0 x1 x2 x3 x4 x5 (.complex .f32 p q) 38 rfl
  have e3:=fun (wr:World) (x0 x1 x2 x3 x4 x5:Value) (p:Option Addr) (m c:Nat)=>stR3 wr x0 x1 x2 x3 x4 x5 (.slice p m c) 38 rfl
  have e4:=fun (wr:World) (x0 x1 x2 x3 x4 x5:Value) (p:Option Addr) (m c:Nat)=>stR4 wr x0 x1 x2 x3 x4 x5 (.slice p m c) 38 rfl
  have e5:=fun (wr:World) (x0 x1 x2 x3 x4 x5:Value) (p:Option Addr) (m c:Nat)=>stR5 wr x0 x1 x2 x3 x4 x5 (.slice p m c) 38 rfl
  simp only [e0,e1,e2,e3,e4,e5,Result.andThen_ok]
  clear e0 e1 e2 e3 e4 e5
  obtain ⟨W6,hW6⟩:∃ W6,W6=w6.alloc (.cells #[.complex .f32 s s',.complex .f32 q q',.complex .f32 u u',.slice h0 i0 j0,.slice h1 i1 j1,.slice h2 i2 j2] 38):=⟨_,rfl⟩
  have HC:W6.heap[w6.heap.size]?=some (.cells #[.complex .f32 s s',.complex .f32 q q',.complex .f32 u u',.slice h0 i0 j0,.slice h1 i1 j1,.slice h2 i2 j2] 38 (0,0)):=by rw [hW6];exact heap_alloc_new w6 _
  have zC:W6.heap.size=w6.heap.size+1:=by rw [hW6];simp
  have bC:Below w6.heap.size w6 W6:=by rw [hW6];exact (Below.refl _ w6).alloc (Nat.le_refl _) _
  rw [← hW6]
  clear hW6
  have D6:=(R6.below bC).data ca cb cc
  have b56:Below w5.heap.size w5 W6:=B6.trans (bC.mono B6.size)
  replace HA:=(b56.block P1 (by omega)).trans HA
  replace HB:=(b56.block P2 (by omega)).trans HB
  replace D1:=D1.kept (b56.mono (by omega)) (Nat.le_refl _)
  replace D4:=D4.kept (b56.mono z5) (Nat.le_refl _)
  have bw6:Below w.heap.size w W6:=bw5.trans (b56.mono bw5.size)
  have p6:w5.heap.size≤w6.heap.size:=B6.size
  clear B6 bC R6 b56 bw5 ca cb cc hI
  generalize w6.heap.size=P3 at *
  clear w6
  have Ac0:W6.cell? ⟨P1,0,none⟩=some (.complex .f32 a a'):=by rw [Lib.cell_of_heap HA];rfl
  have Ac1:W6.cell? ⟨P1,1,none⟩=some (.complex .f32 b b'):=by rw [Lib.cell_of_heap HA];rfl
  have Ac2:W6.cell? ⟨P1,2,none⟩=some (.complex .f32 c c'):=by rw [Lib.cell_of_heap HA];rfl
  have Ac3:W6.cell? ⟨P1,3,none⟩=some (.slice d0 n0 k0):=by rw [Lib.cell_of_heap HA];rfl
  have Ac4:W6.cell? ⟨P1,4,none⟩=some (.slice d1 n1 k9):=by rw [Lib.cell_of_heap HA];rfl
  have Ac5:W6.cell? ⟨P1,5,none⟩=some (.slice d2 n2 k2):=by rw [Lib.cell_of_heap HA];rfl
  have Cc0:W6.cell? ⟨P3,0,none⟩=some (.complex .f32 s s'):=by rw [Lib.cell_of_heap HC];rfl
  have Cc1:W6.cell? ⟨P3,1,none⟩=some (.complex .f32 q q'):=by rw [Lib.cell_of_heap HC];rfl
  have Cc2:W6.cell? ⟨P3,2,none⟩=some (.complex .f32 u u'):=by rw [Lib.cell_of_heap HC];rfl
  have Cc3:W6.cell? ⟨P3,3,none⟩=some (.slice h0 i0 j0):=by rw [Lib.cell_of_heap HC];rfl
  have Cc4:W6.cell? ⟨P3,4,none⟩=some (.slice h1 i1 j1):=by rw [Lib.cell_of_heap HC];rfl
  have Cc5:W6.cell? ⟨P3,5,none⟩=some (.slice h2 i2 j2):=by rw [Lib.cell_of_heap HC];rfl
  have hq:=qt8 hE D6 (Nat.le_refl _) D1 (by omega)
  clear D6 D1
  go_wp2_with fail
  refine hq.mono ?_
  rintro e w7 ⟨rfl,B7⟩
  clear hq Ac0 Ac1 Ac2 Ac3 Ac4 Ac5 Cc0 Cc1 Cc2 Cc3 Cc4 Cc5
  replace HB:=(B7.block P2 (by omega)).trans HB
  replace D4:=D4.kept (B7.mono (by omega)) (Nat.le_refl _)
  have bw7:Below w.heap.size w w7:=bw6.trans (B7.mono bw6.size)
  have z7:W6.heap.size≤w7.heap.size:=B7.size
  have Bc0:w7.cell? ⟨P2,0,none⟩=some (.complex .f32 x x'):=by rw [Lib.cell_of_heap HB];rfl
  have Bc1:w7.cell? ⟨P2,1,none⟩=some (.complex .f32 y y'):=by rw [Lib.cell_of_heap HB];rfl
  have Bc2:w7.cell? ⟨P2,2,none⟩=some (.complex .f32 z z'):=by rw [Lib.cell_of_heap HB];rfl
  have Bc3:w7.cell? ⟨P2,3,none⟩=some (.slice g0 m0 l0):=by rw [Lib.cell_of_heap HB];rfl
  have Bc4:w7.cell? ⟨P2,4,none⟩=some (.slice g1 m1 l1):=by rw [Lib.cell_of_heap HB];rfl
  have Bc5:w7.cell? ⟨P2,5,none⟩=some (.slice g2 m2 l2):=by rw [Lib.cell_of_heap HB];rfl
  have hh:=qqa hH D4 (by omega)
  clear HA HC D4 B7 bw6
  go_wp2_with fail
  refine hh.mono ?_
  rintro e w8 ⟨rfl,B8⟩
  clear hh Bc0 Bc1 Bc2 Bc3 Bc4 Bc5
  have bw8:Below w.heap.size w w8:=bw7.trans (B8.mono bw7.size)
  go_wp2
  go_ret
  exact ⟨rfl,bw8⟩
theorem law5_long {t:Str} (ht:1048576 < t.length) (w:World):Calls prog 5 #[.string (bstr t)] w fun e w'=>e=.returned (.bool true)∧Below w.heap.size w w':=by
  have hbs:=qfu t
  go_enter Try.func5,Try.ntmps5
  go_wp2
  go_ret
  exact ⟨rfl,Below.refl _ _⟩
end Go.Proofs.Ytmllgpkgjniomaa.AWN
