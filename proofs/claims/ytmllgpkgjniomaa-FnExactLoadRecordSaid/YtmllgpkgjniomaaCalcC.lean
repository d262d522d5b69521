/- What the printed walks use: partial values, lists of cells, relaxed states. -/
import Derived.Test.YtmllgpkgjniomaaCalcB
import Derived.Laws.BytesString
import Derived.Below
import Derived.RowKit
import Derived.Sort.Grow
import Derived.Sort.Row
set_option linter.unusedVariables false
set_option linter.unusedSimpArgs false
set_option linter.unusedSectionVars false
namespace Go.Proofs.Ytmllgpkgjniomaa.AWN
open Go
/-! ### Partial values -/
theorem bnd_some {α β:Type} {o:Option α} {f:α→Option β} {r:β} (h:o.bind f = some r):∃ a,o = some a∧f a = some r:=by
  cases o with
  | none=>cases h
  | some a=>exact ⟨a,rfl,h⟩
theorem qab {α β:Type} {o:Option α} {f:α→Option β} {r:β} {C:Prop} (h:o.bind f = some r) (k:∀ a,o = some a→f a = some r→C):C :=
  have ⟨a,h1,h2⟩:=bnd_some h
  k a h1 h2
def grd {α:Type} (p:Prop) [Decidable p] (x:Option α):Option α:=if p then x else none
theorem qrz {α:Type} {p:Prop} [Decidable p] {x:Option α} {r:α} (h:grd p x = some r):p∧x = some r:=by
  unfold grd at h
  split at h
  · rename_i hp;exact ⟨hp,h⟩
  · cases h
theorem qbh {α:Type} {p:Prop} [Decidable p] {x:Option α} {r:α} {C:Prop} (h:grd p x = some r) (k:p→x = some r→C):C:=k (qrz h).1 (qrz h).2
def getI {α:Type} (l:List α) (i:Int):Option α:=if 0 ≤ i then l[i.toNat]? else none
theorem qbo {α:Type} {l:List α} {i:Int} {x:α} (h:getI l i = some x):0 ≤ i∧l[i.toNat]? = some x:=by
  unfold getI at h
  split at h
  · rename_i hp;exact ⟨hp,h⟩
  · cases h
theorem if_t {α:Type} {p:Prop} [Decidable p] {x y:Option α} {r:α} (h:(if p then x else y) = some r) (hc:decide p = true):x = some r:=by
  rw [if_pos (of_decide_eq_true hc)] at h;exact h
theorem if_f {α:Type} {p:Prop} [Decidable p] {x y:Option α} {r:α} (h:(if p then x else y) = some r) (hc:decide p = false):y = some r:=by
  rw [if_neg (of_decide_eq_false hc)] at h;exact h
theorem qci {α:Type} {b:Bool} {x y:Option α} {r:α} (h:(if b = true then x else y) = some r) (hc:b = true):x = some r:=by
  rw [if_pos hc] at h;exact h
theorem qch {α:Type} {b:Bool} {x y:Option α} {r:α} (h:(if b = true then x else y) = some r) (hc:b = false):y = some r:=by
  rw [if_neg (by rw [hc];decide)] at h;exact h
theorem qdd {b:Bool} (h:(!b) = true):b = false:=by cases b <;> simp_all
theorem qdc {b:Bool} (h:(!b) = false):b = true:=by cases b <;> simp_all
def room (n b:Nat):Prop:=n * b ≤ 140737488355328
instance (n b:Nat):Decidable (room n b):=by unfold room;infer_instance
abbrev w64 (n:Int):Int:=IntKind.wrap .i64 n
structure Cx where
  re:Nat
  im:Nat
deriving DecidableEq
abbrev Str:=List UInt8
def bstr (s:Str):ByteArray:=⟨s.toArray⟩
/-! ### Lists of cells -/
section
variable {α:Type} {f:α→List D}
theorem map_get {l:List α} {k:Nat} {x:α} (h:l[k]? = some x):(l.map f)[k]? = some (f x):=by simp [h]
theorem qcd {l:List α} {i:Int} {x:α} (h:getI l i = some x):(l.map f)[i.toNat]? = some (f x):=map_get (qbo h).2
theorem qc8 (l:List α):(l.map f).length = l.length:=List.length_map ..
theorem qh7 {l:List α} {i:Int} {x:α} (h:getI l i = some x):(l.map f)[0 + i.toNat]? = some (f x):=by rw [Nat.zero_add];exact qcd h
theorem qgo {l:List α} {i:Int} {x:α} (h:getI l i = some x):0 ≤ i∧i < (l.length:Int)∧0 + l.length ≤ l.length∧(l.map f).length = l.length:=by
  obtain ⟨h1,h2⟩:=qbo h
  have h3:i.toNat < l.length:=by
    rcases Nat.lt_or_ge i.toNat l.length with h4 | h4
    · exact h4
    · rw [List.getElem?_eq_none h4] at h2;cases h2
  refine ⟨h1,by omega,by omega,qc8 l⟩
theorem qtu {L:Nat} (l:List α) (h:l.length = L):((l.map f).drop 0).take L = l.map f:=by
  subst h;simp [List.take_of_length_le]
end
theorem qht {α β:Type} {f:α→Option β}:mapO f [] = some []:=rfl
theorem qbg {α β:Type} {f:α→Option β} {x:α} {l:List α} {y:β} {r:List β} (h:f x = some y) (h':mapO f l = some r):mapO f (x :: l) = some (y :: r):=by
  unfold mapO;rw [h,h']
section
variable {ρ:Nat→Option Nat} {H:Nat→AObj} {α:Type} {f:α→List D}
theorem qie {j sz L:Nat} (l:List α) (hr:ρ j = none) (hj:H j = .row sz (l.map f)) (hL:L = l.length):exC ρ H true (.row j L 0 L) = some (.d (.sl false (l.map f))):=by
  subst hL
  simp only [exC,hr,hj]
  rw [qtu l rfl]
theorem qif {j sz L:Nat} (l:List α) (hr:ρ j = none) (hj:H j = .row sz (l.map f)) (hL:L = l.length):exP ρ H (.row j L 0 L):=by
  subst hL
  simp [exP,hr,hj]
theorem exA_agg {cs ds:List V} (h:mapO (exC ρ H true) cs = some ds):exA ρ H true (.agg cs) = some (.agg ds):=by simp only [exA,h]
theorem qp2 {cs ds:List V} (h:mapO (exC ρ H true) cs = some ds):exV ρ H true (.agg cs) = some (.agg ds):=exA_agg h
theorem qr7 {cs ds:List V} (h:mapO (exC ρ H true) cs = some ds):exO ρ H true (.box cs) = some (.box ds):=by simp only [exO,h]
end
/-! ### Relaxed states -/
inductive DLe:D→D→Prop where
  | refl (x:D):DLe x x
  | nil:DLe .nils (.sl false [])
  | flag (t:Bool) (es:List (List D)):DLe (.sl t es) (.sl false es)
theorem RelD.le {W:World} {ok:Nat→Prop} {x y:D} {v:Value} (h:DLe x y) (hr:RelD W ok x v):RelD W ok y v:=by
  cases h with
  | refl=>exact hr
  | nil=>cases hr;exact .slnil false
  | flag t es =>
    cases hr with
    | slnil=>exact .slnil false
    | sle t a=>exact .sle false a
    | sl sz vals h1 h2 h3 h4 h5 h6 h7 h8=>exact .sl sz vals h1 h2 h3 (fun h=>nomatch h) h5 h6 h7 h8
inductive CLe (g:Nat→Prop):V→V→Prop where
  | refl (x:V):CLe g x x
  | d {x y:D}:DLe x y→CLe g (.d x) (.d y)
  | ghost {j:Nat}:g j→CLe g (.d .nils) (.row j 0 0 0)
  | junk (x:V):CLe g x .junk
inductive LLe (g:Nat→Prop):List V→List V→Prop where
  | nil:LLe g [] []
  | cons {x y:V} {l r:List V}:CLe g x y→LLe g l r→LLe g (x :: l) (y :: r)
inductive VLe (g:Nat→Prop):V→V→Prop where
  | c {x y:V}:CLe g x y→VLe g x y
  | agg {l r:List V}:LLe g l r→VLe g (.agg l) (.agg r)
inductive OLe (g:Nat→Prop):AObj→AObj→Prop where
  | refl (o:AObj):OLe g o o
  | box {l r:List V}:LLe g l r→OLe g (.box l) (.box r)
inductive ELe (g:Nat→Prop):List (Nat × V)→List (Nat × V)→Prop where
  | nil:ELe g [] []
  | cons {t:Nat} {x y:V} {l r:List (Nat × V)}:VLe g x y→ELe g l r→ELe g ((t,x) :: l) ((t,y) :: r)
inductive HLe (g:Nat→Prop):List AObj→List AObj→Prop where
  | nil:HLe g [] []
  | cons {x y:AObj} {l r:List AObj}:OLe g x y→HLe g l r→HLe g (x :: l) (y :: r)
theorem LLe.len {g:Nat→Prop} {l r:List V} (h:LLe g l r):l.length = r.length:=by
  induction h with
  | nil=>rfl
  | cons _ _ ih=>simp [ih]
theorem HLe.len {g:Nat→Prop} {l r:List AObj} (h:HLe g l r):l.length = r.length:=by
  induction h with
  | nil=>rfl
  | cons _ _ ih=>simp [ih]
theorem LLe.get {g:Nat→Prop} {l r:List V} (h:LLe g l r):∀ i,CLe g (l.getD i .junk) (r.getD i .junk):=by
  induction h with
  | nil=>intro i;exact .refl _
  | cons h _ ih =>
    intro i
    cases i with
    | zero=>simpa using h
    | succ i=>simpa using ih i
theorem HLe.get {g:Nat→Prop} {l r:List AObj} (h:HLe g l r):∀ i,OLe g (l.getD i .none) (r.getD i .none):=by
  induction h with
  | nil=>intro i;exact .refl _
  | cons h _ ih =>
    intro i
    cases i with
    | zero=>simpa using h
    | succ i=>simpa using ih i
structure qpu (g:Nat→Prop) (hb:Handle) (H:Nat→AObj):Prop where
  row:∀ j,g j→∃ sz,H j = .row sz []
  none:∀ j,g j→hb j = none
section
variable {W:World} {hb:Handle} {H:Nat→AObj} {ok:Nat→Prop} {g:Nat→Prop}
theorem qrf (G:qpu g hb H) {x y:V} {v:Value} (h:CLe g x y) (hr:Rel W hb H ok x v):Rel W hb H ok y v:=by
  cases h with
  | refl=>exact hr
  | d h=>cases hr with | d hr=>exact .d (hr.le h)
  | ghost h =>
    cases hr with
    | d hr =>
      cases hr
      obtain ⟨sz,e⟩:=G.row _ h
      exact .rowNil e (G.none _ h)
  | junk=>exact .junk _
theorem qtr (G:qpu g hb H) {cs ds:List V} {c:Array Value} (h:LLe g cs ds) (hr:cs.length = c.size∧∀ i,i < c.size→Rel W hb H ok (cs.getD i .junk) (c.getD i undef)):ds.length = c.size∧∀ i,i < c.size→Rel W hb H ok (ds.getD i .junk) (c.getD i undef) :=
  ⟨h.len ▸ hr.1,fun i hi=>qrf G (h.get i) (hr.2 i hi)⟩
theorem qts (G:qpu g hb H) {x y:V} {v:Value} (h:VLe g x y) (hr:Rel W hb H ok x v):Rel W hb H ok y v:=by
  cases h with
  | c h=>exact qrf G h hr
  | agg h=>cases hr with | agg h1 h2=>exact .agg (qtr G h ⟨h1,h2⟩).1 (qtr G h ⟨h1,h2⟩).2
theorem rel_ele (G:qpu g hb H) {a:Act}:∀ {l r:List (Nat × V)},ELe g l r→(∀ t,Rel W hb H ok (look l t) (a.tmps.getD t undef))→∀ t,Rel W hb H ok (look r t) (a.tmps.getD t undef):=by
  intro l r h
  induction h with
  | nil=>exact fun h=>h
  | @cons k x y l r hv _ ih =>
    intro hr t
    have hk:=hr t
    unfold look at hk ⊢
    cases hb':Nat.beq k t with
    | true=>rw [hb'] at hk;exact qts G hv hk
    | false =>
      rw [hb'] at hk
      -- look in the rest
      have:∀ u,Rel W hb H ok (if Nat.beq k u then .junk else look l u) (a.tmps.getD u undef):=fun u=>by
        have:=hr u
        unfold look at this
        cases hu:Nat.beq k u with
        | true=>simp only [if_true];exact .junk _
        | false=>rw [hu] at this;simpa using this
      clear ih hr
      have go:∀ {l r:List (Nat × V)},ELe g l r→∀ u,Rel W hb H ok (look l u) (a.tmps.getD u undef)→Rel W hb H ok (look r u) (a.tmps.getD u undef):=by
        intro l r h
        induction h with
        | nil=>exact fun _ h=>h
        | @cons k x y l r hv _ ih =>
          intro u hu
          unfold look at hu ⊢
          cases hb2:Nat.beq k u with
          | true=>rw [hb2] at hu;exact qts G hv hu
          | false=>rw [hb2] at hu;exact ih u hu
      rename_i hl
      exact go hl t hk
end
end Go.Proofs.Ytmllgpkgjniomaa.AWN

namespace Go.Proofs.Ytmllgpkgjniomaa.AWN
open Go
theorem qn4 {objs:List AObj} {j:Nat} (h:objs.length ≤ j):qat objs j = .none:=by
  unfold qat;rw [List.getD_eq_getElem?_getD,List.getElem?_eq_none h];rfl
theorem heapOf_l {a b:List AObj} {j:Nat} (h:j < a.length):qat (a ++ b) j = qat a j:=by
  unfold qat;rw [List.getD_eq_getElem?_getD,List.getD_eq_getElem?_getD,List.getElem?_append_left h]
theorem qs2 {a b:List AObj} {j:Nat} (h:a.length ≤ j):qat (a ++ b) j = qat b (j - a.length):=by
  unfold qat;rw [List.getD_eq_getElem?_getD,List.getD_eq_getElem?_getD,List.getElem?_append_right h]
def qh6 (gs:List Nat):List AObj:=gs.map fun sz=>.row sz []
theorem qh4 (gs:List Nat) {l l':List (Nat × V)} {objs objs':List AObj} {nt base:Nat} (hE:ELe (fun j=>objs.length ≤ j∧j < objs.length + gs.length) l l') (hH:HLe (fun j=>objs.length ≤ j∧j < objs.length + gs.length) objs objs') :
    Weak (St.of l objs nt base) (St.of l' (objs' ++ qh6 gs) nt base):=by
  intro w0 A okA hb a W hs
  have hlen:=hH.len
  let g:Nat→Prop:=fun j=>objs.length ≤ j∧j < objs.length + gs.length
  let hb2:Handle:=fun j=>if j < objs.length then hb j else none
  have hbl:∀ j,j < objs.length→hb2 j = hb j:=fun j hj=>by show (if _ then _ else _) = _;rw [if_pos hj]
  have hbg:∀ j,objs.length ≤ j→hb2 j = none:=fun j hj=>by show (if _ then _ else _) = _;rw [if_neg (by omega)]
  have hh:=hs.heap
  have e1:(St.of l objs nt base).heap = qat objs:=rfl
  have e2:(St.of l objs nt base).next = objs.length:=rfl
  rw [e1,e2] at hh
  have hnone:∀ j,objs.length ≤ j→qat objs j = .none:=fun j hj=>qn4 hj
  have H2l:∀ j,j < objs.length→qat (objs' ++ qh6 gs) j = qat objs' j:=fun j hj=>heapOf_l (by omega)
  have H2g:∀ j,objs.length ≤ j→(g j∧∃ sz,qat (objs' ++ qh6 gs) j = .row sz []) ∨ qat (objs' ++ qh6 gs) j = .none:=by
    intro j hj
    rw [qs2 (by omega)]
    by_cases hlt:j - objs'.length < gs.length
    · left
      refine ⟨⟨hj,by omega⟩,gs[j - objs'.length],?_⟩
      unfold qat qh6
      simp [hlt]
    · right;exact qn4 (by simp [qh6];omega)
  have ole:∀ j,OLe g (qat objs j) (qat objs' j):=fun j=>hH.get j
  have good:∀ b,okF w0 okA hb (qat objs) W b→okF w0 okA hb2 (qat (objs' ++ qh6 gs)) W b:=by
    intro b ⟨h1,h2,h3⟩
    refine ⟨h1,h2,fun j hj=>?_⟩
    by_cases hjl:j < objs.length
    · rw [hbl j hjl]
      refine h3 j fun hn=>hj ?_
      rw [H2l j hjl]
      have:=ole j
      rw [hn] at this
      cases h:qat objs' j with
      | none=>rfl
      | _=>rw [h] at this;cases this
    · rw [hbg j (by omega)];exact fun h=>nomatch h
  have mv:qgm W W hb hb2 (qat objs) (qat (objs' ++ qh6 gs)) (okF w0 okA hb (qat objs) W) (okF w0 okA hb2 (qat (objs' ++ qh6 gs)) W) :=
    { good:=good,cell:=fun b o v _ h=>h,
      box:=fun j cs hj=>by
        have hjl:j < objs.length:=by
          rcases Nat.lt_or_ge j objs.length with h | h
          · exact h
          · rw [hnone j h] at hj;cases hj
        have:=ole j
        rw [hj] at this
        rw [H2l j hjl,hbl j hjl]
        cases h:qat objs' j with
        | box cs'=>exact ⟨cs',rfl,rfl⟩
        | none=>rw [h] at this;cases this
        | row sz es=>rw [h] at this;cases this
      row:=fun j sz es hj=>by
        have hjl:j < objs.length:=by
          rcases Nat.lt_or_ge j objs.length with h | h
          · exact h
          · rw [hnone j h] at hj;cases hj
        have:=ole j
        rw [hj] at this
        rw [H2l j hjl,hbl j hjl]
        generalize qat objs' j = z at *
        cases this
        exact ⟨es,rfl,Nat.le_refl _,fun _=>⟨rfl,fun _ _ _ h=>h⟩⟩ }
  have G:qpu g hb2 (qat (objs' ++ qh6 gs)) :=
    ⟨fun j hj=>by
      rcases H2g j hj.1 with h | h
      · exact h.2
      · exfalso
        rw [qs2 (by have:=hj.1;omega)] at h
        unfold qat qh6 at h
        have h1:=hj.1
        have h2:=hj.2
        have hlt:j - objs'.length < gs.length:=by omega
        simp [hlt] at h,fun j hj=>hbg j hj.1⟩
  refine ⟨hb2,hs.defers,hs.size,?_,?_,hs.base⟩
  · exact rel_ele G hE (fun t=>(hs.env t).mono mv)
  · refine { obj:=?_,inj:=?_,hnd:=?_,fresh:=?_,ext:=hh.ext,keep:=hh.keep.trans mv.toMovesR,lay:=hh.lay }
    · intro j
      by_cases hjl:j < objs.length
      · have hj:=hh.obj j
        unfold qg6 at hj ⊢
        show match qat (objs' ++ qh6 gs) j with
          | .none=>True
          | .box cs=>_
          | .row sz es=>_
        rw [H2l j hjl]
        have ho:=ole j
        generalize qat objs' j = z at *
        cases hz:qat objs j with
        | none=>rw [hz] at ho;cases ho;trivial
        | row sz es =>
          rw [hz] at ho hj
          cases ho
          simp only at hj ⊢
          obtain ⟨h0,hj⟩:=hj
          refine ⟨h0,?_⟩
          rcases hj with ⟨e1,e2⟩ | ⟨b,vals,T,fr,h1,h2,h3,h4,h5⟩
          · exact .inl ⟨e1,by rw [hbl j hjl];exact e2⟩
          · exact .inr ⟨b,vals,T,fr,by rw [hbl j hjl];exact h1,h2,h3,h4,fun i c hi hc=>(h5 i c hi hc).mono mv.toMoves⟩
        | box cs =>
          rw [hz] at ho hj
          simp only at hj
          obtain ⟨b,vals,T,fr,h1,h2,h3,h4,h5,h6⟩:=hj
          have key:∀ ds,LLe g cs ds→quv W hb2 (qat (objs' ++ qh6 gs)) (okF w0 okA hb2 (qat (objs' ++ qh6 gs)) W) j ds:=fun ds hd =>
            ⟨b,vals,T,fr,by rw [hbl j hjl];exact h1,h2,by rw [h3,hd.len],h4,h5,fun i hi=>qrf G (hd.get i) ((h6 i hi).mono mv)⟩
          cases ho with
          | refl =>
            have rfl':∀ cs:List V,LLe g cs cs:=fun cs=>by
              induction cs with
              | nil=>exact .nil
              | cons x r ih=>exact .cons (.refl x) ih
            exact key _ (rfl' _)
          | box hl=>exact key _ hl
      · unfold qg6
        show match qat (objs' ++ qh6 gs) j with
          | .none=>True
          | .box cs=>_
          | .row sz es=>_
        rcases H2g j (by omega) with ⟨_,sz,h⟩ | h
        · rw [h];exact ⟨fun e he=>(nomatch he),.inl ⟨rfl,hbg j (by omega)⟩⟩
        · rw [h];trivial
    · intro i j b hi hj hbi hbj
      have hil:i < objs.length:=by
        rcases Nat.lt_or_ge i objs.length with h | h
        · exact h
        · rw [hbg i h] at hbi;cases hbi
      have hjl:j < objs.length:=by
        rcases Nat.lt_or_ge j objs.length with h | h
        · exact h
        · rw [hbg j h] at hbj;cases hbj
      have nn:∀ i,i < objs.length→(St.of l' (objs' ++ qh6 gs) nt base).heap i ≠ .none→qat objs i ≠ .none:=by
        intro i hil hi hn
        apply hi
        show qat (objs' ++ qh6 gs) i = .none
        rw [H2l i hil]
        have:=ole i
        rw [hn] at this
        generalize qat objs' i = z at *
        cases this;rfl
      rw [hbl i hil] at hbi
      rw [hbl j hjl] at hbj
      exact hh.inj i j b (nn i hil hi) (nn j hjl hj) hbi hbj
    · intro j b hj hbj
      have hjl:j < objs.length:=by
        rcases Nat.lt_or_ge j objs.length with h | h
        · exact h
        · rw [hbg j h] at hbj;cases hbj
      rw [hbl j hjl] at hbj
      refine hh.hnd j b (fun hn=>hj ?_) hbj
      show qat (objs' ++ qh6 gs) j = .none
      rw [H2l j hjl]
      have:=ole j
      rw [hn] at this
      generalize qat objs' j = z at *
      cases this;rfl
    · intro j hj
      exact qn4 hj
end Go.Proofs.Ytmllgpkgjniomaa.AWN

namespace Go.Proofs.Ytmllgpkgjniomaa.AWN
open Go
section
variable {P:Program} {σ:St} {Q:Exit→St→Prop}
theorem qd1 {ι:Type} {x y:Code} (inv:ι→St) (I:ι→Prop) (hk:∀ s,I s→AW P y (inv s) Q) (h:(∀ s,I s→AW P y (inv s) Q)→AW P (.seq x y) σ Q):AW P (.seq x y) σ Q:=h hk
end
/-! ### Calls with values that say less -/
/-! ### Flat results -/
theorem qai:∀ o ∈ ([]:List AObj),o.flat:=fun _ h=>nomatch h
theorem qb8 {o:AObj} {l:List AObj} (h:o.flat) (h':∀ o ∈ l,o.flat):∀ p ∈ o :: l,p.flat:=fun p hp=>by
  rcases List.mem_cons.1 hp with rfl | hp
  · exact h
  · exact h' p hp
theorem qd2 {α:Type} {f:α→List D} {sz:Nat} (hf:∀ x,∀ c ∈ f x,c.flat) (l:List α):(AObj.row sz (l.map f)).flat:=by
  intro e he c hc
  obtain ⟨x,_,rfl⟩:=List.mem_map.1 he
  exact hf x c hc
/-! ### Values written otherwise -/
section
variable {α:Type} {f:α→List D} {H:Nat→AObj} {n j sz:Nat} {p:Prop}
theorem or_append (l zs:List α) {ys:List (List D)} (hys:ys = zs.map f):OR.needH p (.row j (l.length + ys.length) 0 (l.length + ys.length)) (upd H j (.row sz (l.map f ++ ys))) n = OR.needH p (.row j (l ++ zs).length 0 (l ++ zs).length) (upd H j (.row sz ((l ++ zs).map f))) n:=by
  subst hys;simp
theorem all1 {e:List D} (h:e.length = sz):∀ y ∈ [e],y.length = sz:=by
  intro y hy;rw [List.mem_singleton.1 hy];exact h
theorem qlq {l:List α} {i:Int} {x:α} {L:Nat} (h:getI l i = some x) (hL:l.length = L):0 ≤ i∧i < (L:Int)∧0 + L ≤ L∧(l.map f).length = L:=by
  subst hL;exact qgo h
theorem qfo (l:List α):OR.val (.d (.int .i64 ((l.map f).length:Int))) = OR.val (.d (.int .i64 (l.length:Int))):=by rw [qc8]
theorem qom (x y:Int):OR.val (.d (.bool (x == y))) = OR.val (.d (.bool (decide (x = y)))):=rfl
theorem qhx (x y:Int):OR.val (.d (.bool (x != y))) = OR.val (.d (.bool (!(decide (x = y))))):=rfl
end
section
variable {ρ:Nat→Option Nat} {H:Nat→AObj} {sn:Bool}
theorem qrx {j i L L':Nat} (h:ρ j = some i) (hL:L = L'):exC ρ H sn (.row j L 0 L) = some (.row i L' 0 L'):=by
  subst hL;simp only [exC,h]
theorem qgn {j i L L':Nat} (h:ρ j = some i) (hL:L = L'):exV ρ H sn (.row j L 0 L) = some (.row i L' 0 L'):=qrx h hL
end
/-! ### Texts -/
theorem qfu (s:Str):(bstr s).size = s.length:=rfl
theorem qpy (s:ByteArray):∀ (k i:Nat) (r:List UInt8),s.size - i = k→ByteArray.toList.loop s i r = r.reverse ++ s.data.toList.drop i
  | 0,i,r,h=>by
    have hs:s.data.toList.length = s.size:=by rw [Array.length_toList];rfl
    rw [ByteArray.toList.loop,if_neg (by omega),List.drop_eq_nil_of_le (by omega)];simp
  | k + 1,i,r,h=>by
    have hs:s.data.toList.length = s.size:=by rw [Array.length_toList];rfl
    have hi:i < s.data.toList.length:=by omega
    rw [ByteArray.toList.loop,if_pos (by omega),qpy s k (i + 1) _ (by omega),List.drop_eq_getElem_cons hi]
    have:s.get! i = s.data.toList[i]:=by
      have h3:i < s.data.size:=by rw [← Array.length_toList];exact hi
      show s.data[i]! = _
      rw [getElem!_pos s.data i h3];simp
    rw [this];simp
theorem qmv (s:Str):(bstr s).toList = s:=by
  unfold ByteArray.toList
  rw [qpy _ _ 0 [] rfl]
  simp [bstr]
theorem qsf (x y:Str):OR.val (.d (.bool ((bstr x).toList == (bstr y).toList))) = OR.val (.d (.bool (decide (x = y)))):=by
  rw [qmv,qmv]
  congr 3
  by_cases h:x = y
  · subst h;simp
  · rw [decide_eq_false h];simp [h]
theorem qsg (x y:Str):OR.val (.d (.bool (!((bstr x).toList == (bstr y).toList)))) = OR.val (.d (.bool (!(decide (x = y))))):=by
  have:=qsf x y
  simp only [OR.val.injEq,V.d.injEq,D.bool.injEq] at this
  rw [this]
theorem qgx (x y:Str):bstr x ++ bstr y = bstr (x ++ y):=by
  apply ByteArray.ext
  simp [bstr]
theorem qh1 {p:Prop} (x y:Str):OR.need p (.d (.str (bstr x ++ bstr y))) = OR.need p (.d (.str (bstr (x ++ y)))):=by rw [qgx]
def sub {α:Type} (l:List α) (a b:Int):List α:=(l.drop a.toNat).take (b.toNat - a.toNat)
theorem qrp (s:Str) (a b:Nat):(bstr s).extract a b = bstr ((s.drop a).take (b - a)):=by
  apply ByteArray.ext
  simp [bstr,ByteArray.data_extract]
theorem qlc {p:Prop} (s:Str) (a b:Int):OR.need p (.d (.str ((bstr s).extract a.toNat b.toNat))) = OR.need p (.d (.str (bstr (sub s a b)))):=by rw [qrp];rfl
theorem qls {s:Str} {i:Int} {c:UInt8} (h:getI s i = some c):0 ≤ i∧i < ((bstr s).size:Int):=by
  have:=qgo (f:=fun _=>[]) h
  exact ⟨this.1,this.2.1⟩
theorem qpi {p:Prop} {s:Str} {i:Int} {c:UInt8} (h:getI s i = some c):OR.need p (.d (.int .u8 (bAt (bstr s) i.toNat))) = OR.need p (.d (.int .u8 (c.toNat:Int))):=by
  obtain ⟨h1,h2⟩:=qbo h
  have:bAt (bstr s) i.toNat = (c.toNat:Int):=by
    unfold bAt bstr
    have h3:s.toArray.getD i.toNat 0 = c:=by simp [Array.getD_eq_getD_getElem?,h2]
    rw [h3]
  rw [this]
/-! ### Parts of lists -/
section
variable {α:Type} {f:α→List D}
theorem qi0 {H:Nat→AObj} {j sz:Nat} {l:List α} {i:Int} {y:α} {d:List D} (h:d = f y):(some (upd H j (.row sz ((l.map f).set (0 + i.toNat) d))):Option (Nat→AObj)) = some (upd H j (.row sz ((l.set i.toNat y).map f))):=by
  subst h;rw [Nat.zero_add,List.map_set]
theorem map_set {l:List α} {k:Nat} {y:α}:(l.map f).set k (f y) = (l.set k y).map f:=by rw [List.map_set]
end
end Go.Proofs.Ytmllgpkgjniomaa.AWN

namespace Go.Proofs.Ytmllgpkgjniomaa.AWN
open Go
def qmp (P:Program) (k:FuncId) (args:List V) (v:V):Prop :=
  ∀ (W:World) (hb:Handle) (H:Nat→AObj) (ok:Nat→Prop) (vals:Array Value),RelL W hb H ok args vals→∃ cv W',(callFunc k vals).run P W = .ok (.value cv) W'∧qbe W W'∧Rel W hb H ok v cv
theorem qta {P:Program} {k:FuncId} {fn:Func} {e:Array Value→Sem Value} {args:List V} {v:V} (hf:P.funcs[k]? = some fn) (hn:(fn.name == "runtime.NumGoroutine") = false) (hb:fn.body.isNone = true) (h1:Extern.findNext fn = none) (h2:Extern.find fn = some e)
    (h:∀ (W:World) (hb:Handle) (H:Nat→AObj) (ok:Nat→Prop) (vals:Array Value),RelL W hb H ok args vals→∃ cv W',(e vals).run P W = .ok cv W'∧qbe W W'∧Rel W hb H ok v cv):qmp P k args v:=by
  intro W hb' H ok vals hr
  obtain ⟨cv,W',hc,hm,hv⟩:=h W hb' H ok vals hr
  refine ⟨cv,W',?_,hm,hv⟩
  simp only [callFunc,Sem.run_bind,run_program,Result.andThen_ok,hf,hn,hb,h1,h2,if_true,run_mark,Bool.false_eq_true,if_false,Sem.run_map,hc,Sem.run_pure]
section
variable {P:Program} {τ:Tab} {σ σ0:St} {ops:Array Oper} {rest:List Oper} {o:Oper} {Q:Exit→St→Prop} {id:List FR} {G:Prop} {rl:List Rec}
theorem ext_does (hτ:qg7 P τ) {k:FuncId} {args:List V} {v:V} (h:qc0 τ σ o.op = .call k args) (hx:qmp P k args v) {w0:World} {A:Args} {okA:Nat→Prop} {hb:Handle} {a:Act} {W:World} (hs:Sim w0 A okA hb σ a W) :
    Does P o a W (fun cv W'=>qbe W W'∧RelS w0 okA hb σ.heap W v cv):=by
  have ho:=qgg hτ hs o
  rw [h] at ho
  obtain ⟨vals,hrun,hrel⟩:=ho
  obtain ⟨cv,W',h1,h2,h3⟩:=hx W hb σ.heap _ vals hrel
  exact ⟨cv,W',.inl (by rw [hrun,h1]),h2,h3⟩
theorem qp1 (hτ:qg7 P τ) {k:FuncId} {args:List V} {v:V} (hw:qd8 ops σ o = some true) (hd:qhc σ o.dst = true) (h:qc0 τ σ o.op = .call k args) (hx:qmp P k args v) (hK:AWL P ops rest (σ.putO o.dst v) Q):AWL P ops (o :: rest) σ Q :=
  qhb hw fun w0 A okA hb a W hs=>by
    obtain ⟨cv,W',hrun,s,hr⟩:=ext_does hτ h hx hs
    exact ⟨cv,W',hrun,hK w0 A okA hb _ W' (qhi (hs.same s) (hr.same s) _ hd)⟩
end
/-! ### Words of floats -/
theorem qph {W:World} {hb:Handle} {H:Nat→AObj} {ok:Nat→Prop} {x:V} {vals:Array Value} (h:RelL W hb H ok [x] vals):∃ v,vals = #[v]∧Rel W hb H ok x v:=by
  obtain ⟨h1,h2⟩:=h
  refine ⟨vals[0]'(by simp at h1;omega),?_,?_⟩
  · apply Array.ext
    · simp at h1 ⊢;omega
    · intro i hi hj
      simp at hj
      subst hj;rfl
  · have:=h2 0 (by simp at h1;omega)
    have h0:0 < vals.size:=by simp at h1;omega
    simpa [Array.getD_eq_getD_getElem?,h0] using this
theorem bits_run {P:Program} {k:FloatKind} {i:IntKind} {e:Array Value→Sem Value} (he:∀ b,e #[.float k b] = pure (.int i b)) {x:Nat} (hx:isnan k x = false) {W:World} {hb:Handle} {H:Nat→AObj} {ok:Nat→Prop} {vals:Array Value}
    (h:RelL W hb H ok [.d (.fl k x)] vals):∃ cv W',(e vals).run P W = .ok cv W'∧qbe W W'∧Rel W hb H ok (.d (.int i x)) cv:=by
  obtain ⟨v,rfl,hr⟩:=qph h
  obtain ⟨b,rfl,h1,h2⟩:=qni hr
  refine ⟨.int i b,W,by rw [he];rfl,qbe.refl W,?_⟩
  have:isnan k b = false:=by rw [← qiv,h1];exact hx
  rw [qez this] at h1
  subst h1;exact qfj _ _
theorem frombits_run {P:Program} {k:FloatKind} {i:IntKind} {e:Array Value→Sem Value} (he:∀ n:Int,e #[.int i n] = pure (.float k n.toNat)) {n:Int} (hn:n.toNat < 2 ^ k.format.width) {W:World} {hb:Handle} {H:Nat→AObj} {ok:Nat→Prop} {vals:Array Value}
    (h:RelL W hb H ok [.d (.int i n)] vals):∃ cv W',(e vals).run P W = .ok cv W'∧qbe W W'∧Rel W hb H ok (.d (.fl k (canon k n.toNat))) cv:=by
  obtain ⟨v,rfl,hr⟩:=qph h
  obtain rfl:=qgl hr
  exact ⟨.float k n.toNat,W,by rw [he];rfl,qbe.refl W,qql rfl hn⟩
end Go.Proofs.Ytmllgpkgjniomaa.AWN

namespace Go.Proofs.Ytmllgpkgjniomaa.AWN
open Go
def XOwes (P:Program) (σ:St) (o:Oper) (r:OR):Prop:=∀ w0 A okA hb a W,Sim w0 A okA hb σ a W→Owes P w0 A okA hb σ a W o r
def XSt (P:Program) (ops:Array Oper) (σ:St) (o:Oper) (r:OR):Prop:=∀ σ',(∀ t ∈ opT o.op,σ'.env t = σ.env t)→σ'.heap = σ.heap→XOwes P σ' o r
section
variable {P:Program} {τ:Tab} {σ σ0:St} {ops:Array Oper} {rest:List Oper} {o:Oper} {Q:Exit→St→Prop} {id:List FR} {G:Prop} {rl:List Rec}
theorem qha {v:V} (hw:qd8 ops σ o = some true) (hd:qhc σ o.dst = true) (hx:XSt P ops σ o (.val v)) (hK:AWL P ops rest (σ.putO o.dst v) Q):AWL P ops (o :: rest) σ Q :=
  qhb hw fun w0 A okA hb a W hs=>by
    obtain ⟨cv,W',hrun,s,hr⟩:=hx σ (fun _ _=>rfl) rfl w0 A okA hb a W hs
    exact ⟨cv,W',hrun,hK w0 A okA hb _ W' (qhi (hs.same s) (hr.same s) _ hd)⟩
theorem qst {s:(Operand→Value)→Sem Value} {r:OR} (hrun:∀ {a:Act} {W:World},(execOp a.eval o).run P W = ((s a.eval).run P W).andThen fun v w=>.ok (.value v) w) (hpl:r.plain = true)
    (h:∀ σ',(∀ t ∈ opT o.op,σ'.env t = σ.env t)→σ'.heap = σ.heap→∀ w0 A okA hb a W,Sim w0 A okA hb σ' a W→ORv P W (s a.eval) (RelS w0 okA hb σ'.heap W) r):XSt P ops σ o r :=
  fun σ' he hh w0 A okA hb a W hs=>qex hrun (h σ' he hh w0 A okA hb a W hs) hpl
/-! ### Numbers -/
theorem qhw (hτ:qg7 P τ) {s d:TypeId} {x:Operand} {sd dd:TD} {sk k:FloatKind} {u v y z:Nat} (ho:o.op = .convert s d x) (hs:τ s = some sd) (hd:τ d = some dd) (hsd:sd.desc = .complex sk) (hdd:dd.desc = .complex k) (hx:σ.ev x = .d (.cx sk u v)) (hy:qcf sk k u = some y) (hz:qcf sk k v = some z):XSt P ops σ o (.val (.d (.cx k y z))):=by
  refine qst (s:=fun ev=>convert s d (ev x)) (by intro a W;simp [execOp,ho]) rfl ?_
  intro σ' he hh w0 A okA hb a W hs'
  have hr:=qg5 hs' x
  rw [qct (fun t ht=>he t (by rw [ho];exact ht)),hx] at hr
  obtain ⟨b,c,hc,h1,h2,h3,h4⟩:=qlp hr
  have us:=qip hτ hs W
  have ud:=qip hτ hd W
  obtain ⟨r1,W1,g1,g2,g3,g4⟩:=qmz (P:=P) (W:=W) sk k b h3
  obtain ⟨r2,W2,k1,k2,k3,k4⟩:=qmz (P:=P) (W:=W1) sk k c h4
  refine ⟨.complex k r1 r2,W2,?_,g2.trans k2,qlm (g4 y (by rw [h1];exact hy)) (k4 z (by rw [h2];exact hz)) g3 k3⟩
  simp only [convert,Sem.run_bind,us,ud,hsd,hdd,hc,Result.andThen_ok,Conv.complexToComplex,g1,k1,Sem.run_pure]
/-! ### Bytes and texts -/
def chars (l:List Int):Str:=l.map fun n=>UInt8.ofNat n.toNat
theorem foldl_push (l:List Int):∀ (s:Str),l.foldl (fun r n=>r.push (UInt8.ofNat n.toNat)) (bstr s) = bstr (s ++ chars l):=by
  induction l with
  | nil=>intro s;simp [chars]
  | cons n l ih =>
    intro s
    rw [List.foldl_cons]
    have:(bstr s).push (UInt8.ofNat n.toNat) = bstr (s ++ [UInt8.ofNat n.toNat]):=by
      apply ByteArray.ext
      simp [bstr,ByteArray.push]
    rw [this,ih]
    simp [chars]
theorem qva (hτ:qg7 P τ) {s d e:TypeId} {x:Operand} {sd dd ed:TD} {p:Prop} {l:List Int} {f:Int→List D} (ho:o.op = .convert s d x) (hs:τ s = some sd) (hd:τ d = some dd) (he':τ e = some ed) (hsd:sd.desc = .slice e) (hdd:dd.desc = .string) (hed:ed.desc = .int .u8)
    (hf:∀ n,f n = [.int .u8 n]) (hx:qgw σ.heap (σ.ev x) = some (p,l.map f)) (hp:p):XSt P ops σ o (.val (.d (.str (bstr (chars l))))):=by
  refine qst (s:=fun ev=>convert s d (ev x)) (by intro a W;simp [execOp,ho]) rfl ?_
  intro σ' he hh w0 A okA hb a W hs'
  have hr:=qg5 hs' x
  rw [qct (fun t ht=>he t (by rw [ho];exact ht))] at hr
  rw [← hh] at hx
  obtain ⟨ad,cap,c,hu,h1,h2⟩:=qlg (P:=P) hs'.heap hr hx hp (fun y hy=>by
    obtain ⟨n,_,rfl⟩:=List.mem_map.1 hy
    rw [hf];rfl) (Nat.one_pos)
  rw [hu]
  have us:=(hτ s sd hs).1
  have ud:=(hτ d dd hd).1
  have ue:=(hτ e ed he').1
  rw [hsd] at us;rw [hdd] at ud;rw [hed] at ue
  refine .pure' (cv:=.string (bstr (chars l))) ?_ (qqm _)
  rw [run_convert_bytes_string W s d e ad _ cap us ue ud]
  have hc:c = (l.map (Value.int .u8)).toArray:=by
    obtain ⟨c1,c2⟩:=h2
    apply Array.ext
    · simpa using c1
    · intro i hi hj
      have hil:i < l.length:=by simpa using hj
      have:=c2 i 0 (by simpa using hil) (by decide)
      have e1:((l.map f).getD i []).getD 0 .nilp = .int .u8 l[i]:=by simp [List.getD_eq_getElem?_getD,hil,hf]
      rw [e1] at this
      have:=qsm this
      simp [Array.getD_eq_getD_getElem?,hi] at this
      rw [this];simp
  have key:=h1 W (qbe.refl W)
  rw [hc] at key
  cases ad with
  | none =>
    have hl:l = []:=by
      have hl0:(l.map f).length = 0:=by
        rw [hu] at hr
        have:∀ {v:V} {n cp:Nat},Rel W hb σ'.heap (okF w0 okA hb σ'.heap W) v (.slice none n cp)→qgw σ'.heap v = some (p,l.map f)→n = (l.map f).length→n = 0:=by
          intro v n cp hv hse hn
          cases hv with
          | d h=>cases h <;> rfl
          | rowNil=>rfl
          | rowStale v h1 h2 h3 =>
            simp only [qgw,h1,Option.some.injEq,Prod.mk.injEq] at hse
            have:=hse.1 ▸ hp
            omega
          | _=>simp [qgw] at hse
        exact this hr hx rfl ▸ rfl
      simpa using hl0
    subst hl
    rfl
  | some ad =>
    have hk:(loadCells ad (l.map f).length).run P W = .ok ((l.map (Value.int .u8)).toArray) W:=by
      have:=key
      rw [hu] at this
      simp only [Builtin.firstCells,Nat.mul_one] at this
      exact this
    rw [run_bytesToString W ad _ cap l hk]
    have:=foldl_push l []
    rw [show bstr [] = ByteArray.empty from rfl] at this
    rw [this];rfl
theorem qqu {H:Nat→AObj} {α:Type} {f:α→List D} {j sz L:Nat} (l:List α) (hj:H j = .row sz (l.map f)) (hL:L = l.length):qgw H (.row j L 0 L) = some ((l.map f).length = L∧0 + L ≤ L,l.map f):=by
  subst hL
  simp only [qgw,hj]
  rw [qtu l rfl]
/-! ### Is a slice nil? -/
end
end Go.Proofs.Ytmllgpkgjniomaa.AWN

namespace Go.Proofs.Ytmllgpkgjniomaa.AWN
open Go Go.RowKit
theorem qbw (j:Nat):qat [] j = .none:=by simp [qat]
theorem top_of_acall {P:Program} {k:FuncId} {args:List V} {vals:Array Value} {W:World} (hlay:∀ g vs,qqe g = some vs→∃ T fr,W.heap[g]? = some (.cells vs T fr)) (hc:qb5 P false k args [] (fun r o n=>r = .d (.bool true)∧o = []∧n = []))
    (hrel:RelL W (fun _=>none) (qat []) (okF W (fun _=>True) (fun _=>none) (qat []) W) args vals):Calls P k vals W (fun e W'=>e = .returned (.bool true)∧Below W.heap.size W W'):=by
  have hs:HSim W ⟨qat [],fun _=>none⟩ (fun _=>True) (fun _=>none) (qat []) ([]:List AObj).length W :=
    { obj:=fun j=>by unfold qg6;rw [qbw];trivial,inj:=fun i j b hi=>absurd (qbw i) hi,hnd:=fun j b hj=>absurd (qbw j) hj,fresh:=fun j _=>qbw j,ext:=Ext.refl _ _,keep:=qjp.refl _ _ _,lay:=fun g vs hg=>⟨hlay g vs hg,fun ⟨j,hj,_⟩=>hj (qbw j)⟩ }
  refine (hc W ⟨qat [],fun _=>none⟩ (fun _=>none) (fun _=>True) vals rfl rfl hs hrel).mono fun e W' ⟨v,r,o,n,hb',he,⟨hr,ho,hn⟩,_,hs',hv⟩=>?_
  subst hr
  have:=qfl hv
  subst this
  have hx:=hs'.ext
  exact ⟨he,hx.os,hx.tape,hx.output,hx.size,fun k hk=>hx.kept k hk (fun ⟨j,hj,_⟩=>hj (qbw j))⟩
end Go.Proofs.Ytmllgpkgjniomaa.AWN

namespace Go.Proofs.Ytmllgpkgjniomaa.AWN
open Go
section
variable {ρ:Nat→Option Nat} {H:Nat→AObj} {α:Type} {f:α→List D}
end
end Go.Proofs.Ytmllgpkgjniomaa.AWN

namespace Go.Proofs.Ytmllgpkgjniomaa.AWN
open Go
end Go.Proofs.Ytmllgpkgjniomaa.AWN

namespace Go.Proofs.Ytmllgpkgjniomaa.AWN
open Go Go.RowKit
theorem qmr {P:Program} {fr:Bool} {k:FuncId} {args:List V} {rv:V}
    (h:∀ (W:World) (hb:Handle) (H:Nat→AObj) (ok:Nat→Prop) (vals:Array Value),(∀ g vs,qqe g = some vs→∃ T f,W.heap[g]? = some (.cells vs T f))→(∀ b,ok b→b < W.heap.size)→RelL W hb H ok args vals →
      Calls P k vals W (fun e W'=>∃ v,e = .returned v∧Below W.heap.size W W'∧∀ hb H ok,Rel W' hb H ok rv v)) :
    qb5 P fr k args [] (fun v o n=>v = rv∧o = []∧n = []):=by
  intro W A hb okA vals h1 h2 h3 h4
  refine (h W hb _ _ vals (fun g vs hg=>(h3.lay g vs hg).1) (fun b hb=>hb.1) h4).mono ?_
  rintro e W' ⟨v,rfl,bel,hv⟩
  refine ⟨v,rv,[],[],hb,rfl,⟨rfl,rfl,rfl⟩,rfl,?_,hv _ _ _⟩
  exact { obj:=fun j=>by unfold qg6;rw [show qat ([] ++ []) j = .none from qbw j];trivial,inj:=fun i j b hi=>absurd (qbw i) hi,hnd:=fun j b hj=>absurd (qbw j) hj,fresh:=fun j _=>qbw j,ext:=⟨fun i hi _=>bel.block i hi,bel.size,bel.tape,bel.os,bel.output⟩,keep:=⟨fun j cs hj=>(by rw [h1,qbw] at hj;cases hj),fun j sz es hj=>(by rw [h1,qbw] at hj;cases hj)⟩,lay:=h3.lay }
theorem qfm {P:Program} {k:FuncId} {args:List V} {vals:Array Value} {W:World} {rv:V} {v0:Value} (hlay:∀ g vs,qqe g = some vs→∃ T fr,W.heap[g]? = some (.cells vs T fr)) (hc:qb5 P false k args [] (fun r o n=>r = rv∧o = []∧n = []))
    (hrel:RelL W (fun _=>none) (qat []) (okF W (fun _=>True) (fun _=>none) (qat []) W) args vals) (hv0:∀ W' hb H ok v,Rel W' hb H ok rv v→v = v0):Calls P k vals W (fun e W'=>e = .returned v0∧Below W.heap.size W W'):=by
  have hs:HSim W ⟨qat [],fun _=>none⟩ (fun _=>True) (fun _=>none) (qat []) ([]:List AObj).length W :=
    { obj:=fun j=>by unfold qg6;rw [qbw];trivial,inj:=fun i j b hi=>absurd (qbw i) hi,hnd:=fun j b hj=>absurd (qbw j) hj,fresh:=fun j _=>qbw j,ext:=Ext.refl _ _,keep:=qjp.refl _ _ _,lay:=fun g vs hg=>⟨hlay g vs hg,fun ⟨j,hj,_⟩=>hj (qbw j)⟩ }
  refine (hc W ⟨qat [],fun _=>none⟩ (fun _=>none) (fun _=>True) vals rfl rfl hs hrel).mono fun e W' ⟨v,r,o,n,hb',he,⟨hr,ho,hn⟩,_,hs',hv⟩=>?_
  subst hr
  have:=hv0 _ _ _ _ _ hv
  subst this
  have hx:=hs'.ext
  exact ⟨he,hx.os,hx.tape,hx.output,hx.size,fun k hk=>hx.kept k hk (fun ⟨j,hj,_⟩=>hj (qbw j))⟩
theorem qoo {W:World} {hb:Handle} {H:Nat→AObj} {ok:Nat→Prop} {x:V} {v:Value} (h:Rel W hb H ok x v):RelL W hb H ok [x] #[v]:=⟨rfl,fun i hi=>by
  rcases i with _ | i
  · exact h
  · simp at hi⟩
theorem ql3 {W:World} {hb:Handle} {H:Nat→AObj} {ok:Nat→Prop} {x y:V} {v u:Value} (h:Rel W hb H ok x v) (h':Rel W hb H ok y u):RelL W hb H ok [x,y] #[v,u]:=⟨rfl,fun i hi=>by
  rcases i with _ | _ | i
  · exact h
  · exact h'
  · simp at hi;omega⟩
end Go.Proofs.Ytmllgpkgjniomaa.AWN

namespace Go.Proofs.Ytmllgpkgjniomaa.AWN
open Go
section
variable {P:Program} {τ:Tab} {ops:Array Oper} {σ:St} {o:Oper} {rest:List Oper} {Q:Exit→St→Prop}
end
end Go.Proofs.Ytmllgpkgjniomaa.AWN
