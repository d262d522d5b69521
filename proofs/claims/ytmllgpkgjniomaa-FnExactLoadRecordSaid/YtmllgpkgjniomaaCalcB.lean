/- One theorem for all operations. -/
import Derived.Test.YtmllgpkgjniomaaCalcA
import Derived.LoopTactic
import Derived.Orders
set_option linter.unusedVariables false
set_option linter.unusedSimpArgs false
set_option linter.unusedSectionVars false
namespace Go.Proofs.Ytmllgpkgjniomaa.AWN
open Go
section
variable {P:Program} {τ:Tab} (hτ:qg7 P τ) {w0:World} {A:Args} {okA:Nat→Prop} {hb:Handle} {W:World} {σ:St} {a:Act}
def Owes (P:Program) (w0:World) (A:Args) (okA:Nat→Prop) (hb:Handle) (σ:St) (a:Act) (W:World) (o:Oper):OR→Prop
  | .val v=>Does P o a W (fun cv W'=>qbe W W'∧RelS w0 okA hb σ.heap W v cv)
  | .valH v H n=>Does P o a W (fun cv W'=>∃ hb',Sim w0 A okA hb' { σ with heap:=H,next:=n } a W'∧RelS w0 okA hb' H W' v cv)
  | .need p v=>p→Does P o a W (fun cv W'=>qbe W W'∧RelS w0 okA hb σ.heap W v cv)
  | .needH p v H n=>p→Does P o a W (fun cv W'=>∃ hb',Sim w0 A okA hb' { σ with heap:=H,next:=n } a W'∧RelS w0 okA hb' H W' v cv)
  | .elem p es i k=>∀ e v,p→es[i]? = some e→k e = some v→Does P o a W (fun cv W'=>qbe W W'∧RelS w0 okA hb σ.heap W v cv)
  | .elemH p es i k=>∀ e H,p→es[i]? = some e→k e = some H→Does P o a W (fun cv W'=>∃ hb',Sim w0 A okA hb' { σ with heap:=H } a W'∧cv = undef)
  | .pick R k=>Does P o a W (fun cv W'=>∃ r,R r∧qbe W W'∧RelS w0 okA hb σ.heap W (k r) cv)
  | .call f args=>∃ vals,(∀ w,(execOp a.eval o).run P w = (callFunc f vals).run P w)∧RelL W hb σ.heap (okF w0 okA hb σ.heap W) args vals
  | .stuck=>True
theorem owes_of_v {o:Oper} {s:Sem Value} {r:OR} (hrun:(execOp a.eval o).run P W = (s.run P W).andThen fun v w=>.ok (.value v) w) (h:ORv P W s (RelS w0 okA hb σ.heap W) r)
    (hr:∀ f args,r ≠ .call f args) (hr2:∀ v H n,r ≠ .valH v H n) (hr3:∀ p v H n,r ≠ .needH p v H n) (hr4:∀ p es i k,r ≠ .elemH p es i k):Owes P w0 A okA hb σ a W o r:=by
  have key:∀ {Q:Value→Prop},Ev P W s Q→Does P o a W (fun cv W'=>qbe W W'∧Q cv):=fun ⟨cv,W',e1,e2,e3⟩=>⟨cv,W',.inl (by rw [hrun,e1];rfl),e2,e3⟩
  cases r with
  | val v=>exact key h
  | need p v=>exact fun hp=>key (h hp)
  | elem p es i k=>exact fun e v hp he hk=>key (h e v hp he hk)
  | pick R k =>
    obtain ⟨cv,W',e1,e2,r,e3,e4⟩:=h
    exact ⟨cv,W',.inl (by rw [hrun,e1];rfl),r,e3,e2,e4⟩
  | call f args=>exact absurd rfl (hr f args)
  | valH v H n=>exact absurd rfl (hr2 v H n)
  | needH p v H n=>exact absurd rfl (hr3 p v H n)
  | elemH p es i k=>exact absurd rfl (hr4 p es i k)
  | stuck=>trivial
theorem qi5 {o:Oper} {s:Sem Value} {H:Nat→AObj} {n:Nat} {v:V} (hrun:(execOp a.eval o).run P W = (s.run P W).andThen fun v w=>.ok (.value v) w) (h:EvH P W w0 A okA s a σ H n v) :
    Does P o a W (fun cv W'=>∃ hb',Sim w0 A okA hb' { σ with heap:=H,next:=n } a W'∧RelS w0 okA hb' H W' v cv):=by
  obtain ⟨cv,W',hb',e1,e2,e3⟩:=h
  exact ⟨cv,W',.inl (by rw [hrun,e1];rfl),hb',e2,e3⟩
def OR.plain:OR→Bool
  | .call _ _ | .valH _ _ _ | .needH _ _ _ _ | .elemH _ _ _ _=>false
  | _=>true
theorem qex {o:Oper} {s:Sem Value} {r:OR} (hrun:(execOp a.eval o).run P W = (s.run P W).andThen fun v w=>.ok (.value v) w) (h:ORv P W s (RelS w0 okA hb σ.heap W) r) (hr:r.plain = true):Owes P w0 A okA hb σ a W o r :=
  owes_of_v hrun h (fun _ _ e=>by subst e;simp [OR.plain] at hr) (fun _ _ _ e=>by subst e;simp [OR.plain] at hr) (fun _ _ _ _ e=>by subst e;simp [OR.plain] at hr) (fun _ _ _ _ e=>by subst e;simp [OR.plain] at hr)
theorem qm9 (v:Option V):(qol v).plain = true:=by cases v <;> rfl
theorem pick_sound {c x y:V} {u v w:Value} (hc:RelS w0 okA hb σ.heap W c u) (hx:RelS w0 okA hb σ.heap W x v) (hy:RelS w0 okA hb σ.heap W y w) :
    ORv P W (do pure (if ← asBool u then v else w)) (RelS w0 okA hb σ.heap W) (qua c x y)∧(qua c x y).plain = true:=by
  unfold qua
  split
  · obtain rfl:=qfl hc
    obtain rfl:=qfl hx
    obtain rfl:=qfl hy
    rename_i b1 b2 b3
    refine ⟨.pure' (cv:=.bool (bif b1 then b2 else b3)) ?_ (qhz _),rfl⟩
    cases b1 <;> simp [asBool]
  · obtain rfl:=qfl hc
    exact ⟨.pure' (by simp [asBool]) hx,rfl⟩
  · obtain rfl:=qfl hc
    exact ⟨.pure' (by simp [asBool]) hy,rfl⟩
  · exact ⟨trivial,rfl⟩
theorem load_plain (td:TD) (H:Nat→AObj) (x:V):(qpc H td x).plain = true:=by
  unfold qpc
  repeat' split
  all_goals first | exact qm9 _ | rfl
theorem fieldPart_sound {s:TypeId} {f off:Nat} {fd:TD} (hτ:qg7 P τ) (h:qjj τ s f = some (off,fd)) {cs:List V} {u:Value} (hx:RelS w0 okA hb σ.heap W (.agg cs) u):ORv P W (Instr.field s u f) (RelS w0 okA hb σ.heap W) (qol (qm2 fd cs off)):=by
  obtain ⟨fs,fld,h1,h2,h3,h4⟩:=qn0 hτ h
  cases hx with
  | @agg _ c e1 e2 =>
    cases hp:qm2 fd cs off with
    | none=>trivial
    | some v =>
      have hi:=qns hτ h4
      have hz:=qio hτ h4
      unfold qm2 at hp
      cases hagg:qoe fd.desc with
      | true =>
        rw [hagg] at hp
        simp only [cond_true] at hp
        cases hle:Nat.ble (off + fd.size) cs.length with
        | false=>rw [hle] at hp;cases hp
        | true =>
          rw [hle] at hp
          simp only [cond_true,Option.some.injEq] at hp
          subst hp
          have hle':off + fd.size ≤ cs.length:=by simpa using hle
          refine .pure' (cv:=.agg (c.extract off (off + fd.size))) ?_ ?_
          · simp [Instr.field,h1,h2,asAgg,part,hi,hagg,hz,h3]
          · refine .agg (by simp;omega) (fun i hi'=>?_)
            have hi2:i < fd.size:=by simp at hi';omega
            rw [qey _ _ _ _ _ hi2]
            have:(c.extract off (off + fd.size)).getD i undef = c.getD (off + i) undef:=by
              rw [Array.getD_eq_getD_getElem?,Array.getElem?_extract,if_pos (by omega),← Array.getD_eq_getD_getElem?]
            rw [this]
            exact e2 _ (by omega)
      | false =>
        rw [hagg] at hp
        simp only [cond_false] at hp
        have hlt:off < cs.length:=(List.getElem?_eq_some_iff.1 hp).1
        refine .pure' (cv:=c.getD off undef) ?_ ?_
        · have:=qf0 (vals:=c) (i:=off) (by omega)
          simp only [Instr.field,Sem.run_bind,h1,h2,Result.andThen_ok,asAgg,Sem.run_pure,part,hi,hagg,h3,this,Bool.false_eq_true,if_false]
        · have:=e2 off (by omega)
          rwa [getD_some hp] at this
theorem ptrAdd_plain (H:Nat→AObj) (x:V) (n:Nat):(qma H x n).plain = true:=by
  unfold qma;repeat' split
  all_goals rfl
theorem indexAddr_plain (τ:Tab) (H:Nat→AObj) (t:TypeId) (x i:V):(qi7 τ H t x i).plain = true:=by
  unfold qi7;repeat' split
  all_goals first | rfl | (cases Nat.beq _ _ <;> rfl)
theorem index_plain (τ:Tab) (t:TypeId) (x i:V):(qqb τ t x i).plain = true:=by
  unfold qqb;repeat' split
  all_goals rfl
theorem slice_plain (τ:Tab) (H:Nat→AObj) (t:TypeId) (x:V) (l h m:Option V):(qmc τ H t x l h m).plain = true:=by
  unfold qmc;repeat' split
  all_goals first | rfl | (cases Nat.beq _ _ <;> rfl)
theorem conv_plain (τ:Tab) (s d:TypeId) (x:V):(qt4 τ s d x).plain = true:=by
  unfold qt4;repeat' split
  all_goals rfl
theorem un_plain (op:UnOp) (x:V):(unV op x).plain = true:=by
  unfold unV;repeat' split
  all_goals rfl
theorem bin_plain (τ:Tab) (op:BinOp) (t:TypeId) (x y:V):(binV τ op t x y).plain = true:=by
  unfold binV
  split
  · cases qla op
    · simp only [cond_false]
      cases ikEq _ _
      · rfl
      · cases op <;> rfl
    · cases op <;> rfl
  · cases fkEq _ _
    · rfl
    · cases op <;> rfl
  · cases fkEq _ _
    · rfl
    · cases op <;> rfl
  · cases op <;> rfl
  · split
    · split
      · split <;> rfl
      · rfl
    · rfl
  · rfl
theorem len_plain (τ:Tab) (H:Nat→AObj) (t:TypeId) (x:V):(lenV τ H t x).plain = true:=by
  unfold lenV;repeat' split
  all_goals rfl
theorem qqg (x y:V) (m:Bool):(qsu x y m).plain = true:=by
  unfold qsu;repeat' split
  all_goals first | rfl | (cases ikEq _ _ <;> rfl)
include hτ in
theorem append_owes (h:Sim w0 A okA hb σ a W) {o:Oper} {ts:Array TypeId} {ty:TypeId} {s x:V} {u v:Value} (hs:RelS w0 okA hb σ.heap W s v) (hx:RelS w0 okA hb σ.heap W x u)
    (hrun:(execOp a.eval o).run P W = ((Builtin.append_ ts ty #[v,u]).run P W).andThen fun v w=>.ok (.value v) w):Owes P w0 A okA hb σ a W o (qr3 τ σ.heap σ.next ts s x):=by
  unfold qr3
  split
  · rename_i t t1 h0 h1
    split
    · rename_i td td1 ht ht1
      split
      · rename_i e hd
        split
        · rename_i ed px ys he hse
          cases hq:(!qp9 td1.desc || !Nat.beq ed.zero.cells.size ed.size || Nat.beq ed.size 0) with
          | true=>trivial
          | false =>
            simp only [Bool.or_eq_false_iff,Bool.not_eq_false'] at hq
            obtain ⟨⟨q1,q2⟩,q3⟩:=hq
            obtain ⟨e1,hd1⟩:∃ e1,td1.desc = .slice e1:=by
              cases hdd:td1.desc <;> simp [qp9,hdd] at q1
              exact ⟨_,rfl⟩
            have hzs:ed.zero.cells.size = ed.size:=Nat.eq_of_beq_eq_true q2
            have hpz:0 < ed.size:=by
              rcases Nat.eq_zero_or_pos ed.size with h0' | h0'
              · rw [h0'] at q3;simp at q3
              · exact h0'
            simp only [cond_false]
            split
            · intro ⟨p1,p2,p3,p4,p5⟩
              cases hs with
              | d hs=>cases hs with
                | nils =>
                  have:=qnx (P:=P) (es:=[]) (base:=none) (old:=#[]) (ty:=ty) hτ h h0 h1 ht ht1 hd hd1 he hzs hpz hx hse p1 (by simpa using p2) p3 p4 (by simp) p5 (fun _ _=>rfl) ⟨by simp,fun i k hi=>by simp at hi⟩
                  simp only [List.nil_append,List.length_nil,Nat.zero_add] at this
                  exact qi5 hrun this
            · rename_i j L off len
              split
              · rename_i sz es hj
                cases hz:Nat.beq sz ed.size with
                | false=>trivial
                | true =>
                  have hzz:sz = ed.size:=Nat.eq_of_beq_eq_true hz
                  subst hzz
                  intro ⟨p1,p2,p3,p4,p5,p6,p7⟩
                  subst p3;subst p4
                  exact qi5 hrun (append_row (P:=P) (ty:=ty) hτ h h0 h1 ht ht1 hd hd1 he hzs hpz hx hse p1 hj p2 hs p5 p6 p7)
              · trivial
            · rename_i es
              intro ⟨p1,p2,p3,p4,p5,p6⟩
              obtain ⟨ad,cap,old,rfl,r1,r2⟩:=qlg (P:=P) h.heap (p:=True) hs rfl trivial p5 hpz
              have hcap:cap = es.length:=by
                cases hs with
                | d hs=>cases hs with
                  | slnil=>rfl
                  | sle=>rfl
                  | sl sz vals g1 g2 g3 g4 gm g5 g6 g7=>exact g4 rfl
              subst hcap
              exact qi5 hrun (qnx (P:=P) (ty:=ty) hτ h h0 h1 ht ht1 hd hd1 he hzs hpz hx hse p1 p2 p3 p4 p5 p6 r1 r2)
            · trivial
        · trivial
      · trivial
    · trivial
  · trivial
theorem qng (h:Sim w0 A okA hb σ a W) (xs:Array Operand):RelL W hb σ.heap (okF w0 okA hb σ.heap W) (xs.toList.map σ.ev) (xs.map a.eval):=rel_ev_list h xs
theorem qnf {W:World} {hb:Handle} {H:Nat→AObj} {ok:Nat→Prop} {cs ds:List V} {c d:Array Value} (h:RelL W hb H ok cs c) (h':RelL W hb H ok ds d):RelL W hb H ok (cs ++ ds) (c ++ d):=by
  refine ⟨by simp [h.1,h'.1],fun i hi=>?_⟩
  simp only [Array.size_append] at hi
  by_cases hc:i < c.size
  · have e1:(cs ++ ds).getD i .junk = cs.getD i .junk:=by rw [List.getD_eq_getElem?_getD,List.getElem?_append_left (by rw [h.1];exact hc),← List.getD_eq_getElem?_getD]
    have e2:(c ++ d).getD i undef = c.getD i undef:=by rw [Array.getD_eq_getD_getElem?,Array.getElem?_append_left hc,← Array.getD_eq_getD_getElem?]
    rw [e1,e2];exact h.2 i hc
  · have e1:(cs ++ ds).getD i .junk = ds.getD (i - c.size) .junk:=by rw [List.getD_eq_getElem?_getD,List.getElem?_append_right (by rw [h.1];omega),← List.getD_eq_getElem?_getD,h.1]
    have e2:(c ++ d).getD i undef = d.getD (i - c.size) undef:=by rw [Array.getD_eq_getD_getElem?,Array.getElem?_append_right (by omega),← Array.getD_eq_getD_getElem?]
    rw [e1,e2];exact h'.2 _ (by omega)
theorem arr_map_two {xs:Array Operand} {c d:Operand} (h:xs.toList = [c,d]):xs.map a.eval = #[a.eval c,a.eval d]:=by
  apply Array.ext';simp [h]
theorem arr_map_one {xs:Array Operand} {c:Operand} (h:xs.toList = [c]):xs.map a.eval = #[a.eval c]:=by
  apply Array.ext';simp [h]
theorem qpf {xs:Array Operand} {x y:V} (h:Sim w0 A okA hb σ a W) (he:xs.toList.map σ.ev = [x,y]):∃ u v,xs.map a.eval = #[u,v]∧RelS w0 okA hb σ.heap W x u∧RelS w0 okA hb σ.heap W y v:=by
  rcases hl:xs.toList with _ | ⟨c,_ | ⟨d,_ | ⟨e,l⟩⟩⟩ <;> rw [hl] at he <;> simp at he
  exact ⟨_,_,arr_map_two hl,by rw [← he.1];exact qg5 h c,by rw [← he.2];exact qg5 h d⟩
theorem qrb {xs:Array Operand} {x:V} (h:Sim w0 A okA hb σ a W) (he:xs.toList.map σ.ev = [x]):∃ u,xs.map a.eval = #[u]∧RelS w0 okA hb σ.heap W x u:=by
  rcases hl:xs.toList with _ | ⟨c,_ | ⟨d,l⟩⟩ <;> rw [hl] at he <;> simp at he
  exact ⟨_,arr_map_one hl,by rw [← he];exact qg5 h c⟩
theorem owes_move (h:Sim w0 A okA hb σ a W) (o:Oper) (x:Operand) (ho:o.op = .move x):Owes P w0 A okA hb σ a W o (qc0 τ σ (.move x)):=by
  have R:=fun x=>qg5 h x
  exact ⟨_,W,.inl (by simp [execOp,ho] <;> rfl),qbe.refl W,R x⟩
theorem owes_assign (h:Sim w0 A okA hb σ a W) (o:Oper) (x:Operand) (ho:o.op = .assign x):Owes P w0 A okA hb σ a W o (qc0 τ σ (.assign x)):=by
  have R:=fun x=>qg5 h x
  exact ⟨_,W,.inl (by simp [execOp,ho] <;> rfl),qbe.refl W,R x⟩
theorem owes_pick (h:Sim w0 A okA hb σ a W) (o:Oper) (c:Operand) (x:Operand) (y:Operand) (ho:o.op = .pick c x y):Owes P w0 A okA hb σ a W o (qc0 τ σ (.pick c x y)):=by
  have R:=fun x=>qg5 h x
  obtain ⟨h1,h2⟩:=pick_sound (P:=P) (R c) (R x) (R y)
  exact qex (by simp [execOp,ho];cases (Sem.run P (asBool (a.eval c)) W) <;> rfl) h1 h2
theorem owes_box (h:Sim w0 A okA hb σ a W) (o:Oper) (t:TypeId) (x:Operand) (ho:o.op = .box t x):Owes P w0 A okA hb σ a W o (qc0 τ σ (.box t x)):=by
  have R:=fun x=>qg5 h x
  simp only [qc0]
  split
  · rename_i cs hcs
    exact qi5 (by simp [execOp,ho]) (box_sound (P:=P) h t (R x) hcs)
  · trivial
include hτ in
theorem owes_alloc (h:Sim w0 A okA hb σ a W) (o:Oper) (t:TypeId) (ho:o.op = .alloc t):Owes P w0 A okA hb σ a W o (qc0 τ σ (.alloc t)):=by
  have R:=fun x=>qg5 h x
  simp only [qc0]
  split
  · rename_i td ht
    split
    · rename_i cs hcs
      exact qi5 (by simp [execOp,ho]) (alloc_sound hτ h ht hcs)
    · trivial
  · trivial
include hτ in
theorem owes_build (h:Sim w0 A okA hb σ a W) (o:Oper) (t:TypeId) (parts:Array (Nat × Operand)) (ho:o.op = .build t parts):Owes P w0 A okA hb σ a W o (qc0 τ σ (.build t parts)):=by
  have R:=fun x=>qg5 h x
  simp only [qc0]
  split
  · rename_i td ht
    split
    · rename_i fs z hd hz
      split
      · rename_i cs hall hf
        exact qex (s:=Instr.build t (parts.map fun p:Nat × Operand=>(p.1,a.eval p.2))) (by simp [execOp,ho]) (build_sound hτ h ht hd (by rw [List.all_eq_true] at hall;exact hall) hz parts hf) rfl
      · trivial
    · trivial
  · trivial
include hτ in
theorem owes_buildSlice (h:Sim w0 A okA hb σ a W) (o:Oper) (t:TypeId) (len:Nat) (parts:Array (Nat × Operand)) (ho:o.op = .buildSlice t len parts):Owes P w0 A okA hb σ a W o (qc0 τ σ (.buildSlice t len parts)):=by
  have R:=fun x=>qg5 h x
  simp only [qc0]
  split
  · rename_i td ht
    split
    · rename_i e hd
      split
      · rename_i ed he
        split
        · rename_i z hz
          split
          · rename_i cs hf
            split
            · rename_i ds hds
              cases hq:(Nat.ble (len * ed.size) 16777216 && Nat.beq z.length ed.size && !Nat.beq ed.size 0) with
              | false=>trivial
              | true =>
                simp only [Bool.and_eq_true,Bool.not_eq_true'] at hq
                obtain ⟨⟨q1,q2⟩,q3⟩:=hq
                have hpz:0 < ed.size:=by
                  rcases Nat.eq_zero_or_pos ed.size with h0' | h0'
                  · rw [h0'] at q3;simp at q3
                  · exact h0'
                exact qi5 (s:=Instr.buildSlice t len (parts.map fun p:Nat × Operand=>(p.1,a.eval p.2))) (by simp [execOp,ho]) (buildSlice_sound hτ h ht hd he hz len (Nat.le_of_ble_eq_true q1) (Nat.eq_of_beq_eq_true q2) parts hf hds hpz)
            · trivial
          · trivial
        · trivial
      · trivial
    · trivial
  · trivial
include hτ in
theorem owes_makeSlice (h:Sim w0 A okA hb σ a W) (o:Oper) (t:TypeId) (l c:Operand) (ho:o.op = .makeSlice t l c):Owes P w0 A okA hb σ a W o (qc0 τ σ (.makeSlice t l c)):=by
  have R:=fun x=>qg5 h x
  simp only [qc0]
  split
  · rename_i td ht
    split
    · rename_i e hd
      split
      · rename_i ed he
        split
        · rename_i ds k n k' m hds hl hc
          cases hq:(Nat.beq ds.length ed.size && !Nat.beq ed.size 0) with
          | false=>trivial
          | true =>
            simp only [Bool.and_eq_true,Bool.not_eq_true'] at hq
            have hpz:0 < ed.size:=by
              rcases Nat.eq_zero_or_pos ed.size with h0' | h0'
              · have:=hq.2;rw [h0'] at this;simp at this
              · exact h0'
            rintro ⟨p1,rfl,p2,p3⟩
            have e1:=R l
            have e2:=R c
            rw [hl] at e1
            rw [hc] at e2
            have f1:=qgl e1
            have f2:=qgl e2
            refine qi5 (s:=Instr.makeSlice t (a.eval l) (a.eval c)) (by simp [execOp,ho]) ?_
            rw [f1,f2]
            exact makeSlice_sound hτ h ht hd he hds (Nat.eq_of_beq_eq_true hq.1) hpz p1 p2 p3
        · trivial
      · trivial
    · trivial
  · trivial
include hτ in
theorem owes_load (h:Sim w0 A okA hb σ a W) (o:Oper) (t:TypeId) (x:Operand) (ho:o.op = .load t x):Owes P w0 A okA hb σ a W o (qc0 τ σ (.load t x)):=by
  have R:=fun x=>qg5 h x
  simp only [qc0]
  split
  · rename_i td ht
    exact qex (by simp [execOp,ho]) (loadV_sound hτ h.heap ht (R x)) (load_plain _ _ _)
  · trivial
include hτ in
theorem owes_store (h:Sim w0 A okA hb σ a W) (o:Oper) (t:TypeId) (x:Operand) (v:Operand) (ho:o.op = .store t x v):Owes P w0 A okA hb σ a W o (qc0 τ σ (.store t x v)):=by
  have R:=fun x=>qg5 h x
  simp only [qc0]
  have up:∀ {H:Nat→AObj},EvU P W w0 A okA (Instr.storeAt t (a.eval x) (a.eval v)) a σ H σ.next→Does P o a W (fun cv W'=>∃ hb',Sim w0 A okA hb' { σ with heap:=H } a W'∧cv = undef):=by
    rintro H ⟨W',hb',e1,e2⟩
    exact ⟨undef,W',.inr ⟨by simp [execOp,ho,e1],rfl⟩,hb',e2,rfl⟩
  split
  · rename_i td ht
    unfold quu
    split
    · rename_i vs hvs
      cases hq:Nat.beq vs.length td.size with
      | false=>trivial
      | true =>
        have hl:=Nat.eq_of_beq_eq_true hq
        simp only [cond_true]
        have Rx:=R x
        split
        · rename_i j off hx
          rw [hx] at Rx
          split
          · rename_i cs hj
            cases hle:Nat.ble (off + td.size) cs.length with
            | false=>trivial
            | true =>
              obtain ⟨cv,W',e1,hb',e2,rfl⟩:=up (store_box_sound hτ h ht hj (R v) hvs hl (Nat.le_of_ble_eq_true hle) Rx)
              exact ⟨undef,W',e1,hb',e2,.und⟩
          · trivial
        · rename_i j L i off hx
          rw [hx] at Rx
          split
          · rename_i sz es hj
            split
            · rename_i ds hds
              intro e H hp he hk
              simp only at hk
              cases hle:Nat.ble (off + td.size) e.length with
              | false=>rw [hle] at hk;cases hk
              | true =>
                rw [hle] at hk
                simp only [cond_true,Option.some.injEq] at hk
                subst hk
                exact up (store_row_sound hτ h ht hj hp he (R v) hvs hds hl (Nat.le_of_ble_eq_true hle) Rx)
            · trivial
          · trivial
        · trivial
    · trivial
  · trivial
theorem owes_nilCheck (h:Sim w0 A okA hb σ a W) (o:Oper) (x:Operand) (ho:o.op = .nilCheck x):Owes P w0 A okA hb σ a W o (qc0 τ σ (.nilCheck x)):=by
  have Rx:=qg5 h x
  simp only [qc0]
  have key:∀ ad,a.eval x = .pointer (some ad)→∀ v,RelS w0 okA hb σ.heap W v (a.eval x)→Does P o a W (fun cv W'=>qbe W W'∧RelS w0 okA hb σ.heap W v cv):=by
    intro ad he v hv
    refine ⟨a.eval x,W,.inl ?_,qbe.refl W,hv⟩
    simp only [execOp,ho,he]
    rfl
  split
  · rename_i j off hx
    rw [hx] at Rx
    obtain ⟨ad,he⟩:∃ ad,a.eval x = .pointer (some ad):=by
      generalize a.eval x = u at *
      cases Rx with
      | ptr e1 e2=>exact ⟨_,rfl⟩
    exact key ad he _ Rx
  · rename_i cs off hx
    rw [hx] at Rx
    obtain ⟨ad,he⟩:∃ ad,a.eval x = .pointer (some ad):=by
      generalize a.eval x = u at *
      cases Rx with
      | rop vals e1 e2 e3=>exact ⟨_,rfl⟩
    exact key ad he _ Rx
  · trivial
theorem binV_notd {op:BinOp} {t:TypeId} {x y:V} (h:∀ d,x ≠ .d d):binV τ op t x y = .stuck:=by
  unfold binV
  split <;> first | rfl | (exfalso;exact h _ rfl)
theorem eqGuard_ok (op:BinOp) (t:TypeId) (x y:Operand) (u v:Value) (h1:u ≠ .nilIface) (h2:∀ c,u ≠ .agg c) (w:World):(eqGuard op t x y u v).run P w = .ok () w:=by
  unfold eqGuard
  cases op
  case eql =>
    cases u with
    | nilIface=>exact absurd rfl h1
    | agg c=>exact absurd rfl (h2 c)
    | _=>cases v <;> rfl
  case neq =>
    cases u with
    | nilIface=>exact absurd rfl h1
    | agg c=>exact absurd rfl (h2 c)
    | _=>cases v <;> rfl
  all_goals rfl
include hτ in
theorem owes_binOp (h:Sim w0 A okA hb σ a W) (o:Oper) (op:BinOp) (t:TypeId) (x:Operand) (y:Operand) (yt:TypeId) (ho:o.op = .binOp op t x y yt):Owes P w0 A okA hb σ a W o (qc0 τ σ (.binOp op t x y yt)):=by
  have R:=fun x=>qg5 h x
  by_cases hd:∃ d,σ.ev x = .d d
  · obtain ⟨d,hd⟩:=hd
    have Rx:=R x
    rw [hd] at Rx
    have hg:a.eval x ≠ .nilIface∧∀ c,a.eval x ≠ .agg c:=by
      generalize a.eval x = u at *
      cases Rx with
      | d h=>cases h <;> exact ⟨by simp,by simp⟩
    refine qex (s:=binOp op t (a.eval x) (a.eval y)) ?_ (binV_sound hτ op t (R x) (R y)) (bin_plain _ _ _ _ _)
    simp only [execOp,ho,Sem.run_bind,eqGuard_ok op t x y _ _ hg.1 hg.2,Result.andThen_ok,Sem.run_pure]
  · have:qc0 τ σ (.binOp op t x y yt) = .stuck:=binV_notd (fun d hd'=>hd ⟨d,hd'⟩)
    rw [this]
    trivial
theorem owes_unOp (h:Sim w0 A okA hb σ a W) (o:Oper) (op:UnOp) (t:TypeId) (x:Operand) (ho:o.op = .unOp op t x):Owes P w0 A okA hb σ a W o (qc0 τ σ (.unOp op t x)):=by
  have R:=fun x=>qg5 h x
  exact qex (by simp [execOp,ho]) (unV_sound op (R x)) (un_plain _ _)
include hτ in
theorem owes_convert (h:Sim w0 A okA hb σ a W) (o:Oper) (s:TypeId) (d:TypeId) (x:Operand) (ho:o.op = .convert s d x):Owes P w0 A okA hb σ a W o (qc0 τ σ (.convert s d x)):=by
  have R:=fun x=>qg5 h x
  exact qex (by simp [execOp,ho]) (convV_sound hτ s d (R x)) (conv_plain _ _ _ _)
theorem owes_makeFunc (h:Sim w0 A okA hb σ a W) (o:Oper) (fn:Fn) (first:Array Operand) (caps:Array Operand) (ho:o.op = .makeFunc fn first caps):Owes P w0 A okA hb σ a W o (qc0 τ σ (.makeFunc fn first caps)):=by
  cases fn with
  | func f =>
    obtain ⟨f1,f2⟩:=qng h first
    obtain ⟨c1,c2⟩:=qng h caps
    exact ⟨_,W,.inl (by simp [execOp,ho,Instr.makeFunc] <;> rfl),qbe.refl W,.func f1 c1 f2 c2⟩
  | method n=>trivial
  | methodOf t n=>trivial
  | via t p f b=>trivial
  | yield l=>trivial
include hτ in
theorem owes_slice (h:Sim w0 A okA hb σ a W) (o:Oper) (t:TypeId) (x:Operand) (lo:Option Operand) (hi:Option Operand) (mx:Option Operand) (ho:o.op = .slice t x lo hi mx):Owes P w0 A okA hb σ a W o (qc0 τ σ (.slice t x lo hi mx)):=by
  have R:=fun x=>qg5 h x
  exact qex (by simp [execOp,ho]) (slice_sound hτ h lo hi mx (R x)) (slice_plain _ _ _ _ _ _ _)
include hτ in
theorem owes_fieldAddr (h:Sim w0 A okA hb σ a W) (o:Oper) (s:TypeId) (x:Operand) (f:Nat) (ho:o.op = .fieldAddr s x f):Owes P w0 A okA hb σ a W o (qc0 τ σ (.fieldAddr s x f)):=by
  have R:=fun x=>qg5 h x
  simp only [qc0]
  split
  · rename_i off fd hf
    cases hq:Nat.beq fd.size 0 with
    | true=>trivial
    | false=>exact qex (by simp [execOp,ho]) (fieldAddr_sound hτ hf hq (R x)) (ptrAdd_plain _ _ _)
  · trivial
include hτ in
theorem owes_field (h:Sim w0 A okA hb σ a W) (o:Oper) (s:TypeId) (x:Operand) (f:Nat) (ho:o.op = .field s x f):Owes P w0 A okA hb σ a W o (qc0 τ σ (.field s x f)):=by
  have R:=fun x=>qg5 h x
  simp only [qc0]
  have Rx:=R x
  split
  · rename_i off fd cs hf hx
    rw [hx] at Rx
    exact qex (by simp [execOp,ho]) (fieldPart_sound hτ hf Rx) (qm9 _)
  · trivial
include hτ in
theorem owes_indexAddr (h:Sim w0 A okA hb σ a W) (o:Oper) (t:TypeId) (x:Operand) (i:Operand) (ho:o.op = .indexAddr t x i):Owes P w0 A okA hb σ a W o (qc0 τ σ (.indexAddr t x i)):=by
  have R:=fun x=>qg5 h x
  exact qex (by simp [execOp,ho]) (indexAddr_sound hτ (R x) (R i)) (indexAddr_plain _ _ _ _ _)
include hτ in
theorem owes_index (h:Sim w0 A okA hb σ a W) (o:Oper) (t:TypeId) (x:Operand) (i:Operand) (ho:o.op = .index t x i):Owes P w0 A okA hb σ a W o (qc0 τ σ (.index t x i)):=by
  have R:=fun x=>qg5 h x
  exact qex (by simp [execOp,ho]) (index_sound hτ (R x) (R i)) (index_plain _ _ _ _)
theorem owes_extract (h:Sim w0 A okA hb σ a W) (o:Oper) (x:Operand) (i:Nat) (ho:o.op = .extract x i):Owes P w0 A okA hb σ a W o (qc0 τ σ (.extract x i)):=by
  have R:=fun x=>qg5 h x
  simp only [qc0]
  have Rx:=R x
  split
  · rename_i vs hx
    rw [hx] at Rx
    cases hv:vs[i]? with
    | none=>trivial
    | some v =>
      generalize hu:a.eval x = u at *
      cases Rx with
      | @tup _ c e1 e2 =>
        have hlt:i < vs.length:=(List.getElem?_eq_some_iff.1 hv).1
        have:=e2 i (by omega)
        rw [getD_some hv] at this
        have hc:=qf0 (vals:=c) (i:=i) (by omega)
        exact ⟨_,W,.inl (by simp only [execOp,ho,hu,Instr.extract,hc,Sem.run_bind,Sem.run_pure,Result.andThen_ok]),qbe.refl W,this⟩
  · trivial
include hτ in
theorem owes_call (h:Sim w0 A okA hb σ a W) (o:Oper) (c:Call) (ho:o.op = .call c):Owes P w0 A okA hb σ a W o (qc0 τ σ (.call c)):=by
  have R:=fun x=>qg5 h x
  simp only [qc0]
  cases hc:c.callee with
  | builtin b =>
    simp only
    unfold qkt
    split
    · rename_i x hx
      obtain ⟨u,h1,h2⟩:=qrb h hx
      split
      · rename_i t ht
        exact qex (s:=Builtin.len_ c.argTypes o.type #[u]) (by simp [execOp,ho,resolve,hc,invoke,builtin,h1]) (len_sound hτ ht h2) (len_plain _ _ _ _)
      · trivial
    · rename_i s x hx
      obtain ⟨u,v,h1,h2,h3⟩:=qpf h hx
      exact append_owes hτ h h2 h3 (ty:=o.type) (by simp [execOp,ho,resolve,hc,invoke,builtin,h1])
    · rename_i k x k' y hx
      obtain ⟨u,v,h1,h2,h3⟩:=qpf h hx
      obtain ⟨b1,rfl,g1,g2⟩:=qni h2
      obtain ⟨b2,rfl,g3,g4⟩:=qni h3
      cases hk:fkEq k k' with
      | false=>trivial
      | true =>
        obtain rfl:k = k':=by simpa [fkEq] using hk
        exact ⟨.complex k b1 b2,W,.inl (by simp [execOp,ho,resolve,hc,invoke,builtin,h1,run_complex]),qbe.refl W,qlm g1 g3 g2 g4⟩
    · rename_i k x y hx
      obtain ⟨u,h1,h2⟩:=qrb h hx
      obtain ⟨b1,b2,rfl,g1,g2,g3,g4⟩:=qlp h2
      exact ⟨.float k b1,W,.inl (by simp [execOp,ho,resolve,hc,invoke,builtin,h1,run_real]),qbe.refl W,qql g1 g3⟩
    · rename_i k x y hx
      obtain ⟨u,h1,h2⟩:=qrb h hx
      obtain ⟨b1,b2,rfl,g1,g2,g3,g4⟩:=qlp h2
      exact ⟨.float k b2,W,.inl (by simp [execOp,ho,resolve,hc,invoke,builtin,h1,run_imag]),qbe.refl W,qql g2 g4⟩
    · rename_i x y hx
      obtain ⟨u,v,h1,h2,h3⟩:=qpf h hx
      exact qex (s:=Builtin.max_ c.argTypes o.type #[u,v]) (by simp [execOp,ho,resolve,hc,invoke,builtin,h1]) (qoi true h2 h3) (qqg _ _ _)
    · rename_i x y hx
      obtain ⟨u,v,h1,h2,h3⟩:=qpf h hx
      exact qex (s:=Builtin.min_ c.argTypes o.type #[u,v]) (by simp [execOp,ho,resolve,hc,invoke,builtin,h1]) (qoi false h2 h3) (qqg _ _ _)
    · trivial
  | value f =>
    simp only
    have Rf:=R f
    split
    · rename_i fid first caps hf
      rw [hf] at Rf
      generalize hu:a.eval f = u at *
      cases Rf with
      | @func _ _ _ af ac e1 e2 e3 e4 =>
        obtain ⟨r1,r2⟩:=qng h c.args
        refine ⟨af ++ c.args.map a.eval ++ ac,fun w=>by simp [execOp,ho,resolve,hc,hu,Deferred.ofValue,invoke],?_⟩
        exact qnf (qnf ⟨e1,e3⟩ ⟨r1,r2⟩) ⟨e2,e4⟩
    · trivial
  | invoke r m=>trivial
include hτ in
theorem qgg (h:Sim w0 A okA hb σ a W) (o:Oper):Owes P w0 A okA hb σ a W o (qc0 τ σ o.op):=by
  cases ho:o.op with
  | move x0=>exact owes_move h o x0 ho
  | assign x0=>exact owes_assign h o x0 ho
  | pick x0 x1 x2=>exact owes_pick h o x0 x1 x2 ho
  | box x0 x1=>exact owes_box h o x0 x1 ho
  | alloc x0=>exact owes_alloc hτ h o x0 ho
  | build x0 x1=>exact owes_build hτ h o x0 x1 ho
  | buildSlice x0 x1 x2=>exact owes_buildSlice hτ h o x0 x1 x2 ho
  | load x0 x1=>exact owes_load hτ h o x0 x1 ho
  | store x0 x1 x2=>exact owes_store hτ h o x0 x1 x2 ho
  | makeSlice x0 x1 x2=>exact owes_makeSlice hτ h o x0 x1 x2 ho
  | nilCheck x0=>exact owes_nilCheck h o x0 ho
  | binOp x0 x1 x2 x3 x4=>exact owes_binOp hτ h o x0 x1 x2 x3 x4 ho
  | unOp x0 x1 x2=>exact owes_unOp h o x0 x1 x2 ho
  | convert x0 x1 x2=>exact owes_convert hτ h o x0 x1 x2 ho
  | makeFunc x0 x1 x2=>exact owes_makeFunc h o x0 x1 x2 ho
  | slice x0 x1 x2 x3 x4=>exact owes_slice hτ h o x0 x1 x2 x3 x4 ho
  | fieldAddr x0 x1 x2=>exact owes_fieldAddr hτ h o x0 x1 x2 ho
  | field x0 x1 x2=>exact owes_field hτ h o x0 x1 x2 ho
  | indexAddr x0 x1 x2=>exact owes_indexAddr hτ h o x0 x1 x2 ho
  | index x0 x1 x2=>exact owes_index hτ h o x0 x1 x2 ho
  | extract x0 x1=>exact owes_extract h o x0 x1 ho
  | call x0=>exact owes_call hτ h o x0 ho
  | _=>trivial
end
end Go.Proofs.Ytmllgpkgjniomaa.AWN

namespace Go.Proofs.Ytmllgpkgjniomaa.AWN
open Go
def St.put (σ:St) (d:Nat) (v:V):St:={ σ with env:=upd σ.env d v }
def St.putO (σ:St):Option Nat→V→St
  | some d,v=>σ.put d v
  | none,_=>σ
def qhc (σ:St):Option Nat→Bool
  | some d=>Nat.blt d σ.nt
  | none=>true
def lift (w0:World) (A:Args) (okA:Nat→Prop) (Q:Exit→St→Prop):Exit→Act→World→Prop:=fun e a W=>∃ hb σ,Q e σ∧Sim w0 A okA hb σ a W
def AW (P:Program) (c:Code) (σ:St) (Q:Exit→St→Prop):Prop:=∀ w0 A okA hb a W,Sim w0 A okA hb σ a W→c.wp P (lift w0 A okA Q) a W
def AWL (P:Program) (ops:Array Oper) (l:List Oper) (σ:St) (Q:Exit→St→Prop):Prop:=∀ w0 A okA hb a W,Sim w0 A okA hb σ a W→wpList P ops (lift w0 A okA Q) l a W
def qov (ops:Array Oper) (σ:St) (j:Nat):Option (Option Bool) :=
  match ops[j]? with
  | some o=>match o.dst with
    | some d=>match σ.env d with
      | .d (.bool b)=>some (some b)
      | .und=>some none
      | _=>none
    | none=>some none
  | none=>some none
def qd8 (ops:Array Oper) (σ:St) (o:Oper):Option Bool :=
  match o.guard with
  | none=>some true
  | some (j,want)=>match qov ops σ j with
    | some (some b)=>some (b == want)
    | some none=>some false
    | none=>none
section
variable {P:Program} {τ:Tab} {w0:World} {A:Args} {okA:Nat→Prop} {hb:Handle} {W:World} {σ:St} {a:Act} {Q:Exit→St→Prop} {ops:Array Oper} {rest:List Oper} {o:Oper}
theorem getD_setIf (c:Array Value) (d t:Nat) (v:Value) (h:d < c.size):(c.setIfInBounds d v).getD t undef = if t = d then v else c.getD t undef:=by
  rw [Array.getD_eq_getD_getElem?,Array.getElem?_setIfInBounds]
  by_cases ht:d = t
  · subst ht;simp [h]
  · rw [if_neg ht,if_neg (Ne.symm ht),← Array.getD_eq_getD_getElem?]
theorem qhi (h:Sim w0 A okA hb σ a W) {v:V} {cv:Value} (hv:RelS w0 okA hb σ.heap W v cv) (dst:Option Nat) (hd:qhc σ dst = true):Sim w0 A okA hb (σ.putO dst v) (a.put dst cv) W:=by
  cases dst with
  | none=>exact h
  | some d =>
    have hlt:d < a.tmps.size:=by rw [h.size];simpa [qhc,Nat.blt_eq] using hd
    refine ⟨h.defers,?_,fun t=>?_,h.heap,h.base⟩
    · show (a.tmps.setIfInBounds d cv).size = σ.nt
      simpa using h.size
    · show Rel W hb σ.heap _ (upd σ.env d v t) ((a.tmps.setIfInBounds d cv).getD t undef)
      rw [getD_setIf _ _ _ _ hlt]
      by_cases ht:t = d
      · subst ht;rw [upd_same,if_pos rfl];exact hv
      · rw [upd_ne _ _ ht,if_neg ht];exact h.env t
theorem qk6 (h:Sim w0 A okA hb σ a W) {b:Bool} (hw:qd8 ops σ o = some b):Region.wanted o (yielded ops a.tmps) = b:=by
  unfold qd8 at hw
  unfold Region.wanted
  split at hw
  · rename_i hg;rw [hg];simpa using hw
  · rename_i j want hg
    rw [hg]
    simp only
    have key:∀ y,qov ops σ j = some y→yielded ops a.tmps j = y:=by
      intro y hy
      unfold qov at hy
      unfold yielded
      split at hy
      · rename_i o' ho'
        rw [ho']
        simp only [Option.bind_some]
        split at hy
        · rename_i d hd
          rw [hd]
          simp only [Option.bind_some]
          have he:=h.env d
          split at hy
          · rename_i b' hb'
            rw [hb'] at he
            have hv:=qfl he
            have hlt:d < a.tmps.size:=by
              rcases Nat.lt_or_ge d a.tmps.size with hl | hl
              · exact hl
              · rw [Array.getD_eq_getD_getElem?,Array.getElem?_eq_none hl] at hv;cases hv
            rw [qf0 hlt,hv]
            simpa using hy
          · rename_i hb'
            rw [hb'] at he
            have hv:a.tmps.getD d undef = undef:=by
              generalize a.tmps.getD d undef = u at he
              cases he;rfl
            rcases Nat.lt_or_ge d a.tmps.size with hl | hl
            · rw [qf0 hl,hv];simpa [undef] using hy
            · rw [Array.getElem?_eq_none hl];simpa using hy
          · cases hy
        · rename_i hd;rw [hd];simpa using hy
      · rename_i ho';rw [ho'];simpa using hy
    split at hw
    · rename_i b' hy;rw [key _ hy];simpa using hw
    · rename_i hy;rw [key _ hy];simpa using hw
    · cases hw
theorem qa4 (h:Q .normal σ):AWL P ops [] σ Q:=fun w0 A okA hb a W hs=>wpList_nil ⟨hb,σ,h,hs⟩
theorem qhb (hw:qd8 ops σ o = some true) (h:∀ w0 A okA hb a W,Sim w0 A okA hb σ a W→Does P o a W (fun cv W'=>wpList P ops (lift w0 A okA Q) rest (a.put o.dst cv) W')):AWL P ops (o :: rest) σ Q:=by
  intro w0 A okA hb a W hs
  have hwn:=qk6 hs hw
  obtain ⟨cv,W',hrun,hk⟩:=h w0 A okA hb a W hs
  simp only [wpList,hwn,if_true]
  refine .inl ?_
  unfold Oper.wp
  rcases hrun with hrun | ⟨hrun,rfl⟩
  · rw [hrun];exact hk
  · rw [hrun];exact hk
theorem qao (hw:qd8 ops σ o = some false) (hd:qhc σ o.dst = true) (hK:AWL P ops rest (σ.putO o.dst .und) Q):AWL P ops (o :: rest) σ Q:=by
  intro w0 A okA hb a W hs
  have hwn:=qk6 hs hw
  simp only [wpList,hwn,Bool.false_eq_true,if_false]
  exact hK w0 A okA hb _ W (qhi hs .und _ hd)
/-! ### One operation -/
theorem qa0 (hτ:qg7 P τ) {v:V} (hw:qd8 ops σ o = some true) (hd:qhc σ o.dst = true) (h:qc0 τ σ o.op = .val v) (hK:AWL P ops rest (σ.putO o.dst v) Q):AWL P ops (o :: rest) σ Q :=
  qhb hw fun w0 A okA hb a W hs=>by
    have:=qgg hτ hs o
    rw [h] at this
    obtain ⟨cv,W',hrun,s,hr⟩:=this
    exact ⟨cv,W',hrun,hK w0 A okA hb _ W' (qhi (hs.same s) (hr.same s) _ hd)⟩
theorem qbd (hτ:qg7 P τ) {v:V} {p:Prop} (hw:qd8 ops σ o = some true) (hd:qhc σ o.dst = true) (h:qc0 τ σ o.op = .need p v) (hp:p) (hK:AWL P ops rest (σ.putO o.dst v) Q):AWL P ops (o :: rest) σ Q :=
  qhb hw fun w0 A okA hb a W hs=>by
    have:=qgg hτ hs o
    rw [h] at this
    obtain ⟨cv,W',hrun,s,hr⟩:=this hp
    exact ⟨cv,W',hrun,hK w0 A okA hb _ W' (qhi (hs.same s) (hr.same s) _ hd)⟩
theorem qdw (hτ:qg7 P τ) {v:V} {p:Prop} {es:List (List D)} {i:Nat} {k:List D→Option V} {e:List D} (hw:qd8 ops σ o = some true) (hd:qhc σ o.dst = true) (h:qc0 τ σ o.op = .elem p es i k) (hp:p) (he:es[i]? = some e) (hv:k e = some v)
    (hK:AWL P ops rest (σ.putO o.dst v) Q):AWL P ops (o :: rest) σ Q :=
  qhb hw fun w0 A okA hb a W hs=>by
    have:=qgg hτ hs o
    rw [h] at this
    obtain ⟨cv,W',hrun,s,hr⟩:=this e v hp he hv
    exact ⟨cv,W',hrun,hK w0 A okA hb _ W' (qhi (hs.same s) (hr.same s) _ hd)⟩
theorem qaq (hτ:qg7 P τ) {v:V} {H:Nat→AObj} {n:Nat} (hw:qd8 ops σ o = some true) (hd:qhc σ o.dst = true) (h:qc0 τ σ o.op = .valH v H n) (hK:AWL P ops rest (({ σ with heap:=H,next:=n }:St).putO o.dst v) Q):AWL P ops (o :: rest) σ Q :=
  qhb hw fun w0 A okA hb a W hs=>by
    have:=qgg hτ hs o
    rw [h] at this
    obtain ⟨cv,W',hrun,hb',s,hr⟩:=this
    exact ⟨cv,W',hrun,hK w0 A okA hb' _ W' (qhi s hr _ (by cases hdd:o.dst <;> rw [hdd] at hd <;> exact hd))⟩
theorem qlf (hτ:qg7 P τ) {v:V} {p:Prop} {H:Nat→AObj} {n:Nat} (hw:qd8 ops σ o = some true) (hd:qhc σ o.dst = true) (h:qc0 τ σ o.op = .needH p v H n) (hp:p) (hK:AWL P ops rest (({ σ with heap:=H,next:=n }:St).putO o.dst v) Q):AWL P ops (o :: rest) σ Q :=
  qhb hw fun w0 A okA hb a W hs=>by
    have:=qgg hτ hs o
    rw [h] at this
    obtain ⟨cv,W',hrun,hb',s,hr⟩:=this hp
    exact ⟨cv,W',hrun,hK w0 A okA hb' _ W' (qhi s hr _ (by cases hdd:o.dst <;> rw [hdd] at hd <;> exact hd))⟩
theorem qfe (hτ:qg7 P τ) {p:Prop} {es:List (List D)} {i:Nat} {k:List D→Option (Nat→AObj)} {e:List D} {H:Nat→AObj} (hw:qd8 ops σ o = some true) (hd:qhc σ o.dst = true) (h:qc0 τ σ o.op = .elemH p es i k) (hp:p) (he:es[i]? = some e) (hv:k e = some H)
    (hK:AWL P ops rest (({ σ with heap:=H }:St).putO o.dst .und) Q):AWL P ops (o :: rest) σ Q :=
  qhb hw fun w0 A okA hb a W hs=>by
    have:=qgg hτ hs o
    rw [h] at this
    obtain ⟨cv,W',hrun,hb',s,rfl⟩:=this e H hp he hv
    exact ⟨undef,W',hrun,hK w0 A okA hb' _ W' (qhi s .und _ (by cases hdd:o.dst <;> rw [hdd] at hd <;> exact hd))⟩
theorem qmk {t:Nat} {v:V} (h:σ.env t = v):σ.put t v = σ:=by
  unfold St.put;rw [qss _ _ _ h]
theorem qcm (t:Nat) {b:Bool} (h:σ.env t = .d (.bool b)) {l:List Oper} (ht:b = true→AWL P ops l (σ.put t (.d (.bool true))) Q) (hf:b = false→AWL P ops l (σ.put t (.d (.bool false))) Q):AWL P ops l σ Q:=by
  cases b
  · have:=hf rfl;rwa [qmk h] at this
  · have:=ht rfl;rwa [qmk h] at this
/-! ### Code -/
theorem lift_then {P:Program} {c:Code} {e:Exit} {w0:World} {A:Args} {okA:Nat→Prop} {a:Act} {W:World} (h:lift w0 A okA (fun e σ=>match e with
    | .normal=>AW P c σ Q
    | e=>Q e σ) e a W):Exit.then (c.wp P (lift w0 A okA Q)) (lift w0 A okA Q) e a W:=by
  obtain ⟨hb,σ,hq,hs⟩:=h
  cases e with
  | normal=>exact hq w0 A okA hb a W hs
  | _=>exact ⟨hb,σ,hq,hs⟩
def ThenQ (P:Program) (c:Code) (Q:Exit→St→Prop):Exit→St→Prop:=fun e σ=>match e with
  | .normal=>AW P c σ Q
  | e=>Q e σ
theorem qa5 {x y:Code} (h:AW P x σ (ThenQ P y Q)):AW P (.seq x y) σ Q:=fun w0 A okA hb a W hs =>
  wp_seq (Code.wp_mono (fun e a W he=>lift_then (c:=y) he) (h w0 A okA hb a W hs))
theorem qav (h:Q .normal σ):AW P .skip σ Q:=fun w0 A okA hb a W hs=>wp_skip ⟨hb,σ,h,hs⟩
theorem qdv {id:Nat} (h:Q (.exit id) σ):AW P (.exit id) σ Q:=fun w0 A okA hb a W hs=>wp_exit ⟨hb,σ,h,hs⟩
theorem qas (h:Q .ret σ):AW P .ret σ Q:=fun w0 A okA hb a W hs=>wp_ret ⟨hb,σ,h,hs⟩
def qud (id:Nat) (Q:Exit→St→Prop):Exit→St→Prop:=fun e σ=>match e with
  | .exit id'=>if id' = id then Q .normal σ else Q (.exit id') σ
  | e=>Q e σ
theorem qb6 {id:Nat} {c:Code} (h:AW P c σ (qud id Q)):AW P (.block id c) σ Q:=fun w0 A okA hb a W hs =>
  wp_block (Code.wp_mono (fun e a W ⟨hb,σ,hq,hs⟩=>by
    cases e with
    | exit id' =>
      simp only [qud] at hq
      simp only [Exit.inBlock]
      split
      · rename_i he;rw [if_pos he] at hq;exact ⟨hb,σ,hq,hs⟩
      · rename_i he;rw [if_neg he] at hq;exact ⟨hb,σ,hq,hs⟩
    | _=>exact ⟨hb,σ,hq,hs⟩) (h w0 A okA hb a W hs))
theorem qau {c:Operand} {x y:Code} {b:Bool} (hc:σ.ev c = .d (.bool b)) (ht:b = true→AW P x σ Q) (hf:b = false→AW P y σ Q):AW P (.cond c x y) σ Q:=fun w0 A okA hb a W hs=>by
  have:=qg5 hs c
  rw [hc] at this
  exact wp_cond_split (qfl this) (fun h=>ht h w0 A okA hb a W hs) (fun h=>hf h w0 A okA hb a W hs)
theorem qa2 {id:Nat} {l:List Oper} (h:AWL P l.toArray l σ Q):AW P (.region id l.toArray false) σ Q:=fun w0 A okA hb a W hs=>wp_region_lit (h w0 A okA hb a W hs)
def Weak (σ σ':St):Prop:=∀ w0 A okA hb a W,Sim w0 A okA hb σ a W→∃ hb',Sim w0 A okA hb' σ' a W
theorem Weak.trans {a b c:St} (h:Weak a b) (k:Weak b c):Weak a c:=fun w0 A okA hb x W hs=>by
  obtain ⟨hb',h1⟩:=h w0 A okA hb x W hs
  exact k w0 A okA hb' x W h1
theorem qa9 {c:Code} {σ':St} (h:Weak σ σ') (k:AW P c σ' Q):AW P c σ Q:=fun w0 A okA hb a W hs=>by
  obtain ⟨hb',h1⟩:=h w0 A okA hb a W hs
  exact k w0 A okA hb' a W h1
theorem qbn {l:List Oper} {σ':St} (h:Weak σ σ') (k:AWL P ops l σ' Q):AWL P ops l σ Q:=fun w0 A okA hb a W hs=>by
  obtain ⟨hb',h1⟩:=h w0 A okA hb a W hs
  exact k w0 A okA hb' a W h1
def RoundQ {ι:Type} (inv:ι→St) (μ:ι→Nat) (i:ι) (I:ι→Prop) (Q:Exit→St→Prop):Exit→St→Prop:=fun e σ=>match e with
  | .normal=>∃ j,I j∧μ j < μ i∧Weak σ (inv j)
  | e=>Q e σ
theorem qe1 {c:Code} {ι:Type} (inv:ι→St) (I:ι→Prop) (μ:ι→Nat) (i0:ι) (h0:I i0) (hw:Weak σ (inv i0)) (round:∀ i,I i→AW P c (inv i) (RoundQ inv μ i I Q)):AW P (.loop c) σ Q:=by
  intro w0 A okA hb a W hs b k cs
  have key:∀ n i,μ i = n→I i→∀ hb a W,Sim w0 A okA hb (inv i) a W →
      ∃ e a' w',lift w0 A okA Q e a' w'∧Arrives P (lone (b.at a (.code c :: .inLoop c :: k)) cs W) b k cs e a' w':=by
    intro n
    induction n using Nat.strongRecOn with
    | _ n ih =>
      intro i hn hI hb a W hs
      obtain ⟨e,a₁,w₁,⟨hb₁,σ₁,hq,hs₁⟩,harr⟩:=round i hI w0 A okA hb a W hs b (.inLoop c :: k) cs
      cases e with
      | normal =>
        obtain ⟨j,hj,hlt,hwk⟩:=hq
        obtain ⟨hb₂,hs₂⟩:=hwk w0 A okA hb₁ a₁ w₁ hs₁
        obtain ⟨e₂,a₂,w₂,hq₂,harr₂⟩:=ih (μ j) (hn ▸ hlt) j rfl hj hb₂ a₁ w₁ hs₂
        exact ⟨e₂,a₂,w₂,hq₂,.of_steps (Steps.trans harr (.one step_inLoop)) harr₂⟩
      | exit id=>exact ⟨_,a₁,w₁,⟨hb₁,σ₁,hq,hs₁⟩,.pass (x:=.inLoop c) rfl (fun _ _=>.inl (by simp)) harr⟩
      | goto l=>exact ⟨_,a₁,w₁,⟨hb₁,σ₁,hq,hs₁⟩,.pass (x:=.inLoop c) rfl (fun _ _=>.inl (by simp)) harr⟩
      | ret=>exact ⟨_,a₁,w₁,⟨hb₁,σ₁,hq,hs₁⟩,.pass (x:=.inLoop c) rfl (fun _ _=>.inl (by simp)) harr⟩
      | panic ch=>exact ⟨_,a₁,w₁,⟨hb₁,σ₁,hq,hs₁⟩,.pass (x:=.inLoop c) rfl (fun _ _=>.inl (by simp)) harr⟩
      | outgrown=>exact ⟨_,a₁,w₁,⟨hb₁,σ₁,hq,hs₁⟩,.pass (x:=.inLoop c) rfl (fun _ _=>.inl (by simp)) harr⟩
  obtain ⟨hb',hs'⟩:=hw w0 A okA hb a W hs
  obtain ⟨e,a',w',hq,harr⟩:=key _ i0 rfl h0 hb' a W hs'
  exact ⟨e,a',w',hq,.of_steps (.one step_loop) harr⟩
end
end Go.Proofs.Ytmllgpkgjniomaa.AWN

namespace Go.Proofs.Ytmllgpkgjniomaa.AWN
open Go
def mapO {α β:Type} (f:α→Option β):List α→Option (List β)
  | []=>some []
  | x :: r=>match f x,mapO f r with
    | some y,some s=>some (y :: s)
    | _,_=>none
theorem qjm {α β:Type} {f:α→Option β}:∀ {l:List α} {r:List β},mapO f l = some r→r.length = l.length∧∀ (i:Nat) (x:α),l[i]? = some x→∃ y:β,f x = some y∧r[i]? = some y
  | [],r,h=>by simp [mapO] at h;subst h;exact ⟨rfl,fun i x hx=>by simp at hx⟩
  | x :: l,r,h=>by
    unfold mapO at h
    split at h
    · rename_i y s hy hs
      simp only [Option.some.injEq] at h
      subst h
      obtain ⟨h1,h2⟩:=qjm hs
      refine ⟨by simp [h1],fun i z hz=>?_⟩
      cases i with
      | zero=>simp at hz;subst hz;exact ⟨y,hy,by simp⟩
      | succ i=>simp at hz;simpa using h2 i z hz
    · cases h
def exC (ρ:Nat→Option Nat) (H:Nat→AObj) (sn:Bool):V→Option V
  | .junk=>some .junk
  | .und=>some .und
  | .d x=>some (.d x)
  | .ptr j off=>match ρ j with
    | some i=>some (.ptr i off)
    | none=>match sn,H j with
      | true,.box cs=>match allD cs with
        | some ds=>some (.rop ds off)
        | none=>none
      | _,_=>none
  | .eptr j L i off=>match ρ j with
    | some k=>some (.eptr k L i off)
    | none=>none
  | .rop cs off=>some (.rop cs off)
  | .row j L off len=>match ρ j with
    | some i=>some (.row i L off len)
    | none=>match sn,H j with
      | true,.row _ es=>some (.d (.sl false ((es.drop off).take len)))
      | _,_=>none
  | .agg _=>none
  | .tup _=>none
  | .func f [] []=>some (.func f [] [])
  | .func _ _ _=>none
def exP (ρ:Nat→Option Nat) (H:Nat→AObj):V→Prop
  | .row j L off len=>match ρ j with
    | some _=>True
    | none=>match H j with
      | .row _ es=>es.length = L∧off + len ≤ L
      | _=>True
  | _=>True
def exPL (ρ:Nat→Option Nat) (H:Nat→AObj):List V→Prop
  | []=>True
  | [v]=>exP ρ H v
  | v :: r=>exP ρ H v∧exPL ρ H r
theorem qlh {ρ:Nat→Option Nat} {H:Nat→AObj}:∀ {l:List V},exPL ρ H l→∀ v ∈ l,exP ρ H v
  | [],_,v,hv=>by simp at hv
  | [x],h,v,hv=>by simp at hv;subst hv;exact h
  | x :: y :: r,h,v,hv=>by
    rcases List.mem_cons.1 hv with rfl | hv
    · exact h.1
    · exact qlh (l:=y :: r) h.2 v hv
def exA (ρ:Nat→Option Nat) (H:Nat→AObj) (sn:Bool):V→Option V
  | .agg cs=>match mapO (exC ρ H sn) cs with
    | some r=>some (.agg r)
    | none=>none
  | .func f a c=>match mapO (exC ρ H sn) a,mapO (exC ρ H sn) c with
    | some a',some c'=>some (.func f a' c')
    | _,_=>none
  | v=>exC ρ H sn v
def exAP (ρ:Nat→Option Nat) (H:Nat→AObj):V→Prop
  | .agg cs=>exPL ρ H cs
  | .func _ a c=>exPL ρ H a∧exPL ρ H c
  | v=>exP ρ H v
def quz (ρ:Nat→Option Nat) (H:Nat→AObj):List V→Prop
  | []=>True
  | [v]=>exAP ρ H v
  | v :: r=>exAP ρ H v∧quz ρ H r
theorem qq3 {ρ:Nat→Option Nat} {H:Nat→AObj}:∀ {l:List V},quz ρ H l→∀ v ∈ l,exAP ρ H v
  | [],_,v,hv=>by simp at hv
  | [x],h,v,hv=>by simp at hv;subst hv;exact h
  | x :: y :: r,h,v,hv=>by
    rcases List.mem_cons.1 hv with rfl | hv
    · exact h.1
    · exact qq3 (l:=y :: r) h.2 v hv
def exV (ρ:Nat→Option Nat) (H:Nat→AObj) (sn:Bool):V→Option V
  | .tup vs=>match mapO (exA ρ H sn) vs with
    | some r=>some (.tup r)
    | none=>none
  | v=>exA ρ H sn v
def exVP (ρ:Nat→Option Nat) (H:Nat→AObj):V→Prop
  | .tup vs=>quz ρ H vs
  | v=>exAP ρ H v
def exO (ρ:Nat→Option Nat) (H:Nat→AObj) (sn:Bool):AObj→Option AObj
  | .none=>none
  | .box cs=>match mapO (exC ρ H sn) cs with
    | some r=>some (.box r)
    | none=>none
  | .row sz es=>some (.row sz es)
def exOP (ρ:Nat→Option Nat) (H:Nat→AObj):AObj→Prop
  | .box cs=>exPL ρ H cs
  | _=>True
structure qnt (W:World) (ρ:Nat→Option Nat) (hb hb':Handle) (H H':Nat→AObj) (ok ok':Nat→Prop) (sn:Bool):Prop where
  good:∀ b,ok b→ok' b
  box:∀ j i cs,ρ j = some i→H j = .box cs→hb' i = hb j∧∃ cs',H' i = .box cs'
  row:∀ j i sz es,ρ j = some i→H j = .row sz es→hb' i = hb j∧H' i = .row sz es
  snap:sn = true→∀ j b,ρ j = none→H j ≠ .none→hb j = some b→ok' b
  obj:∀ j,qg6 W hb H ok j
section
variable {P:Program} {τ:Tab} {W:World} {ρ:Nat→Option Nat} {hb hb':Handle} {H H':Nat→AObj} {ok ok':Nat→Prop} {sn:Bool}
theorem qki (N:qnt W ρ hb hb' H H' ok ok' sn) {x y:V} {v:Value} (h:Rel W hb H ok x v) (he:exC ρ H sn x = some y) (hp:exP ρ H x):Rel W hb' H' ok' y v:=by
  have mD:Moves W W ok ok':=⟨N.good,fun _ _ _ _ h=>h⟩
  cases h with
  | junk v=>simp [exC] at he;subst he;exact .junk v
  | und=>simp [exC] at he;subst he;exact .und
  | d h=>simp [exC] at he;subst he;exact .d (h.mono mD)
  | agg=>simp [exC] at he
  | tup=>simp [exC] at he
  | rop vals h1 h2 h3 =>
    simp [exC] at he;subst he
    exact .rop vals (fun hne=>N.good _ (h1 hne)) h2 (fun c hc=>(h3 c hc).mono mD)
  | @func f first caps fa fc h1 h2 h3 h4 =>
    cases first with
    | cons x l=>simp [exC] at he
    | nil =>
      cases caps with
      | cons x l=>simp [exC] at he
      | nil =>
        simp only [exC,Option.some.injEq] at he;subst he
        exact .func h1 h2 (fun i hi=>by rw [← h1] at hi;simp at hi) (fun i hi=>by rw [← h2] at hi;simp at hi)
  | @ptr j b off cs h1 h2 =>
    simp only [exC] at he
    split at he
    · rename_i i hi
      simp only [Option.some.injEq] at he;subst he
      obtain ⟨e1,cs',e2⟩:=N.box _ _ _ hi h1
      exact .ptr e2 (e1.trans h2)
    · rename_i hi
      split at he
      · rename_i cs2 hj
        rw [h1] at hj;cases hj
        split at he
        · rename_i ds hds
          simp only [Option.some.injEq] at he;subst he
          have ho:=N.obj j
          unfold qg6 at ho
          rw [h1] at ho
          obtain ⟨b',vals,T,fr,g1,g2,g3,g4,g5,g6⟩:=ho
          have hbb:=Option.some.inj (g1.symm.trans h2)
          subst hbb
          have hcs:=qkf _ _ hds
          have hl:cs.length = ds.length:=by rw [hcs];simp
          have:=Rel.rop (W:=W) (hb:=hb') (H:=H') (ok:=ok') (cs:=ds) (b:=b') (o:=0) (off:=off) (fun c=>vals.getD c undef) (fun _=>N.snap rfl j b' hi (by rw [h1];simp) g1)
            (fun c hc=>by rw [cell_of_heap g2,Nat.zero_add];exact qf0 (by omega)) (fun c hc=>by
              have:=g6 c (by omega)
              rw [hcs] at this
              have e2:(ds.map V.d).getD c .junk = .d (ds.getD c .nilp):=by
                rw [List.getD_eq_getElem?_getD,List.getElem?_map,List.getElem?_eq_getElem hc,List.getD_eq_getElem?_getD,List.getElem?_eq_getElem hc];rfl
              rw [e2] at this
              cases this with | d this=>exact this.mono mD)
          simpa using this
        · cases he
      · cases he
  | @eptr j L i off b sz es h1 h2 h3 =>
    simp only [exC] at he
    split at he
    · rename_i k hk
      simp only [Option.some.injEq] at he;subst he
      obtain ⟨e1,e2⟩:=N.row _ _ _ _ hk h1
      exact .eptr e2 h2 (e1.trans h3)
    · cases he
  | @eptrStale j L i off sz es v h1 h2 h3 =>
    simp only [exC] at he
    split at he
    · rename_i k hk
      simp only [Option.some.injEq] at he;subst he
      obtain ⟨e1,e2⟩:=N.row _ _ _ _ hk h1
      exact .eptrStale _ e2 h2 h3
    · cases he
  | @row j L off len b sz cap bs es h1 h2 h3 h4 h5 h6 h7 h8 h9 =>
    simp only [exC] at he
    split at he
    · rename_i k hk
      simp only [Option.some.injEq] at he;subst he
      obtain ⟨e1,e2⟩:=N.row _ _ _ _ hk h1
      exact .row e2 h2 (e1.trans h3) h4 h5 h6 h7 h8 h9
    · rename_i hk
      split at he
      · rename_i sz' es' hj
        rw [h1] at hj;cases hj
        simp only [Option.some.injEq] at he;subst he
        have ho:=N.obj j
        unfold qg6 at ho
        rw [h1] at ho
        obtain ⟨g0,g⟩:=ho
        rcases g with ⟨g1,g2⟩ | ⟨b',vals,T,fr,g1,g2,g3,g4,g5⟩
        · rw [g2] at h3;cases h3
        · have hbb:=Option.some.inj (g1.symm.trans h3)
          subst hbb
          have hlen:((es.drop off).take len).length = len:=by simp;omega
          refine .d (.sl sz (fun i c=>vals.getD ((off + i) * sz + c) undef) (fun _=>N.snap rfl j b' hk (by rw [h1];simp) g1) hlen h6 (fun hf=>by cases hf) (by omega) (fun i hi=>?_) (fun i c hi hc=>?_) (fun i c hi hc=>?_))
          · rw [qey _ _ _ _ _ hi]
            have:off + i < es.length:=by omega
            rw [List.getD_eq_getElem?_getD,List.getElem?_eq_getElem this]
            exact g0 _ (List.getElem_mem this)
          · have hbd:(off + i + 1) * sz ≤ es.length * sz:=Nat.mul_le_mul_right _ (by omega)
            rw [Nat.add_mul (off + i),Nat.one_mul] at hbd
            rw [cell_of_heap g2,← Nat.add_assoc,← Nat.add_mul]
            exact qf0 (by omega)
          · rw [qey _ _ _ _ _ hi]
            exact (g5 (off + i) c (by omega) hc).mono mD
      · cases he
  | @rowEmpty j L off sz cap b o es h1 h2 h3 =>
    simp only [exC] at he
    split at he
    · rename_i k hk
      simp only [Option.some.injEq] at he;subst he
      obtain ⟨e1,e2⟩:=N.row _ _ _ _ hk h1
      exact .rowEmpty e2 h2 h3
    · split at he
      · simp only [Option.some.injEq] at he;subst he
        rw [List.take_zero]
        exact .d (.sl (len:=0) 0 (fun _ _=>undef) (fun h=>absurd rfl h) rfl (Nat.zero_le _) (fun hf=>by cases hf) (Nat.zero_le _) (fun i hi=>by omega) (fun i c hi=>by omega) (fun i c hi=>by omega))
      · cases he
  | @rowNil j sz h1 h2 =>
    simp only [exC] at he
    split at he
    · rename_i k hk
      simp only [Option.some.injEq] at he;subst he
      obtain ⟨e1,e2⟩:=N.row _ _ _ _ hk h1
      exact .rowNil e2 (e1.trans h2)
    · split at he
      · simp only [Option.some.injEq] at he;subst he
        rw [List.take_zero]
        exact .d (.slnil false)
      · cases he
  | @rowStale j L off len sz es v h1 h2 h3 =>
    simp only [exC] at he
    split at he
    · rename_i k hk
      simp only [Option.some.injEq] at he;subst he
      obtain ⟨e1,e2⟩:=N.row _ _ _ _ hk h1
      exact .rowStale _ e2 h2 h3
    · rename_i hk
      simp only [exP,hk,h1] at hp
      omega
theorem qji (N:qnt W ρ hb hb' H H' ok ok' sn) {f:V→Option V} {pr:V→Prop} (hf:∀ {x y:V} {v:Value},Rel W hb H ok x v→f x = some y→pr x→Rel W hb' H' ok' y v) {cs ds:List V} {c:Array Value} (h:RelL W hb H ok cs c) (he:mapO f cs = some ds) (hp:∀ v ∈ cs,pr v):RelL W hb' H' ok' ds c:=by
  obtain ⟨h1,h2⟩:=qjm he
  refine ⟨by rw [h1,h.1],fun i hi=>?_⟩
  have hl:i < cs.length:=by rw [h.1];exact hi
  obtain ⟨y,e1,e2⟩:=h2 i cs[i] (List.getElem?_eq_getElem hl)
  have hr:=h.2 i hi
  rw [List.getD_eq_getElem?_getD,List.getElem?_eq_getElem hl] at hr
  rw [getD_some e2]
  exact hf hr e1 (hp _ (List.getElem_mem hl))
theorem qq4 (N:qnt W ρ hb hb' H H' ok ok' sn) {x y:V} {v:Value} (h:Rel W hb H ok x v) (he:exA ρ H sn x = some y) (hp:exAP ρ H x):Rel W hb' H' ok' y v:=by
  unfold exA at he
  split at he
  · split at he
    · rename_i r hr
      simp only [Option.some.injEq] at he;subst he
      cases h with
      | agg e1 e2 =>
        obtain ⟨q1,q2⟩:=qji N (fun a b c=>qki N a b c) ⟨e1,e2⟩ hr (qlh hp)
        exact .agg q1 q2
    · cases he
  · split at he
    · rename_i a' c' ha hc
      simp only [Option.some.injEq] at he;subst he
      cases h with
      | func e1 e2 e3 e4 =>
        obtain ⟨q1,q2⟩:=qji N (fun a b c=>qki N a b c) ⟨e1,e3⟩ ha (qlh hp.1)
        obtain ⟨q3,q4⟩:=qji N (fun a b c=>qki N a b c) ⟨e2,e4⟩ hc (qlh hp.2)
        exact .func q1 q3 q2 q4
    · cases he
  · rename_i h1 h2
    refine qki N h he ?_
    cases x <;> first | exact hp | (exfalso;exact h1 _ rfl) | (exfalso;exact h2 _ _ _ rfl)
theorem qli (N:qnt W ρ hb hb' H H' ok ok' sn) {x y:V} {v:Value} (h:Rel W hb H ok x v) (he:exV ρ H sn x = some y) (hp:exVP ρ H x):Rel W hb' H' ok' y v:=by
  unfold exV at he
  split at he
  · split at he
    · rename_i r hr
      simp only [Option.some.injEq] at he;subst he
      cases h with
      | tup e1 e2 =>
        obtain ⟨q1,q2⟩:=qji N (fun a b c=>qq4 N a b c) ⟨e1,e2⟩ hr (qq3 hp)
        exact .tup q1 q2
    · cases he
  · rename_i h1
    refine qq4 N h he ?_
    cases x <;> first | exact hp | (exfalso;exact h1 _ rfl)
theorem qmx (N:qnt W ρ hb hb' H H' ok ok' sn) {j i:Nat} {o:AObj} (hji:ρ j = some i) (ho:exO ρ H sn (H j) = some o) (hp:exOP ρ H (H j)) (hH:H' i = o) (hh:hb' i = hb j):qg6 W hb' H' ok' i:=by
  have hobj:=N.obj j
  have mD:Moves W W ok ok':=⟨N.good,fun _ _ _ _ h=>h⟩
  unfold qg6 at *
  rw [hH]
  cases hj:H j with
  | none=>rw [hj] at ho;simp [exO] at ho
  | box cs =>
    rw [hj] at ho hobj hp
    simp only [exO] at ho
    split at ho
    · rename_i r hr
      simp only [Option.some.injEq] at ho;subst ho
      obtain ⟨b,vals,T,fr,h1,h2,h3,h4,h5,h6⟩:=hobj
      obtain ⟨q1,q2⟩:=qji N (fun a b c=>qki N a b c) ⟨h3.symm,h6⟩ hr (qlh hp)
      exact ⟨b,vals,T,fr,hh.trans h1,h2,q1.symm,h4,trivial,q2⟩
    · cases ho
  | row sz es =>
    rw [hj] at ho hobj
    simp only [exO,Option.some.injEq] at ho;subst ho
    obtain ⟨h0,h⟩:=hobj
    refine ⟨h0,?_⟩
    rcases h with ⟨e1,e2⟩ | ⟨b,vals,T,fr,h1,h2,h3,h4,h5⟩
    · exact .inl ⟨e1,hh.trans e2⟩
    · exact .inr ⟨b,vals,T,fr,hh.trans h1,h2,h3,h4,fun i k hi hk=>(h5 i k hi hk).mono mD⟩
end
/-! ### A call's contract -/
def qat (objs:List AObj):Nat→AObj:=fun j=>objs.getD j .none
def noOk:Nat→Prop:=fun _=>False
def qb5 (P:Program) (fr:Bool) (k:FuncId) (args:List V) (objs:List AObj) (R:V→List AObj→List AObj→Prop):Prop :=
  ∀ (W:World) (A:Args) (hb:Handle) (okA:Nat→Prop) (vals:Array Value),A.H0 = qat objs→A.hb0 = hb →
    HSim W A okA hb (qat objs) objs.length W→RelL W hb (qat objs) (okF W okA hb (qat objs) W) args vals →
    Calls P k vals W (fun e W'=>∃ v r objs' new hb',e = .returned v∧R r objs' new∧objs'.length = objs.length ∧
      HSim W A (if fr then noOk else okA) hb' (qat (objs' ++ new)) (objs' ++ new).length W'∧RelS W (if fr then noOk else okA) hb' (qat (objs' ++ new)) W' r v)
end Go.Proofs.Ytmllgpkgjniomaa.AWN

namespace Go.Proofs.Ytmllgpkgjniomaa.AWN
open Go
def qet:List Nat→Nat→Option Nat
  | [],_=>none
  | x :: r,j=>bif Nat.beq x j then some 0 else match qet r j with
    | some i=>some (i + 1)
    | none=>none
def updL {α:Type} (f:Nat→α):List Nat→List α→(Nat→α)
  | j :: js,x :: xs=>updL (upd f j x) js xs
  | _,_=>f
def renC (nm:List Nat):V→V
  | .ptr j off=>.ptr (nm.getD j 0) off
  | .eptr j L i off=>.eptr (nm.getD j 0) L i off
  | .row j L off len=>.row (nm.getD j 0) L off len
  | .func f [] []=>.func f [] []
  | .func _ _ _=>.junk
  | .agg _=>.junk
  | .tup _=>.junk
  | v=>v
def renA (nm:List Nat):V→V
  | .agg cs=>.agg (cs.map (renC nm))
  | v=>renC nm v
def renV (nm:List Nat):V→V
  | .tup vs=>.tup (vs.map (renA nm))
  | v=>renA nm v
def renO (nm:List Nat):AObj→AObj
  | .box cs=>.box (cs.map (renC nm))
  | o=>o
def St.names (σ:St) (js:List Nat) (k:Nat):List Nat:=js ++ List.range' σ.next k
def St.after (σ:St) (js:List Nat) (objs' new:List AObj):St :=
  { σ with heap:=updL σ.heap (σ.names js new.length) ((objs' ++ new).map (renO (σ.names js new.length))),next:=σ.next + new.length }
theorem qh2:∀ {js:List Nat} {j i:Nat},qet js j = some i→js[i]? = some j
  | [],j,i,h=>by simp [qet] at h
  | x :: r,j,i,h=>by
    unfold qet at h
    cases hb:Nat.beq x j with
    | true =>
      rw [hb] at h
      simp only [cond_true,Option.some.injEq] at h
      subst h
      simp [Nat.eq_of_beq_eq_true hb]
    | false =>
      rw [hb] at h
      simp only [cond_false] at h
      split at h
      · rename_i k hk
        simp only [Option.some.injEq] at h
        subst h
        simpa using qh2 hk
      · cases h
theorem qit:∀ {js:List Nat} {j:Nat},qet js j = none→j ∉ js
  | [],j,h=>by simp
  | x :: r,j,h=>by
    unfold qet at h
    cases hb:Nat.beq x j with
    | true=>rw [hb] at h;cases h
    | false =>
      rw [hb] at h
      simp only [cond_false] at h
      split at h
      · cases h
      · rename_i hk
        intro hm
        rcases List.mem_cons.1 hm with rfl | hm
        · simp at hb
        · exact qit hk hm
theorem qmo {α:Type}:∀ (js:List Nat) (xs:List α) (f:Nat→α) (j:Nat),j ∉ js→updL f js xs j = f j
  | [],xs,f,j,h=>by cases xs <;> rfl
  | k :: js,[],f,j,h=>rfl
  | k :: js,x :: xs,f,j,h=>by
    simp only [List.mem_cons,not_or] at h
    rw [updL,qmo js xs _ j h.2,upd_ne _ _ h.1]
theorem qri {α:Type}:∀ (js:List Nat) (xs:List α) (f:Nat→α) (i j:Nat) (x:α),js.Nodup→js[i]? = some j→xs[i]? = some x→updL f js xs j = x
  | [],xs,f,i,j,x,_,h,_=>by simp at h
  | k :: js,[],f,i,j,x,_,_,h=>by simp at h
  | k :: js,y :: xs,f,0,j,x,hn,h1,h2=>by
    simp at h1 h2;subst h1;subst h2
    rw [updL,qmo js xs _ k (List.nodup_cons.1 hn).1,upd_same]
  | k :: js,y :: xs,f,i + 1,j,x,hn,h1,h2=>by
    simp at h1 h2
    rw [updL]
    exact qri js xs _ i j x (List.nodup_cons.1 hn).2 h1 h2
section
variable {P:Program} {τ:Tab} {W:World} {hb hb':Handle} {H H':Nat→AObj} {ok ok':Nat→Prop} {nm:List Nat}
structure Back (nm:List Nat) (hb hb':Handle) (H H':Nat→AObj) (ok ok':Nat→Prop):Prop where
  good:∀ b,ok b→ok' b
  obj:∀ j,H j ≠ .none→H' (nm.getD j 0) = renO nm (H j)∧hb' (nm.getD j 0) = hb j
theorem qm7 (N:Back nm hb hb' H H' ok ok') {x:V} {v:Value} (h:Rel W hb H ok x v):Rel W hb' H' ok' (renC nm x) v:=by
  have mD:Moves W W ok ok':=⟨N.good,fun _ _ _ _ h=>h⟩
  have hrow:∀ {j sz es},H j = .row sz es→H' (nm.getD j 0) = .row sz es∧hb' (nm.getD j 0) = hb j:=fun {j sz es} hj=>by
    obtain ⟨e1,e2⟩:=N.obj j (by rw [hj];simp)
    rw [hj] at e1;exact ⟨e1,e2⟩
  cases h with
  | junk v=>exact .junk v
  | und=>exact .und
  | d h=>exact .d (h.mono mD)
  | agg=>exact .junk _
  | tup=>exact .junk _
  | ptr h1 h2 =>
    obtain ⟨e1,e2⟩:=N.obj _ (by rw [h1];simp)
    rw [h1] at e1
    exact .ptr e1 (e2.trans h2)
  | eptr h1 h2 h3=>exact .eptr (hrow h1).1 h2 ((hrow h1).2.trans h3)
  | eptrStale v h1 h2 h3=>exact .eptrStale _ (hrow h1).1 h2 h3
  | rop vals h1 h2 h3=>exact .rop vals (fun hne=>N.good _ (h1 hne)) h2 (fun c hc=>(h3 c hc).mono mD)
  | row h1 h2 h3 h4 h5 h6 h7 h8 h9=>exact .row (hrow h1).1 h2 ((hrow h1).2.trans h3) h4 h5 h6 h7 h8 h9
  | rowEmpty h1 h2 h3=>exact .rowEmpty (hrow h1).1 h2 h3
  | rowNil h1 h2=>exact .rowNil (hrow h1).1 ((hrow h1).2.trans h2)
  | rowStale v h1 h2 h3=>exact .rowStale _ (hrow h1).1 h2 h3
  | @func f first caps fa fc h1 h2 h3 h4 =>
    cases first with
    | cons x l=>exact .junk _
    | nil =>
      cases caps with
      | cons x l=>exact .junk _
      | nil=>exact .func h1 h2 (fun i hi=>by rw [← h1] at hi;simp at hi) (fun i hi=>by rw [← h2] at hi;simp at hi)
theorem qpl {f:V→V} (hf:∀ {x:V} {v:Value},Rel W hb H ok x v→Rel W hb' H' ok' (f x) v) {cs:List V} {c:Array Value} (h:RelL W hb H ok cs c):RelL W hb' H' ok' (cs.map f) c:=by
  refine ⟨by simpa using h.1,fun i hi=>?_⟩
  have hl:i < cs.length:=by rw [h.1];exact hi
  have:=h.2 i hi
  rw [List.getD_eq_getElem?_getD,List.getElem?_eq_getElem hl] at this
  rw [List.getD_eq_getElem?_getD,List.getElem?_map,List.getElem?_eq_getElem hl]
  exact hf this
theorem qop (N:Back nm hb hb' H H' ok ok') {x:V} {v:Value} (h:Rel W hb H ok x v):Rel W hb' H' ok' (renA nm x) v:=by
  unfold renA
  split
  · cases h with
    | agg e1 e2 =>
      obtain ⟨q1,q2⟩:=qpl (fun h=>qm7 N h) ⟨e1,e2⟩
      exact .agg q1 q2
  · exact qm7 N h
theorem qoq (N:Back nm hb hb' H H' ok ok') {x:V} {v:Value} (h:Rel W hb H ok x v):Rel W hb' H' ok' (renV nm x) v:=by
  unfold renV
  split
  · cases h with
    | tup e1 e2 =>
      obtain ⟨q1,q2⟩:=qpl (fun h=>qop N h) ⟨e1,e2⟩
      exact .tup q1 q2
  · exact qop N h
end
def qlv (P:Program) (k:FuncId):Prop:=∀ vals w,(callFunc k vals).run P w = .ok (.enter k vals) w
theorem qap {P:Program} {k:FuncId} {fn:Func} (hf:P.funcs[k]? = some fn) (hn:(fn.name == "runtime.NumGoroutine") = false) (hb:fn.body.isNone = false):qlv P k:=fun vals w=>by
  simp only [callFunc,Sem.run_bind,run_program,Result.andThen_ok,hf,hn,hb,Bool.false_eq_true,if_false,Sem.run_pure]
section
variable {P:Program} {τ:Tab} {w0:World} {A:Args} {okA:Nat→Prop} {hb:Handle} {W:World} {σ:St} {a:Act} {Q:Exit→St→Prop} {ops:Array Oper} {rest:List Oper} {o:Oper}
theorem qt2 (h:HSim w0 A okA hb σ.heap σ.next W) {fr:Bool} {js:List Nat} {objs:List AObj} (hnd:js.Nodup) (hobjs:mapO (fun j=>exO (qet js) σ.heap fr (σ.heap j)) js = some objs) (hpo:∀ j ∈ js,exOP (qet js) σ.heap (σ.heap j)) :
    let hbc:Handle:=fun i=>match js[i]? with
      | some j=>hb j
      | none=>none
    let okc:Nat→Prop:=fun b=>b < W.heap.size∧(okF w0 okA hb σ.heap W b ∨ (fr = true∧∃ j,σ.heap j ≠ .none∧j ∉ js∧hb j = some b))
    let Ac:Args:=⟨qat objs,hbc⟩
    HSim W Ac okc hbc (qat objs) objs.length W∧qnt W (qet js) hb hbc σ.heap (qat objs) (okF w0 okA hb σ.heap W) (okF W okc hbc (qat objs) W) fr∧(∀ j ∈ js,σ.heap j ≠ .none):=by
  intro hbc okc Ac
  obtain ⟨m1,m2⟩:=qjm hobjs
  have hlive:∀ j ∈ js,σ.heap j ≠ .none:=by
    intro j hj e
    obtain ⟨i,hi,ei⟩:=List.getElem_of_mem hj
    obtain ⟨y,e1,_⟩:=m2 i js[i] (List.getElem?_eq_getElem hi)
    rw [ei,e] at e1;simp [exO] at e1
  have hobj:∀ i j,js[i]? = some j→∃ y,exO (qet js) σ.heap fr (σ.heap j) = some y∧qat objs i = y:=by
    intro i j hij
    obtain ⟨y,e1,e2⟩:=m2 i j hij
    exact ⟨y,e1,by unfold qat;exact getD_some e2 _⟩
  have hbj:∀ i j,js[i]? = some j→hbc i = hb j:=by intro i j hij;show (match js[i]? with | some j=>hb j | none=>none) = _;rw [hij]
  have hnone:∀ i,js.length ≤ i→qat objs i = .none:=by
    intro i hi
    unfold qat
    rw [List.getD_eq_getElem?_getD,List.getElem?_eq_none (by omega)];rfl
  have hin:∀ i,qat objs i ≠ .none→∃ j,js[i]? = some j:=by
    intro i hi
    rcases Nat.lt_or_ge i js.length with hl | hl
    · exact ⟨js[i],List.getElem?_eq_getElem hl⟩
    · exact absurd (hnone i hl) hi
  have N:qnt W (qet js) hb hbc σ.heap (qat objs) (okF w0 okA hb σ.heap W) (okF W okc hbc (qat objs) W) fr:=by
    refine ⟨fun b hb'=>⟨hb'.1,.inl ⟨hb'.1,.inl hb'⟩,fun i hi e=>?_⟩,fun j i cs hj hcs=>?_,fun j i sz es hj hes=>?_,fun hfr j b hj hne hbjj=>?_,h.obj⟩
    · obtain ⟨j,hij⟩:=hin i hi
      rw [hbj i j hij] at e
      exact hb'.2.2 j (hlive j (List.mem_of_getElem? hij)) e
    · have hij:=qh2 hj
      obtain ⟨y,e1,e2⟩:=hobj i j hij
      refine ⟨hbj i j hij,?_⟩
      rw [hcs] at e1
      simp only [exO] at e1
      split at e1
      · simp only [Option.some.injEq] at e1;subst e1;exact ⟨_,e2⟩
      · cases e1
    · have hij:=qh2 hj
      obtain ⟨y,e1,e2⟩:=hobj i j hij
      refine ⟨hbj i j hij,?_⟩
      rw [hes] at e1
      simp only [exO,Option.some.injEq] at e1
      rw [e2,← e1]
    · have hnm:=qit hj
      have hlt:=(h.hnd j b hne hbjj).1
      refine ⟨hlt,.inl ⟨hlt,.inr ⟨hfr,j,hne,hnm,hbjj⟩⟩,fun i hi e=>?_⟩
      obtain ⟨j',hij⟩:=hin i hi
      rw [hbj i j' hij] at e
      have:=h.inj j j' b hne (hlive j' (List.mem_of_getElem? hij)) hbjj e
      subst this
      exact hnm (List.mem_of_getElem? hij)
  refine ⟨{ obj:=fun i=>?_,inj:=fun i k b hi hk hbi hbk=>?_,hnd:=fun i b hi hbi=>?_,fresh:=fun i hi=>hnone i (by omega),ext:=Ext.refl _ _,keep:=qjp.refl _ _ _,lay:=fun g vs hg=>?_ },N,hlive⟩
  · by_cases hi:qat objs i = .none
    · unfold qg6;rw [hi];trivial
    · obtain ⟨j,hij⟩:=hin i hi
      obtain ⟨y,e1,e2⟩:=hobj i j hij
      have hix:qet js j = some i:=by
        cases hx:qet js j with
        | none=>exact absurd (List.mem_of_getElem? hij) (qit hx)
        | some i' =>
          have h1:=qh2 hx
          have hl1:i' < js.length:=(List.getElem?_eq_some_iff.1 h1).1
          have hl2:i < js.length:=(List.getElem?_eq_some_iff.1 hij).1
          have:=(List.getElem_inj (h₀:=hl1) (h₁:=hl2) hnd).1 (by rw [List.getElem?_eq_getElem hl1] at h1;rw [List.getElem?_eq_getElem hl2] at hij;rw [Option.some.inj h1,Option.some.inj hij])
          rw [this]
      exact qmx N hix e1 (hpo j (List.mem_of_getElem? hij)) e2 (hbj i j hij)
  · obtain ⟨j,hij⟩:=hin i hi
    obtain ⟨j',hkj⟩:=hin k hk
    rw [hbj i j hij] at hbi
    rw [hbj k j' hkj] at hbk
    have:=h.inj j j' b (hlive j (List.mem_of_getElem? hij)) (hlive j' (List.mem_of_getElem? hkj)) hbi hbk
    subst this
    have hl1:i < js.length:=(List.getElem?_eq_some_iff.1 hij).1
    have hl2:k < js.length:=(List.getElem?_eq_some_iff.1 hkj).1
    exact (List.getElem_inj (h₀:=hl1) (h₁:=hl2) hnd).1 (by rw [List.getElem?_eq_getElem hl1] at hij;rw [List.getElem?_eq_getElem hl2] at hkj;rw [Option.some.inj hij,Option.some.inj hkj])
  · obtain ⟨j,hij⟩:=hin i hi
    rw [hbj i j hij] at hbi
    exact ⟨(h.hnd j b (hlive j (List.mem_of_getElem? hij)) hbi).1,.inl ⟨hi,by show hbc i = some b;rw [hbj i j hij];exact hbi⟩⟩
  · obtain ⟨⟨T,fr',h1⟩,h2⟩:=h.lay g vs hg
    have hlt:g < w0.heap.size:=(Array.getElem?_eq_some_iff.1 h1).1
    refine ⟨⟨T,fr',by rw [h.ext.kept g hlt h2];exact h1⟩,fun ⟨i,hi,hbi⟩=>?_⟩
    obtain ⟨j,hij⟩:=hin i hi
    have hbi':hbc i = some g:=hbi
    rw [hbj i j hij] at hbi'
    rcases (h.hnd j g (hlive j (List.mem_of_getElem? hij)) hbi').2 with h3 | h3
    · exact h2 ⟨j,h3⟩
    · omega
end
end Go.Proofs.Ytmllgpkgjniomaa.AWN

namespace Go.Proofs.Ytmllgpkgjniomaa.AWN
open Go
section
variable {P:Program} {τ:Tab} {w0:World} {A:Args} {okA:Nat→Prop} {hb:Handle} {W W':World} {σ:St} {a:Act} {Q:Exit→St→Prop} {ops:Array Oper} {rest:List Oper} {o:Oper}
theorem qk1 {js:List Nat} (h:js.Nodup) {i k j:Nat} (h1:js[i]? = some j) (h2:js[k]? = some j):i = k:=by
  have hl1:i < js.length:=(List.getElem?_eq_some_iff.1 h1).1
  have hl2:k < js.length:=(List.getElem?_eq_some_iff.1 h2).1
  rw [List.getElem?_eq_getElem hl1] at h1
  rw [List.getElem?_eq_getElem hl2] at h2
  exact (List.getElem_inj (h₀:=hl1) (h₁:=hl2) h).1 (by rw [Option.some.inj h1,Option.some.inj h2])
def handles (hb':Handle) (m:Nat):List (Option Nat):=(List.range m).map hb'
theorem qrr (h:HSim w0 A okA hb σ.heap σ.next W) {fr:Bool} {js:List Nat} {objs objs' new:List AObj} (hnd:js.Nodup) (hlive:∀ j ∈ js,σ.heap j ≠ .none)
    {hbc hb':Handle} (hbj:∀ i j,js[i]? = some j→hbc i = hb j) (hol:objs.length = js.length) {okc:Nat→Prop}
    (hokc:∀ b,fr = false→okc b→okF w0 okA hb σ.heap W b) {Ac:Args} (hH0:Ac.H0 = qat objs) (hhb0:Ac.hb0 = hbc)
    (hbox:∀ i j cs,js[i]? = some j→σ.heap j = .box cs→∃ cs',qat objs i = .box cs') (hrow:∀ i j sz es,js[i]? = some j→σ.heap j = .row sz es→qat objs i = .row sz es)
    (hl:objs'.length = objs.length) (h':HSim W Ac (if fr then noOk else okc) hb' (qat (objs' ++ new)) (objs' ++ new).length W') :
    ∃ hb'',Sim w0 A okA hb σ a W→Sim w0 A okA hb'' (σ.after js objs' new) a W'∧Back (σ.names js new.length) hb' hb'' (qat (objs' ++ new)) (σ.after js objs' new).heap (okF W (if fr then noOk else okc) hb' (qat (objs' ++ new)) W') (okF w0 okA hb'' (σ.after js objs' new).heap W'):=by
  have hlt:∀ j ∈ js,j < σ.next:=fun j hj=>by
    rcases Nat.lt_or_ge j σ.next with h1 | h1
    · exact h1
    · exact absurd (h.fresh j h1) (hlive j hj)
  let nm:=σ.names js new.length
  have hnmd:nm = js ++ List.range' σ.next new.length:=rfl
  have hnn:nm.Nodup:=by
    rw [hnmd]
    refine List.nodup_append.2 ⟨hnd,List.nodup_range',fun x hx y hy=>?_⟩
    have:=hlt x hx
    simp [List.mem_range'_1] at hy
    omega
  have hnl:nm.length = (objs' ++ new).length:=by rw [hnmd];simp;omega
  let H'':=(σ.after js objs' new).heap
  have hH'':H'' = updL σ.heap nm ((objs' ++ new).map (renO nm)):=rfl
  let hb'':Handle:=updL hb nm (handles hb' (objs' ++ new).length)
  have hin:∀ i j,nm[i]? = some j→H'' j = renO nm (qat (objs' ++ new) i)∧hb'' j = hb' i:=by
    intro i j hij
    have hil:i < nm.length:=(List.getElem?_eq_some_iff.1 hij).1
    have hil':i < (objs' ++ new).length:=by omega
    refine ⟨?_,?_⟩
    · refine qri _ _ _ i j _ hnn hij ?_
      rw [List.getElem?_map,List.getElem?_eq_getElem hil']
      unfold qat
      rw [List.getD_eq_getElem?_getD,List.getElem?_eq_getElem hil'];rfl
    · refine qri _ _ _ i j _ hnn hij ?_
      unfold handles
      rw [List.getElem?_map,List.getElem?_range hil'];rfl
  have hout:∀ j,j ∉ nm→H'' j = σ.heap j∧hb'' j = hb j:=fun j hj=>⟨qmo _ _ _ _ hj,qmo _ _ _ _ hj⟩
  have hren:∀ x,renO nm x ≠ .none→x ≠ .none:=fun x hx e=>by subst e;exact hx rfl
  have hsz:W.heap.size ≤ W'.heap.size:=h'.ext.size
  have hobjs:∀ i,qat objs i ≠ .none→∃ j,js[i]? = some j:=fun i hi=>by
    rcases Nat.lt_or_ge i js.length with h1 | h1
    · exact ⟨js[i],List.getElem?_eq_getElem h1⟩
    · refine absurd ?_ hi
      unfold qat
      rw [List.getD_eq_getElem?_getD,List.getElem?_eq_none (by omega)];rfl
  have hblk:∀ b,Ac.blk b→∃ j,j ∈ js∧hb j = some b:=fun b ⟨i,h1,h2⟩=>by
    rw [hH0] at h1
    obtain ⟨j,hij⟩:=hobjs i h1
    rw [hhb0,hbj i j hij] at h2
    exact ⟨j,List.mem_of_getElem? hij,h2⟩
  -- a handle of the callee's: one that was passed,or new
  have hc0:∀ i b,qat (objs' ++ new) i ≠ .none→hb' i = some b→b < W'.heap.size∧((∃ j,js[i]? = some j∧hb j = some b) ∨ W.heap.size ≤ b):=fun i b hi hbi=>by
    obtain ⟨h1,h2⟩:=h'.hnd i b hi hbi
    refine ⟨h1,h2.imp (fun ⟨h3,h4⟩=>?_) id⟩
    rw [hH0] at h3
    obtain ⟨j,hij⟩:=hobjs i h3
    rw [hhb0,hbj i j hij] at h4
    exact ⟨j,hij,h4⟩
  have hc':∀ i b,qat (objs' ++ new) i ≠ .none→hb' i = some b→b < W'.heap.size∧((∃ j,j ∈ js∧hb j = some b) ∨ W.heap.size ≤ b):=fun i b hi hbi=>by
    obtain ⟨h1,h2⟩:=hc0 i b hi hbi
    exact ⟨h1,h2.imp (fun ⟨j,h3,h4⟩=>⟨j,List.mem_of_getElem? h3,h4⟩) id⟩
  have hmem:∀ j,j ∈ nm→∃ i,nm[i]? = some j:=fun j hj=>by
    obtain ⟨i,hi,e⟩:=List.getElem_of_mem hj
    exact ⟨i,by rw [List.getElem?_eq_getElem hi,e]⟩
  have hjs_nm:∀ i j,js[i]? = some j→nm[i]? = some j:=fun i j hij=>by
    rw [hnmd,List.getElem?_append_left (List.getElem?_eq_some_iff.1 hij).1];exact hij
  -- what does not lie in a passed block is as it was
  have hblock:∀ b,b < W.heap.size→(¬ ∃ j,j ∈ js∧hb j = some b)→W'.heap[b]? = W.heap[b]?:=fun b hb1 hb2=>h'.ext.kept b hb1 (fun hh=>hb2 (hblk b hh))
  have mv:qgm W W' hb hb'' σ.heap H'' (okF w0 okA hb σ.heap W) (okF w0 okA hb'' H'' W'):=by
    refine { good:=?_,cell:=?_,box:=?_,row:=?_ }
    · intro b ⟨h1,h2,h3⟩
      refine ⟨by omega,h2,fun j hj hjb=>?_⟩
      by_cases hjn:j ∈ nm
      · obtain ⟨i,hij⟩:=hmem j hjn
        obtain ⟨e1,e2⟩:=hin i j hij
        rw [e1] at hj
        rw [e2] at hjb
        rcases (hc' i b (hren _ hj) hjb).2 with ⟨j',hj',hb'⟩ | hge
        · exact h3 j' (hlive j' hj') hb'
        · omega
      · obtain ⟨e1,e2⟩:=hout j hjn
        rw [e1] at hj
        rw [e2] at hjb
        exact h3 j hj hjb
    · intro b i v ⟨h1,h2,h3⟩ hcell
      have:=hblock b h1 (fun ⟨j,hj,e⟩=>h3 j (hlive j hj) e)
      unfold World.cell? at *
      rw [this];exact hcell
    · intro j cs hj
      by_cases hjs:j ∈ js
      · obtain ⟨i,hi,e⟩:=List.getElem_of_mem hjs
        have hij:js[i]? = some j:=by rw [List.getElem?_eq_getElem hi,e]
        obtain ⟨cs',e1⟩:=hbox i j cs hij hj
        obtain ⟨cs'',e2,e3⟩:=h'.keep.box i cs' (by rw [hH0];exact e1)
        obtain ⟨q1,q2⟩:=hin i j (hjs_nm i j hij)
        exact ⟨_,by rw [q1,e2];rfl,by rw [q2,e3,hhb0,hbj i j hij]⟩
      · have hjn:j ∉ nm:=by
          rw [hnmd]
          intro hm
          rcases List.mem_append.1 hm with hm | hm
          · exact hjs hm
          · simp [List.mem_range'_1] at hm
            have:=h.fresh j hm.1
            rw [hj] at this;cases this
        obtain ⟨q1,q2⟩:=hout j hjn
        exact ⟨cs,by rw [q1];exact hj,q2⟩
    · intro j sz es hj
      by_cases hjs:j ∈ js
      · obtain ⟨i,hi,e⟩:=List.getElem_of_mem hjs
        have hij:js[i]? = some j:=by rw [List.getElem?_eq_getElem hi,e]
        have e1:=hrow i j sz es hij hj
        obtain ⟨es',e2,e3,e4⟩:=h'.keep.row i sz es (by rw [hH0];exact e1)
        obtain ⟨q1,q2⟩:=hin i j (hjs_nm i j hij)
        refine ⟨es',by rw [q1,e2];rfl,e3,fun hll=>?_⟩
        obtain ⟨g1,g2⟩:=e4 hll
        rw [hhb0,hbj i j hij] at g1
        refine ⟨by rw [q2,g1],fun b bs hbb hs=>?_⟩
        exact g2 b bs (by rw [hhb0,hbj i j hij];exact hbb) hs
      · have hjn:j ∉ nm:=by
          rw [hnmd]
          intro hm
          rcases List.mem_append.1 hm with hm | hm
          · exact hjs hm
          · simp [List.mem_range'_1] at hm
            have:=h.fresh j hm.1
            rw [hj] at this;cases this
        obtain ⟨q1,q2⟩:=hout j hjn
        refine ⟨es,by rw [q1];exact hj,Nat.le_refl _,fun _=>⟨q2,fun b bs hbb hs=>?_⟩⟩
        have hlt':=(h.hnd j b (by rw [hj];simp) hbb).1
        have:=hblock b hlt' (fun ⟨j',hj',e⟩=>by
          have:=h.inj j j' b (by rw [hj];simp) (hlive j' hj') hbb e
          subst this;exact hjs hj')
        unfold World.shape? at *
        rw [this];exact hs
  have bk:Back nm hb' hb'' (qat (objs' ++ new)) H'' (okF W (if fr then noOk else okc) hb' (qat (objs' ++ new)) W') (okF w0 okA hb'' H'' W'):=by
    refine ⟨fun b ⟨h1,h2,h3⟩=>?_,fun j hj=>?_⟩
    · have hcase:W.heap.size ≤ b ∨ okF w0 okA hb σ.heap W b:=by
        rcases h2 with h2 | h2
        · cases fr with
          | true=>exact h2.elim
          | false=>exact .inr (hokc b rfl h2)
        · exact .inl h2
      refine ⟨h1,?_,fun j hj hjb=>?_⟩
      · rcases hcase with hc | hc
        · exact .inr (Nat.le_trans h.ext.size hc)
        · exact hc.2.1
      · by_cases hjn:j ∈ nm
        · obtain ⟨i,hij⟩:=hmem j hjn
          obtain ⟨e1,e2⟩:=hin i j hij
          rw [e1] at hj
          rw [e2] at hjb
          exact h3 i (hren _ hj) hjb
        · obtain ⟨e1,e2⟩:=hout j hjn
          rw [e1] at hj
          rw [e2] at hjb
          rcases hcase with hc | hc
          · have:=(h.hnd j b hj hjb).1;omega
          · exact hc.2.2 j hj hjb
    · have hjl:j < (objs' ++ new).length:=by
        rcases Nat.lt_or_ge j (objs' ++ new).length with h1 | h1
        · exact h1
        · exact absurd (h'.fresh j h1) hj
      have hjn:j < nm.length:=by omega
      have hg:nm[j]? = some (nm.getD j 0):=by rw [List.getD_eq_getElem?_getD,List.getElem?_eq_getElem hjn];rfl
      exact hin j _ hg
  refine ⟨hb'',fun hs=>⟨⟨hs.defers,hs.size,fun t=>(hs.env t).mono mv,?_,hs.base⟩,bk⟩⟩
  refine { obj:=fun j=>?_,inj:=fun i k b hi hk hbi hbk=>?_,hnd:=fun j b hj hjb=>?_,fresh:=fun j hj=>?_,ext:=?_,keep:=h.keep.trans mv.toMovesR,lay:=h.lay }
  · show qg6 W' hb'' H'' (okF w0 okA hb'' H'' W') j
    by_cases hjn:j ∈ nm
    · obtain ⟨i,hij⟩:=hmem j hjn
      obtain ⟨e1,e2⟩:=hin i j hij
      have ho:=h'.obj i
      unfold qg6 at *
      rw [e1]
      cases hi:qat (objs' ++ new) i with
      | none=>trivial
      | box cs =>
        rw [hi] at ho
        obtain ⟨b,vals,T,frz,g1,g2,g3,g4,g5,g6⟩:=ho
        obtain ⟨q1,q2⟩:=qpl (fun hr=>qm7 bk hr) ⟨g3.symm,g6⟩
        exact ⟨b,vals,T,frz,e2.trans g1,g2,q1.symm,g4,trivial,q2⟩
      | row sz es =>
        rw [hi] at ho
        obtain ⟨g0,g⟩:=ho
        refine ⟨g0,?_⟩
        rcases g with ⟨g1,g2⟩ | ⟨b,vals,T,frz,g1,g2,g3,g4,g5⟩
        · exact .inl ⟨g1,e2.trans g2⟩
        · exact .inr ⟨b,vals,T,frz,e2.trans g1,g2,g3,g4,fun x c hx hc=>(g5 x c hx hc).mono ⟨bk.good,fun _ _ _ _ hh=>hh⟩⟩
    · obtain ⟨e1,e2⟩:=hout j hjn
      have hjs:j ∉ js:=fun hj=>hjn (by rw [hnmd];exact List.mem_append_left _ hj)
      have ho:=h.obj j
      have hbl:∀ b,σ.heap j ≠ .none→hb j = some b→W'.heap[b]? = W.heap[b]?:=fun b hj hjb =>
        hblock b (h.hnd j b hj hjb).1 (fun ⟨j',hj',e⟩=>by
          have:=h.inj j j' b hj (hlive j' hj') hjb e
          subst this;exact hjs hj')
      unfold qg6 at *
      rw [e1]
      cases hi:σ.heap j with
      | none=>trivial
      | box cs =>
        rw [hi] at ho
        obtain ⟨b,vals,T,frz,g1,g2,g3,g4,g5,g6⟩:=ho
        exact ⟨b,vals,T,frz,e2.trans g1,by rw [hbl b (by rw [hi];simp) g1];exact g2,g3,g4,trivial,fun x hx=>(g6 x hx).mono mv⟩
      | row sz es =>
        rw [hi] at ho
        obtain ⟨g0,g⟩:=ho
        refine ⟨g0,?_⟩
        rcases g with ⟨g1,g2⟩ | ⟨b,vals,T,frz,g1,g2,g3,g4,g5⟩
        · exact .inl ⟨g1,e2.trans g2⟩
        · exact .inr ⟨b,vals,T,frz,e2.trans g1,by rw [hbl b (by rw [hi];simp) g1];exact g2,g3,g4,fun x c hx hc=>(g5 x c hx hc).mono mv.toMoves⟩
  · -- two names,one block
    have hcls:∀ j,H'' j ≠ .none→hb'' j = some b→(∃ i,nm[i]? = some j∧qat (objs' ++ new) i ≠ .none∧hb' i = some b) ∨ (j ∉ nm∧σ.heap j ≠ .none∧hb j = some b):=by
      intro j hj hjb
      by_cases hjn:j ∈ nm
      · obtain ⟨i,hij⟩:=hmem j hjn
        obtain ⟨e1,e2⟩:=hin i j hij
        rw [e1] at hj
        rw [e2] at hjb
        exact .inl ⟨i,hij,hren _ hj,hjb⟩
      · obtain ⟨e1,e2⟩:=hout j hjn
        rw [e1] at hj
        rw [e2] at hjb
        exact .inr ⟨hjn,hj,hjb⟩
    have hmix:∀ i j k,nm[i]? = some j→qat (objs' ++ new) i ≠ .none→hb' i = some b→k ∉ nm→σ.heap k ≠ .none→hb k = some b→False:=by
      intro i j k hij hi hbi' hkn hk' hbk'
      rcases (hc' i b hi hbi').2 with ⟨j',hj',e⟩ | hge
      · have:=h.inj k j' b hk' (hlive j' hj') hbk' e
        subst this
        exact hkn (by rw [hnmd];exact List.mem_append_left _ hj')
      · have:=(h.hnd k b hk' hbk').1;omega
    rcases hcls i hi hbi with ⟨i',h1,h2,h3⟩ | ⟨h1,h2,h3⟩ <;> rcases hcls k hk hbk with ⟨k',g1,g2,g3⟩ | ⟨g1,g2,g3⟩
    · have:=h'.inj i' k' b h2 g2 h3 g3
      subst this
      rw [h1] at g1
      exact Option.some.inj g1
    · exact (hmix i' i k h1 h2 h3 g1 g2 g3).elim
    · exact (hmix k' k i g1 g2 g3 h1 h2 h3).elim
    · exact h.inj i k b h2 g2 h3 g3
  · have hj2:H'' j ≠ .none:=hj
    by_cases hjn:j ∈ nm
    · obtain ⟨i,hij⟩:=hmem j hjn
      obtain ⟨e1,e2⟩:=hin i j hij
      rw [e1] at hj2
      have hjb2:hb' i = some b:=by rw [← e2];exact hjb
      obtain ⟨q1,q2⟩:=hc0 i b (hren _ hj2) hjb2
      refine ⟨q1,?_⟩
      rcases q2 with ⟨j',hj',e⟩ | hge
      · have hjj:=hjs_nm i j' hj'
        rw [hij] at hjj
        obtain rfl:=Option.some.inj hjj
        exact (h.hnd j b (hlive j (List.mem_of_getElem? hj')) e).2
      · exact .inr (Nat.le_trans h.ext.size hge)
    · obtain ⟨e1,e2⟩:=hout j hjn
      rw [e1] at hj2
      have hjb2:hb j = some b:=by rw [← e2];exact hjb
      have:=h.hnd j b hj2 hjb2
      exact ⟨by omega,this.2⟩
  · have hjn:j ∉ nm:=by
      rw [hnmd]
      intro hm
      have hj':σ.next + new.length ≤ j:=hj
      rcases List.mem_append.1 hm with hm | hm
      · have:=hlt j hm;omega
      · simp [List.mem_range'_1] at hm;omega
    show H'' j = .none
    rw [(hout j hjn).1]
    exact h.fresh j (by have hj':σ.next + new.length ≤ j:=hj;omega)
  · have hx:=h.ext
    refine ⟨fun i hi ha=>?_,Nat.le_trans hx.size hsz,h'.ext.tape.trans hx.tape,h'.ext.os.trans hx.os,h'.ext.output.trans hx.output⟩
    rw [hblock i (by have:=hx.size;omega) (fun ⟨j,hj,e⟩=>by
      rcases (h.hnd j i (hlive j hj) e).2 with h1 | h1
      · exact ha ⟨j,h1⟩
      · omega)]
    exact hx.kept i hi ha
theorem awl_call (hτ:qg7 P τ) (fr:Bool) (js:List Nat) {k:FuncId} {args args':List V} {objs:List AObj} {R:V→List AObj→List AObj→Prop} (hw:qd8 ops σ o = some true) (hd:qhc σ o.dst = true) (h:qc0 τ σ o.op = .call k args) (hfn:qlv P k)
    (hargs:mapO (exV (qet js) σ.heap fr) args = some args') (hobjs:mapO (fun j=>exO (qet js) σ.heap fr (σ.heap j)) js = some objs) (hnd:js.Nodup) (hpa:∀ v ∈ args,exVP (qet js) σ.heap v) (hpo:∀ j ∈ js,exOP (qet js) σ.heap (σ.heap j))
    (hc:qb5 P fr k args' objs R) (hK:∀ r objs' new,R r objs' new→objs'.length = js.length→AWL P ops rest ((σ.after js objs' new).putO o.dst (renV (σ.names js new.length) r)) Q):AWL P ops (o :: rest) σ Q:=by
  intro w0 A okA hb a W hs
  have hwn:=qk6 hs hw
  have ho:=qgg hτ hs o
  rw [h] at ho
  obtain ⟨vals,hrun,hrel⟩:=ho
  obtain ⟨c1,c2,c3⟩:=qt2 hs.heap hnd hobjs hpo
  obtain ⟨m1,m2⟩:=qjm hobjs
  simp only [wpList,hwn,if_true]
  refine .inl ?_
  unfold Oper.wp
  rw [hrun,hfn]
  simp only [Oper.upon]
  have hrel':=qji c2 (fun a b c=>qli c2 a b c) hrel hargs hpa
  refine (hc W ⟨qat objs,fun i=>match js[i]? with
    | some j=>hb j
    | none=>none⟩ _ _ vals rfl rfl c1 hrel').mono fun e W' hpost=>?_
  obtain ⟨v,r,objs',new,hb',rfl,hR,hl,hsim,hrv⟩:=hpost
  simp only
  have hbj:∀ (i j:Nat),js[i]? = some j→(match js[i]? with | some j=>hb j | none=>none) = hb j:=fun i j hij=>by rw [hij]
  have hobj:∀ i j,js[i]? = some j→∃ y,exO (qet js) σ.heap fr (σ.heap j) = some y∧qat objs i = y:=by
    intro i j hij
    obtain ⟨y,e1,e2⟩:=m2 i j hij
    exact ⟨y,e1,by unfold qat;exact getD_some e2 _⟩
  obtain ⟨hb'',hout⟩:=qrr (a:=a) hs.heap (fr:=fr) (objs:=objs) hnd c3 hbj m1 (okc:=fun b=>b < W.heap.size∧(okF w0 okA hb σ.heap W b ∨ (fr = true∧∃ j,σ.heap j ≠ .none∧j ∉ js∧hb j = some b)))
    (fun b hfr hb1=>by
      rcases hb1.2 with h1 | ⟨h1,_⟩
      · exact h1
      · rw [hfr] at h1;cases h1)
    (Ac:=⟨qat objs,_⟩) rfl rfl
    (fun i j cs hij hj=>by
      obtain ⟨y,e1,e2⟩:=hobj i j hij
      rw [hj] at e1
      simp only [exO] at e1
      split at e1
      · simp only [Option.some.injEq] at e1;subst e1;exact ⟨_,e2⟩
      · cases e1)
    (fun i j sz es hij hj=>by
      obtain ⟨y,e1,e2⟩:=hobj i j hij
      rw [hj] at e1
      simp only [exO,Option.some.injEq] at e1
      rw [e2,← e1]) hl hsim
  obtain ⟨s1,s2⟩:=hout hs
  have hr2:=qoq s2 hrv
  exact hK r objs' new hR (by rw [hl,m1]) w0 A okA hb'' _ W' (qhi s1 hr2 _ (by cases hdd:o.dst <;> rw [hdd] at hd <;> exact hd))
end
end Go.Proofs.Ytmllgpkgjniomaa.AWN

namespace Go.Proofs.Ytmllgpkgjniomaa.AWN
open Go
/-! ### Data without slices: related whatever memory may be read -/
def D.flat:D→Prop
  | .sl _ es=>es = []
  | _=>True
def V.qay:V→Prop
  | .d x=>x.flat
  | .rop cs _=>cs = []
  | .func _ a c=>a = []∧c = []
  | .agg _=>False
  | .tup _=>False
  | _=>True
def V.qb2:V→Prop
  | .agg cs=>∀ c ∈ cs,c.qay
  | v=>v.qay
def V.flat:V→Prop
  | .tup vs=>∀ v ∈ vs,v.qb2
  | v=>v.qb2
def AObj.flat:AObj→Prop
  | .none=>True
  | .box cs=>∀ c ∈ cs,c.qay
  | .row _ es=>∀ e ∈ es,∀ c ∈ e,c.flat
section
variable {P:Program} {τ:Tab} {W:World} {hb hb':Handle} {H H':Nat→AObj} {ok ok':Nat→Prop}
theorem RelD.flat {x:D} {v:Value} (h:RelD W ok x v) (hf:x.flat):RelD W ok' x v:=by
  cases h with
  | bool b=>exact .bool b
  | int k n=>exact .int k n
  | fl h1 h2=>exact .fl h1 h2
  | cx h1 h2 h3 h4=>exact .cx h1 h2 h3 h4
  | str s=>exact .str s
  | slnil t=>exact .slnil t
  | sle t a=>exact .sle t a
  | nils=>exact .nils
  | nilp=>exact .nilp
  | nilf=>exact .nilf
  | sl sz vals h1 h2 h3 h4 hm h5 h6 h7 =>
    have he:_ = []:=hf
    subst he
    simp at h2
    subst h2
    exact .sl sz vals (fun h=>absurd rfl h) rfl h3 h4 hm (fun i hi=>by omega) (fun i c hi=>by omega) (fun i c hi=>by omega)
theorem Rel.qay {x:V} {v:Value} (h:Rel W hb H ok x v) (hf:x.qay):Rel W hb H ok' x v:=by
  cases h with
  | junk v=>exact .junk v
  | und=>exact .und
  | d h=>exact .d (h.flat hf)
  | agg=>exact hf.elim
  | tup=>exact hf.elim
  | ptr h1 h2=>exact .ptr h1 h2
  | eptr h1 h2 h3=>exact .eptr h1 h2 h3
  | eptrStale v h1 h2 h3=>exact .eptrStale _ h1 h2 h3
  | @rop cs b o off vals h1 h2 h3 =>
    have hc:cs = []:=hf
    subst hc;exact .rop vals (fun h=>absurd rfl h) h2 (fun c hc=>by simp at hc)
  | row h1 h2 h3 h4 h5 h6 h7 h8 h9=>exact .row h1 h2 h3 h4 h5 h6 h7 h8 h9
  | rowEmpty h1 h2 h3=>exact .rowEmpty h1 h2 h3
  | rowNil h1 h2=>exact .rowNil h1 h2
  | rowStale v h1 h2 h3=>exact .rowStale _ h1 h2 h3
  | func h1 h2 h3 h4 =>
    obtain ⟨rfl,rfl⟩:=hf
    exact .func h1 h2 (fun i hi=>by rw [← h1] at hi;simp at hi) (fun i hi=>by rw [← h2] at hi;simp at hi)
theorem Rel.qb2 {x:V} {v:Value} (h:Rel W hb H ok x v) (hf:x.qb2):Rel W hb H ok' x v:=by
  by_cases hx:∃ cs,x = .agg cs
  · obtain ⟨cs,rfl⟩:=hx
    cases h with
    | agg e1 e2 =>
      refine .agg e1 (fun i hi=>?_)
      have hl:i < cs.length:=by omega
      have:=e2 i hi
      rw [List.getD_eq_getElem?_getD,List.getElem?_eq_getElem hl] at *
      exact this.qay (hf _ (List.getElem_mem hl))
  · refine h.qay ?_
    cases x <;> first | exact hf | exact absurd ⟨_,rfl⟩ hx
theorem Rel.flat {x:V} {v:Value} (h:Rel W hb H ok x v) (hf:x.flat):Rel W hb H ok' x v:=by
  by_cases hx:∃ cs,x = .tup cs
  · obtain ⟨cs,rfl⟩:=hx
    cases h with
    | tup e1 e2 =>
      refine .tup e1 (fun i hi=>?_)
      have hl:i < cs.length:=by omega
      have:=e2 i hi
      rw [List.getD_eq_getElem?_getD,List.getElem?_eq_getElem hl] at *
      exact this.qb2 (hf _ (List.getElem_mem hl))
  · refine h.qb2 ?_
    cases x <;> first | exact hf | exact absurd ⟨_,rfl⟩ hx
theorem qg6.flat {j:Nat} (h:qg6 W hb H ok j) (hf:(H j).flat):qg6 W hb H ok' j:=by
  unfold qg6 at *
  cases hj:H j with
  | none=>trivial
  | box cs =>
    rw [hj] at h hf
    obtain ⟨b,vals,T,fr,h1,h2,h3,h4,h5,h6⟩:=h
    refine ⟨b,vals,T,fr,h1,h2,h3,h4,h5,fun i hi=>?_⟩
    have hl:i < cs.length:=by omega
    have:=h6 i hi
    rw [List.getD_eq_getElem?_getD,List.getElem?_eq_getElem hl] at *
    exact this.qay (hf _ (List.getElem_mem hl))
  | row sz es =>
    rw [hj] at h hf
    obtain ⟨h0,h⟩:=h
    refine ⟨h0,?_⟩
    rcases h with h | ⟨b,vals,T,fr,h1,h2,h3,h4,h5⟩
    · exact .inl h
    · refine .inr ⟨b,vals,T,fr,h1,h2,h3,h4,fun i c hi hc=>?_⟩
      have:=h5 i c hi hc
      have he:es.getD i [] = es[i]:=by rw [List.getD_eq_getElem?_getD,List.getElem?_eq_getElem hi];rfl
      have hl:c < es[i].length:=by rw [h0 _ (List.getElem_mem hi)];exact hc
      have hd:es[i].getD c .nilp = es[i][c]:=by rw [List.getD_eq_getElem?_getD,List.getElem?_eq_getElem hl];rfl
      exact this.flat (by rw [he,hd];exact hf _ (List.getElem_mem hi) _ (List.getElem_mem hl))
/-! ### What a body returns -/
def qqs (τ:Tab) (σ:St):ResultVar→Option V
  | .tmp t=>some (σ.env t)
  | .cell x t=>match τ t with
    | some td=>match σ.env x with
      | .ptr j off=>match σ.heap j with
        | .box cs=>qm2 td cs off
        | _=>none
      | _=>none
    | none=>none
def resV (τ:Tab) (rs:List ResultVar) (σ:St):Option V :=
  match mapO (qqs τ σ) rs with
  | some [v]=>some v
  | some vs=>some (.tup vs)
  | none=>none
theorem resOne_run (hτ:qg7 P τ) {w0:World} {A:Args} {okA:Nat→Prop} {σ:St} {a:Act} (h:Sim w0 A okA hb σ a W) {r:ResultVar} {v:V} (hr:qqs τ σ r = some v) :
    ∃ cv,(match r with
      | .tmp t=>(pure (a.tmps.getD t undef):Sem Value)
      | .cell x t=>do loadVar t (← asAddr (a.tmps.getD x undef))).run P W = .ok cv W∧RelS w0 okA hb σ.heap W v cv:=by
  cases r with
  | tmp t =>
    simp only [qqs,Option.some.injEq] at hr
    subst hr
    exact ⟨_,rfl,h.env t⟩
  | cell x t =>
    simp only [qqs] at hr
    split at hr
    · rename_i td ht
      split at hr
      · rename_i j off hx
        split at hr
        · rename_i cs hj
          have he:=h.env x
          rw [hx] at he
          obtain ⟨b,hu,e2⟩:∃ b,a.tmps.getD x undef = .pointer (some ⟨b,off,none⟩)∧hb j = some b:=by
            generalize a.tmps.getD x undef = u at *
            cases he with
            | ptr e1 e2=>exact ⟨_,rfl,e2⟩
          simp only [hu]
          clear he hu
          · obtain ⟨b,vals,T,fr,g1,g2,g3,g4,g5,g6⟩:=qt0 h.heap hj
            have hbb:=Option.some.inj (g1.symm.trans e2)
            subst hbb
            have hi:=qns hτ ht
            have hz:=qio hτ ht
            have hc:∀ c,c < cs.length→W.cell? ⟨b,c,none⟩ = some (vals.getD c undef):=fun c hc=>by rw [cell_of_heap g2];exact qf0 (by omega)
            unfold qm2 at hr
            cases hagg:qoe td.desc with
            | true =>
              rw [hagg] at hr
              simp only [cond_true] at hr
              cases hle:Nat.ble (off + td.size) cs.length with
              | false=>rw [hle] at hr;cases hr
              | true =>
                rw [hle] at hr
                simp only [cond_true,Option.some.injEq] at hr
                subst hr
                have hle':off + td.size ≤ cs.length:=by simpa using hle
                refine ⟨.agg ((List.range td.size).map fun j=>vals.getD (off + j) undef).toArray,?_,?_⟩
                · simp only [asAddr,Sem.run_bind,Sem.run_pure,Result.andThen_ok,loadVar,hi,hagg,if_true,hz]
                  rw [run_loadCells W _ td.size (fun j=>vals.getD (off + j) undef) (fun j hj=>by rw [addr_add];exact hc (off + j) (by omega))]
                  rfl
                · refine .agg (by simp;omega) (fun i hi'=>?_)
                  have hi2:i < td.size:=by simpa using hi'
                  rw [qey _ _ _ _ _ hi2,ql1 (fun j=>vals.getD (off + j) undef) _ _ hi2]
                  exact g6 _ (by omega)
            | false =>
              rw [hagg] at hr
              simp only [cond_false] at hr
              have hlt:off < cs.length:=(List.getElem?_eq_some_iff.1 hr).1
              refine ⟨vals.getD off undef,?_,?_⟩
              · have hcc:=hc off hlt
                simp only [asAddr,Sem.run_bind,Sem.run_pure,Result.andThen_ok,loadVar,hi,hagg,Bool.false_eq_true,if_false,run_load,hcc]
              · have:=g6 off (by omega)
                rwa [getD_some hr] at this
        · cases hr
      · cases hr
    · cases hr
def qtt (a:Act) (r:ResultVar):Sem Value:=match r with
  | .tmp t=>(pure (a.tmps.getD t undef):Sem Value)
  | .cell x t=>do loadVar t (← asAddr (a.tmps.getD x undef))
theorem qpm (hτ:qg7 P τ) {w0:World} {A:Args} {okA:Nat→Prop} {σ:St} {a:Act} (h:Sim w0 A okA hb σ a W):∀ (rs:List ResultVar) (vs:List V),mapO (qqs τ σ) rs = some vs →
    ∃ cvs:List Value,(rs.mapM (qtt a)).run P W = .ok cvs W∧RelL W hb σ.heap (okF w0 okA hb σ.heap W) vs cvs.toArray
  | [],vs,he=>by simp [mapO] at he;subst he;exact ⟨[],rfl,rfl,fun i hi=>by simp at hi⟩
  | r :: rs,vs,he=>by
    unfold mapO at he
    split at he
    · rename_i y s hy hs
      simp only [Option.some.injEq] at he
      subst he
      obtain ⟨cv,e1,e2⟩:=resOne_run hτ h hy
      obtain ⟨cvs,e3,e4⟩:=qpm hτ h rs s hs
      refine ⟨cv :: cvs,?_,by simp [e4.1],fun i hi=>?_⟩
      · rw [List.mapM_cons]
        have e1':(qtt a r).run P W = .ok cv W:=e1
        simp only [Sem.run_bind,e1',e3,Result.andThen_ok,Sem.run_pure]
      · cases i with
        | zero=>simpa using e2
        | succ i =>
          have:=e4.2 i (by simpa using hi)
          simpa using this
    · cases he
theorem resV_run (hτ:qg7 P τ) {w0:World} {A:Args} {okA:Nat→Prop} {σ:St} {a:Act} {fn:Func} (h:Sim w0 A okA hb σ a W) {v:V} (hr:resV τ fn.results.toList σ = some v):∃ cv,(results fn a.tmps).run P W = .ok cv W∧RelS w0 okA hb σ.heap W v cv:=by
  unfold resV at hr
  have hrun:∀ cvs:List Value,(fn.results.toList.mapM (qtt a)).run P W = .ok cvs W→(results fn a.tmps).run P W = .ok (if h:cvs.toArray.size = 1 then cvs.toArray[0] else .tuple cvs.toArray) W:=by
    intro cvs hc
    unfold results
    rw [Array.mapM_eq_mapM_toList]
    simp only [Sem.run_bind,Sem.run_map]
    refine Eq.trans (congrArg (fun z=>Result.andThen z _) (congrArg (fun z=>Result.andThen z _) hc)) ?_
    rfl
  split at hr
  · rename_i v' hv
    simp only [Option.some.injEq] at hr;subst hr
    obtain ⟨cvs,e1,e2⟩:=qpm hτ h _ _ hv
    have hl:cvs.length = 1:=by have:=e2.1;simpa using this.symm
    obtain ⟨c,rfl⟩:=List.length_eq_one_iff.1 hl
    exact ⟨c,hrun [c] e1,by simpa using e2.2 0 (by simp)⟩
  · rename_i vs hne hv
    simp only [Option.some.injEq] at hr;subst hr
    obtain ⟨cvs,e1,e2⟩:=qpm hτ h _ _ hv
    have hl:cvs.toArray.size ≠ 1:=by
      intro h1
      rw [← e2.1] at h1
      obtain ⟨x,hx⟩:=List.length_eq_one_iff.1 h1
      exact hne x hx
    exact ⟨.tuple cvs.toArray,by rw [hrun cvs e1,dif_neg hl],.tup e2.1 e2.2⟩
  · cases hr
def St.enter (args:List V) (objs:List AObj) (nt:Nat):St:={ env:=fun t=>args.getD t .und,heap:=qat objs,next:=objs.length,nt:=nt,base:=objs.length }
def RetQ (τ:Tab) (rs:List ResultVar) (fr:Bool) (m:Nat) (R:V→List AObj→List AObj→Prop):Exit→St→Prop:=fun e σ =>
  (e = .normal ∨ e = .ret)∧∃ rv ex r objs' new,resV τ rs σ = some rv∧ex.Nodup∧(∀ x ∈ ex,m ≤ x) ∧
    exV (qet (List.range m ++ ex)) σ.heap true rv = some r∧exVP (qet (List.range m ++ ex)) σ.heap rv ∧
    mapO (fun j=>exO (qet (List.range m ++ ex)) σ.heap true (σ.heap j)) (List.range m ++ ex) = some (objs' ++ new)∧objs'.length = m∧(∀ j ∈ List.range m ++ ex,exOP (qet (List.range m ++ ex)) σ.heap (σ.heap j)) ∧
    (fr = true→r.flat∧∀ o ∈ objs' ++ new,o.flat)∧R r objs' new
theorem qar (hτ:qg7 P τ) {k:FuncId} {fn:Func} {c:Code} {args:List V} {objs:List AObj} {fr:Bool} {R:V→List AObj→List AObj→Prop} (hf:P.funcs[k]? = some fn) (hbd:fn.body = some c) (hn:args.length ≤ fn.ntmps) (hlive:∀ o ∈ objs,o ≠ .none)
    (h:AW P c (St.enter args objs fn.ntmps) (RetQ τ fn.results.toList fr objs.length R)):qb5 P fr k args objs R:=by
  intro W A hb okA vals hA0 hA1 hsim hrel
  refine calls_of_wp hf hbd ?_
  have hs:Sim W A okA hb (St.enter args objs fn.ntmps) { tmps:=vals ++ Array.replicate (fn.ntmps - vals.size) undef,defers:=[] } W:=by
    refine ⟨rfl,?_,fun t=>?_,hsim,fun j hj=>?_⟩
    rotate_left 2
    · rw [hA0];unfold qat
      rw [List.getD_eq_getElem?_getD,List.getElem?_eq_none hj];rfl
    · show (vals ++ Array.replicate (fn.ntmps - vals.size) undef).size = fn.ntmps
      have:=hrel.1
      simp;omega
    · show Rel W hb (qat objs) _ (args.getD t .und) _
      by_cases ht:t < vals.size
      · have hl:t < args.length:=by rw [hrel.1];exact ht
        have e1:(vals ++ Array.replicate (fn.ntmps - vals.size) undef).getD t undef = vals.getD t undef:=by
          rw [Array.getD_eq_getD_getElem?,Array.getElem?_append_left ht,← Array.getD_eq_getD_getElem?]
        have e2:args.getD t .und = args.getD t .junk:=by
          rw [List.getD_eq_getElem?_getD,List.getElem?_eq_getElem hl,List.getD_eq_getElem?_getD,List.getElem?_eq_getElem hl];rfl
        rw [e1,e2]
        exact hrel.2 t ht
      · have e1:(vals ++ Array.replicate (fn.ntmps - vals.size) undef).getD t undef = undef:=by
          rw [Array.getD_eq_getD_getElem?,Array.getElem?_append_right (by omega)]
          by_cases h2:t - vals.size < fn.ntmps - vals.size
          · simp [Array.getElem?_replicate,h2]
          · simp [Array.getElem?_replicate,h2]
        have e2:args.getD t .und = .und:=by
          rw [List.getD_eq_getElem?_getD,List.getElem?_eq_none (by rw [hrel.1];omega)];rfl
        rw [e1,e2]
        exact .und
  refine Code.wp_mono (fun e a W' ⟨hb1,σ,hq,hs1⟩=>?_) (h W A okA hb _ W hs)
  obtain ⟨he,rv,ex,r,objs',new,q1,q2,q2',q3,q3',q4,q5,q6,q7,q8⟩:=hq
  obtain ⟨cv,r1,r2⟩:=resV_run (fn:=fn) hτ hs1 q1
  -- the names that go out
  let nm:=List.range objs.length ++ ex
  have hnm:nm = List.range objs.length ++ ex:=rfl
  have hnn:nm.Nodup:=List.nodup_append.2 ⟨List.nodup_range,q2,fun x hx y hy=>by
    have:=q2' y hy
    simp at hx;omega⟩
  obtain ⟨m1,m2⟩:=qjm q4
  have hml:nm.length = (objs' ++ new).length:=by rw [m1]
  let hb2:Handle:=fun i=>match nm[i]? with
    | some j=>hb1 j
    | none=>none
  have hbj:∀ i j,nm[i]? = some j→hb2 i = hb1 j:=by intro i j hij;show (match nm[i]? with | some j=>hb1 j | none=>none) = _;rw [hij]
  have hnone:∀ i,nm.length ≤ i→qat (objs' ++ new) i = .none:=by
    intro i hi
    unfold qat
    rw [List.getD_eq_getElem?_getD,List.getElem?_eq_none (by omega)];rfl
  have hin:∀ i,qat (objs' ++ new) i ≠ .none→∃ j,nm[i]? = some j:=by
    intro i hi
    rcases Nat.lt_or_ge i nm.length with hl | hl
    · exact ⟨nm[i],List.getElem?_eq_getElem hl⟩
    · exact absurd (hnone i hl) hi
  have hobj:∀ i j,nm[i]? = some j→∃ y,exO (qet nm) σ.heap true (σ.heap j) = some y∧qat (objs' ++ new) i = y:=by
    intro i j hij
    obtain ⟨y,e1,e2⟩:=m2 i j hij
    exact ⟨y,e1,by unfold qat;exact getD_some e2 _⟩
  have hlv:∀ j ∈ nm,σ.heap j ≠ .none:=by
    intro j hj e
    obtain ⟨i,hi,ei⟩:=List.getElem_of_mem hj
    obtain ⟨y,e1,_⟩:=m2 i nm[i] (List.getElem?_eq_getElem hi)
    rw [ei,e] at e1;simp [exO] at e1
  -- an object that does not go out lies in new memory
  have hloc:∀ j b,σ.heap j ≠ .none→j ∉ nm→hb1 j = some b→W.heap.size ≤ b:=by
    intro j b hj hjn hjb
    rcases (hs1.heap.hnd j b hj hjb).2 with ⟨h1,_⟩ | h1
    · rw [hA0] at h1
      refine absurd ?_ hjn
      rw [hnm]
      refine List.mem_append_left _ ?_
      rcases Nat.lt_or_ge j objs.length with h2 | h2
      · simpa using h2
      · exfalso;apply h1
        unfold qat
        rw [List.getD_eq_getElem?_getD,List.getElem?_eq_none h2];rfl
    · exact h1
  have N:qnt W' (qet nm) hb1 hb2 σ.heap (qat (objs' ++ new)) (okF W okA hb1 σ.heap W') (okF W okA hb2 (qat (objs' ++ new)) W') true:=by
    refine ⟨fun b hb'=>⟨hb'.1,hb'.2.1,fun i hi e=>?_⟩,fun j i cs hj hcs=>?_,fun j i sz es hj hes=>?_,fun _ j b hj hne hbjj=>?_,hs1.heap.obj⟩
    · obtain ⟨j,hij⟩:=hin i hi
      rw [hbj i j hij] at e
      exact hb'.2.2 j (hlv j (List.mem_of_getElem? hij)) e
    · have hij:=qh2 hj
      obtain ⟨y,e1,e2⟩:=hobj i j hij
      refine ⟨hbj i j hij,?_⟩
      rw [hcs] at e1
      simp only [exO] at e1
      split at e1
      · simp only [Option.some.injEq] at e1;subst e1;exact ⟨_,e2⟩
      · cases e1
    · have hij:=qh2 hj
      obtain ⟨y,e1,e2⟩:=hobj i j hij
      refine ⟨hbj i j hij,?_⟩
      rw [hes] at e1
      simp only [exO,Option.some.injEq] at e1
      rw [e2,← e1]
    · have hnmj:=qit hj
      refine ⟨(hs1.heap.hnd j b hne hbjj).1,.inr (hloc j b hne hnmj hbjj),fun i hi e=>?_⟩
      obtain ⟨j',hij⟩:=hin i hi
      rw [hbj i j' hij] at e
      have:=hs1.heap.inj j j' b hne (hlv j' (List.mem_of_getElem? hij)) hbjj e
      subst this
      exact hnmj (List.mem_of_getElem? hij)
  have hix:∀ i j,nm[i]? = some j→qet nm j = some i:=by
    intro i j hij
    cases hx:qet nm j with
    | none=>exact absurd (List.mem_of_getElem? hij) (qit hx)
    | some i'=>rw [qk1 hnn (qh2 hx) hij]
  have hrel2:RelS W okA hb2 (qat (objs' ++ new)) W' r cv:=qli N r2 q3 q3'
  have hobj2:∀ i,qg6 W' hb2 (qat (objs' ++ new)) (okF W okA hb2 (qat (objs' ++ new)) W') i:=by
    intro i
    by_cases hi:qat (objs' ++ new) i = .none
    · unfold qg6;rw [hi];trivial
    · obtain ⟨j,hij⟩:=hin i hi
      obtain ⟨y,e1,e2⟩:=hobj i j hij
      exact qmx N (hix i j hij) e1 (q6 j (List.mem_of_getElem? hij)) e2 (hbj i j hij)
  have hm0:∀ i,i < objs.length→nm[i]? = some i:=by
    intro i hi
    rw [hnm,List.getElem?_append_left (by simpa using hi),List.getElem?_range hi]
  have hsim2:HSim W A (if fr then noOk else okA) hb2 (qat (objs' ++ new)) (objs' ++ new).length W':=by
    refine { obj:=fun i=>?_,inj:=fun i k b hi hk hbi hbk=>?_,hnd:=fun i b hi hbi=>?_,fresh:=fun i hi=>hnone i (by omega),ext:=hs1.heap.ext,keep:=?_,lay:=hs1.heap.lay }
    · cases fr with
      | false=>exact hobj2 i
      | true =>
        refine (hobj2 i).flat ?_
        rcases Nat.lt_or_ge i (objs' ++ new).length with hl | hl
        · unfold qat
          rw [List.getD_eq_getElem?_getD,List.getElem?_eq_getElem hl]
          exact (q7 rfl).2 _ (List.getElem_mem hl)
        · rw [hnone i (by omega)];trivial
    · obtain ⟨j,hij⟩:=hin i hi
      obtain ⟨j',hkj⟩:=hin k hk
      rw [hbj i j hij] at hbi
      rw [hbj k j' hkj] at hbk
      have:=hs1.heap.inj j j' b (hlv j (List.mem_of_getElem? hij)) (hlv j' (List.mem_of_getElem? hkj)) hbi hbk
      subst this
      exact qk1 hnn hij hkj
    · obtain ⟨j,hij⟩:=hin i hi
      rw [hbj i j hij] at hbi
      obtain ⟨h1,h2⟩:=hs1.heap.hnd j b (hlv j (List.mem_of_getElem? hij)) hbi
      refine ⟨h1,h2.imp (fun ⟨h3,h4⟩=>?_) id⟩
      have hjl:j < objs.length:=by
        rw [hA0] at h3
        rcases Nat.lt_or_ge j objs.length with h5 | h5
        · exact h5
        · exfalso;apply h3
          unfold qat
          rw [List.getD_eq_getElem?_getD,List.getElem?_eq_none h5];rfl
      have:=qk1 hnn hij (hm0 j hjl)
      subst this
      exact ⟨h3,h4⟩
    · have hlt:∀ j,A.H0 j ≠ .none→j < objs.length:=by
        intro j hj
        rw [hA0] at hj
        rcases Nat.lt_or_ge j objs.length with h5 | h5
        · exact h5
        · exfalso;apply hj
          unfold qat
          rw [List.getD_eq_getElem?_getD,List.getElem?_eq_none h5];rfl
      refine ⟨fun j cs hj=>?_,fun j sz es hj=>?_⟩
      · have hij:=hm0 j (hlt j (by rw [hj];simp))
        obtain ⟨cs',e1,e2⟩:=hs1.heap.keep.box j cs hj
        obtain ⟨y,e3,e4⟩:=hobj j j hij
        rw [e1] at e3
        simp only [exO] at e3
        split at e3
        · simp only [Option.some.injEq] at e3;subst e3
          exact ⟨_,e4,(hbj j j hij).trans e2⟩
        · cases e3
      · have hij:=hm0 j (hlt j (by rw [hj];simp))
        obtain ⟨es',e1,e0,e2⟩:=hs1.heap.keep.row j sz es hj
        obtain ⟨y,e3,e4⟩:=hobj j j hij
        rw [e1] at e3
        simp only [exO,Option.some.injEq] at e3;subst e3
        exact ⟨_,e4,e0,fun hl=>⟨(hbj j j hij).trans (e2 hl).1,(e2 hl).2⟩⟩
  have fin:∃ v r objs' new hb',Ending.returned cv = .returned v∧R r objs' new∧objs'.length = objs.length ∧
      HSim W A (if fr then noOk else okA) hb' (qat (objs' ++ new)) (objs' ++ new).length W'∧RelS W (if fr then noOk else okA) hb' (qat (objs' ++ new)) W' r v :=
    ⟨cv,r,objs',new,hb2,rfl,q8,q5,hsim2,by
      cases fr with
      | false=>exact hrel2
      | true=>exact hrel2.flat (q7 rfl).1⟩
  rcases he with rfl | rfl
  · exact ⟨hs1.defers,cv,r1,fin⟩
  · exact ⟨hs1.defers,cv,r1,fin⟩
end
end Go.Proofs.Ytmllgpkgjniomaa.AWN

namespace Go.Proofs.Ytmllgpkgjniomaa.AWN
open Go
def One (P:Program) (ops:Array Oper) (o:Oper) (σ:St) (S:St→Prop):Prop :=
  ∀ w0 A okA hb a W,Sim w0 A okA hb σ a W→∀ (Q:Exit→Act→World→Prop) (K:Act→World→Prop),
    (∀ σ' hb' a' W',S σ'→Sim w0 A okA hb' σ' a' W'→K a' W')→if Region.wanted o (yielded ops a.tmps) then o.wp P a W K Q else K (a.put o.dst undef) W
section
variable {P:Program} {τ:Tab} {σ:St} {ops:Array Oper} {o:Oper}
theorem qjn {S:St→Prop} (hw:qd8 ops σ o = some true) (h:∀ w0 A okA hb a W,Sim w0 A okA hb σ a W→Does P o a W (fun cv W'=>∃ σ' hb',S σ'∧Sim w0 A okA hb' σ' (a.put o.dst cv) W')):One P ops o σ S:=by
  intro w0 A okA hb a W hs Q K hK
  have hwn:=qk6 hs hw
  obtain ⟨cv,W',hrun,σ',hb',h1,h2⟩:=h w0 A okA hb a W hs
  rw [if_pos hwn]
  unfold Oper.wp
  rcases hrun with hrun | ⟨hrun,rfl⟩
  · rw [hrun];exact hK σ' hb' _ _ h1 h2
  · rw [hrun];exact hK σ' hb' _ _ h1 h2
theorem one_skip (hw:qd8 ops σ o = some false) (hd:qhc σ o.dst = true):One P ops o σ (· = σ.putO o.dst .und):=by
  intro w0 A okA hb a W hs Q K hK
  have hwn:=qk6 hs hw
  rw [if_neg (by simp [hwn])]
  exact hK _ hb _ _ rfl (qhi hs .und _ hd)
theorem one_val (hτ:qg7 P τ) {v:V} (hw:qd8 ops σ o = some true) (hd:qhc σ o.dst = true) (h:qc0 τ σ o.op = .val v):One P ops o σ (· = σ.putO o.dst v) :=
  qjn hw fun w0 A okA hb a W hs=>by
    have:=qgg hτ hs o
    rw [h] at this
    obtain ⟨cv,W',hrun,s,hr⟩:=this
    exact ⟨cv,W',hrun,_,hb,rfl,qhi (hs.same s) (hr.same s) _ hd⟩
theorem one_need (hτ:qg7 P τ) {v:V} {p:Prop} (hw:qd8 ops σ o = some true) (hd:qhc σ o.dst = true) (h:qc0 τ σ o.op = .need p v) (hp:p):One P ops o σ (· = σ.putO o.dst v) :=
  qjn hw fun w0 A okA hb a W hs=>by
    have:=qgg hτ hs o
    rw [h] at this
    obtain ⟨cv,W',hrun,s,hr⟩:=this hp
    exact ⟨cv,W',hrun,_,hb,rfl,qhi (hs.same s) (hr.same s) _ hd⟩
theorem one_elem (hτ:qg7 P τ) {v:V} {p:Prop} {es:List (List D)} {i:Nat} {k:List D→Option V} {e:List D} (hw:qd8 ops σ o = some true) (hd:qhc σ o.dst = true) (h:qc0 τ σ o.op = .elem p es i k) (hp:p) (he:es[i]? = some e) (hv:k e = some v):One P ops o σ (· = σ.putO o.dst v) :=
  qjn hw fun w0 A okA hb a W hs=>by
    have:=qgg hτ hs o
    rw [h] at this
    obtain ⟨cv,W',hrun,s,hr⟩:=this e v hp he hv
    exact ⟨cv,W',hrun,_,hb,rfl,qhi (hs.same s) (hr.same s) _ hd⟩
theorem qq0 {H:Nat→AObj} {n:Nat} {d:Option Nat} (hd:qhc σ d = true):qhc ({ σ with heap:=H,next:=n }:St) d = true:=by cases d <;> exact hd
theorem one_valH (hτ:qg7 P τ) {v:V} {H:Nat→AObj} {n:Nat} (hw:qd8 ops σ o = some true) (hd:qhc σ o.dst = true) (h:qc0 τ σ o.op = .valH v H n):One P ops o σ (· = ({ σ with heap:=H,next:=n }:St).putO o.dst v) :=
  qjn hw fun w0 A okA hb a W hs=>by
    have:=qgg hτ hs o
    rw [h] at this
    obtain ⟨cv,W',hrun,hb',s,hr⟩:=this
    exact ⟨cv,W',hrun,_,hb',rfl,qhi s hr _ (qq0 hd)⟩
theorem one_needH (hτ:qg7 P τ) {v:V} {p:Prop} {H:Nat→AObj} {n:Nat} (hw:qd8 ops σ o = some true) (hd:qhc σ o.dst = true) (h:qc0 τ σ o.op = .needH p v H n) (hp:p):One P ops o σ (· = ({ σ with heap:=H,next:=n }:St).putO o.dst v) :=
  qjn hw fun w0 A okA hb a W hs=>by
    have:=qgg hτ hs o
    rw [h] at this
    obtain ⟨cv,W',hrun,hb',s,hr⟩:=this hp
    exact ⟨cv,W',hrun,_,hb',rfl,qhi s hr _ (qq0 hd)⟩
theorem one_call (hτ:qg7 P τ) (fr:Bool) (js:List Nat) {k:FuncId} {args args':List V} {objs:List AObj} {R:V→List AObj→List AObj→Prop} (hw:qd8 ops σ o = some true) (hd:qhc σ o.dst = true) (h:qc0 τ σ o.op = .call k args) (hfn:qlv P k)
    (hargs:mapO (exV (qet js) σ.heap fr) args = some args') (hobjs:mapO (fun j=>exO (qet js) σ.heap fr (σ.heap j)) js = some objs) (hnd:js.Nodup) (hpa:∀ v ∈ args,exVP (qet js) σ.heap v) (hpo:∀ j ∈ js,exOP (qet js) σ.heap (σ.heap j))
    (hc:qb5 P fr k args' objs R):One P ops o σ (fun σ'=>∃ r objs' new,R r objs' new∧objs'.length = js.length∧σ' = (σ.after js objs' new).putO o.dst (renV (σ.names js new.length) r)):=by
  intro w0 A okA hb a W hs Q K hK
  have hwn:=qk6 hs hw
  have ho:=qgg hτ hs o
  rw [h] at ho
  obtain ⟨vals,hrun,hrel⟩:=ho
  obtain ⟨c1,c2,c3⟩:=qt2 hs.heap hnd hobjs hpo
  obtain ⟨m1,m2⟩:=qjm hobjs
  rw [if_pos hwn]
  unfold Oper.wp
  rw [hrun,hfn]
  simp only [Oper.upon]
  have hrel':=qji c2 (fun a b c=>qli c2 a b c) hrel hargs hpa
  refine (hc W ⟨qat objs,fun i=>match js[i]? with
    | some j=>hb j
    | none=>none⟩ _ _ vals rfl rfl c1 hrel').mono fun e W' hpost=>?_
  obtain ⟨v,r,objs',new,hb',rfl,hR,hl,hsim,hrv⟩:=hpost
  simp only
  have hbj:∀ (i j:Nat),js[i]? = some j→(match js[i]? with | some j=>hb j | none=>none) = hb j:=fun i j hij=>by rw [hij]
  have hobj:∀ i j,js[i]? = some j→∃ y,exO (qet js) σ.heap fr (σ.heap j) = some y∧qat objs i = y:=by
    intro i j hij
    obtain ⟨y,e1,e2⟩:=m2 i j hij
    exact ⟨y,e1,by unfold qat;exact getD_some e2 _⟩
  obtain ⟨hb'',hout⟩:=qrr (a:=a) hs.heap (fr:=fr) (objs:=objs) hnd c3 hbj m1 (okc:=fun b=>b < W.heap.size∧(okF w0 okA hb σ.heap W b ∨ (fr = true∧∃ j,σ.heap j ≠ .none∧j ∉ js∧hb j = some b)))
    (fun b hfr hb1=>by
      rcases hb1.2 with h1 | ⟨h1,_⟩
      · exact h1
      · rw [hfr] at h1;cases h1)
    (Ac:=⟨qat objs,_⟩) rfl rfl
    (fun i j cs hij hj=>by
      obtain ⟨y,e1,e2⟩:=hobj i j hij
      rw [hj] at e1
      simp only [exO] at e1
      split at e1
      · simp only [Option.some.injEq] at e1;subst e1;exact ⟨_,e2⟩
      · cases e1)
    (fun i j sz es hij hj=>by
      obtain ⟨y,e1,e2⟩:=hobj i j hij
      rw [hj] at e1
      simp only [exO,Option.some.injEq] at e1
      rw [e2,← e1]) hl hsim
  obtain ⟨s1,s2⟩:=hout hs
  have hr2:=qoq s2 hrv
  exact hK _ hb'' _ W' ⟨r,objs',new,hR,by rw [hl,m1],rfl⟩ (qhi s1 hr2 _ (by cases hdd:o.dst <;> rw [hdd] at hd <;> exact hd))
/-! ### What a step depends on -/
def opdT:Operand→List Nat
  | .tmp t=>[t]
  | _=>[]
def opT:Op→List Nat
  | .move x | .assign x | .box _ x | .load _ x | .nilCheck x | .unOp _ _ x | .convert _ _ x | .fieldAddr _ x _ | .field _ x _ | .extract x _=>opdT x
  | .pick c a b=>opdT c ++ opdT a ++ opdT b
  | .build _ parts | .buildSlice _ _ parts=>parts.toList.flatMap fun p=>opdT p.2
  | .makeSlice _ x v | .store _ x v | .binOp _ _ x v _ | .indexAddr _ x v | .index _ x v=>opdT x ++ opdT v
  | .makeFunc _ first caps=>first.toList.flatMap opdT ++ caps.toList.flatMap opdT
  | .slice _ x lo hi mx=>opdT x ++ (lo.map opdT).getD [] ++ (hi.map opdT).getD [] ++ (mx.map opdT).getD []
  | .call c=>(match c.callee with
    | .value f=>opdT f
    | _=>[]) ++ c.args.toList.flatMap opdT
  | _=>[]
theorem qct {σ σ':St} {x:Operand} (h:∀ t ∈ opdT x,σ'.env t = σ.env t):σ'.ev x = σ.ev x:=by
  cases x with
  | tmp t=>exact h t (by simp [opdT])
  | _=>rfl
theorem qr6 {σ σ':St} (l:List Operand) (h:∀ t ∈ l.flatMap opdT,σ'.env t = σ.env t):l.map σ'.ev = l.map σ.ev:=by
  refine List.map_congr_left fun x hx=>qct fun t ht=>h t (List.mem_flatMap.2 ⟨x,hx,ht⟩)
theorem qrw {σ σ':St} (l:List (Nat × Operand)) (h:∀ t ∈ l.flatMap (fun p=>opdT p.2),σ'.env t = σ.env t):l.map (fun p=>(p.1,σ'.ev p.2)) = l.map (fun p=>(p.1,σ.ev p.2)):=by
  refine List.map_congr_left fun x hx=>?_
  rw [qct fun t ht=>h t (List.mem_flatMap.2 ⟨x,hx,ht⟩)]
theorem qt9 {σ σ':St} (x:Option Operand) (h:∀ t ∈ (x.map opdT).getD [],σ'.env t = σ.env t):x.map σ'.ev = x.map σ.ev:=by
  cases x with
  | none=>rfl
  | some x=>simp only [Option.map_some];rw [qct (by simpa using h)]
theorem qmn {σ σ':St} {op:Op} (h:∀ t ∈ opT op,σ'.env t = σ.env t) (hh:σ'.heap = σ.heap) (hn:σ'.next = σ.next):qc0 τ σ' op = qc0 τ σ op:=by
  have app:∀ {l1 l2:List Nat},(∀ t ∈ l1 ++ l2,σ'.env t = σ.env t)→(∀ t ∈ l1,σ'.env t = σ.env t)∧∀ t ∈ l2,σ'.env t = σ.env t :=
    fun h=>⟨fun t ht=>h t (List.mem_append_left _ ht),fun t ht=>h t (List.mem_append_right _ ht)⟩
  cases op
  case move x=>simp only [qc0];rw [qct h]
  case assign x=>simp only [qc0];rw [qct h]
  case pick c a b=>simp only [qc0];obtain ⟨h1,h3⟩:=app h;obtain ⟨h1,h2⟩:=app h1;rw [qct h1,qct h2,qct h3]
  case box t x=>simp only [qc0];rw [qct h,hh,hn]
  case alloc t=>simp only [qc0];rw [hh,hn]
  case build t parts=>simp only [qc0];rw [qrw _ h]
  case buildSlice t len parts=>simp only [qc0];rw [qrw _ h,hh,hn]
  case makeSlice t x v=>simp only [qc0];obtain ⟨h1,h2⟩:=app h;rw [qct h1,qct h2,hh,hn]
  case load t x=>simp only [qc0];rw [qct h,hh]
  case store t x v=>simp only [qc0];obtain ⟨h1,h2⟩:=app h;rw [qct h1,qct h2,hh,hn]
  case nilCheck x=>simp only [qc0];rw [qct h]
  case binOp op t x y _=>simp only [qc0];obtain ⟨h1,h2⟩:=app h;rw [qct h1,qct h2]
  case unOp op _ x=>simp only [qc0];rw [qct h]
  case convert s d x=>simp only [qc0];rw [qct h]
  case makeFunc f first caps =>
    obtain ⟨h1,h2⟩:=app h
    cases f <;> simp only [qc0]
    rw [qr6 _ h1,qr6 _ h2]
  case slice t x lo hi mx =>
    simp only [qc0]
    obtain ⟨h1,h4⟩:=app h
    obtain ⟨h1,h3⟩:=app h1
    obtain ⟨h1,h2⟩:=app h1
    rw [qct h1,qt9 _ h2,qt9 _ h3,qt9 _ h4,hh]
  case fieldAddr s x f=>simp only [qc0];rw [qct h,hh]
  case field s x f=>simp only [qc0];rw [qct h]
  case indexAddr t x i=>simp only [qc0];obtain ⟨h1,h2⟩:=app h;rw [qct h1,qct h2,hh]
  case index t x i=>simp only [qc0];obtain ⟨h1,h2⟩:=app h;rw [qct h1,qct h2]
  case extract x i=>simp only [qc0];rw [qct h]
  case call c =>
    obtain ⟨h1,h2⟩:=app h
    simp only [qc0]
    rw [qr6 _ h2,hh,hn]
    cases hc:c.callee with
    | value f =>
      simp only [hc] at h1
      simp only
      rw [qct h1]
    | _=>rfl
  all_goals rfl
def V.nm:V→List Nat
  | .ptr j _ | .eptr j _ _ _ | .row j _ _ _=>[j]
  | _=>[]
def qpn (σ:St):Op→Option (List Nat)
  | .load _ x | .fieldAddr _ x _ | .indexAddr _ x _ | .slice _ x _ _ _=>some (σ.ev x).nm
  | .move _ | .assign _ | .pick _ _ _ | .build _ _ | .nilCheck _ | .binOp _ _ _ _ _ | .unOp _ _ _ | .convert _ _ _ | .makeFunc _ _ _ | .field _ _ _ | .index _ _ _ | .extract _ _=>some []
  | .call c=>match c.callee with
    | .builtin .len | .builtin .complex | .builtin .real | .builtin .imag | .builtin .max | .builtin .min=>some (c.args.toList.flatMap fun x=>(σ.ev x).nm)
    | _=>none
  | _=>none
theorem loadV_nm {H H':Nat→AObj} {td:TD} {x:V} (h:∀ j ∈ x.nm,H' j = H j):qpc H' td x = qpc H td x:=by
  cases x with
  | ptr j off=>simp only [qpc];rw [h j (by simp [V.nm])]
  | eptr j L i off=>simp only [qpc];rw [h j (by simp [V.nm])]
  | _=>rfl
theorem ptrAdd_nm {H H':Nat→AObj} {n:Nat} {x:V} (h:∀ j ∈ x.nm,H' j = H j):qma H' x n = qma H x n:=by
  cases x with
  | ptr j off=>rfl
  | eptr j L i off=>simp only [qma];rw [h j (by simp [V.nm])]
  | _=>rfl
theorem indexAddrV_nm {H H':Nat→AObj} {t:TypeId} {x i:V} (h:∀ j ∈ x.nm,H' j = H j):qi7 τ H' t x i = qi7 τ H t x i:=by
  unfold qi7
  rcases τ t with _ | ⟨desc,a1,a2,a3⟩
  · rfl
  · cases i with
    | d y =>
      cases y with
      | int k n =>
        cases desc with
        | slice et =>
          cases x with
          | row j L off len=>dsimp only;rw [h j (by simp [V.nm])]
          | d z=>cases z <;> rfl
          | _=>rfl
        | _=>cases x <;> rfl
      | _=>rfl
    | _=>rfl
theorem sliceV_nm {H H':Nat→AObj} {t:TypeId} {x:V} {lo hi mx:Option V} (h:∀ j ∈ x.nm,H' j = H j):qmc τ H' t x lo hi mx = qmc τ H t x lo hi mx:=by
  unfold qmc
  rcases τ t with _ | ⟨desc,a1,a2,a3⟩
  · rfl
  · rcases qna lo with _ | lo
    · rfl
    · rcases qna hi with _ | hi
      · rfl
      · cases mx with
        | some _=>rfl
        | none =>
          cases desc with
          | slice et =>
            cases x with
            | row j L off len=>dsimp only;rw [h j (by simp [V.nm])]
            | d z=>cases z <;> rfl
            | _=>rfl
          | _ =>
            cases x with
            | d z=>cases z <;> rfl
            | _=>rfl
theorem lenV_nm {H H':Nat→AObj} {t:TypeId} {x:V} (h:∀ j ∈ x.nm,H' j = H j):lenV τ H' t x = lenV τ H t x:=by
  unfold lenV
  rcases τ t with _ | ⟨desc,a1,a2,a3⟩
  · rfl
  · cases x with
    | row j L off len=>cases desc <;> first | rfl | (dsimp only;rw [h j (by simp [V.nm])])
    | d z=>cases desc <;> cases z <;> rfl
    | _=>cases desc <;> rfl
theorem qis {H H':Nat→AObj} {n n':Nat} {b:Builtin} {ts:Array TypeId} {args:List V} (hb:b = .len ∨ b = .complex ∨ b = .real ∨ b = .imag ∨ b = .max ∨ b = .min) (h:∀ j ∈ args.flatMap V.nm,H' j = H j):qkt τ H' n' b ts args = qkt τ H n b ts args:=by
  rcases hb with rfl | rfl | rfl | rfl | rfl | rfl
  · rcases args with _ | ⟨x,_ | ⟨y,r⟩⟩
    · rfl
    · simp only [qkt]
      split
      · exact lenV_nm (by simpa using h)
      · rfl
    · rfl
  all_goals (unfold qkt;split <;> first | rfl | (rename_i hb;cases hb;done) | contradiction | trivial)
theorem step_ro {σ σ':St} {op:Op} {J:List Nat} (hr:qpn σ op = some J) (h:∀ t ∈ opT op,σ'.env t = σ.env t) (hh:∀ j ∈ J,σ'.heap j = σ.heap j):qc0 τ σ' op = qc0 τ σ op:=by
  have e:=qmn (τ:=τ) (σ:=σ) (σ':={ σ with env:=σ'.env }) h rfl rfl
  rw [← e]
  have hx:∀ x,(∀ t ∈ opdT x,σ'.env t = σ.env t)→(σ.ev x).nm = (σ'.ev x).nm:=fun x h=>by rw [qct h]
  have app:∀ {l1 l2:List Nat},(∀ t ∈ l1 ++ l2,σ'.env t = σ.env t)→(∀ t ∈ l1,σ'.env t = σ.env t)∧∀ t ∈ l2,σ'.env t = σ.env t :=
    fun h=>⟨fun t ht=>h t (List.mem_append_left _ ht),fun t ht=>h t (List.mem_append_right _ ht)⟩
  have evE:∀ x,({ σ with env:=σ'.env }:St).ev x = σ'.ev x:=fun x=>by cases x <;> rfl
  have evL:(({ σ with env:=σ'.env }:St).ev) = σ'.ev:=funext evE
  have nmE:∀ x,(∀ t ∈ opdT x,σ'.env t = σ.env t)→some (σ.ev x).nm = some J→∀ j ∈ (σ'.ev x).nm,σ'.heap j = σ.heap j:=fun x h hr j hj=>hh j (by rw [← Option.some.inj hr,hx x h];exact hj)
  cases op <;> simp only [qpn] at hr <;> try (first | cases hr;done | skip)
  case load t x =>
    simp only [qc0,evE]
    cases τ t with
    | none=>rfl
    | some td=>exact loadV_nm (nmE x h hr)
  case fieldAddr s x f =>
    simp only [qc0,evE]
    split
    · rw [ptrAdd_nm (nmE x h hr)]
    · rfl
  case indexAddr t x i=>simp only [qc0,evE];exact indexAddrV_nm (nmE x (app h).1 hr)
  case slice t x lo hi mx=>simp only [qc0,evE,evL];exact sliceV_nm (nmE x (app (app (app h).1).1).1 hr)
  case call c =>
    simp only [qc0,evL]
    have hnm:some (c.args.toList.flatMap fun x=>(σ.ev x).nm) = some J→∀ j ∈ (c.args.toList.map σ'.ev).flatMap V.nm,σ'.heap j = σ.heap j:=by
      intro hr j hj
      refine hh j ?_
      rw [← Option.some.inj hr]
      simp only [List.mem_flatMap,List.mem_map] at hj ⊢
      obtain ⟨_,⟨x,hx1,rfl⟩,hj⟩:=hj
      exact ⟨x,hx1,by rw [hx x fun t ht=>(app h).2 t (List.mem_flatMap.2 ⟨x,hx1,ht⟩)];exact hj⟩
    split at hr
    · rename_i hc;rw [hc];exact qis (by simp) (hnm hr)
    · rename_i hc;rw [hc];exact qis (by simp) (hnm hr)
    · rename_i hc;rw [hc];exact qis (by simp) (hnm hr)
    · rename_i hc;rw [hc];exact qis (by simp) (hnm hr)
    · rename_i hc;rw [hc];exact qis (by simp) (hnm hr)
    · rename_i hc;rw [hc];exact qis (by simp) (hnm hr)
    · cases hr
  case makeFunc f first caps=>cases f <;> simp only [qc0,evL] <;> rfl
  all_goals (simp only [qc0,evE,evL])
end
end Go.Proofs.Ytmllgpkgjniomaa.AWN

namespace Go.Proofs.Ytmllgpkgjniomaa.AWN
open Go
structure Rec where
  i:Nat
  mem:Bool
  J:List Nat
def looks (ops:Array Oper) (o:Oper):List Nat:=opT o.op ++ (match o.guard with
  | some (j,_)=>match ops[j]? with
    | some o'=>match o'.dst with
      | some d=>[d]
      | none=>[]
    | none=>[]
  | none=>[])
def que (P:Program) (ops:Array Oper) (σ:St) (o:Oper) (v:V) (J:List Nat):Prop :=
  ∀ σ',σ'.nt = σ.nt→(∀ t ∈ looks ops o,σ'.env t = σ.env t)→(∀ j ∈ J,σ'.heap j = σ.heap j)→One P ops o σ' (· = σ'.putO o.dst v)
def St.set (σ:St) (H:Nat→AObj) (n:Nat):St:={ σ with heap:=H,next:=n }
def qsw (P:Program) (ops:Array Oper) (σ:St) (o:Oper) (v:V) (H:Nat→AObj) (n:Nat):Prop :=
  ∀ σ',σ'.nt = σ.nt→(∀ t ∈ looks ops o,σ'.env t = σ.env t)→σ'.heap = σ.heap→σ'.next = σ.next→One P ops o σ' (· = (σ'.set H n).putO o.dst v)
structure FR where
  r:Rec
  dst:Option Nat
  v:V
  H:Nat→AObj
  n:Nat
def app (σ:St) (f:FR):St:=bif f.r.mem then (σ.set f.H f.n).putO f.dst f.v else σ.putO f.dst f.v
abbrev apps (σ:St) (l:List FR):St:=l.foldl app σ
def Fact (P:Program) (ops:Array Oper) (σ:St) (f:FR):Prop:=∃ o,ops[f.r.i]? = some o∧f.dst = o.dst ∧
  ((f.r.mem = false∧que P ops σ o f.v f.r.J) ∨ (f.r.mem = true∧qsw P ops σ o f.v f.H f.n∧∀ j ∈ f.r.J,f.H j = σ.heap j))
def Hist (P:Program) (ops:Array Oper) (fs0:List FR) (σ0:St) (rs:List Rec) (σ:St):Prop :=
  ∃ gs:List FR,(fs0 ++ gs).map (·.r) = rs.reverse∧σ = apps σ0 (fs0 ++ gs)∧∀ a f b,fs0 ++ gs = a ++ f :: b→Fact P ops (apps σ0 a) f
theorem Hist.nil {P:Program} {ops:Array Oper} {σ0:St}:Hist P ops [] σ0 [] σ0:=⟨[],rfl,rfl,fun a f b e=>by cases a <;> cases e⟩
theorem Hist.cons {P:Program} {ops:Array Oper} {fs0:List FR} {σ0:St} {rs:List Rec} {σ:St} (f:FR) (h:Hist P ops fs0 σ0 rs σ) (hf:Fact P ops σ f):Hist P ops fs0 σ0 (f.r :: rs) (app σ f):=by
  obtain ⟨gs,e1,e2,e3⟩:=h
  refine ⟨gs ++ [f],by rw [← List.append_assoc,List.map_append,e1];simp,by rw [← List.append_assoc,apps,List.foldl_append,← show σ = List.foldl app σ0 (fs0 ++ gs) from e2];rfl,fun a g b e=>?_⟩
  rw [← List.append_assoc] at e
  rcases List.eq_nil_or_concat b with rfl | ⟨b',x,rfl⟩
  · have e':a ++ [g] = (fs0 ++ gs) ++ [f]:=e.symm
    obtain ⟨e4,e5⟩:=List.append_inj' e' rfl
    cases e5
    rw [e4,← e2];exact hf
  · have e':(a ++ g :: b') ++ [x] = (fs0 ++ gs) ++ [f]:=by rw [e];simp
    obtain ⟨e4,e5⟩:=List.append_inj' e' rfl
    exact e3 a g b' e4.symm
section
variable {P:Program} {τ:Tab} {σ σ0:St} {ops:Array Oper} {o:Oper} {w0:World} {A:Args} {okA:Nat→Prop} {Q:Exit→St→Prop}
def aft (ops:Array Oper) (i j:Nat):Bool:=match ops[i]? with
  | some o=>o.after.any fun e=>Region.binds .any e && Nat.beq e.on j
  | none=>false
inductive Reach (ops:Array Oper):Nat→Nat→Prop where
  | one {i j:Nat}:aft ops i j = true→Reach ops i j
  | more {i k j:Nat}:aft ops i k = true→Reach ops k j→Reach ops i j
def qu9 (ms:List Nat) (m:Nat) (e:Edge):Nat:=bif Region.binds .any e then (m ||| 2 ^ e.on) ||| ms.getD e.on 0 else m
def qsa (ms:List Nat) (o:Oper):Nat:=o.after.toList.foldl (qu9 ms) 0
def masks:List Oper→List Nat→List Nat
  | [],ms=>ms
  | o :: l,ms=>masks l (ms ++ [qsa ms o])
def aftT (ms:List Nat) (i j:Nat):Bool:=(ms.getD i 0).testBit j
def qlw (ops:Array Oper) (i:Nat):Option Nat:=match ops[i]? with
  | some o=>o.dst
  | none=>none
def qlb (ops:Array Oper) (i:Nat):List Nat:=match ops[i]? with
  | some o=>looks ops o
  | none=>[]
def hasD:Option Nat→List Nat→Bool
  | some d,l=>l.any (Nat.beq d)
  | none,_=>false
def qub:Option Nat→Option Nat→Bool
  | some d,some e=>Nat.beq d e
  | _,_=>false
def qk3 (D ms:List Nat) (ops:Array Oper) (r s:Rec):Bool :=
  !Nat.beq r.i s.i && !aft ops r.i s.i && (aftT ms s.i r.i || D.any (Nat.beq r.i) || (!hasD (qlw ops r.i) (qlb ops s.i) && !hasD (qlw ops s.i) (qlb ops r.i) && !qub (qlw ops r.i) (qlw ops s.i) && !r.mem
    && (!s.mem || r.J.all fun j=>s.J.any (Nat.beq j))))
def qm1 (D ms:List Nat) (ops:Array Oper):List Rec→Bool
  | []=>true
  | r :: l=>l.all (qk3 D ms ops r) && qm1 D ms ops l
def qsp (ops:Array Oper) (r:Rec):Bool:=match ops[r.i]? with
  | some o=>o.after.all fun e=>!Region.binds .any e || (Nat.blt e.on ops.size && !Nat.beq e.on r.i)
  | none=>false
def qtl (D:List Nat) (ops:Array Oper) (rs:List Rec):Bool :=
  qm1 D (masks ops.toList []) ops rs.reverse && rs.all (qsp ops)
def qse (D:List Nat) (ops:Array Oper) (rs:List Rec):Bool :=
  qtl D ops rs && (List.range ops.size).all (fun i=>rs.any fun r=>Nat.beq r.i i)
abbrev qv7 (ops:Array Oper) (rs:List Rec):Bool:=qse [] ops rs
theorem qog {ms:List Nat} {i:Nat} {o:Oper} (ho:ops[i]? = some o) (hms:∀ k j,(ms.getD k 0).testBit j = true→Reach ops k j):∀ (l:List Edge) (m:Nat),(∀ e ∈ l,e ∈ o.after.toList)→(∀ j,m.testBit j = true→Reach ops i j)→∀ j,(l.foldl (qu9 ms) m).testBit j = true→Reach ops i j
  | [],_,_,hm,j,h=>hm j h
  | e :: l,m,hl,hm,j,h=>by
    refine qog ho hms l (qu9 ms m e) (fun x hx=>hl x (List.mem_cons_of_mem _ hx)) (fun j hj=>?_) j h
    unfold qu9 at hj
    cases hb:Region.binds .any e with
    | false=>rw [hb] at hj;exact hm j hj
    | true =>
      rw [hb] at hj
      simp only [cond_true,Nat.testBit_or,Bool.or_eq_true] at hj
      have hd:aft ops i e.on = true:=by
        unfold aft
        rw [ho]
        exact Array.any_eq_true'.2 ⟨e,Array.mem_toList_iff.1 (hl e (List.mem_cons_self ..)),by simp [hb]⟩
      rcases hj with (hj | hj) | hj
      · exact hm j hj
      · have:e.on = j:=by
          rw [Nat.testBit_two_pow] at hj
          simpa using hj
        rw [← this];exact .one hd
      · exact .more hd (hms _ _ hj)
theorem qoh:∀ (l:List Oper) (ms:List Nat),(∀ k,l[k]? = ops[ms.length + k]?)→(∀ k j,(ms.getD k 0).testBit j = true→Reach ops k j)→∀ k j,((masks l ms).getD k 0).testBit j = true→Reach ops k j
  | [],ms,_,h,k,j,hk=>h k j hk
  | o :: l,ms,hl,h,k,j,hk=>by
    have ho:ops[ms.length]? = some o:=by simpa using (hl 0).symm
    refine qoh l (ms ++ [qsa ms o]) (fun k=>?_) (fun k j hkj=>?_) k j hk
    · have:=hl (k + 1)
      simp only [List.getElem?_cons_succ] at this
      rw [this,List.length_append,List.length_singleton];congr 1;omega
    · rw [List.getD_eq_getElem?_getD,List.getElem?_append] at hkj
      split at hkj
      · rw [← List.getD_eq_getElem?_getD] at hkj;exact h k j hkj
      · by_cases hk0:k - ms.length = 0
        · rw [hk0] at hkj
          have:k = ms.length:=by omega
          subst this
          exact qog ho h _ 0 (fun _ he=>he) (fun j hj=>by simp at hj) j (by
            have e:[qsa ms o][0]?.getD 0 = qsa ms o:=rfl
            rw [e] at hkj;exact hkj)
        · rw [List.getElem?_eq_none (by simp;omega)] at hkj
          simp at hkj
theorem qpv {i j:Nat} (h:aftT (masks ops.toList []) i j = true):Reach ops i j :=
  qoh ops.toList [] (by simp) (fun k j h=>by simp at h) i j h
theorem qmb {L:Nat→Prop} (hdc:∀ i j,L i→aft ops i j = true→L j) {i j:Nat} (h:Reach ops i j) (hi:L i):L j:=by
  induction h with
  | one h=>exact hdc _ _ hi h
  | more h _ ih=>exact ih (hdc _ _ hi h)
theorem reach_ready {L:Nat→Prop} (hdc:∀ i j,L i→aft ops i j = true→L j) {i j:Nat} (h:Reach ops i j) (hi:∀ k,aft ops i k = true→L k):L j:=by
  cases h with
  | one h=>exact hi _ h
  | more h h2=>exact qmb hdc h2 (hi _ h)
theorem qia {D ms:List Nat}:∀ {l a b c:List Rec} {r s:Rec},qm1 D ms ops l = true→l = a ++ r :: (b ++ s :: c)→qk3 D ms ops r s = true
  | [],a,b,c,r,s,h,e=>by cases a <;> cases e
  | x :: l,[],b,c,r,s,h,e=>by
    cases e
    simp only [qm1,Bool.and_eq_true] at h
    exact List.all_eq_true.1 h.1 s (by simp)
  | x :: l,y :: a,b,c,r,s,h,e=>by
    cases e
    simp only [qm1,Bool.and_eq_true] at h
    exact qia h.2 rfl
/-! ### Folds -/
theorem app_nt (f:FR):(app σ f).nt = σ.nt:=by
  unfold app;cases f.r.mem <;> cases hd:f.dst <;> rfl
theorem qr4:∀ (l:List FR) (σ:St),(apps σ l).nt = σ.nt
  | [],_=>rfl
  | f :: l,σ=>(qr4 l (app σ f)).trans (app_nt f)
theorem qp0 (f:FR) (t:Nat):(app σ f).env t = if f.dst = some t then f.v else σ.env t:=by
  unfold app
  cases f.r.mem <;> cases hd:f.dst with
  | none=>simp [St.putO,St.set]
  | some d =>
    simp only [St.putO,St.put,St.set,cond_true,cond_false,Option.some.injEq]
    by_cases h:t = d
    · subst h;rw [upd_same,if_pos rfl]
    · rw [upd_ne _ _ h,if_neg (Ne.symm h)]
theorem qjc (f:FR):(app σ f).heap = (if f.r.mem = true then f.H else σ.heap)∧(app σ f).next = if f.r.mem = true then f.n else σ.next:=by
  unfold app;cases f.r.mem <;> cases hd:f.dst <;> exact ⟨rfl,rfl⟩
theorem qlx (p:FR→Bool) (t:Nat):∀ (l:List FR) (σ σ':St),σ.env t = σ'.env t→(∀ f ∈ l,f.dst = some t→p f = true)→(apps σ (l.filter p)).env t = (apps σ' l).env t
  | [],σ,σ',h,_=>h
  | f :: l,σ,σ',h,hp=>by
    have hl:=fun f hf=>hp f (List.mem_cons_of_mem _ hf)
    by_cases hpf:p f = true
    · rw [List.filter_cons_of_pos hpf]
      exact qlx p t l (app σ f) (app σ' f) (by rw [qp0,qp0,h]) hl
    · rw [List.filter_cons_of_neg hpf]
      refine qlx p t l σ (app σ' f) ?_ hl
      rw [qp0,if_neg (fun e=>hpf (hp f (List.mem_cons_self ..) e))];exact h
theorem ql9 (p:FR→Bool):∀ (l:List FR) (σ σ':St),σ.heap = σ'.heap→σ.next = σ'.next→(∀ f ∈ l,f.r.mem = true→p f = true)→(apps σ (l.filter p)).heap = (apps σ' l).heap∧(apps σ (l.filter p)).next = (apps σ' l).next
  | [],σ,σ',h,k,_=>⟨h,k⟩
  | f :: l,σ,σ',h,k,hp=>by
    have hl:=fun f hf=>hp f (List.mem_cons_of_mem _ hf)
    by_cases hpf:p f = true
    · rw [List.filter_cons_of_pos hpf]
      exact ql9 p l (app σ f) (app σ' f) (by rw [(qjc f).1,(qjc f).1,h]) (by rw [(qjc f).2,(qjc f).2,k]) hl
    · rw [List.filter_cons_of_neg hpf]
      have hm:¬ f.r.mem = true:=fun e=>hpf (hp f (List.mem_cons_self ..) e)
      exact ql9 p l σ (app σ' f) (by rw [(qjc f).1,if_neg hm];exact h) (by rw [(qjc f).2,if_neg hm];exact k) hl
theorem qt7 (t:Nat):∀ (l:List FR) (σ:St),(∀ f ∈ l,f.dst ≠ some t)→(apps σ l).env t = σ.env t
  | [],_,_=>rfl
  | f :: l,σ,h=>by
    show (apps (app σ f) l).env t = _
    rw [qt7 t l _ fun g hg=>h g (List.mem_cons_of_mem _ hg),qp0,if_neg (h f (List.mem_cons_self ..))]
theorem put_comm {d e:Nat} {x y:V} (h:d ≠ e):(σ.put d x).put e y = (σ.put e y).put d x:=by
  unfold St.put
  congr 1
  funext t
  show upd (upd σ.env d x) e y t = upd (upd σ.env e y) d x t
  by_cases h1:t = d
  · subst h1;rw [upd_ne _ _ h,upd_same,upd_same]
  · by_cases h2:t = e
    · subst h2;rw [upd_same,upd_ne _ _ (Ne.symm h),upd_same]
    · rw [upd_ne _ _ h2,upd_ne _ _ h1,upd_ne _ _ h1,upd_ne _ _ h2]
theorem app_comm {f g:FR} (hf:f.r.mem = false) (hd:∀ d,f.dst = some d→g.dst ≠ some d):app (app σ f) g = app (app σ g) f:=by
  unfold app
  rw [hf]
  simp only [cond_false]
  cases hfd:f.dst with
  | none=>cases g.r.mem <;> rfl
  | some d =>
    cases hgd:g.dst with
    | none=>cases g.r.mem <;> rfl
    | some e =>
      have hne:d ≠ e:=fun h=>by subst h;exact hd d hfd hgd
      cases g.r.mem
      · simp only [St.putO,cond_false];exact put_comm hne
      · simp only [St.putO,cond_true];exact put_comm (σ:=σ.set g.H g.n) hne
theorem qpw {f:FR} (hf:f.r.mem = false):∀ (l:List FR) (σ:St),(∀ g ∈ l,∀ d,f.dst = some d→g.dst ≠ some d)→apps (app σ f) l = app (apps σ l) f
  | [],_,_=>rfl
  | g :: l,σ,h=>by
    show apps (app (app σ f) g) l = app (apps (app σ g) l) f
    rw [app_comm hf (h g (List.mem_cons_self ..)),qpw hf l _ fun k hk=>h k (List.mem_cons_of_mem _ hk)]
theorem qoc {d:Nat} {l:List Nat} {x:Option Nat} (h:hasD x l = false) (hd:d ∈ l):x ≠ some d:=by
  rintro rfl
  simp only [hasD,List.any_eq_false] at h
  exact h d hd (by simp)
theorem sameD_false {x y:Option Nat} (h:qub x y = false) {d:Nat} (hx:x = some d):y ≠ some d:=by
  rintro rfl
  subst hx
  simp [qub] at h
def atL (σ0:St) (fs:List FR) (L:Array Bool):St:=apps σ0 (fs.filter fun f=>L.getD f.r.i false)
theorem qoy {i j:Nat} {o:Oper} (ho:ops[i]? = some o):aft ops i j = true ↔ ∃ e ∈ o.after,Region.binds .any e = true∧e.on = j:=by
  unfold aft
  rw [ho]
  simp only [Array.any_eq_true']
  constructor
  · rintro ⟨e,he,h⟩
    simp only [Bool.and_eq_true] at h
    exact ⟨e,he,h.1,by simpa using h.2⟩
  · rintro ⟨e,he,h1,h2⟩
    exact ⟨e,he,by simp [h1,h2]⟩
theorem qk9 (L:Array Bool) (i j:Nat) (h:i < L.size):(L.setIfInBounds i true).getD j false = if j = i then true else L.getD j false:=by
  rw [Array.getD_eq_getD_getElem?,Array.getElem?_setIfInBounds]
  by_cases hj:i = j
  · subst hj;simp [h]
  · rw [if_neg hj,if_neg (Ne.symm hj),← Array.getD_eq_getD_getElem?]
theorem atL_set {fs a b:List FR} {s:FR} {L:Array Bool} (hfs:fs = a ++ s :: b) (hs:s.r.i < L.size) (hun:L.getD s.r.i false = false) (hne:∀ f ∈ a ++ b,f.r.i ≠ s.r.i)
    (hro:(∃ f ∈ b,L.getD f.r.i false = true)→s.r.mem = false) (hd:∀ f ∈ b,L.getD f.r.i false = true→∀ d,s.dst = some d→f.dst ≠ some d) :
    atL σ0 fs (L.setIfInBounds s.r.i true) = app (atL σ0 fs L) s:=by
  have hfil:∀ l:List FR,(∀ f ∈ l,f.r.i ≠ s.r.i)→(l.filter fun f=>(L.setIfInBounds s.r.i true).getD f.r.i false) = l.filter fun f=>L.getD f.r.i false:=fun l hl =>
    List.filter_congr fun f hf=>by rw [qk9 _ _ _ hs,if_neg (hl f hf)]
  unfold atL
  rw [hfs,List.filter_append,List.filter_append,List.filter_cons_of_pos (by rw [qk9 _ _ _ hs,if_pos rfl]),List.filter_cons_of_neg (by simp [hun]),
    hfil a (fun f hf=>hne f (List.mem_append_left _ hf)),hfil b (fun f hf=>hne f (List.mem_append_right _ hf))]
  unfold apps
  rw [List.foldl_append,List.foldl_append,List.foldl_cons]
  by_cases hb:∃ f ∈ b,L.getD f.r.i false = true
  · exact qpw (hro hb) _ _ fun g hg d hsd=>hd g (List.mem_filter.1 hg).1 (List.mem_filter.1 hg).2 d hsd
  · have:(b.filter fun f=>L.getD f.r.i false) = []:=List.filter_eq_nil_iff.2 fun f hf h=>hb ⟨f,hf,h⟩
    rw [this];rfl
theorem heap_kept {fs a:List FR} {s:FR} {J:List Nat} (hro:s.r.mem = false) (hfact:∀ x f y,fs = x ++ f :: y→Fact P ops (apps σ0 x) f) (p:FR→Bool) :
    ∀ (b:List FR),(∃ y,fs = a ++ s :: (b ++ y)) →
      (∀ x f y,b = x ++ f :: y→f.r.mem = true→p f = true→(∀ j ∈ J,j ∈ f.r.J)∧∀ g ∈ x,g.r.mem = true→p g = true)→(∀ f ∈ b,True) →
      ∀ (σ:St),(∀ j ∈ J,σ.heap j = (apps σ0 a).heap j)→∀ j ∈ J,(apps σ (b.filter p)).heap j = (apps σ0 a).heap j:=by
  intro b hy hb _ σ hσ
  -- from the right
  have key:∀ (n:Nat) (b:List FR),b.length = n→(∃ y,fs = a ++ s :: (b ++ y)) →
      (∀ x f y,b = x ++ f :: y→f.r.mem = true→p f = true→(∀ j ∈ J,j ∈ f.r.J)∧∀ g ∈ x,g.r.mem = true→p g = true) →
      (∀ j ∈ J,(apps σ (b.filter p)).heap j = (apps σ0 a).heap j)∧((∀ g ∈ b,g.r.mem = true→p g = true)→∀ j ∈ J,(apps σ0 (a ++ s :: b)).heap j = (apps σ0 a).heap j):=by
    intro n
    induction n with
    | zero =>
      intro b hn _ _
      obtain rfl:=List.length_eq_zero_iff.1 hn
      refine ⟨hσ,fun _ j _=>?_⟩
      rw [apps,List.foldl_append]
      show (app (apps σ0 a) s).heap j = _
      rw [(qjc s).1,if_neg (by simp [hro])]
    | succ n ih0 =>
      intro b0 hn ⟨y,hy⟩ hb
      obtain ⟨b,f,rfl⟩:∃ b f,b0 = b ++ [f]:=by
        rcases List.eq_nil_or_concat b0 with rfl | ⟨b,f,rfl⟩
        · cases hn
        · exact ⟨b,f,by simp⟩
      have ih:=ih0 b (by simpa using hn)
      have hb':∀ x g z,b = x ++ g :: z→g.r.mem = true→p g = true→(∀ j ∈ J,j ∈ g.r.J)∧∀ k ∈ x,k.r.mem = true→p k = true:=fun x g z e=>hb x g (z ++ [f]) (by rw [e];simp)
      obtain ⟨i1,i2⟩:=ih ⟨f :: y,by rw [hy];simp⟩ hb'
      have hmem:f.r.mem = true→p f = true→∀ j ∈ J,f.H j = (apps σ0 a).heap j:=by
        intro hm hp j hj
        obtain ⟨h1,h2⟩:=hb b f [] rfl hm hp
        obtain ⟨o,_,_,hff⟩:=hfact (a ++ s :: b) f y (by rw [hy];simp)
        rcases hff with ⟨h3,_⟩ | ⟨_,_,h3⟩
        · rw [h3] at hm;cases hm
        · rw [h3 j (h1 j hj)];exact i2 h2 j hj
      refine ⟨fun j hj=>?_,fun hall j hj=>?_⟩
      · rw [List.filter_append,apps,List.foldl_append]
        by_cases hp:p f = true
        · rw [List.filter_cons_of_pos hp]
          show (app (apps σ (b.filter p)) f).heap j = _
          rw [(qjc f).1]
          by_cases hm:f.r.mem = true
          · rw [if_pos hm];exact hmem hm hp j hj
          · rw [if_neg hm];exact i1 j hj
        · rw [List.filter_cons_of_neg hp]
          exact i1 j hj
      · have e:a ++ s :: (b ++ [f]) = (a ++ s :: b) ++ [f]:=by simp
        rw [e,apps,List.foldl_append]
        show (app (apps σ0 (a ++ s :: b)) f).heap j = _
        rw [(qjc f).1]
        by_cases hm:f.r.mem = true
        · rw [if_pos hm];exact hmem hm (hall f (by simp) hm) j hj
        · rw [if_neg hm];exact i2 (fun g hg=>hall g (List.mem_append_left _ hg)) j hj
  exact (key _ b rfl hy hb).1
end
end Go.Proofs.Ytmllgpkgjniomaa.AWN

namespace Go.Proofs.Ytmllgpkgjniomaa.AWN
open Go
section
variable {P:Program} {τ:Tab} {σ σ0:St} {ops:Array Oper} {o:Oper} {w0:World} {A:Args} {okA:Nat→Prop} {Q:Exit→St→Prop}
theorem qo8 {α:Type} (p q:α→Bool):∀ (l:List α),(∀ x ∈ l,q x = true→p x = true)→(∃ x ∈ l,p x = true∧q x = false)→(l.filter q).length < (l.filter p).length
  | [],_,h=>by obtain ⟨x,hx,_⟩:=h;cases hx
  | y :: l,hq,h=>by
    have hle:∀ l:List α,(∀ x ∈ l,q x = true→p x = true)→(l.filter q).length ≤ (l.filter p).length:=by
      intro l
      induction l with
      | nil=>intro _;exact Nat.le_refl _
      | cons z l ih =>
        intro hz
        have:=ih fun x hx=>hz x (List.mem_cons_of_mem _ hx)
        cases hqz:q z with
        | true=>rw [List.filter_cons_of_pos hqz,List.filter_cons_of_pos (hz z (List.mem_cons_self ..) hqz)];simpa using this
        | false =>
          rw [List.filter_cons_of_neg (by simp [hqz])]
          cases hpz:p z with
          | true=>rw [List.filter_cons_of_pos hpz];simp;omega
          | false=>rw [List.filter_cons_of_neg (by simp [hpz])];exact this
    have hql:=fun x hx=>hq x (List.mem_cons_of_mem _ hx)
    obtain ⟨x,hx,h1,h2⟩:=h
    rcases List.mem_cons.1 hx with rfl | hx
    · rw [List.filter_cons_of_pos h1,List.filter_cons_of_neg (by simp [h2])]
      have:=hle l hql
      simp;omega
    · have:=qo8 p q l hql ⟨x,hx,h1,h2⟩
      cases hqz:q y with
      | true=>rw [List.filter_cons_of_pos hqz,List.filter_cons_of_pos (hq y (List.mem_cons_self ..) hqz)];simpa using this
      | false =>
        rw [List.filter_cons_of_neg (by simp [hqz])]
        cases hpz:p y with
        | true=>rw [List.filter_cons_of_pos hpz];simp;omega
        | false=>rw [List.filter_cons_of_neg (by simp [hpz])];exact this
structure Wk (P:Program) (ops:Array Oper) (σ0:St) (D:List Nat) (fs:List FR):Prop where
  fact:∀ a f b,fs = a ++ f :: b→Fact P ops (apps σ0 a) f
  pairs:qm1 D (masks ops.toList []) ops (fs.map (·.r)) = true
  self:∀ s ∈ fs,qsp ops s.r = true
def Down (ops:Array Oper) (L:Array Bool):Prop:=L.size = ops.size∧∀ i j,L.getD i false = true→aft ops i j = true→L.getD j false = true
def Has (D:List Nat) (L:Array Bool):Prop:=∀ d ∈ D,L.getD d false = true
def Within (fs:List FR) (L:Array Bool):Prop:=∀ i,L.getD i false = true→∃ s ∈ fs,s.r.i = i
def qtz (ops:Array Oper) (L:Array Bool):Nat:=((List.range ops.size).filter fun i=>!L.getD i false).length
theorem qou {D:List Nat} {rs:List Rec} {fs:List FR} (hmap:fs.map (·.r) = rs.reverse) (hfact:∀ a f b,fs = a ++ f :: b→Fact P ops (apps σ0 a) f) (hok:qtl D ops rs = true):Wk P ops σ0 D fs:=by
  simp only [qtl,Bool.and_eq_true] at hok
  refine ⟨hfact,by rw [hmap];exact hok.1,fun s hs=>List.all_eq_true.1 hok.2 _ ?_⟩
  have:s.r ∈ fs.map (·.r):=List.mem_map.2 ⟨s,hs,rfl⟩
  rw [hmap] at this
  simpa using this
theorem undone_set {L:Array Bool} {i:Nat} (hL:L.size = ops.size) (hi:i < ops.size) (hun:L.getD i false = false) {fuel:Nat} (h:qtz ops L ≤ fuel + 1):qtz ops (L.setIfInBounds i true) ≤ fuel:=by
  refine Nat.le_of_lt_succ (Nat.lt_of_lt_of_le (qo8 _ _ (List.range ops.size) (fun f hf h=>?_) ⟨i,List.mem_range.2 hi,by simp [hun],by rw [qk9 _ _ _ (by omega),if_pos rfl];rfl⟩) h)
  rw [qk9 _ _ _ (by omega)] at h
  by_cases hfi:f = i
  · rw [if_pos hfi] at h;simp at h
  · rw [if_neg hfi] at h;exact h
theorem down_set {L:Array Bool} {i:Nat} (hL:Down ops L) (hi:i < ops.size) (hdep:∀ j,aft ops i j = true→L.getD j false = true):Down ops (L.setIfInBounds i true):=by
  refine ⟨by rw [Array.size_setIfInBounds];exact hL.1,fun k j hk haf=>?_⟩
  have hs:=hL.1
  rw [qk9 _ _ _ (by omega)] at hk ⊢
  by_cases hj:j = i
  · rw [if_pos hj]
  · rw [if_neg hj]
    by_cases his:k = i
    · subst his;exact hdep j haf
    · rw [if_neg his] at hk;exact hL.2 k j hk haf
theorem has_set {D:List Nat} {L:Array Bool} {i:Nat} (hi:i < L.size) (h:Has D L):Has D (L.setIfInBounds i true):=fun d hd=>by
  rw [qk9 _ _ _ hi]
  split
  · rfl
  · exact h d hd
theorem qm4 {L:Array Bool} {i:Nat} (hL:Down ops L) (hi:i ∈ Region.ready .any ops L):i < ops.size∧L.getD i false = false∧∀ j,aft ops i j = true→L.getD j false = true:=by
  obtain ⟨h0,o,ho,hafter⟩:=mem_ready.1 hi
  have hlt:=(Array.getElem?_eq_some_iff.1 ho).1
  have hs:=hL.1
  refine ⟨hlt,?_,fun j hj=>?_⟩
  · rw [Array.getD_eq_getD_getElem?,Array.getElem?_eq_getElem (by omega)] at h0 ⊢
    exact h0
  · obtain ⟨ed,h1,h2,rfl⟩:=(qoy ho).1 hj
    exact hafter ed h1 h2
theorem any_step {D:List Nat} {fs:List FR} (hw:Wk P ops σ0 D fs) {fuel:Nat} {L:Array Bool} {a:Act} {W:World} {hb:Handle} (hL:Down ops L) (hD:Has D L) (hs:Sim w0 A okA hb (atL σ0 fs L) a W) {s:FR} (hsm:s ∈ fs) (hi:s.r.i ∈ Region.ready .any ops L)
    (hK:∀ a' W' hb',Sim w0 A okA hb' (atL σ0 fs (L.setIfInBounds s.r.i true)) a' W'→wpAny P .any ops (lift w0 A okA Q) fuel (L.setIfInBounds s.r.i true) a' W') :
    wpOp P ops (lift w0 A okA Q) s.r.i (wpAny P .any ops (lift w0 A okA Q) fuel (L.setIfInBounds s.r.i true)) a W:=by
  have hpairs:=hw.pairs
  have pairA:∀ {a b:List FR} {s r:FR},fs = a ++ s :: b→r ∈ a→qk3 D (masks ops.toList []) ops r.r s.r = true:=by
    intro a b s r e hr
    obtain ⟨x,y,rfl⟩:=List.append_of_mem hr
    refine qia (a:=x.map (·.r)) (b:=y.map (·.r)) (c:=b.map (·.r)) hpairs ?_
    rw [e];simp
  have pairB:∀ {a b:List FR} {s r:FR},fs = a ++ s :: b→r ∈ b→qk3 D (masks ops.toList []) ops s.r r.r = true:=by
    intro a b s r e hr
    obtain ⟨x,y,rfl⟩:=List.append_of_mem hr
    refine qia (a:=a.map (·.r)) (b:=x.map (·.r)) (c:=y.map (·.r)) hpairs ?_
    rw [e];simp
  have hfact:=hw.fact
  have opS:∀ s ∈ fs,∃ o,ops[s.r.i]? = some o∧s.dst = o.dst:=by
    intro s hs
    obtain ⟨x,y,e⟩:=List.append_of_mem hs
    obtain ⟨o,h1,h2,_⟩:=hfact x s y e
    exact ⟨o,h1,h2⟩
  have dstS:∀ s ∈ fs,qlw ops s.r.i = s.dst:=by
    intro s hs
    obtain ⟨o,h1,h2⟩:=opS s hs
    unfold qlw;rw [h1,h2]
  have ltS:∀ s ∈ fs,s.r.i < ops.size:=by
    intro s hs
    obtain ⟨o,h1,_⟩:=opS s hs
    exact (Array.getElem?_eq_some_iff.1 h1).1
  obtain ⟨hlt,hun,hdep⟩:=qm4 hL hi
  have hdc:=hL.2
  have hDm:∀ {i:Nat},D.any (Nat.beq i) = true→L.getD i false = true:=fun {i} h=>by
    obtain ⟨d,hd,e⟩:=List.any_eq_true.1 h
    rw [show i = d by simpa using e];exact hD d hd
  obtain ⟨x,y,e⟩:=List.append_of_mem hsm
  obtain ⟨o,ho',hdst,hf⟩:=hfact x s y e
  have ho:ops[s.r.i]? = some o:=ho'
  have hdepT:∀ j,aftT (masks ops.toList []) s.r.i j = true→L.getD j false = true:=fun j hj=>reach_ready (L:=fun k=>L.getD k false = true) (fun i j h1 h2=>hdc i j h1 h2) (qpv hj) hdep
  have hdcT:∀ i j,L.getD i false = true→aftT (masks ops.toList []) i j = true→L.getD j false = true:=fun i j hi hj=>qmb (L:=fun k=>L.getD k false = true) (fun i j h1 h2=>hdc i j h1 h2) (qpv hj) hi
  -- those behind it that have come up do not wait for it
  have hB:∀ g ∈ y,L.getD g.r.i false = true→(hasD (qlw ops s.r.i) (qlb ops g.r.i) = false∧hasD (qlw ops g.r.i) (qlb ops s.r.i) = false∧qub (qlw ops s.r.i) (qlw ops g.r.i) = false∧s.r.mem = false∧(g.r.mem = false ∨ ∀ j ∈ s.r.J,j ∈ g.r.J)):=by
    intro g hg hl
    have hp:=pairB e hg
    have hna:aftT (masks ops.toList []) g.r.i s.r.i = false:=by
      cases h:aftT (masks ops.toList []) g.r.i s.r.i with
      | false=>rfl
      | true=>rw [hdcT _ _ hl h] at hun;cases hun
    have hnd:D.any (Nat.beq s.r.i) = false:=by
      cases h:D.any (Nat.beq s.r.i) with
      | false=>rfl
      | true=>rw [hDm h] at hun;cases hun
    simp only [qk3,hna,hnd,Bool.false_or,Bool.and_eq_true,Bool.not_eq_true',Bool.or_eq_true] at hp
    obtain ⟨_,⟨⟨⟨p1,p2⟩,p3⟩,p4⟩,p5⟩:=hp
    refine ⟨p1,p2,p3,p4,p5.imp id fun h j hj=>?_⟩
    have:=List.all_eq_true.1 h j hj
    obtain ⟨k,hk,e⟩:=List.any_eq_true.1 this
    rw [show j = k by simpa using e];exact hk
  have hA:∀ g ∈ x,L.getD g.r.i false = true ∨ (hasD (qlw ops g.r.i) (qlb ops s.r.i) = false∧g.r.mem = false):=by
    intro g hg
    have hp:=pairA e hg
    cases h:aftT (masks ops.toList []) s.r.i g.r.i with
    | true=>exact .inl (hdepT _ h)
    | false =>
      simp only [qk3,h,Bool.false_or,Bool.and_eq_true,Bool.not_eq_true',Bool.or_eq_true] at hp
      rcases hp.2 with hd | hp
      · exact .inl (hDm hd)
      · exact .inr ⟨hp.1.1.1.1,hp.1.2⟩
  have hgm:∀ g ∈ x ++ y,g ∈ fs:=fun g hg=>by
    rw [e]
    rcases List.mem_append.1 hg with hg | hg <;> simp [hg]
  have hne:∀ g ∈ x ++ y,g.r.i ≠ s.r.i:=by
    intro g hg
    rcases List.mem_append.1 hg with hg | hg
    · have hp:=pairA e hg
      simp only [qk3,Bool.and_eq_true,Bool.not_eq_true'] at hp
      have:=hp.1.1
      intro h;rw [h] at this;simp at this
    · have hp:=pairB e hg
      simp only [qk3,Bool.and_eq_true,Bool.not_eq_true'] at hp
      have:=hp.1.1
      intro h;rw [h] at this;simp at this
  have hX:atL σ0 fs L = apps (apps σ0 (x.filter fun f=>L.getD f.r.i false)) (y.filter fun f=>L.getD f.r.i false):=by
    unfold atL apps
    rw [e,List.filter_append,List.filter_cons_of_neg (by simp [hun]),List.foldl_append]
  have hlk:qlb ops s.r.i = looks ops o:=by unfold qlb;rw [ho]
  have henv:∀ t ∈ looks ops o,(atL σ0 fs L).env t = (apps σ0 x).env t:=by
    intro t ht
    rw [← hlk] at ht
    rw [hX,qt7 t _ _ fun g hg=>by
      obtain ⟨hg1,hg2⟩:=List.mem_filter.1 hg
      have:=(hB g hg1 hg2).2.1
      rw [dstS g (hgm g (List.mem_append_right _ hg1))] at this
      exact qoc this ht]
    exact qlx _ t x σ0 σ0 rfl fun g hg hgd=>by
      rcases hA g hg with h | ⟨h,_⟩
      · exact h
      · rw [dstS g (hgm g (List.mem_append_left _ hg))] at h
        exact absurd hgd (qoc h ht)
  have hnt:(atL σ0 fs L).nt = (apps σ0 x).nt:=by unfold atL;rw [qr4,qr4]
  have hheapA:=ql9 (fun f:FR=>L.getD f.r.i false) x σ0 σ0 rfl rfl fun g hg hm=>by
    rcases hA g hg with h | ⟨_,h⟩
    · exact h
    · rw [h] at hm;cases hm
  -- the step
  have hone:One P ops o (atL σ0 fs L) (· = app (atL σ0 fs L) s):=by
    rcases hf with ⟨hm,hf⟩ | ⟨hm,hf,hk⟩
    · have h1:app (atL σ0 fs L) s = (atL σ0 fs L).putO o.dst s.v:=by unfold app;rw [hm,hdst];rfl
      rw [h1]
      refine hf _ hnt henv fun j hj=>?_
      rw [hX]
      refine heap_kept hm hfact (fun f:FR=>L.getD f.r.i false) y ⟨[],by rw [e];simp⟩ (fun x' f y' ey hfm hfl=>⟨fun j hj=>?_,fun g hg hgm'=>?_⟩) (fun _ _=>trivial) _ (fun j hj=>by rw [hheapA.1]) j hj
      · rcases (hB f (by rw [ey];simp) hfl).2.2.2.2 with h | h
        · rw [h] at hfm;cases hfm
        · exact h j hj
      · -- an earlier change of memory: waited for
        have e2:fs = (x ++ s :: x') ++ f :: y':=by rw [e,ey];simp
        have hp:=pairA e2 (r:=g) (by simp [hg])
        cases h:aftT (masks ops.toList []) f.r.i g.r.i with
        | true=>exact hdcT _ _ hfl h
        | false =>
          simp only [qk3,h,Bool.false_or,Bool.and_eq_true,Bool.not_eq_true',Bool.or_eq_true] at hp
          rcases hp.2 with hd | hp
          · exact hDm hd
          · rw [hp.1.2] at hgm';cases hgm'
    · have hnil:(y.filter fun f=>L.getD f.r.i false) = []:=List.filter_eq_nil_iff.2 fun g hg h=>by
        have:=(hB g hg h).2.2.2.1
        rw [hm] at this;cases this
      have h1:app (atL σ0 fs L) s = ((atL σ0 fs L).set s.H s.n).putO o.dst s.v:=by unfold app;rw [hm,hdst];rfl
      rw [h1]
      rw [hnil] at hX
      refine hf _ hnt henv ?_ ?_
      · rw [hX];exact hheapA.1
      · rw [hX];exact hheapA.2
  have hset:=atL_set (σ0:=σ0) e (by rw [hL.1];exact hlt) hun hne (fun ⟨g,hg,hl⟩=>(hB g hg hl).2.2.2.1) (fun g hg hl d hd=>by
    have:=(hB g hg hl).2.2.1
    rw [dstS s hsm,dstS g (hgm g (List.mem_append_right _ hg))] at this
    exact sameD_false this hd)
  have:=hone w0 A okA hb a W hs (lift w0 A okA Q) (wpAny P .any ops (lift w0 A okA Q) fuel (L.setIfInBounds s.r.i true))
    (fun σ' hb' a' W' hσ' hs'=>hK a' W' hb' (by rw [hset,← hσ'];exact hs'))
  unfold wpOp
  simp only [ho]
  split
  · rename_i hw;rw [if_pos hw] at this;exact .inl this
  · rename_i hw;rw [if_neg hw] at this;exact this
theorem all_up {D:List Nat} {fs:List FR} (hw:Wk P ops σ0 D fs) {L:Array Bool} (hL:Down ops L) (hD:Has D L) (hcl:∀ s ∈ fs,∀ j,aft ops s.r.i j = true→∃ r ∈ fs,r.r.i = j) (hr:Region.ready .any ops L = []):∀ s ∈ fs,L.getD s.r.i false = true:=by
  have hpairs:=hw.pairs
  have pairA:∀ {a b:List FR} {s r:FR},fs = a ++ s :: b→r ∈ a→qk3 D (masks ops.toList []) ops r.r s.r = true:=by
    intro a b s r e hr
    obtain ⟨x,y,rfl⟩:=List.append_of_mem hr
    refine qia (a:=x.map (·.r)) (b:=y.map (·.r)) (c:=b.map (·.r)) hpairs ?_
    rw [e];simp
  have pairB:∀ {a b:List FR} {s r:FR},fs = a ++ s :: b→r ∈ b→qk3 D (masks ops.toList []) ops s.r r.r = true:=by
    intro a b s r e hr
    obtain ⟨x,y,rfl⟩:=List.append_of_mem hr
    refine qia (a:=a.map (·.r)) (b:=x.map (·.r)) (c:=y.map (·.r)) hpairs ?_
    rw [e];simp
  have hfact:=hw.fact
  have selfS:=hw.self
  have opS:∀ s ∈ fs,∃ o,ops[s.r.i]? = some o∧s.dst = o.dst:=by
    intro s hs
    obtain ⟨x,y,e⟩:=List.append_of_mem hs
    obtain ⟨o,h1,h2,_⟩:=hfact x s y e
    exact ⟨o,h1,h2⟩
  have dstS:∀ s ∈ fs,qlw ops s.r.i = s.dst:=by
    intro s hs
    obtain ⟨o,h1,h2⟩:=opS s hs
    unfold qlw;rw [h1,h2]
  have ltS:∀ s ∈ fs,s.r.i < ops.size:=by
    intro s hs
    obtain ⟨o,h1,_⟩:=opS s hs
    exact (Array.getElem?_eq_some_iff.1 h1).1
  -- the first that has not
  have key:∀ (n:Nat) (a b:List FR),a.length = n→fs = a ++ b→(∀ s ∈ a,L.getD s.r.i false = true)→∀ s ∈ fs,L.getD s.r.i false = true:=by
    intro n a b
    induction b generalizing a n with
    | nil=>intro _ e h s hs;rw [e] at hs;simp at hs;exact h s hs
    | cons s b ih =>
      intro hn e h
      have hsm:s ∈ fs:=by rw [e];simp
      have hls:L.getD s.r.i false = true:=by
        cases hc:L.getD s.r.i false with
        | true=>rfl
        | false =>
          exfalso
          obtain ⟨o,ho,hd⟩:=opS s hsm
          have hlt:=ltS s hsm
          have hm:s.r.i ∈ Region.ready .any ops L:=by
            refine mem_ready.2 ⟨?_,o,ho,fun ed hed hbd=>?_⟩
            · rw [Array.getD_eq_getD_getElem?,Array.getElem?_eq_getElem (by rw [hL.1];exact hlt)] at hc ⊢
              exact hc
            · have hso:=selfS s hsm
              unfold qsp at hso
              rw [ho] at hso
              simp only [Array.all_eq_true_iff_forall_mem] at hso
              have:=hso ed hed
              simp only [hbd,Bool.not_true,Bool.false_or,Bool.and_eq_true] at this
              have hon:ed.on < ops.size:=by simpa [Nat.blt_eq] using this.1
              have hne:ed.on ≠ s.r.i:=fun h=>by have h2:=this.2;rw [h] at h2;simp at h2
              have haf:aft ops s.r.i ed.on = true:=(qoy ho).2 ⟨ed,hed,hbd,rfl⟩
              obtain ⟨r,hrm,hri⟩:=hcl s hsm _ haf
              rw [e] at hrm
              rcases List.mem_append.1 hrm with hra | hrb
              · rw [← hri];exact h r hra
              · rcases List.mem_cons.1 hrb with rfl | hrb
                · exact absurd hri.symm hne
                · have:=pairB e hrb
                  simp only [qk3,Bool.and_eq_true,Bool.not_eq_true'] at this
                  rw [hri] at this
                  rw [this.1.2] at haf;cases haf
          rw [hr] at hm;cases hm
      exact ih _ (a ++ [s]) rfl (by rw [e];simp) (fun x hx=>by
        rcases List.mem_append.1 hx with hx | hx
        · exact h x hx
        · simp at hx;subst hx;exact hls)
  exact key 0 [] fs rfl rfl (fun s hs=>by cases hs)
def Cont (P:Program) (ops:Array Oper) (σ0:St) (Q:Exit→St→Prop) (D:List Nat) (fs:List FR):Prop :=
  ∀ (w0:World) (A:Args) (okA:Nat→Prop) (fuel:Nat) (L:Array Bool) (a:Act) (W:World) (hb:Handle),Down ops L→Has D L→Within fs L→Sim w0 A okA hb (atL σ0 fs L) a W→qtz ops L ≤ fuel→wpAny P .any ops (lift w0 A okA Q) fuel L a W
theorem within_set {fs:List FR} {L:Array Bool} {i:Nat} (hi:i < L.size) (h:Within fs L) (hs:∃ s ∈ fs,s.r.i = i):Within fs (L.setIfInBounds i true):=fun j hj=>by
  rw [qk9 _ _ _ hi] at hj
  by_cases hji:j = i
  · subst hji;exact hs
  · rw [if_neg hji] at hj;exact h j hj
theorem cont_leaf {D:List Nat} {fs:List FR} (hw:Wk P ops σ0 D fs) (hall:∀ i,i < ops.size→∃ s ∈ fs,s.r.i = i) (hQ:Q .normal (apps σ0 fs)):Cont P ops σ0 Q D fs:=by
  intro w0 A okA fuel
  have hcl:∀ s ∈ fs,∀ j,aft ops s.r.i j = true→∃ r ∈ fs,r.r.i = j:=by
    intro s hs j hj
    have hso:=hw.self s hs
    unfold qsp at hso
    obtain ⟨x,y,e⟩:=List.append_of_mem hs
    obtain ⟨o,ho,_⟩:=hw.fact x s y e
    rw [ho] at hso
    simp only [Array.all_eq_true_iff_forall_mem] at hso
    obtain ⟨ed,h1,h2,rfl⟩:=(qoy ho).1 hj
    have:=hso ed h1
    simp only [h2,Bool.not_true,Bool.false_or,Bool.and_eq_true] at this
    exact hall _ (by simpa [Nat.blt_eq] using this.1)
  have fin:∀ L:Array Bool,(∀ s ∈ fs,L.getD s.r.i false = true)→atL σ0 fs L = apps σ0 fs:=by
    intro L h
    unfold atL
    rw [List.filter_eq_self.2 h]
  induction fuel with
  | zero =>
    intro L a W hb hL hD hin hs hlen
    have hz:∀ i,i < ops.size→L.getD i false = true:=by
      intro i hi
      have h0:=List.length_eq_zero_iff.1 (Nat.le_zero.1 hlen)
      have:=List.filter_eq_nil_iff.1 h0 i (List.mem_range.2 hi)
      simpa using this
    have hz':∀ s ∈ fs,L.getD s.r.i false = true:=fun s hs'=>by
      obtain ⟨x,y,e⟩:=List.append_of_mem hs'
      obtain ⟨o,ho,_⟩:=hw.fact x s y e
      exact hz _ (Array.getElem?_eq_some_iff.1 ho).1
    refine ⟨?_,hb,_,hQ,by rw [← fin L hz'];exact hs⟩
    refine List.eq_nil_iff_forall_not_mem.2 fun i hi=>?_
    obtain ⟨h1,h2,_⟩:=qm4 hL hi
    rw [hz i h1] at h2;cases h2
  | succ fuel ih =>
    intro L a W hb hL hD hin hs hlen
    refine ⟨fun hr=>⟨hb,_,hQ,by rw [← fin L (all_up hw hL hD hcl hr)];exact hs⟩,fun i hi=>?_⟩
    obtain ⟨h1,h2,h3⟩:=qm4 hL hi
    obtain ⟨s,hsm,rfl⟩:=hall i h1
    exact any_step hw hL hD hs hsm hi fun a' W' hb' hs'=>ih _ a' W' hb' (down_set hL h1 h3) (has_set (by rw [hL.1];exact h1) hD) (within_set (by rw [hL.1];exact h1) hin ⟨s,hsm,rfl⟩) hs' (undone_set hL.1 h1 h2 hlen)
theorem atL_more {fs gs:List FR} {L:Array Bool} (h:∀ g ∈ gs,L.getD g.r.i false = false):atL σ0 (fs ++ gs) L = atL σ0 fs L:=by
  unfold atL
  have e:gs.filter (fun f=>L.getD f.r.i false) = []:=List.filter_eq_nil_iff.2 fun g hg h'=>by rw [h g hg] at h';cases h'
  rw [List.filter_append,e,List.append_nil]
theorem wk_out {D:List Nat} {fs gs:List FR} (hw:Wk P ops σ0 D (fs ++ gs)) {L:Array Bool} (hin:Within fs L):∀ g ∈ gs,L.getD g.r.i false = false:=by
  intro g hg
  cases h:L.getD g.r.i false with
  | false=>rfl
  | true =>
    exfalso
    obtain ⟨s,hs,e⟩:=hin _ h
    obtain ⟨x,y,rfl⟩:=List.append_of_mem hs
    obtain ⟨x',y',rfl⟩:=List.append_of_mem hg
    have:=qia (a:=x.map (·.r)) (b:=(y ++ x').map (·.r)) (c:=y'.map (·.r)) (r:=s.r) (s:=g.r) hw.pairs (by simp)
    simp only [qk3,Bool.and_eq_true,Bool.not_eq_true'] at this
    have:=this.1.1
    rw [e] at this;simp at this
theorem within_more {fs gs:List FR} {L:Array Bool} (h:Within fs L):Within (fs ++ gs) L:=fun i hi=>by
  obtain ⟨s,hs,e⟩:=h i hi
  exact ⟨s,List.mem_append_left _ hs,e⟩
theorem cont_more {D:List Nat} {fs gs:List FR} (hw:Wk P ops σ0 D (fs ++ gs)) (h:Cont P ops σ0 Q D (fs ++ gs)):Cont P ops σ0 Q D fs:=fun w0 A okA fuel L a W hb hL hD hin hs hlen =>
  h w0 A okA fuel L a W hb hL hD (within_more hin) (by rw [atL_more (wk_out hw hin)];exact hs) hlen
theorem fs_all {rs:List Rec} {fs:List FR} (hmap:fs.map (·.r) = rs.reverse) {i:Nat}:(rs.any fun r=>Nat.beq r.i i) = true ↔ ∃ s ∈ fs,s.r.i = i:=by
  constructor
  · intro h
    obtain ⟨r,hr,e⟩:=List.any_eq_true.1 h
    have hr':r ∈ fs.map (·.r):=by rw [hmap];simpa using hr
    obtain ⟨s,hs,rfl⟩:=List.mem_map.1 hr'
    exact ⟨s,hs,by simpa using e⟩
  · rintro ⟨s,hs,rfl⟩
    have:s.r ∈ rs:=by
      have h:s.r ∈ fs.map (·.r):=List.mem_map.2 ⟨s,hs,rfl⟩
      rw [hmap] at h
      simpa using h
    exact List.any_eq_true.2 ⟨_,this,by simp⟩
theorem leaf_of {D:List Nat} {rs:List Rec} {fs:List FR} (hmap:fs.map (·.r) = rs.reverse) (hfact:∀ a f b,fs = a ++ f :: b→Fact P ops (apps σ0 a) f) (hok:qse D ops rs = true) (hQ:Q .normal (apps σ0 fs)):Cont P ops σ0 Q D fs:=by
  simp only [qse,Bool.and_eq_true] at hok
  refine cont_leaf (qou hmap hfact hok.1) (fun i hi=>(fs_all hmap).1 ?_) hQ
  exact List.all_eq_true.1 hok.2 i (by simpa using hi)
theorem aw_cont {id:Nat} (hm:P.follows .mixedOrders = true) (h:Cont P ops σ Q [] []):AW P (.region id ops true) σ Q:=by
  intro w0 A okA hb a W hs
  have hf:∀ i,(Array.replicate ops.size false).getD i false = false:=fun i=>by
    rw [Array.getD_eq_getD_getElem?,Array.getElem?_replicate]
    split <;> rfl
  refine wp_region_any hm (h w0 A okA _ _ _ _ hb ⟨by simp,fun i j hi=>?_⟩ (fun d hd=>nomatch hd) (fun i hi=>?_) ?_ ?_)
  · rw [hf] at hi;cases hi
  · rw [hf] at hi;cases hi
  · exact hs.same (qbe.drew W)
  · refine Nat.le_trans (List.length_filter_le _ _) ?_
    simp
theorem aw_any {rs:List Rec} {σf:St} {id:Nat} (hm:P.follows .mixedOrders = true) (h:Hist P ops [] σ rs σf) (hok:qv7 ops rs = true) (hQ:Q .normal σf):AW P (.region id ops true) σ Q:=by
  obtain ⟨fs,h1,h2,h3⟩:=h
  rw [List.nil_append] at h1 h2 h3
  subst h2
  have hw:=leaf_of h1 h3 hok hQ
  simp only [qse,Bool.and_eq_true] at hok
  exact aw_cont hm (cont_more (gs:=fs) (qou h1 h3 hok.1) hw)
end
end Go.Proofs.Ytmllgpkgjniomaa.AWN

namespace Go.Proofs.Ytmllgpkgjniomaa.AWN
open Go
def look:List (Nat × V)→Nat→V
  | [],_=>.junk
  | (k,v) :: r,t=>bif Nat.beq k t then v else look r t
def St.of (l:List (Nat × V)) (objs:List AObj) (nt base:Nat):St:={ env:=look l,heap:=qat objs,next:=objs.length,nt:=nt,base:=base }
def qu6 (σ:St) (ρ:Nat→Option Nat) (sn:Bool):List (Nat × V)→Prop
  | []=>True
  | (t,v) :: r=>exV ρ σ.heap sn (σ.env t) = some v∧exVP ρ σ.heap (σ.env t)∧qu6 σ ρ sn r
def qpx (ks:List Nat):Nat→Bool
  | 0=>true
  | n + 1=>(match ks[n]? with
    | some k=>Nat.beq k n
    | none=>false) && qpx ks n
theorem qmt {ks:List Nat}:∀ {n:Nat},qpx ks n = true→∀ j,j < n→ks[j]? = some j
  | 0,_,j,h=>by omega
  | n + 1,h,j,hj=>by
    simp only [qpx,Bool.and_eq_true] at h
    by_cases hjn:j = n
    · subst hjn
      have h1:=h.1
      split at h1
      · rename_i k hk;rw [hk];simpa using h1
      · cases h1
    · exact qmt h.2 j (by omega)
section
variable {P:Program} {τ:Tab} {σ:St} {ops:Array Oper} {o:Oper} {Q:Exit→St→Prop}
theorem qs7 {w0:World} {A:Args} {okA:Nat→Prop} {hb hb2:Handle} {H2:Nat→AObj} {ok':Nat→Prop} {W:World} {a:Act} {ρ:Nat→Option Nat} {sn:Bool} (hs:Sim w0 A okA hb σ a W) (N:qnt W ρ hb hb2 σ.heap H2 (okF w0 okA hb σ.heap W) ok' sn) :
    ∀ {l:List (Nat × V)},qu6 σ ρ sn l→∀ t,Rel W hb2 H2 ok' (look l t) (a.tmps.getD t undef)
  | [],_,t=>.junk _
  | (k,v) :: r,h,t=>by
    obtain ⟨h1,h2,h3⟩:=h
    unfold look
    cases hk:Nat.beq k t with
    | true =>
      have:=Nat.eq_of_beq_eq_true hk
      subst this
      exact qli N (hs.env k) h1 h2
    | false=>exact qs7 hs N h3 t
theorem weak_of (ks:List Nat) {objs:List AObj} {l:List (Nat × V)} (hbase:qpx ks σ.base = true) (hnd:ks.Nodup) (hobjs:mapO (fun j=>exO (qet ks) σ.heap true (σ.heap j)) ks = some objs)
    (hpo:∀ j ∈ ks,exOP (qet ks) σ.heap (σ.heap j)) (henv:qu6 σ (qet ks) true l):Weak σ (St.of l objs σ.nt σ.base):=by
  intro w0 A okA hb a W hs
  obtain ⟨m1,m2⟩:=qjm hobjs
  have hml:ks.length = objs.length:=by rw [m1]
  let hb2:Handle:=fun i=>match ks[i]? with
    | some j=>hb j
    | none=>none
  have hbj:∀ i j,ks[i]? = some j→hb2 i = hb j:=by intro i j hij;show (match ks[i]? with | some j=>hb j | none=>none) = _;rw [hij]
  have hnone:∀ i,objs.length ≤ i→qat objs i = .none:=by
    intro i hi
    unfold qat
    rw [List.getD_eq_getElem?_getD,List.getElem?_eq_none (by omega)];rfl
  have hin:∀ i,qat objs i ≠ .none→∃ j,ks[i]? = some j:=by
    intro i hi
    rcases Nat.lt_or_ge i ks.length with hl | hl
    · exact ⟨ks[i],List.getElem?_eq_getElem hl⟩
    · exact absurd (hnone i (by omega)) hi
  have hobj:∀ i j,ks[i]? = some j→∃ y,exO (qet ks) σ.heap true (σ.heap j) = some y∧qat objs i = y:=by
    intro i j hij
    obtain ⟨y,e1,e2⟩:=m2 i j hij
    exact ⟨y,e1,by unfold qat;exact getD_some e2 _⟩
  have hlv:∀ j ∈ ks,σ.heap j ≠ .none:=by
    intro j hj e
    obtain ⟨i,hi,ei⟩:=List.getElem_of_mem hj
    obtain ⟨y,e1,_⟩:=m2 i ks[i] (List.getElem?_eq_getElem hi)
    rw [ei,e] at e1;simp [exO] at e1
  have hltb:∀ j,A.H0 j ≠ .none→j < σ.base:=by
    intro j hj
    rcases Nat.lt_or_ge j σ.base with h | h
    · exact h
    · exact absurd (hs.base j h) hj
  have hm0:∀ j,A.H0 j ≠ .none→ks[j]? = some j:=fun j hj=>qmt hbase j (hltb j hj)
  have hloc:∀ j b,σ.heap j ≠ .none→j ∉ ks→hb j = some b→w0.heap.size ≤ b:=by
    intro j b hj hjn hjb
    rcases (hs.heap.hnd j b hj hjb).2 with ⟨h1,_⟩ | h1
    · exact absurd (List.mem_of_getElem? (hm0 j h1)) hjn
    · exact h1
  have N:qnt W (qet ks) hb hb2 σ.heap (qat objs) (okF w0 okA hb σ.heap W) (okF w0 okA hb2 (qat objs) W) true:=by
    refine ⟨fun b hb'=>⟨hb'.1,hb'.2.1,fun i hi e=>?_⟩,fun j i cs hj hcs=>?_,fun j i sz es hj hes=>?_,fun _ j b hj hne hbjj=>?_,hs.heap.obj⟩
    · obtain ⟨j,hij⟩:=hin i hi
      rw [hbj i j hij] at e
      exact hb'.2.2 j (hlv j (List.mem_of_getElem? hij)) e
    · have hij:=qh2 hj
      obtain ⟨y,e1,e2⟩:=hobj i j hij
      refine ⟨hbj i j hij,?_⟩
      rw [hcs] at e1
      simp only [exO] at e1
      split at e1
      · simp only [Option.some.injEq] at e1;subst e1;exact ⟨_,e2⟩
      · cases e1
    · have hij:=qh2 hj
      obtain ⟨y,e1,e2⟩:=hobj i j hij
      refine ⟨hbj i j hij,?_⟩
      rw [hes] at e1
      simp only [exO,Option.some.injEq] at e1
      rw [e2,← e1]
    · have hnmj:=qit hj
      refine ⟨(hs.heap.hnd j b hne hbjj).1,.inr (hloc j b hne hnmj hbjj),fun i hi e=>?_⟩
      obtain ⟨j',hij⟩:=hin i hi
      rw [hbj i j' hij] at e
      have:=hs.heap.inj j j' b hne (hlv j' (List.mem_of_getElem? hij)) hbjj e
      subst this
      exact hnmj (List.mem_of_getElem? hij)
  have hix:∀ i j,ks[i]? = some j→qet ks j = some i:=by
    intro i j hij
    cases hx:qet ks j with
    | none=>exact absurd (List.mem_of_getElem? hij) (qit hx)
    | some i'=>rw [qk1 hnd (qh2 hx) hij]
  refine ⟨hb2,hs.defers,hs.size,qs7 hs N henv,?_,hs.base⟩
  refine { obj:=fun i=>?_,inj:=fun i k b hi hk hbi hbk=>?_,hnd:=fun i b hi hbi=>?_,fresh:=fun i hi=>hnone i hi,ext:=hs.heap.ext,keep:=⟨fun j cs hj=>?_,fun j sz es hj=>?_⟩,lay:=hs.heap.lay }
  · by_cases hi:qat objs i = .none
    · show qg6 W hb2 (qat objs) _ i
      unfold qg6;rw [hi];trivial
    · obtain ⟨j,hij⟩:=hin i hi
      obtain ⟨y,e1,e2⟩:=hobj i j hij
      exact qmx N (hix i j hij) e1 (hpo j (List.mem_of_getElem? hij)) e2 (hbj i j hij)
  · obtain ⟨j,hij⟩:=hin i hi
    obtain ⟨j',hkj⟩:=hin k hk
    rw [hbj i j hij] at hbi
    rw [hbj k j' hkj] at hbk
    have:=hs.heap.inj j j' b (hlv j (List.mem_of_getElem? hij)) (hlv j' (List.mem_of_getElem? hkj)) hbi hbk
    subst this
    exact qk1 hnd hij hkj
  · obtain ⟨j,hij⟩:=hin i hi
    rw [hbj i j hij] at hbi
    obtain ⟨h1,h2⟩:=hs.heap.hnd j b (hlv j (List.mem_of_getElem? hij)) hbi
    refine ⟨h1,h2.imp (fun ⟨h3,h4⟩=>?_) id⟩
    have:=qk1 hnd hij (hm0 j h3)
    subst this
    exact ⟨h3,h4⟩
  · have hij:=hm0 j (by rw [hj];simp)
    obtain ⟨cs',e1,e2⟩:=hs.heap.keep.box j cs hj
    obtain ⟨y,e3,e4⟩:=hobj j j hij
    rw [e1] at e3
    simp only [exO] at e3
    split at e3
    · simp only [Option.some.injEq] at e3;subst e3
      exact ⟨_,e4,(hbj j j hij).trans e2⟩
    · cases e3
  · have hij:=hm0 j (by rw [hj];simp)
    obtain ⟨es',e1,e0,e2⟩:=hs.heap.keep.row j sz es hj
    obtain ⟨y,e3,e4⟩:=hobj j j hij
    rw [e1] at e3
    simp only [exO,Option.some.injEq] at e3;subst e3
    exact ⟨_,e4,e0,fun hl=>⟨(hbj j j hij).trans (e2 hl).1,(e2 hl).2⟩⟩
/-! ### Walking a region that draws its order -/
def Any (P:Program) (ops:Array Oper) (id:List FR) (σ0:St) (Q:Prop) (rs:List Rec) (σ:St):Prop:=Hist P ops id σ0 rs σ→Q
variable {id:List FR} {σ0:St} {rs:List Rec} {G:Prop} {num:Nat} {DD:List Nat}
theorem qc9 (h:Any P ops [] σ (AW P (.region num ops true) σ Q) [] σ):AW P (.region num ops true) σ Q:=h .nil
theorem qbp (hm:P.follows .mixedOrders = true) (hok:qv7 ops rs = true) (hQ:Q .normal σ):Any P ops [] σ0 (AW P (.region num ops true) σ0 Q) rs σ:=fun h=>aw_any hm h hok hQ
theorem qhj {σ':St} (h:∀ t ∈ looks ops o,σ'.env t = σ.env t):qd8 ops σ' o = qd8 ops σ o:=by
  unfold qd8
  cases hg:o.guard with
  | none=>rfl
  | some g =>
    obtain ⟨j,want⟩:=g
    simp only
    have:qov ops σ' j = qov ops σ j:=by
      unfold qov
      cases ho:ops[j]? with
      | none=>rfl
      | some o' =>
        simp only
        cases hd:o'.dst with
        | none=>rfl
        | some d =>
          simp only
          rw [h d (by simp [looks,hg,ho,hd])]
    rw [this]
theorem qjh {σ':St} (h:σ'.nt = σ.nt) {d:Option Nat} (hd:qhc σ d = true):qhc σ' d = true:=by
  cases d with
  | none=>rfl
  | some d=>simpa [qhc,h] using hd
theorem qk2 {σ':St} (h:∀ t ∈ looks ops o,σ'.env t = σ.env t):∀ t ∈ opT o.op,σ'.env t = σ.env t:=fun t ht=>h t (List.mem_append_left _ ht)
theorem qrl {v:V} {J:List Nat} (i:Nat) (ho:ops[i]? = some o) (hf:que P ops σ o v J) (hK:Any P ops id σ0 G (⟨i,false,J⟩ :: rs) (σ.putO o.dst v)):Any P ops id σ0 G rs σ:=fun h =>
  hK (.cons ⟨⟨i,false,J⟩,o.dst,v,σ.heap,0⟩ h ⟨o,ho,rfl,.inl ⟨rfl,hf⟩⟩)
theorem qr2 {v:V} {J:List Nat} {H:Nat→AObj} {n:Nat} (i:Nat) (ho:ops[i]? = some o) (hf:qsw P ops σ o v H n) (hJ:∀ j ∈ J,H j = σ.heap j) (hK:Any P ops id σ0 G (⟨i,true,J⟩ :: rs) ((σ.set H n).putO o.dst v)):Any P ops id σ0 G rs σ:=fun h =>
  hK (.cons ⟨⟨i,true,J⟩,o.dst,v,H,n⟩ h ⟨o,ho,rfl,.inr ⟨rfl,hf,hJ⟩⟩)
def roIn (σ:St) (op:Op) (J:List Nat):Bool:=match qpn σ op with
  | some K=>K.all fun j=>J.any (Nat.beq j)
  | none=>false
theorem roIn_spec {op:Op} {J:List Nat} (h:roIn σ op J = true):∃ K,qpn σ op = some K∧∀ j ∈ K,j ∈ J:=by
  unfold roIn at h
  split at h
  · rename_i K hK
    refine ⟨K,hK,fun j hj=>?_⟩
    obtain ⟨k,hk,e⟩:=List.any_eq_true.1 (List.all_eq_true.1 h j hj)
    rw [show j = k by simpa using e];exact hk
  · cases h
theorem qnp {σ':St} {op:Op} {J:List Nat} (hr:roIn σ op J = true) (h:∀ t ∈ opT op,σ'.env t = σ.env t) (hh:∀ j ∈ J,σ'.heap j = σ.heap j):qc0 τ σ' op = qc0 τ σ op:=by
  obtain ⟨K,h1,h2⟩:=roIn_spec hr
  exact step_ro h1 h fun j hj=>hh j (h2 j hj)
theorem qak (i:Nat) (ho:ops[i]? = some o) (hw:qd8 ops σ o = some false) (hd:qhc σ o.dst = true) (hK:Any P ops id σ0 G (⟨i,false,[]⟩ :: rs) (σ.putO o.dst .und)):Any P ops id σ0 G rs σ :=
  qrl i ho (fun σ' hn he _=>one_skip (by rw [qhj he,hw]) (qjh hn hd)) hK
theorem qa7 (hτ:qg7 P τ) {v:V} (J:List Nat) (i:Nat) (ho:ops[i]? = some o) (hw:qd8 ops σ o = some true) (hd:qhc σ o.dst = true) (hr:roIn σ o.op J = true) (h:qc0 τ σ o.op = .val v) (hK:Any P ops id σ0 G (⟨i,false,J⟩ :: rs) (σ.putO o.dst v)):Any P ops id σ0 G rs σ :=
  qrl i ho (fun σ' hn he hh=>one_val hτ (by rw [qhj he,hw]) (qjh hn hd) (by rw [qnp hr (qk2 he) hh,h])) hK
theorem qcz (hτ:qg7 P τ) {v:V} {p:Prop} (J:List Nat) (i:Nat) (ho:ops[i]? = some o) (hw:qd8 ops σ o = some true) (hd:qhc σ o.dst = true) (hr:roIn σ o.op J = true) (h:qc0 τ σ o.op = .need p v) (hp:p) (hK:Any P ops id σ0 G (⟨i,false,J⟩ :: rs) (σ.putO o.dst v)):Any P ops id σ0 G rs σ :=
  qrl i ho (fun σ' hn he hh=>one_need hτ (by rw [qhj he,hw]) (qjh hn hd) (by rw [qnp hr (qk2 he) hh,h]) hp) hK
theorem qic (hτ:qg7 P τ) {v:V} {p:Prop} {es:List (List D)} {ix:Nat} {k:List D→Option V} {e:List D} (J:List Nat) (i:Nat) (ho:ops[i]? = some o) (hw:qd8 ops σ o = some true) (hd:qhc σ o.dst = true) (hr:roIn σ o.op J = true) (h:qc0 τ σ o.op = .elem p es ix k) (hp:p) (he:es[ix]? = some e) (hv:k e = some v)
    (hK:Any P ops id σ0 G (⟨i,false,J⟩ :: rs) (σ.putO o.dst v)):Any P ops id σ0 G rs σ :=
  qrl i ho (fun σ' hn hee hh=>one_elem hτ (by rw [qhj hee,hw]) (qjh hn hd) (by rw [qnp hr (qk2 hee) hh,h]) hp he hv) hK
theorem any_valH (hτ:qg7 P τ) (J:List Nat) {v:V} {H:Nat→AObj} {n:Nat} (i:Nat) (ho:ops[i]? = some o) (hw:qd8 ops σ o = some true) (hd:qhc σ o.dst = true) (h:qc0 τ σ o.op = .valH v H n) (hJ:∀ j ∈ J,H j = σ.heap j) (hK:Any P ops id σ0 G (⟨i,true,J⟩ :: rs) ((σ.set H n).putO o.dst v)):Any P ops id σ0 G rs σ :=
  qr2 i ho (fun σ' hn he hh hx=>one_valH hτ (by rw [qhj he,hw]) (qjh hn hd) (by rw [qmn (qk2 he) hh hx,h])) hJ hK
theorem any_needH (hτ:qg7 P τ) (J:List Nat) {v:V} {p:Prop} {H:Nat→AObj} {n:Nat} (i:Nat) (ho:ops[i]? = some o) (hw:qd8 ops σ o = some true) (hd:qhc σ o.dst = true) (h:qc0 τ σ o.op = .needH p v H n) (hp:p) (hJ:∀ j ∈ J,H j = σ.heap j) (hK:Any P ops id σ0 G (⟨i,true,J⟩ :: rs) ((σ.set H n).putO o.dst v)):Any P ops id σ0 G rs σ :=
  qr2 i ho (fun σ' hn he hh hx=>one_needH hτ (by rw [qhj he,hw]) (qjh hn hd) (by rw [qmn (qk2 he) hh hx,h]) hp) hJ hK
theorem any_call (hτ:qg7 P τ) (fr:Bool) (js J:List Nat) {k:FuncId} {args args':List V} {objs:List AObj} {r0:V} {o0 n0:List AObj} (i:Nat) (ho:ops[i]? = some o) (hw:qd8 ops σ o = some true) (hd:qhc σ o.dst = true) (h:qc0 τ σ o.op = .call k args) (hfn:qlv P k)
    (hargs:mapO (exV (qet js) σ.heap fr) args = some args') (hobjs:mapO (fun j=>exO (qet js) σ.heap fr (σ.heap j)) js = some objs) (hnd:js.Nodup) (hpa:∀ v ∈ args,exVP (qet js) σ.heap v) (hpo:∀ j ∈ js,exOP (qet js) σ.heap (σ.heap j))
    (hc:qb5 P fr k args' objs fun r o n=>r = r0∧o = o0∧n = n0) (hJ:∀ j ∈ J,(σ.after js o0 n0).heap j = σ.heap j)
    (hK:Any P ops id σ0 G (⟨i,true,J⟩ :: rs) ((σ.set (σ.after js o0 n0).heap (σ.after js o0 n0).next).putO o.dst (renV (σ.names js n0.length) r0))):Any P ops id σ0 G rs σ :=
  qr2 i ho (fun σ' hn he hh hx w0 A okA hb a W hs Qc Kc hKc=>by
    refine one_call (P:=P) (ops:=ops) (σ:=σ') hτ fr js (by rw [qhj he,hw]) (qjh hn hd) (by rw [qmn (qk2 he) hh hx,h]) hfn (by rw [hh];exact hargs) (by rw [hh];exact hobjs) hnd (by rw [hh];exact hpa) (by rw [hh];exact hpo) hc w0 A okA hb a W hs Qc Kc ?_
    rintro σ'' hb' a' W' ⟨r,o',n',⟨rfl,rfl,rfl⟩,_,rfl⟩ hs'
    refine hKc _ hb' a' W' ?_ hs'
    have:σ'.names js n'.length = σ.names js n'.length:=by unfold St.names;rw [hx]
    unfold St.after St.set
    rw [this,hh,hx]) hJ hK
end
end Go.Proofs.Ytmllgpkgjniomaa.AWN

namespace Go.Proofs.Ytmllgpkgjniomaa.AWN
open Go
def qu5 (ρ:Nat→Option Nat) (H:Nat→AObj):List V→Prop
  | []=>True
  | v :: r=>exVP ρ H v∧qu5 ρ H r
def qsv (ρ:Nat→Option Nat) (H:Nat→AObj):List Nat→Prop
  | []=>True
  | j :: r=>exOP ρ H (H j)∧qsv ρ H r
theorem qms {ρ:Nat→Option Nat} {H:Nat→AObj}:∀ {l:List V},qu5 ρ H l→∀ v ∈ l,exVP ρ H v
  | [],_,_,h=>nomatch h
  | x :: r,⟨h1,h2⟩,v,h=>by
    rcases List.mem_cons.1 h with rfl | h
    · exact h1
    · exact qms h2 v h
theorem qkn {ρ:Nat→Option Nat} {H:Nat→AObj}:∀ {l:List Nat},qsv ρ H l→∀ j ∈ l,exOP ρ H (H j)
  | [],_,_,h=>nomatch h
  | x :: r,⟨h1,h2⟩,v,h=>by
    rcases List.mem_cons.1 h with rfl | h
    · exact h1
    · exact qkn h2 v h
def qqd (H H':Nat→AObj):List Nat→Prop
  | []=>True
  | j :: r=>H' j = H j∧qqd H H' r
theorem qkv {H H':Nat→AObj}:∀ {l:List Nat},qqd H H' l→∀ j ∈ l,H' j = H j
  | [],_,_,h=>nomatch h
  | x :: r,⟨h1,h2⟩,v,h=>by
    rcases List.mem_cons.1 h with rfl | h
    · exact h1
    · exact qkv h2 v h
section
variable {P:Program} {τ:Tab} {σ σ0:St} {ops:Array Oper} {rest:List Oper} {o:Oper} {Q:Exit→St→Prop} {id:List FR} {G:Prop} {rl:List Rec}
theorem qam (hτ:qg7 P τ) (fr:Bool) (js:List Nat) {k:FuncId} {args args':List V} {objs:List AObj} {R:V→List AObj→List AObj→Prop} (hw:qd8 ops σ o = some true) (hd:qhc σ o.dst = true) (h:qc0 τ σ o.op = .call k args) (hfn:qlv P k)
    (hargs:mapO (exV (qet js) σ.heap fr) args = some args') (hobjs:mapO (fun j=>exO (qet js) σ.heap fr (σ.heap j)) js = some objs) (hnd:js.Nodup) (hpa:qu5 (qet js) σ.heap args) (hpo:qsv (qet js) σ.heap js)
    (hc:qb5 P fr k args' objs R) (hK:∀ r objs' new,R r objs' new→objs'.length = js.length→AWL P ops rest ((σ.after js objs' new).putO o.dst (renV (σ.names js new.length) r)) Q):AWL P ops (o :: rest) σ Q :=
  awl_call hτ fr js hw hd h hfn hargs hobjs hnd (qms hpa) (qkn hpo) hc hK
theorem qbf (hτ:qg7 P τ) (fr:Bool) (js J:List Nat) {k:FuncId} {args args':List V} {objs:List AObj} {r0:V} {o0 n0:List AObj} (i:Nat) (ho:ops[i]? = some o) (hw:qd8 ops σ o = some true) (hd:qhc σ o.dst = true) (h:qc0 τ σ o.op = .call k args) (hfn:qlv P k)
    (hargs:mapO (exV (qet js) σ.heap fr) args = some args') (hobjs:mapO (fun j=>exO (qet js) σ.heap fr (σ.heap j)) js = some objs) (hnd:js.Nodup) (hpa:qu5 (qet js) σ.heap args) (hpo:qsv (qet js) σ.heap js)
    (hc:qb5 P fr k args' objs fun r o n=>r = r0∧o = o0∧n = n0) (hJ:qqd σ.heap (σ.after js o0 n0).heap J)
    (hK:Any P ops id σ0 G (⟨i,true,J⟩ :: rl) ((σ.set (σ.after js o0 n0).heap (σ.after js o0 n0).next).putO o.dst (renV (σ.names js n0.length) r0))):Any P ops id σ0 G rl σ :=
  any_call hτ fr js J i ho hw hd h hfn hargs hobjs hnd (qms hpa) (qkn hpo) hc (qkv hJ) hK
theorem qd3 (hτ:qg7 P τ) (J:List Nat) {v:V} {H:Nat→AObj} {n:Nat} (i:Nat) (ho:ops[i]? = some o) (hw:qd8 ops σ o = some true) (hd:qhc σ o.dst = true) (h:qc0 τ σ o.op = .valH v H n) (hJ:qqd σ.heap H J) (hK:Any P ops id σ0 G (⟨i,true,J⟩ :: rl) ((σ.set H n).putO o.dst v)):Any P ops id σ0 G rl σ :=
  any_valH hτ J i ho hw hd h (qkv hJ) hK
theorem qir (hτ:qg7 P τ) (J:List Nat) {v:V} {p:Prop} {H:Nat→AObj} {n:Nat} (i:Nat) (ho:ops[i]? = some o) (hw:qd8 ops σ o = some true) (hd:qhc σ o.dst = true) (h:qc0 τ σ o.op = .needH p v H n) (hp:p) (hJ:qqd σ.heap H J) (hK:Any P ops id σ0 G (⟨i,true,J⟩ :: rl) ((σ.set H n).putO o.dst v)):Any P ops id σ0 G rl σ :=
  any_needH hτ J i ho hw hd h hp (qkv hJ) hK
theorem qga (t:Nat) {b:Bool} (h:σ.env t = .d (.bool b)) (ht:b = true→Any P ops id σ0 G rl (σ.put t (.d (.bool true)))) (hf:b = false→Any P ops id σ0 G rl (σ.put t (.d (.bool false)))):Any P ops id σ0 G rl σ:=by
  cases b
  · have:=hf rfl;rwa [qmk h] at this
  · have:=ht rfl;rwa [qmk h] at this
theorem qa3 (ks:List Nat) {objs:List AObj} {l:List (Nat × V)} (hbase:qpx ks σ.base = true) (hnd:ks.Nodup) (hobjs:mapO (fun j=>exO (qet ks) σ.heap true (σ.heap j)) ks = some objs)
    (hpo:qsv (qet ks) σ.heap ks) (henv:qu6 σ (qet ks) true l):Weak σ (St.of l objs σ.nt σ.base):=weak_of ks hbase hnd hobjs (qkn hpo) henv
end
section
variable {P:Program} {τ:Tab} {σ:St} {rs:List ResultVar} {fr:Bool} {R:V→List AObj→List AObj→Prop} {e:Exit}
theorem qaf {m:Nat} (he:e = .normal ∨ e = .ret) (ex:List Nat) {rv r:V} {objs' new:List AObj} (h:resV τ rs σ = some rv) (hnd:ex.Nodup) (hm:∀ x ∈ ex,m ≤ x) (hr:exV (qet (List.range m ++ ex)) σ.heap true rv = some r) (hp:exVP (qet (List.range m ++ ex)) σ.heap rv)
    (ho:mapO (fun j=>exO (qet (List.range m ++ ex)) σ.heap true (σ.heap j)) (List.range m ++ ex) = some (objs' ++ new)) (hl:objs'.length = m) (hpo:qsv (qet (List.range m ++ ex)) σ.heap (List.range m ++ ex))
    (hf:fr = true→r.flat∧∀ o ∈ objs' ++ new,o.flat) (hR:R r objs' new):RetQ τ rs fr m R e σ :=
  ⟨he,rv,ex,r,objs',new,h,hnd,hm,hr,hp,ho,hl,qkn hpo,hf,hR⟩
end
end Go.Proofs.Ytmllgpkgjniomaa.AWN
