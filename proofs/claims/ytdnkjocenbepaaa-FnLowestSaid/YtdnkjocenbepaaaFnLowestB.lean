/- Return: from a body to a contract. -/
import Derived.Test.YtdnkjocenbepaaaFnLowestA
import Derived.Orders
import Derived.Test.YtdnkjocenbepaaaProg
import Derived.KernelRfl
import Derived.Laws.BytesString
import Derived.Below
import Derived.RowKit
import Derived.Sort.Grow
import Derived.Sort.Row
set_option linter.unusedVariables false
set_option linter.unusedSimpArgs false
set_option linter.unusedSectionVars false
namespace Go.Proofs.Ytdnkjocenbepaaa.AWN
open Go
/-! ### Data without slices: related whatever memory may be read -/
def D.flat:D→Prop
  | .sl _ es=>es = []
  | _=>True
def V.qb7:V→Prop
  | .d x=>x.flat
  | .rop cs _=>cs = []
  | .func _ a c=>a = []∧c = []
  | .agg _=>False
  | .tup _=>False
  | _=>True
def V.qbh:V→Prop
  | .agg cs=>∀ c ∈ cs,c.qb7
  | v=>v.qb7
def V.flat:V→Prop
  | .tup vs=>∀ v ∈ vs,v.qbh
  | v=>v.qbh
def AObj.flat:AObj→Prop
  | .none=>True
  | .box cs=>∀ c ∈ cs,c.qb7
  | .row _ es=>∀ e ∈ es,∀ c ∈ e,c.flat
  | .map _ es=>∀ e ∈ es,e.2.flat
section
variable {P:Program} {τ:Tab} {W:World} {hb hb':Handle} {H H':Nat→AObj} {ok ok':Nat→Prop}
theorem RelD.flat {x:D} {v:Value} (h:RelD W ok x v) (hf:x.flat):RelD W ok' x v:=by
  cases h with
  | bool b=>exact .bool b
  | int k n=>exact .int k n
  | fl h1 h2=>exact .fl h1 h2
  | cx h1 h2 h3 h4=>exact .cx h1 h2 h3 h4
  | str s=>exact .str s
  | slnil t=>exact .slnil t
  | sle t a=>exact .sle t a
  | nils=>exact .nils
  | nilp=>exact .nilp
  | nilf=>exact .nilf
  | nilm=>exact .nilm
  | sl sz vals h1 h2 h3 h4 hm h5 h6 h7 =>
    have he:_ = []:=hf
    subst he
    simp at h2
    subst h2
    exact .sl sz vals (fun h=>absurd rfl h) rfl h3 h4 hm (fun i hi=>by omega) (fun i c hi=>by omega) (fun i c hi=>by omega)
theorem Rel.qb7 {x:V} {v:Value} (h:Rel W hb H ok x v) (hf:x.qb7):Rel W hb H ok' x v:=by
  cases h with
  | junk v=>exact .junk v
  | und=>exact .und
  | d h=>exact .d (h.flat hf)
  | agg=>exact hf.elim
  | tup=>exact hf.elim
  | ptr h1 h2=>exact .ptr h1 h2
  | eptr h1 h2 h3=>exact .eptr h1 h2 h3
  | eptrStale v h1 h2 h3=>exact .eptrStale _ h1 h2 h3
  | @rop cs b o off vals h1 h2 h3 =>
    have hc:cs = []:=hf
    subst hc;exact .rop vals (fun h=>absurd rfl h) h2 (fun c hc=>by simp at hc)
  | row h1 h2 h3 h4 h5 h6 h7 h8 h9=>exact .row h1 h2 h3 h4 h5 h6 h7 h8 h9
  | rowEmpty h1 h2 h3=>exact .rowEmpty h1 h2 h3
  | rowNil h1 h2=>exact .rowNil h1 h2
  | rowStale v h1 h2 h3=>exact .rowStale _ h1 h2 h3
  | func h1 h2 h3 h4 =>
    obtain ⟨rfl,rfl⟩:=hf
    exact .func h1 h2 (fun i hi=>by rw [← h1] at hi;simp at hi) (fun i hi=>by rw [← h2] at hi;simp at hi)
  | mref h1 h2=>exact .mref h1 h2
theorem Rel.qbh {x:V} {v:Value} (h:Rel W hb H ok x v) (hf:x.qbh):Rel W hb H ok' x v:=by
  by_cases hx:∃ cs,x = .agg cs
  · obtain ⟨cs,rfl⟩:=hx
    cases h with
    | agg e1 e2 =>
      refine .agg e1 (fun i hi=>?_)
      have hl:i < cs.length:=by omega
      have:=e2 i hi
      rw [List.getD_eq_getElem?_getD,List.getElem?_eq_getElem hl] at *
      exact this.qb7 (hf _ (List.getElem_mem hl))
  · refine h.qb7 ?_
    cases x <;> first | exact hf | exact absurd ⟨_,rfl⟩ hx
theorem Rel.flat {x:V} {v:Value} (h:Rel W hb H ok x v) (hf:x.flat):Rel W hb H ok' x v:=by
  by_cases hx:∃ cs,x = .tup cs
  · obtain ⟨cs,rfl⟩:=hx
    cases h with
    | tup e1 e2 =>
      refine .tup e1 (fun i hi=>?_)
      have hl:i < cs.length:=by omega
      have:=e2 i hi
      rw [List.getD_eq_getElem?_getD,List.getElem?_eq_getElem hl] at *
      exact this.qbh (hf _ (List.getElem_mem hl))
  · refine h.qbh ?_
    cases x <;> first | exact hf | exact absurd ⟨_,rfl⟩ hx
theorem qfz.flat {j:Nat} (h:qfz W hb H ok j) (hf:(H j).flat):qfz W hb H ok' j:=by
  unfold qfz at *
  cases hj:H j with
  | none=>trivial
  | box cs =>
    rw [hj] at h hf
    obtain ⟨b,vals,T,fr,h1,h2,h3,h4,h5,h6⟩:=h
    refine ⟨b,vals,T,fr,h1,h2,h3,h4,h5,fun i hi=>?_⟩
    have hl:i < cs.length:=by omega
    have:=h6 i hi
    rw [List.getD_eq_getElem?_getD,List.getElem?_eq_getElem hl] at *
    exact this.qb7 (hf _ (List.getElem_mem hl))
  | row sz es =>
    rw [hj] at h hf
    obtain ⟨h0,h⟩:=h
    refine ⟨h0,?_⟩
    rcases h with h | ⟨b,vals,T,fr,h1,h2,h3,h4,h5⟩
    · exact .inl h
    · refine .inr ⟨b,vals,T,fr,h1,h2,h3,h4,fun i c hi hc=>?_⟩
      have:=h5 i c hi hc
      have he:es.getD i [] = es[i]:=by rw [List.getD_eq_getElem?_getD,List.getElem?_eq_getElem hi];rfl
      have hl:c < es[i].length:=by rw [h0 _ (List.getElem_mem hi)];exact hc
      have hd:es[i].getD c .nilp = es[i][c]:=by rw [List.getD_eq_getElem?_getD,List.getElem?_eq_getElem hl];rfl
      exact this.flat (by rw [he,hd];exact hf _ (List.getElem_mem hi) _ (List.getElem_mem hl))
  | map k es =>
    rw [hj] at h hf
    obtain ⟨b,ents,cl,h1,h2,h3,h4⟩:=h
    exact ⟨b,ents,cl,h1,h2,h3,fun i e x he hx=>⟨(h4 i e x he hx).1,(h4 i e x he hx).2.flat (hf x (List.mem_of_getElem? hx))⟩⟩
/-! ### What a body returns -/
def qs1 (τ:Tab) (σ:St):ResultVar→Option V
  | .tmp t=>some (σ.env t)
  | .cell x t=>match τ t with
    | some td=>match σ.env x with
      | .ptr j off=>match σ.heap j with
        | .box cs=>qn8 td cs off
        | _=>none
      | _=>none
    | none=>none
def resV (τ:Tab) (rs:List ResultVar) (σ:St):Option V :=
  match mapO (qs1 τ σ) rs with
  | some [v]=>some v
  | some vs=>some (.tup vs)
  | none=>none
theorem resOne_run (hτ:qeo P τ) {w0:World} {A:Args} {okA:Nat→Prop} {σ:St} {a:Act} (h:Sim w0 A okA hb σ a W) {r:ResultVar} {v:V} (hr:qs1 τ σ r = some v) :
    ∃ cv,(match r with
      | .tmp t=>(pure (a.tmps.getD t undef):Sem Value)
      | .cell x t=>do loadVar t (← asAddr (a.tmps.getD x undef))).run P W = .ok cv W∧RelS w0 okA hb σ.heap W v cv:=by
  cases r with
  | tmp t =>
    simp only [qs1,Option.some.injEq] at hr
    subst hr
    exact ⟨_,rfl,h.env t⟩
  | cell x t =>
    simp only [qs1] at hr
    split at hr
    · rename_i td ht
      split at hr
      · rename_i j off hx
        split at hr
        · rename_i cs hj
          have he:=h.env x
          rw [hx] at he
          obtain ⟨b,hu,e2⟩:∃ b,a.tmps.getD x undef = .pointer (some ⟨b,off,none⟩)∧hb j = some b:=by
            generalize a.tmps.getD x undef = u at *
            cases he with
            | ptr e1 e2=>exact ⟨_,rfl,e2⟩
          simp only [hu]
          clear he hu
          · obtain ⟨b,vals,T,fr,g1,g2,g3,g4,g5,g6⟩:=qu2 h.heap hj
            have hbb:=Option.some.inj (g1.symm.trans e2)
            subst hbb
            have hi:=qmp hτ ht
            have hz:=qhk hτ ht
            have hc:∀ c,c < cs.length→W.cell? ⟨b,c,none⟩ = some (vals.getD c undef):=fun c hc=>by rw [cell_of_heap g2];exact qdv (by omega)
            unfold qn8 at hr
            cases hagg:qni td.desc with
            | true =>
              rw [hagg] at hr
              simp only [cond_true] at hr
              cases hle:Nat.ble (off + td.size) cs.length with
              | false=>rw [hle] at hr;cases hr
              | true =>
                rw [hle] at hr
                simp only [cond_true,Option.some.injEq] at hr
                subst hr
                have hle':off + td.size ≤ cs.length:=by simpa using hle
                refine ⟨.agg ((List.range td.size).map fun j=>vals.getD (off + j) undef).toArray,?_,?_⟩
                · simp only [asAddr,Sem.run_bind,Sem.run_pure,Result.andThen_ok,loadVar,hi,hagg,if_true,hz]
                  rw [run_loadCells W _ td.size (fun j=>vals.getD (off + j) undef) (fun j hj=>by rw [addr_add];exact hc (off + j) (by omega))]
                  rfl
                · refine .agg (by simp;omega) (fun i hi'=>?_)
                  have hi2:i < td.size:=by simpa using hi'
                  rw [qe5 _ _ _ _ _ hi2,qlw (fun j=>vals.getD (off + j) undef) _ _ hi2]
                  exact g6 _ (by omega)
            | false =>
              rw [hagg] at hr
              simp only [cond_false] at hr
              have hlt:off < cs.length:=(List.getElem?_eq_some_iff.1 hr).1
              refine ⟨vals.getD off undef,?_,?_⟩
              · have hcc:=hc off hlt
                simp only [asAddr,Sem.run_bind,Sem.run_pure,Result.andThen_ok,loadVar,hi,hagg,Bool.false_eq_true,if_false,run_load,hcc]
              · have:=g6 off (by omega)
                rwa [getD_some hr] at this
        · cases hr
      · cases hr
    · cases hr
def quu (a:Act) (r:ResultVar):Sem Value:=match r with
  | .tmp t=>(pure (a.tmps.getD t undef):Sem Value)
  | .cell x t=>do loadVar t (← asAddr (a.tmps.getD x undef))
theorem qqy (hτ:qeo P τ) {w0:World} {A:Args} {okA:Nat→Prop} {σ:St} {a:Act} (h:Sim w0 A okA hb σ a W):∀ (rs:List ResultVar) (vs:List V),mapO (qs1 τ σ) rs = some vs →
    ∃ cvs:List Value,(rs.mapM (quu a)).run P W = .ok cvs W∧RelL W hb σ.heap (okF w0 okA hb σ.heap W) vs cvs.toArray
  | [],vs,he=>by simp [mapO] at he;subst he;exact ⟨[],rfl,rfl,fun i hi=>by simp at hi⟩
  | r :: rs,vs,he=>by
    unfold mapO at he
    split at he
    · rename_i y s hy hs
      simp only [Option.some.injEq] at he
      subst he
      obtain ⟨cv,e1,e2⟩:=resOne_run hτ h hy
      obtain ⟨cvs,e3,e4⟩:=qqy hτ h rs s hs
      refine ⟨cv :: cvs,?_,by simp [e4.1],fun i hi=>?_⟩
      · rw [List.mapM_cons]
        have e1':(quu a r).run P W = .ok cv W:=e1
        simp only [Sem.run_bind,e1',e3,Result.andThen_ok,Sem.run_pure]
      · cases i with
        | zero=>simpa using e2
        | succ i =>
          have:=e4.2 i (by simpa using hi)
          simpa using this
    · cases he
theorem resV_run (hτ:qeo P τ) {w0:World} {A:Args} {okA:Nat→Prop} {σ:St} {a:Act} {fn:Func} (h:Sim w0 A okA hb σ a W) {v:V} (hr:resV τ fn.results.toList σ = some v):∃ cv,(results fn a.tmps).run P W = .ok cv W∧RelS w0 okA hb σ.heap W v cv:=by
  unfold resV at hr
  have hrun:∀ cvs:List Value,(fn.results.toList.mapM (quu a)).run P W = .ok cvs W→(results fn a.tmps).run P W = .ok (if h:cvs.toArray.size = 1 then cvs.toArray[0] else .tuple cvs.toArray) W:=by
    intro cvs hc
    unfold results
    rw [Array.mapM_eq_mapM_toList]
    simp only [Sem.run_bind,Sem.run_map]
    refine Eq.trans (congrArg (fun z=>Result.andThen z _) (congrArg (fun z=>Result.andThen z _) hc)) ?_
    rfl
  split at hr
  · rename_i v' hv
    simp only [Option.some.injEq] at hr;subst hr
    obtain ⟨cvs,e1,e2⟩:=qqy hτ h _ _ hv
    have hl:cvs.length = 1:=by have:=e2.1;simpa using this.symm
    obtain ⟨c,rfl⟩:=List.length_eq_one_iff.1 hl
    exact ⟨c,hrun [c] e1,by simpa using e2.2 0 (by simp)⟩
  · rename_i vs hne hv
    simp only [Option.some.injEq] at hr;subst hr
    obtain ⟨cvs,e1,e2⟩:=qqy hτ h _ _ hv
    have hl:cvs.toArray.size ≠ 1:=by
      intro h1
      rw [← e2.1] at h1
      obtain ⟨x,hx⟩:=List.length_eq_one_iff.1 h1
      exact hne x hx
    exact ⟨.tuple cvs.toArray,by rw [hrun cvs e1,dif_neg hl],.tup e2.1 e2.2⟩
  · cases hr
def St.enter (args:List V) (objs:List AObj) (nt:Nat):St:={ env:=fun t=>args.getD t .und,heap:=qav objs,next:=objs.length,nt:=nt,base:=objs.length }
def RetQ (τ:Tab) (rs:List ResultVar) (fr:Bool) (m:Nat) (R:V→List AObj→List AObj→Prop):Exit→St→Prop:=fun e σ =>
  (e = .normal ∨ e = .ret)∧∃ rv ex r objs' new,resV τ rs σ = some rv∧ex.Nodup∧(∀ x ∈ ex,m ≤ x) ∧
    exV (qdz (List.range m ++ ex)) σ.heap true rv = some r∧exVP (qdz (List.range m ++ ex)) σ.heap rv ∧
    mapO (fun j=>exO (qdz (List.range m ++ ex)) σ.heap true (σ.heap j)) (List.range m ++ ex) = some (objs' ++ new)∧objs'.length = m∧(∀ j ∈ List.range m ++ ex,exOP (qdz (List.range m ++ ex)) σ.heap (σ.heap j)) ∧
    (fr = true→r.flat∧∀ o ∈ objs' ++ new,o.flat)∧R r objs' new
theorem qal (hτ:qeo P τ) {k:FuncId} {fn:Func} {c:Code} {args:List V} {objs:List AObj} {fr:Bool} {R:V→List AObj→List AObj→Prop} (hf:P.funcs[k]? = some fn) (hbd:fn.body = some c) (hn:args.length ≤ fn.ntmps) (hlive:∀ o ∈ objs,o ≠ .none)
    (h:AW P c (St.enter args objs fn.ntmps) (RetQ τ fn.results.toList fr objs.length R)):qb0 P fr k args objs R:=by
  intro W A hb okA vals hA0 hA1 hsim hrel
  refine calls_of_wp hf hbd ?_
  have hs:Sim W A okA hb (St.enter args objs fn.ntmps) { tmps:=vals ++ Array.replicate (fn.ntmps - vals.size) undef,defers:=[] } W:=by
    refine ⟨rfl,?_,fun t=>?_,hsim,fun j hj=>?_⟩
    rotate_left 2
    · rw [hA0];unfold qav
      rw [List.getD_eq_getElem?_getD,List.getElem?_eq_none hj];rfl
    · show (vals ++ Array.replicate (fn.ntmps - vals.size) undef).size = fn.ntmps
      have:=hrel.1
      simp;omega
    · show Rel W hb (qav objs) _ (args.getD t .und) _
      by_cases ht:t < vals.size
      · have hl:t < args.length:=by rw [hrel.1];exact ht
        have e1:(vals ++ Array.replicate (fn.ntmps - vals.size) undef).getD t undef = vals.getD t undef:=by
          rw [Array.getD_eq_getD_getElem?,Array.getElem?_append_left ht,← Array.getD_eq_getD_getElem?]
        have e2:args.getD t .und = args.getD t .junk:=by
          rw [List.getD_eq_getElem?_getD,List.getElem?_eq_getElem hl,List.getD_eq_getElem?_getD,List.getElem?_eq_getElem hl];rfl
        rw [e1,e2]
        exact hrel.2 t ht
      · have e1:(vals ++ Array.replicate (fn.ntmps - vals.size) undef).getD t undef = undef:=by
          rw [Array.getD_eq_getD_getElem?,Array.getElem?_append_right (by omega)]
          by_cases h2:t - vals.size < fn.ntmps - vals.size
          · simp [Array.getElem?_replicate,h2]
          · simp [Array.getElem?_replicate,h2]
        have e2:args.getD t .und = .und:=by
          rw [List.getD_eq_getElem?_getD,List.getElem?_eq_none (by rw [hrel.1];omega)];rfl
        rw [e1,e2]
        exact .und
  refine Code.wp_mono (fun e a W' ⟨hb1,σ,hq,hs1⟩=>?_) (h W A okA hb _ W hs)
  obtain ⟨he,rv,ex,r,objs',new,q1,q2,q2',q3,q3',q4,q5,q6,q7,q8⟩:=hq
  obtain ⟨cv,r1,r2⟩:=resV_run (fn:=fn) hτ hs1 q1
  -- the names that go out
  let nm:=List.range objs.length ++ ex
  have hnm:nm = List.range objs.length ++ ex:=rfl
  have hnn:nm.Nodup:=List.nodup_append.2 ⟨List.nodup_range,q2,fun x hx y hy=>by
    have:=q2' y hy
    simp at hx;omega⟩
  obtain ⟨m1,m2⟩:=qju q4
  have hml:nm.length = (objs' ++ new).length:=by rw [m1]
  let hb2:Handle:=fun i=>match nm[i]? with
    | some j=>hb1 j
    | none=>none
  have hbj:∀ i j,nm[i]? = some j→hb2 i = hb1 j:=by intro i j hij;show (match nm[i]? with | some j=>hb1 j | none=>none) = _;rw [hij]
  have hnone:∀ i,nm.length ≤ i→qav (objs' ++ new) i = .none:=by
    intro i hi
    unfold qav
    rw [List.getD_eq_getElem?_getD,List.getElem?_eq_none (by omega)];rfl
  have hin:∀ i,qav (objs' ++ new) i ≠ .none→∃ j,nm[i]? = some j:=by
    intro i hi
    rcases Nat.lt_or_ge i nm.length with hl | hl
    · exact ⟨nm[i],List.getElem?_eq_getElem hl⟩
    · exact absurd (hnone i hl) hi
  have hobj:∀ i j,nm[i]? = some j→∃ y,exO (qdz nm) σ.heap true (σ.heap j) = some y∧qav (objs' ++ new) i = y:=by
    intro i j hij
    obtain ⟨y,e1,e2⟩:=m2 i j hij
    exact ⟨y,e1,by unfold qav;exact getD_some e2 _⟩
  have hlv:∀ j ∈ nm,σ.heap j ≠ .none:=by
    intro j hj e
    obtain ⟨i,hi,ei⟩:=List.getElem_of_mem hj
    obtain ⟨y,e1,_⟩:=m2 i nm[i] (List.getElem?_eq_getElem hi)
    rw [ei,e] at e1;simp [exO] at e1
  -- an object that does not go out lies in new memory
  have hloc:∀ j b,σ.heap j ≠ .none→j ∉ nm→hb1 j = some b→W.heap.size ≤ b:=by
    intro j b hj hjn hjb
    rcases (hs1.heap.hnd j b hj hjb).2 with ⟨h1,_⟩ | h1
    · rw [hA0] at h1
      refine absurd ?_ hjn
      rw [hnm]
      refine List.mem_append_left _ ?_
      rcases Nat.lt_or_ge j objs.length with h2 | h2
      · simpa using h2
      · exfalso;apply h1
        unfold qav
        rw [List.getD_eq_getElem?_getD,List.getElem?_eq_none h2];rfl
    · exact h1
  have N:qpb W' (qdz nm) hb1 hb2 σ.heap (qav (objs' ++ new)) (okF W okA hb1 σ.heap W') (okF W okA hb2 (qav (objs' ++ new)) W') true:=by
    refine ⟨fun b hb'=>⟨hb'.1,hb'.2.1,fun i hi e=>?_⟩,fun j i cs hj hcs=>?_,fun j i sz es hj hes=>?_,fun j i kk es hj hes=>?_,fun _ j b hj hne hbjj=>?_,hs1.heap.obj⟩
    · obtain ⟨j,hij⟩:=hin i hi
      rw [hbj i j hij] at e
      exact hb'.2.2 j (hlv j (List.mem_of_getElem? hij)) e
    · have hij:=qew hj
      obtain ⟨y,e1,e2⟩:=hobj i j hij
      refine ⟨hbj i j hij,?_⟩
      rw [hcs] at e1
      simp only [exO] at e1
      split at e1
      · simp only [Option.some.injEq] at e1;subst e1;exact ⟨_,e2⟩
      · cases e1
    · have hij:=qew hj
      obtain ⟨y,e1,e2⟩:=hobj i j hij
      refine ⟨hbj i j hij,?_⟩
      rw [hes] at e1
      simp only [exO,Option.some.injEq] at e1
      rw [e2,← e1]
    · have hij:=qew hj
      obtain ⟨y,e1,e2⟩:=hobj i j hij
      refine ⟨hbj i j hij,?_⟩
      rw [hes] at e1
      simp only [exO,Option.some.injEq] at e1
      rw [e2,← e1]
    · have hnmj:=qin hj
      refine ⟨(hs1.heap.hnd j b hne hbjj).1,.inr (hloc j b hne hnmj hbjj),fun i hi e=>?_⟩
      obtain ⟨j',hij⟩:=hin i hi
      rw [hbj i j' hij] at e
      have:=hs1.heap.inj j j' b hne (hlv j' (List.mem_of_getElem? hij)) hbjj e
      subst this
      exact hnmj (List.mem_of_getElem? hij)
  have hix:∀ i j,nm[i]? = some j→qdz nm j = some i:=by
    intro i j hij
    cases hx:qdz nm j with
    | none=>exact absurd (List.mem_of_getElem? hij) (qin hx)
    | some i'=>rw [qkj hnn (qew hx) hij]
  have hrel2:RelS W okA hb2 (qav (objs' ++ new)) W' r cv:=qmb N r2 q3 q3'
  have hobj2:∀ i,qfz W' hb2 (qav (objs' ++ new)) (okF W okA hb2 (qav (objs' ++ new)) W') i:=by
    intro i
    by_cases hi:qav (objs' ++ new) i = .none
    · unfold qfz;rw [hi];trivial
    · obtain ⟨j,hij⟩:=hin i hi
      obtain ⟨y,e1,e2⟩:=hobj i j hij
      exact qoc N (hix i j hij) e1 (q6 j (List.mem_of_getElem? hij)) e2 (hbj i j hij)
  have hm0:∀ i,i < objs.length→nm[i]? = some i:=by
    intro i hi
    rw [hnm,List.getElem?_append_left (by simpa using hi),List.getElem?_range hi]
  have hsim2:HSim W A (if fr then noOk else okA) hb2 (qav (objs' ++ new)) (objs' ++ new).length W':=by
    refine { obj:=fun i=>?_,inj:=fun i k b hi hk hbi hbk=>?_,hnd:=fun i b hi hbi=>?_,fresh:=fun i hi=>hnone i (by omega),ext:=hs1.heap.ext,keep:=?_,lay:=hs1.heap.lay }
    · cases fr with
      | false=>exact hobj2 i
      | true =>
        refine (hobj2 i).flat ?_
        rcases Nat.lt_or_ge i (objs' ++ new).length with hl | hl
        · unfold qav
          rw [List.getD_eq_getElem?_getD,List.getElem?_eq_getElem hl]
          exact (q7 rfl).2 _ (List.getElem_mem hl)
        · rw [hnone i (by omega)];trivial
    · obtain ⟨j,hij⟩:=hin i hi
      obtain ⟨j',hkj⟩:=hin k hk
      rw [hbj i j hij] at hbi
      rw [hbj k j' hkj] at hbk
      have:=hs1.heap.inj j j' b (hlv j (List.mem_of_getElem? hij)) (hlv j' (List.mem_of_getElem? hkj)) hbi hbk
      subst this
      exact qkj hnn hij hkj
    · obtain ⟨j,hij⟩:=hin i hi
      rw [hbj i j hij] at hbi
      obtain ⟨h1,h2⟩:=hs1.heap.hnd j b (hlv j (List.mem_of_getElem? hij)) hbi
      refine ⟨h1,h2.imp (fun ⟨h3,h4⟩=>?_) id⟩
      have hjl:j < objs.length:=by
        rw [hA0] at h3
        rcases Nat.lt_or_ge j objs.length with h5 | h5
        · exact h5
        · exfalso;apply h3
          unfold qav
          rw [List.getD_eq_getElem?_getD,List.getElem?_eq_none h5];rfl
      have:=qkj hnn hij (hm0 j hjl)
      subst this
      exact ⟨h3,h4⟩
    · have hlt:∀ j,A.H0 j ≠ .none→j < objs.length:=by
        intro j hj
        rw [hA0] at hj
        rcases Nat.lt_or_ge j objs.length with h5 | h5
        · exact h5
        · exfalso;apply hj
          unfold qav
          rw [List.getD_eq_getElem?_getD,List.getElem?_eq_none h5];rfl
      refine ⟨fun j cs hj=>?_,fun j sz es hj=>?_,fun j kk es hj=>?_⟩
      · have hij:=hm0 j (hlt j (by rw [hj];simp))
        obtain ⟨cs',e1,e2⟩:=hs1.heap.keep.box j cs hj
        obtain ⟨y,e3,e4⟩:=hobj j j hij
        rw [e1] at e3
        simp only [exO] at e3
        split at e3
        · simp only [Option.some.injEq] at e3;subst e3
          exact ⟨_,e4,(hbj j j hij).trans e2⟩
        · cases e3
      · have hij:=hm0 j (hlt j (by rw [hj];simp))
        obtain ⟨es',e1,e0,e2⟩:=hs1.heap.keep.row j sz es hj
        obtain ⟨y,e3,e4⟩:=hobj j j hij
        rw [e1] at e3
        simp only [exO,Option.some.injEq] at e3;subst e3
        exact ⟨_,e4,e0,fun hl=>⟨(hbj j j hij).trans (e2 hl).1,(e2 hl).2⟩⟩
      · have hij:=hm0 j (hlt j (by rw [hj];simp))
        obtain ⟨es',e1,e2⟩:=hs1.heap.keep.map j kk es hj
        obtain ⟨y,e3,e4⟩:=hobj j j hij
        rw [e1] at e3
        simp only [exO,Option.some.injEq] at e3;subst e3
        exact ⟨_,e4,(hbj j j hij).trans e2⟩
  have fin:∃ v r objs' new hb',Ending.returned cv = .returned v∧R r objs' new∧objs'.length = objs.length ∧
      HSim W A (if fr then noOk else okA) hb' (qav (objs' ++ new)) (objs' ++ new).length W'∧RelS W (if fr then noOk else okA) hb' (qav (objs' ++ new)) W' r v :=
    ⟨cv,r,objs',new,hb2,rfl,q8,q5,hsim2,by
      cases fr with
      | false=>exact hrel2
      | true=>exact hrel2.flat (q7 rfl).1⟩
  rcases he with rfl | rfl
  · exact ⟨hs1.defers,cv,r1,fin⟩
  · exact ⟨hs1.defers,cv,r1,fin⟩
end
end Go.Proofs.Ytdnkjocenbepaaa.AWN

namespace Go.Proofs.Ytdnkjocenbepaaa.AWN
open Go
def One (P:Program) (ops:Array Oper) (o:Oper) (σ:St) (S:St→Prop):Prop :=
  ∀ w0 A okA hb a W,Sim w0 A okA hb σ a W→∀ (Q:Exit→Act→World→Prop) (K:Act→World→Prop),
    (∀ σ' hb' a' W',S σ'→Sim w0 A okA hb' σ' a' W'→K a' W')→if Region.wanted o (yielded ops a.tmps) then o.wp P a W K Q else K (a.put o.dst undef) W
section
variable {P:Program} {τ:Tab} {σ:St} {ops:Array Oper} {o:Oper}
theorem qiq {S:St→Prop} (hw:qcf ops σ o = some true) (h:∀ w0 A okA hb a W,Sim w0 A okA hb σ a W→Does P o a W (fun cv W'=>∃ σ' hb',S σ'∧Sim w0 A okA hb' σ' (a.put o.dst cv) W')):One P ops o σ S:=by
  intro w0 A okA hb a W hs Q K hK
  have hwn:=qkr hs hw
  obtain ⟨cv,W',hrun,σ',hb',h1,h2⟩:=h w0 A okA hb a W hs
  rw [if_pos hwn]
  unfold Oper.wp
  rcases hrun with hrun | ⟨hrun,rfl⟩
  · rw [hrun];exact hK σ' hb' _ _ h1 h2
  · rw [hrun];exact hK σ' hb' _ _ h1 h2
theorem one_skip (hw:qcf ops σ o = some false) (hd:qga σ o.dst = true):One P ops o σ (· = σ.putO o.dst .und):=by
  intro w0 A okA hb a W hs Q K hK
  have hwn:=qkr hs hw
  rw [if_neg (by simp [hwn])]
  exact hK _ hb _ _ rfl (qgm hs .und _ hd)
theorem one_val (hτ:qeo P τ) {v:V} (hw:qcf ops σ o = some true) (hd:qga σ o.dst = true) (h:qbn τ σ o.op = .val v):One P ops o σ (· = σ.putO o.dst v) :=
  qiq hw fun w0 A okA hb a W hs=>by
    have:=qf9 hτ hs o
    rw [h] at this
    obtain ⟨cv,W',hrun,s,hr⟩:=this
    exact ⟨cv,W',hrun,_,hb,rfl,qgm (hs.same s) (hr.same s) _ hd⟩
theorem one_need (hτ:qeo P τ) {v:V} {p:Prop} (hw:qcf ops σ o = some true) (hd:qga σ o.dst = true) (h:qbn τ σ o.op = .need p v) (hp:p):One P ops o σ (· = σ.putO o.dst v) :=
  qiq hw fun w0 A okA hb a W hs=>by
    have:=qf9 hτ hs o
    rw [h] at this
    obtain ⟨cv,W',hrun,s,hr⟩:=this hp
    exact ⟨cv,W',hrun,_,hb,rfl,qgm (hs.same s) (hr.same s) _ hd⟩
theorem one_elem (hτ:qeo P τ) {v:V} {p:Prop} {es:List (List D)} {i:Nat} {k:List D→Option V} {e:List D} (hw:qcf ops σ o = some true) (hd:qga σ o.dst = true) (h:qbn τ σ o.op = .elem p es i k) (hp:p) (he:es[i]? = some e) (hv:k e = some v):One P ops o σ (· = σ.putO o.dst v) :=
  qiq hw fun w0 A okA hb a W hs=>by
    have:=qf9 hτ hs o
    rw [h] at this
    obtain ⟨cv,W',hrun,s,hr⟩:=this e v hp he hv
    exact ⟨cv,W',hrun,_,hb,rfl,qgm (hs.same s) (hr.same s) _ hd⟩
theorem qo9 {H:Nat→AObj} {n:Nat} {d:Option Nat} (hd:qga σ d = true):qga ({ σ with heap:=H,next:=n }:St) d = true:=by cases d <;> exact hd
theorem one_valH (hτ:qeo P τ) {v:V} {H:Nat→AObj} {n:Nat} (hw:qcf ops σ o = some true) (hd:qga σ o.dst = true) (h:qbn τ σ o.op = .valH v H n):One P ops o σ (· = ({ σ with heap:=H,next:=n }:St).putO o.dst v) :=
  qiq hw fun w0 A okA hb a W hs=>by
    have:=qf9 hτ hs o
    rw [h] at this
    obtain ⟨cv,W',hrun,hb',s,hr⟩:=this
    exact ⟨cv,W',hrun,_,hb',rfl,qgm s hr _ (qo9 hd)⟩
theorem one_needH (hτ:qeo P τ) {v:V} {p:Prop} {H:Nat→AObj} {n:Nat} (hw:qcf ops σ o = some true) (hd:qga σ o.dst = true) (h:qbn τ σ o.op = .needH p v H n) (hp:p):One P ops o σ (· = ({ σ with heap:=H,next:=n }:St).putO o.dst v) :=
  qiq hw fun w0 A okA hb a W hs=>by
    have:=qf9 hτ hs o
    rw [h] at this
    obtain ⟨cv,W',hrun,hb',s,hr⟩:=this hp
    exact ⟨cv,W',hrun,_,hb',rfl,qgm s hr _ (qo9 hd)⟩
theorem one_elemH (hτ:qeo P τ) {p:Prop} {es:List (List D)} {i:Nat} {k:List D→Option (Nat→AObj)} {e:List D} {H:Nat→AObj} (hw:qcf ops σ o = some true) (hd:qga σ o.dst = true) (h:qbn τ σ o.op = .elemH p es i k) (hp:p) (he:es[i]? = some e) (hv:k e = some H) :
    One P ops o σ (· = ({ σ with heap:=H,next:=σ.next }:St).putO o.dst .und) :=
  qiq hw fun w0 A okA hb a W hs=>by
    have:=qf9 hτ hs o
    rw [h] at this
    obtain ⟨cv,W',hrun,hb',s,rfl⟩:=this e H hp he hv
    exact ⟨undef,W',hrun,_,hb',rfl,qgm (σ:={ σ with heap:=H,next:=σ.next }) s .und _ (qo9 hd)⟩
theorem one_call (hτ:qeo P τ) (fr:Bool) (js:List Nat) {k:FuncId} {args args':List V} {objs:List AObj} {R:V→List AObj→List AObj→Prop} (hw:qcf ops σ o = some true) (hd:qga σ o.dst = true) (h:qbn τ σ o.op = .call k args) (hfn:qmt P k)
    (hargs:mapO (exV (qdz js) σ.heap fr) args = some args') (hobjs:mapO (fun j=>exO (qdz js) σ.heap fr (σ.heap j)) js = some objs) (hnd:js.Nodup) (hpa:∀ v ∈ args,exVP (qdz js) σ.heap v) (hpo:∀ j ∈ js,exOP (qdz js) σ.heap (σ.heap j))
    (hc:qb0 P fr k args' objs R):One P ops o σ (fun σ'=>∃ r objs' new,R r objs' new∧objs'.length = js.length∧σ' = (σ.after js objs' new).putO o.dst (renV (σ.names js new.length) r)):=by
  intro w0 A okA hb a W hs Q K hK
  have hwn:=qkr hs hw
  have ho:=qf9 hτ hs o
  rw [h] at ho
  obtain ⟨vals,hrun,hrel⟩:=ho
  obtain ⟨c1,c2,c3⟩:=qu4 hs.heap hnd hobjs hpo
  obtain ⟨m1,m2⟩:=qju hobjs
  rw [if_pos hwn]
  unfold Oper.wp
  rw [hrun,hfn]
  simp only [Oper.upon]
  have hrel':=qjo c2 (fun a b c=>qmb c2 a b c) hrel hargs hpa
  refine (hc W ⟨qav objs,fun i=>match js[i]? with
    | some j=>hb j
    | none=>none⟩ _ _ vals rfl rfl c1 hrel').mono fun e W' hpost=>?_
  obtain ⟨v,r,objs',new,hb',rfl,hR,hl,hsim,hrv⟩:=hpost
  simp only
  have hbj:∀ (i j:Nat),js[i]? = some j→(match js[i]? with | some j=>hb j | none=>none) = hb j:=fun i j hij=>by rw [hij]
  have hobj:∀ i j,js[i]? = some j→∃ y,exO (qdz js) σ.heap fr (σ.heap j) = some y∧qav objs i = y:=by
    intro i j hij
    obtain ⟨y,e1,e2⟩:=m2 i j hij
    exact ⟨y,e1,by unfold qav;exact getD_some e2 _⟩
  obtain ⟨hb'',hout⟩:=qt0 (a:=a) hs.heap (fr:=fr) (objs:=objs) hnd c3 hbj m1 (okc:=fun b=>b < W.heap.size∧(okF w0 okA hb σ.heap W b ∨ (fr = true∧∃ j,σ.heap j ≠ .none∧j ∉ js∧hb j = some b)))
    (fun b hfr hb1=>by
      rcases hb1.2 with h1 | ⟨h1,_⟩
      · exact h1
      · rw [hfr] at h1;cases h1)
    (Ac:=⟨qav objs,_⟩) rfl rfl
    (fun i j cs hij hj=>by
      obtain ⟨y,e1,e2⟩:=hobj i j hij
      rw [hj] at e1
      simp only [exO] at e1
      split at e1
      · simp only [Option.some.injEq] at e1;subst e1;exact ⟨_,e2⟩
      · cases e1)
    (fun i j sz es hij hj=>by
      obtain ⟨y,e1,e2⟩:=hobj i j hij
      rw [hj] at e1
      simp only [exO,Option.some.injEq] at e1
      rw [e2,← e1])
    (fun i j kk es hij hj=>by
      obtain ⟨y,e1,e2⟩:=hobj i j hij
      rw [hj] at e1
      simp only [exO,Option.some.injEq] at e1
      rw [e2,← e1]) hl hsim
  obtain ⟨s1,s2⟩:=hout hs
  have hr2:=qq9 s2 hrv
  exact hK _ hb'' _ W' ⟨r,objs',new,hR,by rw [hl,m1],rfl⟩ (qgm s1 hr2 _ (by cases hdd:o.dst <;> rw [hdd] at hd <;> exact hd))
/-! ### What a step depends on -/
def opdT:Operand→List Nat
  | .tmp t=>[t]
  | _=>[]
def opT:Op→List Nat
  | .move x | .assign x | .box _ x | .load _ x | .nilCheck x | .unOp _ _ x | .convert _ _ x | .fieldAddr _ x _ | .field _ x _ | .extract x _=>opdT x
  | .pick c a b=>opdT c ++ opdT a ++ opdT b
  | .build _ parts | .buildSlice _ _ parts=>parts.toList.flatMap fun p=>opdT p.2
  | .makeSlice _ x v | .store _ x v | .binOp _ _ x v _ | .indexAddr _ x v | .index _ x v=>opdT x ++ opdT v
  | .makeFunc _ first caps=>first.toList.flatMap opdT ++ caps.toList.flatMap opdT
  | .slice _ x lo hi mx=>opdT x ++ (lo.map opdT).getD [] ++ (hi.map opdT).getD [] ++ (mx.map opdT).getD []
  | .call c=>(match c.callee with
    | .value f=>opdT f
    | _=>[]) ++ c.args.toList.flatMap opdT
  | .lookup _ x i _=>opdT x ++ opdT i
  | .mapUpdate _ m k x=>opdT m ++ opdT k ++ opdT x
  | _=>[]
theorem qbz {σ σ':St} {x:Operand} (h:∀ t ∈ opdT x,σ'.env t = σ.env t):σ'.ev x = σ.ev x:=by
  cases x with
  | tmp t=>exact h t (by simp [opdT])
  | _=>rfl
theorem qse {σ σ':St} (l:List Operand) (h:∀ t ∈ l.flatMap opdT,σ'.env t = σ.env t):l.map σ'.ev = l.map σ.ev:=by
  refine List.map_congr_left fun x hx=>qbz fun t ht=>h t (List.mem_flatMap.2 ⟨x,hx,ht⟩)
theorem qt2 {σ σ':St} (l:List (Nat × Operand)) (h:∀ t ∈ l.flatMap (fun p=>opdT p.2),σ'.env t = σ.env t):l.map (fun p=>(p.1,σ'.ev p.2)) = l.map (fun p=>(p.1,σ.ev p.2)):=by
  refine List.map_congr_left fun x hx=>?_
  rw [qbz fun t ht=>h t (List.mem_flatMap.2 ⟨x,hx,ht⟩)]
theorem qua {σ σ':St} (x:Option Operand) (h:∀ t ∈ (x.map opdT).getD [],σ'.env t = σ.env t):x.map σ'.ev = x.map σ.ev:=by
  cases x with
  | none=>rfl
  | some x=>simp only [Option.map_some];rw [qbz (by simpa using h)]
theorem qmn {σ σ':St} {op:Op} (h:∀ t ∈ opT op,σ'.env t = σ.env t) (hh:σ'.heap = σ.heap) (hn:σ'.next = σ.next):qbn τ σ' op = qbn τ σ op:=by
  have app:∀ {l1 l2:List Nat},(∀ t ∈ l1 ++ l2,σ'.env t = σ.env t)→(∀ t ∈ l1,σ'.env t = σ.env t)∧∀ t ∈ l2,σ'.env t = σ.env t :=
    fun h=>⟨fun t ht=>h t (List.mem_append_left _ ht),fun t ht=>h t (List.mem_append_right _ ht)⟩
  cases op
  case move x=>simp only [qbn];rw [qbz h]
  case assign x=>simp only [qbn];rw [qbz h]
  case pick c a b=>simp only [qbn];obtain ⟨h1,h3⟩:=app h;obtain ⟨h1,h2⟩:=app h1;rw [qbz h1,qbz h2,qbz h3]
  case box t x=>simp only [qbn];rw [qbz h,hh,hn]
  case alloc t=>simp only [qbn];rw [hh,hn]
  case build t parts=>simp only [qbn];rw [qt2 _ h]
  case buildSlice t len parts=>simp only [qbn];rw [qt2 _ h,hh,hn]
  case makeSlice t x v=>simp only [qbn];obtain ⟨h1,h2⟩:=app h;rw [qbz h1,qbz h2,hh,hn]
  case load t x=>simp only [qbn];rw [qbz h,hh]
  case store t x v=>simp only [qbn];obtain ⟨h1,h2⟩:=app h;rw [qbz h1,qbz h2,hh,hn]
  case nilCheck x=>simp only [qbn];rw [qbz h,hh]
  case binOp op t x y _=>simp only [qbn];obtain ⟨h1,h2⟩:=app h;rw [qbz h1,qbz h2]
  case unOp op _ x=>simp only [qbn];rw [qbz h]
  case convert s d x=>simp only [qbn];rw [qbz h]
  case makeFunc f first caps =>
    obtain ⟨h1,h2⟩:=app h
    cases f <;> simp only [qbn]
    rw [qse _ h1,qse _ h2]
  case slice t x lo hi mx =>
    simp only [qbn]
    obtain ⟨h1,h4⟩:=app h
    obtain ⟨h1,h3⟩:=app h1
    obtain ⟨h1,h2⟩:=app h1
    rw [qbz h1,qua _ h2,qua _ h3,qua _ h4,hh]
  case fieldAddr s x f=>simp only [qbn];rw [qbz h,hh]
  case field s x f=>simp only [qbn];rw [qbz h]
  case indexAddr t x i=>simp only [qbn];obtain ⟨h1,h2⟩:=app h;rw [qbz h1,qbz h2,hh]
  case index t x i=>simp only [qbn];obtain ⟨h1,h2⟩:=app h;rw [qbz h1,qbz h2]
  case extract x i=>simp only [qbn];rw [qbz h]
  case call c =>
    obtain ⟨h1,h2⟩:=app h
    simp only [qbn]
    rw [qse _ h2,hh,hn]
    cases hc:c.callee with
    | value f =>
      simp only [hc] at h1
      simp only
      rw [qbz h1]
    | _=>rfl
  case makeMap t r=>cases r <;> simp only [qbn];rw [hh,hn]
  case lookup t x i ok=>simp only [qbn];obtain ⟨h1,h2⟩:=app h;rw [qbz h1,qbz h2,hh]
  case mapUpdate t m k x=>simp only [qbn];obtain ⟨h1,h3⟩:=app h;obtain ⟨h1,h2⟩:=app h1;rw [qbz h1,qbz h2,qbz h3,hh,hn]
  all_goals rfl
def V.nm:V→List Nat
  | .ptr j _ | .eptr j _ _ _ | .row j _ _ _ | .mref j=>[j]
  | _=>[]
def qqz (σ:St):Op→Option (List Nat)
  | .load _ x | .fieldAddr _ x _ | .indexAddr _ x _ | .slice _ x _ _ _ | .lookup _ x _ _=>some (σ.ev x).nm
  | .move _ | .assign _ | .pick _ _ _ | .build _ _ | .binOp _ _ _ _ _ | .unOp _ _ _ | .convert _ _ _ | .makeFunc _ _ _ | .field _ _ _ | .index _ _ _ | .extract _ _=>some []
  | .nilCheck x=>some (match σ.ev x with | .eptr j _ _ _=>[j] | _=>[])
  | .call c=>match c.callee with
    | .builtin .len | .builtin .complex | .builtin .real | .builtin .imag | .builtin .max | .builtin .min=>some (c.args.toList.flatMap fun x=>(σ.ev x).nm)
    | _=>none
  | _=>none
theorem loadV_nm {H H':Nat→AObj} {td:TD} {x:V} (h:∀ j ∈ x.nm,H' j = H j):qqr H' td x = qqr H td x:=by
  cases x with
  | ptr j off=>simp only [qqr];rw [h j (by simp [V.nm])]
  | eptr j L i off=>simp only [qqr];rw [h j (by simp [V.nm])]
  | _=>rfl
theorem ptrAdd_nm {H H':Nat→AObj} {n:Nat} {x:V} (h:∀ j ∈ x.nm,H' j = H j):qnl H' x n = qnl H x n:=by
  cases x with
  | ptr j off=>rfl
  | eptr j L i off=>simp only [qnl];rw [h j (by simp [V.nm])]
  | _=>rfl
theorem indexAddrV_nm {H H':Nat→AObj} {t:TypeId} {x i:V} (h:∀ j ∈ x.nm,H' j = H j):qi5 τ H' t x i = qi5 τ H t x i:=by
  unfold qi5
  rcases τ t with _ | ⟨desc,a1,a2,a3⟩
  · rfl
  · cases i with
    | d y =>
      cases y with
      | int k n =>
        cases desc with
        | slice et =>
          cases x with
          | row j L off len=>dsimp only;rw [h j (by simp [V.nm])]
          | d z=>cases z <;> rfl
          | _=>rfl
        | _=>cases x <;> rfl
      | _=>rfl
    | _=>rfl
theorem sliceV_nm {H H':Nat→AObj} {t:TypeId} {x:V} {lo hi mx:Option V} (h:∀ j ∈ x.nm,H' j = H j):qno τ H' t x lo hi mx = qno τ H t x lo hi mx:=by
  unfold qno
  rcases τ t with _ | ⟨desc,a1,a2,a3⟩
  · rfl
  · rcases qoo lo with _ | lo
    · rfl
    · rcases qoo hi with _ | hi
      · rfl
      · cases mx with
        | some _=>rfl
        | none =>
          cases desc with
          | slice et =>
            cases x with
            | row j L off len=>dsimp only;rw [h j (by simp [V.nm])]
            | d z=>cases z <;> rfl
            | _=>rfl
          | _ =>
            cases x with
            | d z=>cases z <;> rfl
            | _=>rfl
theorem lenV_nm {H H':Nat→AObj} {t:TypeId} {x:V} (h:∀ j ∈ x.nm,H' j = H j):lenV τ H' t x = lenV τ H t x:=by
  unfold lenV
  rcases τ t with _ | ⟨desc,a1,a2,a3⟩
  · rfl
  · cases x with
    | row j L off len=>cases desc <;> first | rfl | (dsimp only;rw [h j (by simp [V.nm])])
    | d z=>cases desc <;> cases z <;> rfl
    | _=>cases desc <;> rfl
theorem qik {H H':Nat→AObj} {n n':Nat} {b:Builtin} {ts:Array TypeId} {args:List V} (hb:b = .len ∨ b = .complex ∨ b = .real ∨ b = .imag ∨ b = .max ∨ b = .min) (h:∀ j ∈ args.flatMap V.nm,H' j = H j):qlo τ H' n' b ts args = qlo τ H n b ts args:=by
  rcases hb with rfl | rfl | rfl | rfl | rfl | rfl
  · rcases args with _ | ⟨x,_ | ⟨y,r⟩⟩
    · rfl
    · simp only [qlo]
      split
      · exact lenV_nm (by simpa using h)
      · rfl
    · rfl
  all_goals (unfold qlo;split <;> first | rfl | (rename_i hb;cases hb;done) | contradiction | trivial)
theorem lookupV_nm {H H':Nat→AObj} {t:TypeId} {x i:V} {ok:Bool} (h:∀ j ∈ x.nm,H' j = H j):qok τ H' t x i ok = qok τ H t x i ok:=by
  unfold qok
  cases mapT τ t with
  | none=>rfl
  | some p =>
    obtain ⟨k,ed⟩:=p
    cases x with
    | mref j=>cases i with
      | d y=>cases y with
        | int k' n=>dsimp only;rw [h j (by simp [V.nm])]
        | _=>rfl
      | _=>rfl
    | _=>rfl
theorem step_ro {σ σ':St} {op:Op} {J:List Nat} (hr:qqz σ op = some J) (h:∀ t ∈ opT op,σ'.env t = σ.env t) (hh:∀ j ∈ J,σ'.heap j = σ.heap j):qbn τ σ' op = qbn τ σ op:=by
  have e:=qmn (τ:=τ) (σ:=σ) (σ':={ σ with env:=σ'.env }) h rfl rfl
  rw [← e]
  have hx:∀ x,(∀ t ∈ opdT x,σ'.env t = σ.env t)→(σ.ev x).nm = (σ'.ev x).nm:=fun x h=>by rw [qbz h]
  have app:∀ {l1 l2:List Nat},(∀ t ∈ l1 ++ l2,σ'.env t = σ.env t)→(∀ t ∈ l1,σ'.env t = σ.env t)∧∀ t ∈ l2,σ'.env t = σ.env t :=
    fun h=>⟨fun t ht=>h t (List.mem_append_left _ ht),fun t ht=>h t (List.mem_append_right _ ht)⟩
  have evE:∀ x,({ σ with env:=σ'.env }:St).ev x = σ'.ev x:=fun x=>by cases x <;> rfl
  have evL:(({ σ with env:=σ'.env }:St).ev) = σ'.ev:=funext evE
  have nmE:∀ x,(∀ t ∈ opdT x,σ'.env t = σ.env t)→some (σ.ev x).nm = some J→∀ j ∈ (σ'.ev x).nm,σ'.heap j = σ.heap j:=fun x h hr j hj=>hh j (by rw [← Option.some.inj hr,hx x h];exact hj)
  cases op <;> simp only [qqz] at hr <;> try (first | cases hr;done | skip)
  case load t x =>
    simp only [qbn,evE]
    cases τ t with
    | none=>rfl
    | some td=>exact loadV_nm (nmE x h hr)
  case fieldAddr s x f =>
    simp only [qbn,evE]
    split
    · rw [ptrAdd_nm (nmE x h hr)]
    · rfl
  case indexAddr t x i=>simp only [qbn,evE];exact indexAddrV_nm (nmE x (app h).1 hr)
  case lookup t x i ok=>simp only [qbn,evE];exact lookupV_nm (nmE x (app h).1 hr)
  case nilCheck x =>
    simp only [qbn,evE]
    rw [← qbz h] at hr
    cases hv:σ'.ev x with
    | eptr j L i off =>
      rw [hv] at hr
      dsimp only
      rw [hh j (by rw [← Option.some.inj hr];simp)]
    | _=>rfl
  case slice t x lo hi mx=>simp only [qbn,evE,evL];exact sliceV_nm (nmE x (app (app (app h).1).1).1 hr)
  case call c =>
    simp only [qbn,evL]
    have hnm:some (c.args.toList.flatMap fun x=>(σ.ev x).nm) = some J→∀ j ∈ (c.args.toList.map σ'.ev).flatMap V.nm,σ'.heap j = σ.heap j:=by
      intro hr j hj
      refine hh j ?_
      rw [← Option.some.inj hr]
      simp only [List.mem_flatMap,List.mem_map] at hj ⊢
      obtain ⟨_,⟨x,hx1,rfl⟩,hj⟩:=hj
      exact ⟨x,hx1,by rw [hx x fun t ht=>(app h).2 t (List.mem_flatMap.2 ⟨x,hx1,ht⟩)];exact hj⟩
    split at hr
    · rename_i hc;rw [hc];exact qik (by simp) (hnm hr)
    · rename_i hc;rw [hc];exact qik (by simp) (hnm hr)
    · rename_i hc;rw [hc];exact qik (by simp) (hnm hr)
    · rename_i hc;rw [hc];exact qik (by simp) (hnm hr)
    · rename_i hc;rw [hc];exact qik (by simp) (hnm hr)
    · rename_i hc;rw [hc];exact qik (by simp) (hnm hr)
    · cases hr
  case makeFunc f first caps=>cases f <;> simp only [qbn,evL] <;> rfl
  all_goals (simp only [qbn,evE,evL])
end
end Go.Proofs.Ytdnkjocenbepaaa.AWN

namespace Go.Proofs.Ytdnkjocenbepaaa.AWN
open Go
structure Rec where
  i:Nat
  mem:Bool
  J:List Nat
def looks (ops:Array Oper) (o:Oper):List Nat:=opT o.op ++ (match o.guard with
  | some (j,_)=>match ops[j]? with
    | some o'=>match o'.dst with
      | some d=>[d]
      | none=>[]
    | none=>[]
  | none=>[])
def qvd (P:Program) (ops:Array Oper) (σ:St) (o:Oper) (v:V) (J:List Nat):Prop :=
  ∀ σ',σ'.nt = σ.nt→(∀ t ∈ looks ops o,σ'.env t = σ.env t)→(∀ j ∈ J,σ'.heap j = σ.heap j)→One P ops o σ' (· = σ'.putO o.dst v)
def St.set (σ:St) (H:Nat→AObj) (n:Nat):St:={ σ with heap:=H,next:=n }
def qty (P:Program) (ops:Array Oper) (σ:St) (o:Oper) (v:V) (H:Nat→AObj) (n:Nat):Prop :=
  ∀ σ',σ'.nt = σ.nt→(∀ t ∈ looks ops o,σ'.env t = σ.env t)→σ'.heap = σ.heap→σ'.next = σ.next→One P ops o σ' (· = (σ'.set H n).putO o.dst v)
structure FR where
  r:Rec
  dst:Option Nat
  v:V
  H:Nat→AObj
  n:Nat
def app (σ:St) (f:FR):St:=bif f.r.mem then (σ.set f.H f.n).putO f.dst f.v else σ.putO f.dst f.v
abbrev apps (σ:St) (l:List FR):St:=l.foldl app σ
def Fact (P:Program) (ops:Array Oper) (σ:St) (f:FR):Prop:=∃ o,ops[f.r.i]? = some o∧f.dst = o.dst ∧
  ((f.r.mem = false∧qvd P ops σ o f.v f.r.J) ∨ (f.r.mem = true∧qty P ops σ o f.v f.H f.n∧∀ j ∈ f.r.J,f.H j = σ.heap j))
def Hist (P:Program) (ops:Array Oper) (fs0:List FR) (σ0:St) (rs:List Rec) (σ:St):Prop :=
  ∃ gs:List FR,(fs0 ++ gs).map (·.r) = rs.reverse∧σ = apps σ0 (fs0 ++ gs)∧∀ a f b,fs0 ++ gs = a ++ f :: b→Fact P ops (apps σ0 a) f
theorem Hist.nil {P:Program} {ops:Array Oper} {σ0:St}:Hist P ops [] σ0 [] σ0:=⟨[],rfl,rfl,fun a f b e=>by cases a <;> cases e⟩
theorem Hist.cons {P:Program} {ops:Array Oper} {fs0:List FR} {σ0:St} {rs:List Rec} {σ:St} (f:FR) (h:Hist P ops fs0 σ0 rs σ) (hf:Fact P ops σ f):Hist P ops fs0 σ0 (f.r :: rs) (app σ f):=by
  obtain ⟨gs,e1,e2,e3⟩:=h
  refine ⟨gs ++ [f],by rw [← List.append_assoc,List.map_append,e1];simp,by rw [← List.append_assoc,apps,List.foldl_append,← show σ = List.foldl app σ0 (fs0 ++ gs) from e2];rfl,fun a g b e=>?_⟩
  rw [← List.append_assoc] at e
  rcases List.eq_nil_or_concat b with rfl | ⟨b',x,rfl⟩
  · have e':a ++ [g] = (fs0 ++ gs) ++ [f]:=e.symm
    obtain ⟨e4,e5⟩:=List.append_inj' e' rfl
    cases e5
    rw [e4,← e2];exact hf
  · have e':(a ++ g :: b') ++ [x] = (fs0 ++ gs) ++ [f]:=by rw [e];simp
    obtain ⟨e4,e5⟩:=List.append_inj' e' rfl
    exact e3 a g b' e4.symm
section
variable {P:Program} {τ:Tab} {σ σ0:St} {ops:Array Oper} {o:Oper} {w0:World} {A:Args} {okA:Nat→Prop} {Q:Exit→St→Prop}
def aft (ops:Array Oper) (i j:Nat):Bool:=match ops[i]? with
  | some o=>o.after.any fun e=>Region.binds .any e && Nat.beq e.on j
  | none=>false
inductive Reach (ops:Array Oper):Nat→Nat→Prop where
  | one {i j:Nat}:aft ops i j = true→Reach ops i j
  | more {i k j:Nat}:aft ops i k = true→Reach ops k j→Reach ops i j
def qv4 (ms:List Nat) (m:Nat) (e:Edge):Nat:=bif Region.binds .any e then (m ||| 2 ^ e.on) ||| ms.getD e.on 0 else m
def qtb (ms:List Nat) (o:Oper):Nat:=o.after.toList.foldl (qv4 ms) 0
def masks:List Oper→List Nat→List Nat
  | [],ms=>ms
  | o :: l,ms=>masks l (ms ++ [qtb ms o])
def aftT (ms:List Nat) (i j:Nat):Bool:=(ms.getD i 0).testBit j
def qmy (ops:Array Oper) (i:Nat):Option Nat:=match ops[i]? with
  | some o=>o.dst
  | none=>none
def qm5 (ops:Array Oper) (i:Nat):List Nat:=match ops[i]? with
  | some o=>looks ops o
  | none=>[]
def hasD:Option Nat→List Nat→Bool
  | some d,l=>l.any (Nat.beq d)
  | none,_=>false
def qv9:Option Nat→Option Nat→Bool
  | some d,some e=>Nat.beq d e
  | _,_=>false
def qkk (D ms:List Nat) (ops:Array Oper) (r s:Rec):Bool :=
  !Nat.beq r.i s.i && !aft ops r.i s.i && (aftT ms s.i r.i || D.any (Nat.beq r.i) || (!hasD (qmy ops r.i) (qm5 ops s.i) && !hasD (qmy ops s.i) (qm5 ops r.i) && !qv9 (qmy ops r.i) (qmy ops s.i) && !r.mem
    && (!s.mem || r.J.all fun j=>s.J.any (Nat.beq j))))
def qn7 (D ms:List Nat) (ops:Array Oper):List Rec→Bool
  | []=>true
  | r :: l=>l.all (qkk D ms ops r) && qn7 D ms ops l
def qtl (ops:Array Oper) (r:Rec):Bool:=match ops[r.i]? with
  | some o=>o.after.all fun e=>!Region.binds .any e || (Nat.blt e.on ops.size && !Nat.beq e.on r.i)
  | none=>false
def qrt (D:List Nat) (ops:Array Oper) (rs:List Rec):Bool :=
  qn7 D (masks ops.toList []) ops rs.reverse && rs.all (qtl ops)
def qq4 (D:List Nat) (ops:Array Oper) (rs:List Rec):Bool :=
  qrt D ops rs && (List.range ops.size).all (fun i=>rs.any fun r=>Nat.beq r.i i)
abbrev qwd (ops:Array Oper) (rs:List Rec):Bool:=qq4 [] ops rs
theorem qpz {ms:List Nat} {i:Nat} {o:Oper} (ho:ops[i]? = some o) (hms:∀ k j,(ms.getD k 0).testBit j = true→Reach ops k j):∀ (l:List Edge) (m:Nat),(∀ e ∈ l,e ∈ o.after.toList)→(∀ j,m.testBit j = true→Reach ops i j)→∀ j,(l.foldl (qv4 ms) m).testBit j = true→Reach ops i j
  | [],_,_,hm,j,h=>hm j h
  | e :: l,m,hl,hm,j,h=>by
    refine qpz ho hms l (qv4 ms m e) (fun x hx=>hl x (List.mem_cons_of_mem _ hx)) (fun j hj=>?_) j h
    unfold qv4 at hj
    cases hb:Region.binds .any e with
    | false=>rw [hb] at hj;exact hm j hj
    | true =>
      rw [hb] at hj
      simp only [cond_true,Nat.testBit_or,Bool.or_eq_true] at hj
      have hd:aft ops i e.on = true:=by
        unfold aft
        rw [ho]
        exact Array.any_eq_true'.2 ⟨e,Array.mem_toList_iff.1 (hl e (List.mem_cons_self ..)),by simp [hb]⟩
      rcases hj with (hj | hj) | hj
      · exact hm j hj
      · have:e.on = j:=by
          rw [Nat.testBit_two_pow] at hj
          simpa using hj
        rw [← this];exact .one hd
      · exact .more hd (hms _ _ hj)
theorem qq0:∀ (l:List Oper) (ms:List Nat),(∀ k,l[k]? = ops[ms.length + k]?)→(∀ k j,(ms.getD k 0).testBit j = true→Reach ops k j)→∀ k j,((masks l ms).getD k 0).testBit j = true→Reach ops k j
  | [],ms,_,h,k,j,hk=>h k j hk
  | o :: l,ms,hl,h,k,j,hk=>by
    have ho:ops[ms.length]? = some o:=by simpa using (hl 0).symm
    refine qq0 l (ms ++ [qtb ms o]) (fun k=>?_) (fun k j hkj=>?_) k j hk
    · have:=hl (k + 1)
      simp only [List.getElem?_cons_succ] at this
      rw [this,List.length_append,List.length_singleton];congr 1;omega
    · rw [List.getD_eq_getElem?_getD,List.getElem?_append] at hkj
      split at hkj
      · rw [← List.getD_eq_getElem?_getD] at hkj;exact h k j hkj
      · by_cases hk0:k - ms.length = 0
        · rw [hk0] at hkj
          have:k = ms.length:=by omega
          subst this
          exact qpz ho h _ 0 (fun _ he=>he) (fun j hj=>by simp at hj) j (by
            have e:[qtb ms o][0]?.getD 0 = qtb ms o:=rfl
            rw [e] at hkj;exact hkj)
        · rw [List.getElem?_eq_none (by simp;omega)] at hkj
          simp at hkj
theorem qr8 {i j:Nat} (h:aftT (masks ops.toList []) i j = true):Reach ops i j :=
  qq0 ops.toList [] (by simp) (fun k j h=>by simp at h) i j h
theorem qnm {L:Nat→Prop} (hdc:∀ i j,L i→aft ops i j = true→L j) {i j:Nat} (h:Reach ops i j) (hi:L i):L j:=by
  induction h with
  | one h=>exact hdc _ _ hi h
  | more h _ ih=>exact ih (hdc _ _ hi h)
theorem reach_ready {L:Nat→Prop} (hdc:∀ i j,L i→aft ops i j = true→L j) {i j:Nat} (h:Reach ops i j) (hi:∀ k,aft ops i k = true→L k):L j:=by
  cases h with
  | one h=>exact hi _ h
  | more h h2=>exact qnm hdc h2 (hi _ h)
theorem qi8 {D ms:List Nat}:∀ {l a b c:List Rec} {r s:Rec},qn7 D ms ops l = true→l = a ++ r :: (b ++ s :: c)→qkk D ms ops r s = true
  | [],a,b,c,r,s,h,e=>by cases a <;> cases e
  | x :: l,[],b,c,r,s,h,e=>by
    cases e
    simp only [qn7,Bool.and_eq_true] at h
    exact List.all_eq_true.1 h.1 s (by simp)
  | x :: l,y :: a,b,c,r,s,h,e=>by
    cases e
    simp only [qn7,Bool.and_eq_true] at h
    exact qi8 h.2 rfl
/-! ### Folds -/
theorem app_nt (f:FR):(app σ f).nt = σ.nt:=by
  unfold app;cases f.r.mem <;> cases hd:f.dst <;> rfl
theorem qsa:∀ (l:List FR) (σ:St),(apps σ l).nt = σ.nt
  | [],_=>rfl
  | f :: l,σ=>(qsa l (app σ f)).trans (app_nt f)
theorem qqj (f:FR) (t:Nat):(app σ f).env t = if f.dst = some t then f.v else σ.env t:=by
  unfold app
  cases f.r.mem <;> cases hd:f.dst with
  | none=>simp [St.putO,St.set]
  | some d =>
    simp only [St.putO,St.put,St.set,cond_true,cond_false,Option.some.injEq]
    by_cases h:t = d
    · subst h;rw [upd_same,if_pos rfl]
    · rw [upd_ne _ _ h,if_neg (Ne.symm h)]
theorem qje (f:FR):(app σ f).heap = (if f.r.mem = true then f.H else σ.heap)∧(app σ f).next = if f.r.mem = true then f.n else σ.next:=by
  unfold app;cases f.r.mem <;> cases hd:f.dst <;> exact ⟨rfl,rfl⟩
theorem qmz (p:FR→Bool) (t:Nat):∀ (l:List FR) (σ σ':St),σ.env t = σ'.env t→(∀ f ∈ l,f.dst = some t→p f = true)→(apps σ (l.filter p)).env t = (apps σ' l).env t
  | [],σ,σ',h,_=>h
  | f :: l,σ,σ',h,hp=>by
    have hl:=fun f hf=>hp f (List.mem_cons_of_mem _ hf)
    by_cases hpf:p f = true
    · rw [List.filter_cons_of_pos hpf]
      exact qmz p t l (app σ f) (app σ' f) (by rw [qqj,qqj,h]) hl
    · rw [List.filter_cons_of_neg hpf]
      refine qmz p t l σ (app σ' f) ?_ hl
      rw [qqj,if_neg (fun e=>hpf (hp f (List.mem_cons_self ..) e))];exact h
theorem qm3 (p:FR→Bool):∀ (l:List FR) (σ σ':St),σ.heap = σ'.heap→σ.next = σ'.next→(∀ f ∈ l,f.r.mem = true→p f = true)→(apps σ (l.filter p)).heap = (apps σ' l).heap∧(apps σ (l.filter p)).next = (apps σ' l).next
  | [],σ,σ',h,k,_=>⟨h,k⟩
  | f :: l,σ,σ',h,k,hp=>by
    have hl:=fun f hf=>hp f (List.mem_cons_of_mem _ hf)
    by_cases hpf:p f = true
    · rw [List.filter_cons_of_pos hpf]
      exact qm3 p l (app σ f) (app σ' f) (by rw [(qje f).1,(qje f).1,h]) (by rw [(qje f).2,(qje f).2,k]) hl
    · rw [List.filter_cons_of_neg hpf]
      have hm:¬ f.r.mem = true:=fun e=>hpf (hp f (List.mem_cons_self ..) e)
      exact qm3 p l σ (app σ' f) (by rw [(qje f).1,if_neg hm];exact h) (by rw [(qje f).2,if_neg hm];exact k) hl
theorem qu9 (t:Nat):∀ (l:List FR) (σ:St),(∀ f ∈ l,f.dst ≠ some t)→(apps σ l).env t = σ.env t
  | [],_,_=>rfl
  | f :: l,σ,h=>by
    show (apps (app σ f) l).env t = _
    rw [qu9 t l _ fun g hg=>h g (List.mem_cons_of_mem _ hg),qqj,if_neg (h f (List.mem_cons_self ..))]
theorem put_comm {d e:Nat} {x y:V} (h:d ≠ e):(σ.put d x).put e y = (σ.put e y).put d x:=by
  unfold St.put
  congr 1
  funext t
  show upd (upd σ.env d x) e y t = upd (upd σ.env e y) d x t
  by_cases h1:t = d
  · subst h1;rw [upd_ne _ _ h,upd_same,upd_same]
  · by_cases h2:t = e
    · subst h2;rw [upd_same,upd_ne _ _ (Ne.symm h),upd_same]
    · rw [upd_ne _ _ h2,upd_ne _ _ h1,upd_ne _ _ h1,upd_ne _ _ h2]
theorem app_comm {f g:FR} (hf:f.r.mem = false) (hd:∀ d,f.dst = some d→g.dst ≠ some d):app (app σ f) g = app (app σ g) f:=by
  unfold app
  rw [hf]
  simp only [cond_false]
  cases hfd:f.dst with
  | none=>cases g.r.mem <;> rfl
  | some d =>
    cases hgd:g.dst with
    | none=>cases g.r.mem <;> rfl
    | some e =>
      have hne:d ≠ e:=fun h=>by subst h;exact hd d hfd hgd
      cases g.r.mem
      · simp only [St.putO,cond_false];exact put_comm hne
      · simp only [St.putO,cond_true];exact put_comm (σ:=σ.set g.H g.n) hne
theorem qra {f:FR} (hf:f.r.mem = false):∀ (l:List FR) (σ:St),(∀ g ∈ l,∀ d,f.dst = some d→g.dst ≠ some d)→apps (app σ f) l = app (apps σ l) f
  | [],_,_=>rfl
  | g :: l,σ,h=>by
    show apps (app (app σ f) g) l = app (apps (app σ g) l) f
    rw [app_comm hf (h g (List.mem_cons_self ..)),qra hf l _ fun k hk=>h k (List.mem_cons_of_mem _ hk)]
theorem qpu {d:Nat} {l:List Nat} {x:Option Nat} (h:hasD x l = false) (hd:d ∈ l):x ≠ some d:=by
  rintro rfl
  simp only [hasD,List.any_eq_false] at h
  exact h d hd (by simp)
theorem sameD_false {x y:Option Nat} (h:qv9 x y = false) {d:Nat} (hx:x = some d):y ≠ some d:=by
  rintro rfl
  subst hx
  simp [qv9] at h
def atL (σ0:St) (fs:List FR) (L:Array Bool):St:=apps σ0 (fs.filter fun f=>L.getD f.r.i false)
theorem qm8 {i j:Nat} {o:Oper} (ho:ops[i]? = some o):aft ops i j = true ↔ ∃ e ∈ o.after,Region.binds .any e = true∧e.on = j:=by
  unfold aft
  rw [ho]
  simp only [Array.any_eq_true']
  constructor
  · rintro ⟨e,he,h⟩
    simp only [Bool.and_eq_true] at h
    exact ⟨e,he,h.1,by simpa using h.2⟩
  · rintro ⟨e,he,h1,h2⟩
    exact ⟨e,he,by simp [h1,h2]⟩
theorem qk5 (L:Array Bool) (i j:Nat) (h:i < L.size):(L.setIfInBounds i true).getD j false = if j = i then true else L.getD j false:=by
  rw [Array.getD_eq_getD_getElem?,Array.getElem?_setIfInBounds]
  by_cases hj:i = j
  · subst hj;simp [h]
  · rw [if_neg hj,if_neg (Ne.symm hj),← Array.getD_eq_getD_getElem?]
theorem atL_set {fs a b:List FR} {s:FR} {L:Array Bool} (hfs:fs = a ++ s :: b) (hs:s.r.i < L.size) (hun:L.getD s.r.i false = false) (hne:∀ f ∈ a ++ b,f.r.i ≠ s.r.i)
    (hro:(∃ f ∈ b,L.getD f.r.i false = true)→s.r.mem = false) (hd:∀ f ∈ b,L.getD f.r.i false = true→∀ d,s.dst = some d→f.dst ≠ some d) :
    atL σ0 fs (L.setIfInBounds s.r.i true) = app (atL σ0 fs L) s:=by
  have hfil:∀ l:List FR,(∀ f ∈ l,f.r.i ≠ s.r.i)→(l.filter fun f=>(L.setIfInBounds s.r.i true).getD f.r.i false) = l.filter fun f=>L.getD f.r.i false:=fun l hl =>
    List.filter_congr fun f hf=>by rw [qk5 _ _ _ hs,if_neg (hl f hf)]
  unfold atL
  rw [hfs,List.filter_append,List.filter_append,List.filter_cons_of_pos (by rw [qk5 _ _ _ hs,if_pos rfl]),List.filter_cons_of_neg (by simp [hun]),
    hfil a (fun f hf=>hne f (List.mem_append_left _ hf)),hfil b (fun f hf=>hne f (List.mem_append_right _ hf))]
  unfold apps
  rw [List.foldl_append,List.foldl_append,List.foldl_cons]
  by_cases hb:∃ f ∈ b,L.getD f.r.i false = true
  · exact qra (hro hb) _ _ fun g hg d hsd=>hd g (List.mem_filter.1 hg).1 (List.mem_filter.1 hg).2 d hsd
  · have:(b.filter fun f=>L.getD f.r.i false) = []:=List.filter_eq_nil_iff.2 fun f hf h=>hb ⟨f,hf,h⟩
    rw [this];rfl
theorem heap_kept {fs a:List FR} {s:FR} {J:List Nat} (hro:s.r.mem = false) (hfact:∀ x f y,fs = x ++ f :: y→Fact P ops (apps σ0 x) f) (p:FR→Bool) :
    ∀ (b:List FR),(∃ y,fs = a ++ s :: (b ++ y)) →
      (∀ x f y,b = x ++ f :: y→f.r.mem = true→p f = true→(∀ j ∈ J,j ∈ f.r.J)∧∀ g ∈ x,g.r.mem = true→p g = true)→(∀ f ∈ b,True) →
      ∀ (σ:St),(∀ j ∈ J,σ.heap j = (apps σ0 a).heap j)→∀ j ∈ J,(apps σ (b.filter p)).heap j = (apps σ0 a).heap j:=by
  intro b hy hb _ σ hσ
  -- from the right
  have key:∀ (n:Nat) (b:List FR),b.length = n→(∃ y,fs = a ++ s :: (b ++ y)) →
      (∀ x f y,b = x ++ f :: y→f.r.mem = true→p f = true→(∀ j ∈ J,j ∈ f.r.J)∧∀ g ∈ x,g.r.mem = true→p g = true) →
      (∀ j ∈ J,(apps σ (b.filter p)).heap j = (apps σ0 a).heap j)∧((∀ g ∈ b,g.r.mem = true→p g = true)→∀ j ∈ J,(apps σ0 (a ++ s :: b)).heap j = (apps σ0 a).heap j):=by
    intro n
    induction n with
    | zero =>
      intro b hn _ _
      obtain rfl:=List.length_eq_zero_iff.1 hn
      refine ⟨hσ,fun _ j _=>?_⟩
      rw [apps,List.foldl_append]
      show (app (apps σ0 a) s).heap j = _
      rw [(qje s).1,if_neg (by simp [hro])]
    | succ n ih0 =>
      intro b0 hn ⟨y,hy⟩ hb
      obtain ⟨b,f,rfl⟩:∃ b f,b0 = b ++ [f]:=by
        rcases List.eq_nil_or_concat b0 with rfl | ⟨b,f,rfl⟩
        · cases hn
        · exact ⟨b,f,by simp⟩
      have ih:=ih0 b (by simpa using hn)
      have hb':∀ x g z,b = x ++ g :: z→g.r.mem = true→p g = true→(∀ j ∈ J,j ∈ g.r.J)∧∀ k ∈ x,k.r.mem = true→p k = true:=fun x g z e=>hb x g (z ++ [f]) (by rw [e];simp)
      obtain ⟨i1,i2⟩:=ih ⟨f :: y,by rw [hy];simp⟩ hb'
      have hmem:f.r.mem = true→p f = true→∀ j ∈ J,f.H j = (apps σ0 a).heap j:=by
        intro hm hp j hj
        obtain ⟨h1,h2⟩:=hb b f [] rfl hm hp
        obtain ⟨o,_,_,hff⟩:=hfact (a ++ s :: b) f y (by rw [hy];simp)
        rcases hff with ⟨h3,_⟩ | ⟨_,_,h3⟩
        · rw [h3] at hm;cases hm
        · rw [h3 j (h1 j hj)];exact i2 h2 j hj
      refine ⟨fun j hj=>?_,fun hall j hj=>?_⟩
      · rw [List.filter_append,apps,List.foldl_append]
        by_cases hp:p f = true
        · rw [List.filter_cons_of_pos hp]
          show (app (apps σ (b.filter p)) f).heap j = _
          rw [(qje f).1]
          by_cases hm:f.r.mem = true
          · rw [if_pos hm];exact hmem hm hp j hj
          · rw [if_neg hm];exact i1 j hj
        · rw [List.filter_cons_of_neg hp]
          exact i1 j hj
      · have e:a ++ s :: (b ++ [f]) = (a ++ s :: b) ++ [f]:=by simp
        rw [e,apps,List.foldl_append]
        show (app (apps σ0 (a ++ s :: b)) f).heap j = _
        rw [(qje f).1]
        by_cases hm:f.r.mem = true
        · rw [if_pos hm];exact hmem hm (hall f (by simp) hm) j hj
        · rw [if_neg hm];exact i2 (fun g hg=>hall g (List.mem_append_left _ hg)) j hj
  exact (key _ b rfl hy hb).1
end
end Go.Proofs.Ytdnkjocenbepaaa.AWN

namespace Go.Proofs.Ytdnkjocenbepaaa.AWN
open Go
section
variable {P:Program} {τ:Tab} {σ σ0:St} {ops:Array Oper} {o:Oper} {w0:World} {A:Args} {okA:Nat→Prop} {Q:Exit→St→Prop}
theorem qpq {α:Type} (p q:α→Bool):∀ (l:List α),(∀ x ∈ l,q x = true→p x = true)→(∃ x ∈ l,p x = true∧q x = false)→(l.filter q).length < (l.filter p).length
  | [],_,h=>by obtain ⟨x,hx,_⟩:=h;cases hx
  | y :: l,hq,h=>by
    have hle:∀ l:List α,(∀ x ∈ l,q x = true→p x = true)→(l.filter q).length ≤ (l.filter p).length:=by
      intro l
      induction l with
      | nil=>intro _;exact Nat.le_refl _
      | cons z l ih =>
        intro hz
        have:=ih fun x hx=>hz x (List.mem_cons_of_mem _ hx)
        cases hqz:q z with
        | true=>rw [List.filter_cons_of_pos hqz,List.filter_cons_of_pos (hz z (List.mem_cons_self ..) hqz)];simpa using this
        | false =>
          rw [List.filter_cons_of_neg (by simp [hqz])]
          cases hpz:p z with
          | true=>rw [List.filter_cons_of_pos hpz];simp;omega
          | false=>rw [List.filter_cons_of_neg (by simp [hpz])];exact this
    have hql:=fun x hx=>hq x (List.mem_cons_of_mem _ hx)
    obtain ⟨x,hx,h1,h2⟩:=h
    rcases List.mem_cons.1 hx with rfl | hx
    · rw [List.filter_cons_of_pos h1,List.filter_cons_of_neg (by simp [h2])]
      have:=hle l hql
      simp;omega
    · have:=qpq p q l hql ⟨x,hx,h1,h2⟩
      cases hqz:q y with
      | true=>rw [List.filter_cons_of_pos hqz,List.filter_cons_of_pos (hq y (List.mem_cons_self ..) hqz)];simpa using this
      | false =>
        rw [List.filter_cons_of_neg (by simp [hqz])]
        cases hpz:p y with
        | true=>rw [List.filter_cons_of_pos hpz];simp;omega
        | false=>rw [List.filter_cons_of_neg (by simp [hpz])];exact this
structure Wk (P:Program) (ops:Array Oper) (σ0:St) (D:List Nat) (fs:List FR):Prop where
  fact:∀ a f b,fs = a ++ f :: b→Fact P ops (apps σ0 a) f
  pairs:qn7 D (masks ops.toList []) ops (fs.map (·.r)) = true
  self:∀ s ∈ fs,qtl ops s.r = true
def Down (ops:Array Oper) (L:Array Bool):Prop:=L.size = ops.size∧∀ i j,L.getD i false = true→aft ops i j = true→L.getD j false = true
def Has (D:List Nat) (L:Array Bool):Prop:=∀ d ∈ D,L.getD d false = true
def Within (fs:List FR) (L:Array Bool):Prop:=∀ i,L.getD i false = true→∃ s ∈ fs,s.r.i = i
def qtp (ops:Array Oper) (L:Array Bool):Nat:=((List.range ops.size).filter fun i=>!L.getD i false).length
theorem qjl {D:List Nat} {rs:List Rec} {fs:List FR} (hmap:fs.map (·.r) = rs.reverse) (hfact:∀ a f b,fs = a ++ f :: b→Fact P ops (apps σ0 a) f) (hok:qrt D ops rs = true):Wk P ops σ0 D fs:=by
  simp only [qrt,Bool.and_eq_true] at hok
  refine ⟨hfact,by rw [hmap];exact hok.1,fun s hs=>List.all_eq_true.1 hok.2 _ ?_⟩
  have:s.r ∈ fs.map (·.r):=List.mem_map.2 ⟨s,hs,rfl⟩
  rw [hmap] at this
  simpa using this
theorem qnb {L:Array Bool} {i:Nat} (hL:L.size = ops.size) (hi:i < ops.size) (hun:L.getD i false = false) {fuel:Nat} (h:qtp ops L ≤ fuel + 1):qtp ops (L.setIfInBounds i true) ≤ fuel:=by
  refine Nat.le_of_lt_succ (Nat.lt_of_lt_of_le (qpq _ _ (List.range ops.size) (fun f hf h=>?_) ⟨i,List.mem_range.2 hi,by simp [hun],by rw [qk5 _ _ _ (by omega),if_pos rfl];rfl⟩) h)
  rw [qk5 _ _ _ (by omega)] at h
  by_cases hfi:f = i
  · rw [if_pos hfi] at h;simp at h
  · rw [if_neg hfi] at h;exact h
theorem qql {L:Array Bool} {i:Nat} (hL:Down ops L) (hi:i < ops.size) (hdep:∀ j,aft ops i j = true→L.getD j false = true):Down ops (L.setIfInBounds i true):=by
  refine ⟨by rw [Array.size_setIfInBounds];exact hL.1,fun k j hk haf=>?_⟩
  have hs:=hL.1
  rw [qk5 _ _ _ (by omega)] at hk ⊢
  by_cases hj:j = i
  · rw [if_pos hj]
  · rw [if_neg hj]
    by_cases his:k = i
    · subst his;exact hdep j haf
    · rw [if_neg his] at hk;exact hL.2 k j hk haf
theorem qsh {D:List Nat} {L:Array Bool} {i:Nat} (hi:i < L.size) (h:Has D L):Has D (L.setIfInBounds i true):=fun d hd=>by
  rw [qk5 _ _ _ hi]
  split
  · rfl
  · exact h d hd
theorem qkn {L:Array Bool} {i:Nat} (hL:Down ops L) (hi:i ∈ Region.ready .any ops L):i < ops.size∧L.getD i false = false∧∀ j,aft ops i j = true→L.getD j false = true:=by
  obtain ⟨h0,o,ho,hafter⟩:=mem_ready.1 hi
  have hlt:=(Array.getElem?_eq_some_iff.1 ho).1
  have hs:=hL.1
  refine ⟨hlt,?_,fun j hj=>?_⟩
  · rw [Array.getD_eq_getD_getElem?,Array.getElem?_eq_getElem (by omega)] at h0 ⊢
    exact h0
  · obtain ⟨ed,h1,h2,rfl⟩:=(qm8 ho).1 hj
    exact hafter ed h1 h2
theorem ready_of {L:Array Bool} {i:Nat} (hL:Down ops L) (hi:i < ops.size) (hun:L.getD i false = false) (hdep:∀ j,aft ops i j = true→L.getD j false = true):i ∈ Region.ready .any ops L:=by
  have hs:=hL.1
  refine mem_ready.2 ⟨?_,ops[i],Array.getElem?_eq_getElem hi,fun ed hed hbd=>?_⟩
  · rw [Array.getD_eq_getD_getElem?,Array.getElem?_eq_getElem (by omega)] at hun ⊢
    exact hun
  · exact hdep _ ((qm8 (Array.getElem?_eq_getElem hi)).2 ⟨ed,hed,hbd,rfl⟩)
theorem qqi {D:List Nat} {fs:List FR} (hw:Wk P ops σ0 D fs) {fuel:Nat} {L:Array Bool} {a:Act} {W:World} {hb:Handle} (hL:Down ops L) (hD:Has D L) (hs:Sim w0 A okA hb (atL σ0 fs L) a W) {s:FR} (hsm:s ∈ fs) (hi:s.r.i ∈ Region.ready .any ops L)
    (hK:∀ a' W' hb',Sim w0 A okA hb' (atL σ0 fs (L.setIfInBounds s.r.i true)) a' W'→wpAny P .any ops (lift w0 A okA Q) fuel (L.setIfInBounds s.r.i true) a' W') :
    wpOp P ops (lift w0 A okA Q) s.r.i (wpAny P .any ops (lift w0 A okA Q) fuel (L.setIfInBounds s.r.i true)) a W:=by
  have hpairs:=hw.pairs
  have pairA:∀ {a b:List FR} {s r:FR},fs = a ++ s :: b→r ∈ a→qkk D (masks ops.toList []) ops r.r s.r = true:=by
    intro a b s r e hr
    obtain ⟨x,y,rfl⟩:=List.append_of_mem hr
    refine qi8 (a:=x.map (·.r)) (b:=y.map (·.r)) (c:=b.map (·.r)) hpairs ?_
    rw [e];simp
  have pairB:∀ {a b:List FR} {s r:FR},fs = a ++ s :: b→r ∈ b→qkk D (masks ops.toList []) ops s.r r.r = true:=by
    intro a b s r e hr
    obtain ⟨x,y,rfl⟩:=List.append_of_mem hr
    refine qi8 (a:=a.map (·.r)) (b:=x.map (·.r)) (c:=y.map (·.r)) hpairs ?_
    rw [e];simp
  have hfact:=hw.fact
  have opS:∀ s ∈ fs,∃ o,ops[s.r.i]? = some o∧s.dst = o.dst:=by
    intro s hs
    obtain ⟨x,y,e⟩:=List.append_of_mem hs
    obtain ⟨o,h1,h2,_⟩:=hfact x s y e
    exact ⟨o,h1,h2⟩
  have dstS:∀ s ∈ fs,qmy ops s.r.i = s.dst:=by
    intro s hs
    obtain ⟨o,h1,h2⟩:=opS s hs
    unfold qmy;rw [h1,h2]
  have ltS:∀ s ∈ fs,s.r.i < ops.size:=by
    intro s hs
    obtain ⟨o,h1,_⟩:=opS s hs
    exact (Array.getElem?_eq_some_iff.1 h1).1
  obtain ⟨hlt,hun,hdep⟩:=qkn hL hi
  have hdc:=hL.2
  have hDm:∀ {i:Nat},D.any (Nat.beq i) = true→L.getD i false = true:=fun {i} h=>by
    obtain ⟨d,hd,e⟩:=List.any_eq_true.1 h
    rw [show i = d by simpa using e];exact hD d hd
  obtain ⟨x,y,e⟩:=List.append_of_mem hsm
  obtain ⟨o,ho',hdst,hf⟩:=hfact x s y e
  have ho:ops[s.r.i]? = some o:=ho'
  have hdepT:∀ j,aftT (masks ops.toList []) s.r.i j = true→L.getD j false = true:=fun j hj=>reach_ready (L:=fun k=>L.getD k false = true) (fun i j h1 h2=>hdc i j h1 h2) (qr8 hj) hdep
  have hdcT:∀ i j,L.getD i false = true→aftT (masks ops.toList []) i j = true→L.getD j false = true:=fun i j hi hj=>qnm (L:=fun k=>L.getD k false = true) (fun i j h1 h2=>hdc i j h1 h2) (qr8 hj) hi
  -- those behind it that have come up do not wait for it
  have hB:∀ g ∈ y,L.getD g.r.i false = true→(hasD (qmy ops s.r.i) (qm5 ops g.r.i) = false∧hasD (qmy ops g.r.i) (qm5 ops s.r.i) = false∧qv9 (qmy ops s.r.i) (qmy ops g.r.i) = false∧s.r.mem = false∧(g.r.mem = false ∨ ∀ j ∈ s.r.J,j ∈ g.r.J)):=by
    intro g hg hl
    have hp:=pairB e hg
    have hna:aftT (masks ops.toList []) g.r.i s.r.i = false:=by
      cases h:aftT (masks ops.toList []) g.r.i s.r.i with
      | false=>rfl
      | true=>rw [hdcT _ _ hl h] at hun;cases hun
    have hnd:D.any (Nat.beq s.r.i) = false:=by
      cases h:D.any (Nat.beq s.r.i) with
      | false=>rfl
      | true=>rw [hDm h] at hun;cases hun
    simp only [qkk,hna,hnd,Bool.false_or,Bool.and_eq_true,Bool.not_eq_true',Bool.or_eq_true] at hp
    obtain ⟨_,⟨⟨⟨p1,p2⟩,p3⟩,p4⟩,p5⟩:=hp
    refine ⟨p1,p2,p3,p4,p5.imp id fun h j hj=>?_⟩
    have:=List.all_eq_true.1 h j hj
    obtain ⟨k,hk,e⟩:=List.any_eq_true.1 this
    rw [show j = k by simpa using e];exact hk
  have hA:∀ g ∈ x,L.getD g.r.i false = true ∨ (hasD (qmy ops g.r.i) (qm5 ops s.r.i) = false∧g.r.mem = false):=by
    intro g hg
    have hp:=pairA e hg
    cases h:aftT (masks ops.toList []) s.r.i g.r.i with
    | true=>exact .inl (hdepT _ h)
    | false =>
      simp only [qkk,h,Bool.false_or,Bool.and_eq_true,Bool.not_eq_true',Bool.or_eq_true] at hp
      rcases hp.2 with hd | hp
      · exact .inl (hDm hd)
      · exact .inr ⟨hp.1.1.1.1,hp.1.2⟩
  have hgm:∀ g ∈ x ++ y,g ∈ fs:=fun g hg=>by
    rw [e]
    rcases List.mem_append.1 hg with hg | hg <;> simp [hg]
  have hne:∀ g ∈ x ++ y,g.r.i ≠ s.r.i:=by
    intro g hg
    rcases List.mem_append.1 hg with hg | hg
    · have hp:=pairA e hg
      simp only [qkk,Bool.and_eq_true,Bool.not_eq_true'] at hp
      have:=hp.1.1
      intro h;rw [h] at this;simp at this
    · have hp:=pairB e hg
      simp only [qkk,Bool.and_eq_true,Bool.not_eq_true'] at hp
      have:=hp.1.1
      intro h;rw [h] at this;simp at this
  have hX:atL σ0 fs L = apps (apps σ0 (x.filter fun f=>L.getD f.r.i false)) (y.filter fun f=>L.getD f.r.i false):=by
    unfold atL apps
    rw [e,List.filter_append,List.filter_cons_of_neg (by simp [hun]),List.foldl_append]
  have hlk:qm5 ops s.r.i = looks ops o:=by unfold qm5;rw [ho]
  have henv:∀ t ∈ looks ops o,(atL σ0 fs L).env t = (apps σ0 x).env t:=by
    intro t ht
    rw [← hlk] at ht
    rw [hX,qu9 t _ _ fun g hg=>by
      obtain ⟨hg1,hg2⟩:=List.mem_filter.1 hg
      have:=(hB g hg1 hg2).2.1
      rw [dstS g (hgm g (List.mem_append_right _ hg1))] at this
      exact qpu this ht]
    exact qmz _ t x σ0 σ0 rfl fun g hg hgd=>by
      rcases hA g hg with h | ⟨h,_⟩
      · exact h
      · rw [dstS g (hgm g (List.mem_append_left _ hg))] at h
        exact absurd hgd (qpu h ht)
  have hnt:(atL σ0 fs L).nt = (apps σ0 x).nt:=by unfold atL;rw [qsa,qsa]
  have hheapA:=qm3 (fun f:FR=>L.getD f.r.i false) x σ0 σ0 rfl rfl fun g hg hm=>by
    rcases hA g hg with h | ⟨_,h⟩
    · exact h
    · rw [h] at hm;cases hm
  -- the step
  have hone:One P ops o (atL σ0 fs L) (· = app (atL σ0 fs L) s):=by
    rcases hf with ⟨hm,hf⟩ | ⟨hm,hf,hk⟩
    · have h1:app (atL σ0 fs L) s = (atL σ0 fs L).putO o.dst s.v:=by unfold app;rw [hm,hdst];rfl
      rw [h1]
      refine hf _ hnt henv fun j hj=>?_
      rw [hX]
      refine heap_kept hm hfact (fun f:FR=>L.getD f.r.i false) y ⟨[],by rw [e];simp⟩ (fun x' f y' ey hfm hfl=>⟨fun j hj=>?_,fun g hg hgm'=>?_⟩) (fun _ _=>trivial) _ (fun j hj=>by rw [hheapA.1]) j hj
      · rcases (hB f (by rw [ey];simp) hfl).2.2.2.2 with h | h
        · rw [h] at hfm;cases hfm
        · exact h j hj
      · -- an earlier change of memory: waited for
        have e2:fs = (x ++ s :: x') ++ f :: y':=by rw [e,ey];simp
        have hp:=pairA e2 (r:=g) (by simp [hg])
        cases h:aftT (masks ops.toList []) f.r.i g.r.i with
        | true=>exact hdcT _ _ hfl h
        | false =>
          simp only [qkk,h,Bool.false_or,Bool.and_eq_true,Bool.not_eq_true',Bool.or_eq_true] at hp
          rcases hp.2 with hd | hp
          · exact hDm hd
          · rw [hp.1.2] at hgm';cases hgm'
    · have hnil:(y.filter fun f=>L.getD f.r.i false) = []:=List.filter_eq_nil_iff.2 fun g hg h=>by
        have:=(hB g hg h).2.2.2.1
        rw [hm] at this;cases this
      have h1:app (atL σ0 fs L) s = ((atL σ0 fs L).set s.H s.n).putO o.dst s.v:=by unfold app;rw [hm,hdst];rfl
      rw [h1]
      rw [hnil] at hX
      refine hf _ hnt henv ?_ ?_
      · rw [hX];exact hheapA.1
      · rw [hX];exact hheapA.2
  have hset:=atL_set (σ0:=σ0) e (by rw [hL.1];exact hlt) hun hne (fun ⟨g,hg,hl⟩=>(hB g hg hl).2.2.2.1) (fun g hg hl d hd=>by
    have:=(hB g hg hl).2.2.1
    rw [dstS s hsm,dstS g (hgm g (List.mem_append_right _ hg))] at this
    exact sameD_false this hd)
  have:=hone w0 A okA hb a W hs (lift w0 A okA Q) (wpAny P .any ops (lift w0 A okA Q) fuel (L.setIfInBounds s.r.i true))
    (fun σ' hb' a' W' hσ' hs'=>hK a' W' hb' (by rw [hset,← hσ'];exact hs'))
  unfold wpOp
  simp only [ho]
  split
  · rename_i hw;rw [if_pos hw] at this;exact .inl this
  · rename_i hw;rw [if_neg hw] at this;exact this
theorem qve {D:List Nat} {fs:List FR} (hw:Wk P ops σ0 D fs) {L:Array Bool} (hL:Down ops L) (hD:Has D L) (hcl:∀ s ∈ fs,∀ j,aft ops s.r.i j = true→∃ r ∈ fs,r.r.i = j) (hr:Region.ready .any ops L = []):∀ s ∈ fs,L.getD s.r.i false = true:=by
  have hpairs:=hw.pairs
  have pairA:∀ {a b:List FR} {s r:FR},fs = a ++ s :: b→r ∈ a→qkk D (masks ops.toList []) ops r.r s.r = true:=by
    intro a b s r e hr
    obtain ⟨x,y,rfl⟩:=List.append_of_mem hr
    refine qi8 (a:=x.map (·.r)) (b:=y.map (·.r)) (c:=b.map (·.r)) hpairs ?_
    rw [e];simp
  have pairB:∀ {a b:List FR} {s r:FR},fs = a ++ s :: b→r ∈ b→qkk D (masks ops.toList []) ops s.r r.r = true:=by
    intro a b s r e hr
    obtain ⟨x,y,rfl⟩:=List.append_of_mem hr
    refine qi8 (a:=a.map (·.r)) (b:=x.map (·.r)) (c:=y.map (·.r)) hpairs ?_
    rw [e];simp
  have hfact:=hw.fact
  have selfS:=hw.self
  have opS:∀ s ∈ fs,∃ o,ops[s.r.i]? = some o∧s.dst = o.dst:=by
    intro s hs
    obtain ⟨x,y,e⟩:=List.append_of_mem hs
    obtain ⟨o,h1,h2,_⟩:=hfact x s y e
    exact ⟨o,h1,h2⟩
  have dstS:∀ s ∈ fs,qmy ops s.r.i = s.dst:=by
    intro s hs
    obtain ⟨o,h1,h2⟩:=opS s hs
    unfold qmy;rw [h1,h2]
  have ltS:∀ s ∈ fs,s.r.i < ops.size:=by
    intro s hs
    obtain ⟨o,h1,_⟩:=opS s hs
    exact (Array.getElem?_eq_some_iff.1 h1).1
  -- the first that has not
  have key:∀ (n:Nat) (a b:List FR),a.length = n→fs = a ++ b→(∀ s ∈ a,L.getD s.r.i false = true)→∀ s ∈ fs,L.getD s.r.i false = true:=by
    intro n a b
    induction b generalizing a n with
    | nil=>intro _ e h s hs;rw [e] at hs;simp at hs;exact h s hs
    | cons s b ih =>
      intro hn e h
      have hsm:s ∈ fs:=by rw [e];simp
      have hls:L.getD s.r.i false = true:=by
        cases hc:L.getD s.r.i false with
        | true=>rfl
        | false =>
          exfalso
          obtain ⟨o,ho,hd⟩:=opS s hsm
          have hlt:=ltS s hsm
          have hm:s.r.i ∈ Region.ready .any ops L:=by
            refine mem_ready.2 ⟨?_,o,ho,fun ed hed hbd=>?_⟩
            · rw [Array.getD_eq_getD_getElem?,Array.getElem?_eq_getElem (by rw [hL.1];exact hlt)] at hc ⊢
              exact hc
            · have hso:=selfS s hsm
              unfold qtl at hso
              rw [ho] at hso
              simp only [Array.all_eq_true_iff_forall_mem] at hso
              have:=hso ed hed
              simp only [hbd,Bool.not_true,Bool.false_or,Bool.and_eq_true] at this
              have hon:ed.on < ops.size:=by simpa [Nat.blt_eq] using this.1
              have hne:ed.on ≠ s.r.i:=fun h=>by have h2:=this.2;rw [h] at h2;simp at h2
              have haf:aft ops s.r.i ed.on = true:=(qm8 ho).2 ⟨ed,hed,hbd,rfl⟩
              obtain ⟨r,hrm,hri⟩:=hcl s hsm _ haf
              rw [e] at hrm
              rcases List.mem_append.1 hrm with hra | hrb
              · rw [← hri];exact h r hra
              · rcases List.mem_cons.1 hrb with rfl | hrb
                · exact absurd hri.symm hne
                · have:=pairB e hrb
                  simp only [qkk,Bool.and_eq_true,Bool.not_eq_true'] at this
                  rw [hri] at this
                  rw [this.1.2] at haf;cases haf
          rw [hr] at hm;cases hm
      exact ih _ (a ++ [s]) rfl (by rw [e];simp) (fun x hx=>by
        rcases List.mem_append.1 hx with hx | hx
        · exact h x hx
        · simp at hx;subst hx;exact hls)
  exact key 0 [] fs rfl rfl (fun s hs=>by cases hs)
def Cont (P:Program) (ops:Array Oper) (σ0:St) (Q:Exit→St→Prop) (D:List Nat) (fs:List FR):Prop :=
  ∀ (w0:World) (A:Args) (okA:Nat→Prop) (fuel:Nat) (L:Array Bool) (a:Act) (W:World) (hb:Handle),Down ops L→Has D L→Within fs L→Sim w0 A okA hb (atL σ0 fs L) a W→qtp ops L ≤ fuel→wpAny P .any ops (lift w0 A okA Q) fuel L a W
def Bran (P:Program) (ops:Array Oper) (σ0:St) (Q:Exit→St→Prop) (D:List Nat) (fs:List FR) (m:Nat):Prop :=
  ∀ (w0:World) (A:Args) (okA:Nat→Prop) (fuel:Nat) (L:Array Bool) (a:Act) (W:World) (hb:Handle),Down ops L→Has D L→Within fs L→m ∈ Region.ready .any ops L→Sim w0 A okA hb (atL σ0 fs L) a W→qtp ops L ≤ fuel + 1 →
    wpOp P ops (lift w0 A okA Q) m (wpAny P .any ops (lift w0 A okA Q) fuel (L.setIfInBounds m true)) a W
theorem qnc {fs:List FR} {L:Array Bool} {i:Nat} (hi:i < L.size) (h:Within fs L) (hs:∃ s ∈ fs,s.r.i = i):Within fs (L.setIfInBounds i true):=fun j hj=>by
  rw [qk5 _ _ _ hi] at hj
  by_cases hji:j = i
  · subst hji;exact hs
  · rw [if_neg hji] at hj;exact h j hj
theorem cont_leaf {D:List Nat} {fs:List FR} (hw:Wk P ops σ0 D fs) (hall:∀ i,i < ops.size→∃ s ∈ fs,s.r.i = i) (hQ:Q .normal (apps σ0 fs)):Cont P ops σ0 Q D fs:=by
  intro w0 A okA fuel
  have hcl:∀ s ∈ fs,∀ j,aft ops s.r.i j = true→∃ r ∈ fs,r.r.i = j:=by
    intro s hs j hj
    have hso:=hw.self s hs
    unfold qtl at hso
    obtain ⟨x,y,e⟩:=List.append_of_mem hs
    obtain ⟨o,ho,_⟩:=hw.fact x s y e
    rw [ho] at hso
    simp only [Array.all_eq_true_iff_forall_mem] at hso
    obtain ⟨ed,h1,h2,rfl⟩:=(qm8 ho).1 hj
    have:=hso ed h1
    simp only [h2,Bool.not_true,Bool.false_or,Bool.and_eq_true] at this
    exact hall _ (by simpa [Nat.blt_eq] using this.1)
  have fin:∀ L:Array Bool,(∀ s ∈ fs,L.getD s.r.i false = true)→atL σ0 fs L = apps σ0 fs:=by
    intro L h
    unfold atL
    rw [List.filter_eq_self.2 h]
  induction fuel with
  | zero =>
    intro L a W hb hL hD hin hs hlen
    have hz:∀ i,i < ops.size→L.getD i false = true:=by
      intro i hi
      have h0:=List.length_eq_zero_iff.1 (Nat.le_zero.1 hlen)
      have:=List.filter_eq_nil_iff.1 h0 i (List.mem_range.2 hi)
      simpa using this
    have hz':∀ s ∈ fs,L.getD s.r.i false = true:=fun s hs'=>by
      obtain ⟨x,y,e⟩:=List.append_of_mem hs'
      obtain ⟨o,ho,_⟩:=hw.fact x s y e
      exact hz _ (Array.getElem?_eq_some_iff.1 ho).1
    refine ⟨?_,hb,_,hQ,by rw [← fin L hz'];exact hs⟩
    refine List.eq_nil_iff_forall_not_mem.2 fun i hi=>?_
    obtain ⟨h1,h2,_⟩:=qkn hL hi
    rw [hz i h1] at h2;cases h2
  | succ fuel ih =>
    intro L a W hb hL hD hin hs hlen
    refine ⟨fun hr=>⟨hb,_,hQ,by rw [← fin L (qve hw hL hD hcl hr)];exact hs⟩,fun i hi=>?_⟩
    obtain ⟨h1,h2,h3⟩:=qkn hL hi
    obtain ⟨s,hsm,rfl⟩:=hall i h1
    exact qqi hw hL hD hs hsm hi fun a' W' hb' hs'=>ih _ a' W' hb' (qql hL h1 h3) (qsh (by rw [hL.1];exact h1) hD) (qnc (by rw [hL.1];exact h1) hin ⟨s,hsm,rfl⟩) hs' (qnb hL.1 h1 h2 hlen)
theorem cont_fork {D:List Nat} {fs:List FR} {ms:List Nat} (hw:Wk P ops σ0 D fs) (hcl:∀ s ∈ fs,∀ j,aft ops s.r.i j = true→∃ r ∈ fs,r.r.i = j) (hout:∀ i,i < ops.size→(∃ s ∈ fs,s.r.i = i) ∨ i ∈ ms ∨ ∃ j,aft ops i j = true∧¬ ∃ s ∈ fs,s.r.i = j)
    (hmay:∃ m,m < ops.size∧(¬ ∃ s ∈ fs,s.r.i = m)∧∀ j,aft ops m j = true→∃ s ∈ fs,s.r.i = j) (hB:∀ m ∈ ms,Bran P ops σ0 Q D fs m):Cont P ops σ0 Q D fs:=by
  intro w0 A okA fuel
  obtain ⟨m,hm1,hm2,hm3⟩:=hmay
  induction fuel with
  | zero =>
    intro L a W hb hL hD hin hs hlen
    exfalso
    have h0:=List.length_eq_zero_iff.1 (Nat.le_zero.1 hlen)
    have:=List.filter_eq_nil_iff.1 h0 m (List.mem_range.2 hm1)
    exact hm2 (hin m (by simpa using this))
  | succ fuel ih =>
    intro L a W hb hL hD hin hs hlen
    refine ⟨fun hr=>?_,fun i hi=>?_⟩
    · exfalso
      have hall:=qve hw hL hD hcl hr
      have hun:L.getD m false = false:=by
        cases h:L.getD m false with
        | false=>rfl
        | true=>exact absurd (hin m h) hm2
      have:=ready_of hL hm1 hun fun j hj=>by
        obtain ⟨s,h1,rfl⟩:=hm3 j hj
        exact hall s h1
      rw [hr] at this;cases this
    · obtain ⟨h1,h2,h3⟩:=qkn hL hi
      rcases hout i h1 with ⟨s,hsm,rfl⟩ | hms | ⟨j,hj1,hj2⟩
      · exact qqi hw hL hD hs hsm hi fun a' W' hb' hs'=>ih _ a' W' hb' (qql hL h1 h3) (qsh (by rw [hL.1];exact h1) hD) (qnc (by rw [hL.1];exact h1) hin ⟨s,hsm,rfl⟩) hs' (qnb hL.1 h1 h2 hlen)
      · exact hB i hms w0 A okA fuel L a W hb hL hD hin hi hs hlen
      · exact absurd (hin j (h3 j hj1)) hj2
theorem qsx {fs gs:List FR} {L:Array Bool} (h:∀ g ∈ gs,L.getD g.r.i false = false):atL σ0 (fs ++ gs) L = atL σ0 fs L:=by
  unfold atL
  have e:gs.filter (fun f=>L.getD f.r.i false) = []:=List.filter_eq_nil_iff.2 fun g hg h'=>by rw [h g hg] at h';cases h'
  rw [List.filter_append,e,List.append_nil]
theorem qvt {D:List Nat} {fs gs:List FR} (hw:Wk P ops σ0 D (fs ++ gs)) {L:Array Bool} (hin:Within fs L):∀ g ∈ gs,L.getD g.r.i false = false:=by
  intro g hg
  cases h:L.getD g.r.i false with
  | false=>rfl
  | true =>
    exfalso
    obtain ⟨s,hs,e⟩:=hin _ h
    obtain ⟨x,y,rfl⟩:=List.append_of_mem hs
    obtain ⟨x',y',rfl⟩:=List.append_of_mem hg
    have:=qi8 (a:=x.map (·.r)) (b:=(y ++ x').map (·.r)) (c:=y'.map (·.r)) (r:=s.r) (s:=g.r) hw.pairs (by simp)
    simp only [qkk,Bool.and_eq_true,Bool.not_eq_true'] at this
    have:=this.1.1
    rw [e] at this;simp at this
theorem qpa {fs gs:List FR} {L:Array Bool} (h:Within fs L):Within (fs ++ gs) L:=fun i hi=>by
  obtain ⟨s,hs,e⟩:=h i hi
  exact ⟨s,List.mem_append_left _ hs,e⟩
theorem qo7 {D:List Nat} {fs gs:List FR} (hw:Wk P ops σ0 D (fs ++ gs)) (h:Cont P ops σ0 Q D (fs ++ gs)):Cont P ops σ0 Q D fs:=fun w0 A okA fuel L a W hb hL hD hin hs hlen =>
  h w0 A okA fuel L a W hb hL hD (qpa hin) (by rw [qsx (qvt hw hin)];exact hs) hlen
theorem bran_first {D:List Nat} {fs:List FR} {s:FR} (hw:Wk P ops σ0 D (fs ++ [s])) (h:Cont P ops σ0 Q (s.r.i :: D) (fs ++ [s])):Bran P ops σ0 Q D fs s.r.i:=by
  intro w0 A okA fuel L a W hb hL hD hin hi hs hlen
  obtain ⟨h1,h2,h3⟩:=qkn hL hi
  have hlt:s.r.i < L.size:=by rw [hL.1];exact h1
  refine qqi hw hL hD (by rw [qsx (qvt hw hin)];exact hs) (by simp) hi fun a' W' hb' hs'=>h w0 A okA fuel _ a' W' hb' (qql hL h1 h3) (fun d hd=>?_) (qnc hlt (qpa hin) ⟨s,by simp,rfl⟩) hs' (qnb hL.1 h1 h2 hlen)
  rcases List.mem_cons.1 hd with rfl | hd
  · rw [qk5 _ _ _ hlt,if_pos rfl]
  · exact qsh hlt hD d hd
theorem qvh {rs:List Rec} {fs:List FR} (hmap:fs.map (·.r) = rs.reverse) {i:Nat}:(rs.any fun r=>Nat.beq r.i i) = true ↔ ∃ s ∈ fs,s.r.i = i:=by
  constructor
  · intro h
    obtain ⟨r,hr,e⟩:=List.any_eq_true.1 h
    have hr':r ∈ fs.map (·.r):=by rw [hmap];simpa using hr
    obtain ⟨s,hs,rfl⟩:=List.mem_map.1 hr'
    exact ⟨s,hs,by simpa using e⟩
  · rintro ⟨s,hs,rfl⟩
    have:s.r ∈ rs:=by
      have h:s.r ∈ fs.map (·.r):=List.mem_map.2 ⟨s,hs,rfl⟩
      rw [hmap] at h
      simpa using h
    exact List.any_eq_true.2 ⟨_,this,by simp⟩
theorem qui {D:List Nat} {rs:List Rec} {fs:List FR} (hmap:fs.map (·.r) = rs.reverse) (hfact:∀ a f b,fs = a ++ f :: b→Fact P ops (apps σ0 a) f) (hok:qq4 D ops rs = true) (hQ:Q .normal (apps σ0 fs)):Cont P ops σ0 Q D fs:=by
  simp only [qq4,Bool.and_eq_true] at hok
  refine cont_leaf (qjl hmap hfact hok.1) (fun i hi=>(qvh hmap).1 ?_) hQ
  exact List.all_eq_true.1 hok.2 i (by simpa using hi)
def qo0 (ops:Array Oper) (i:Nat) (p:Nat→Bool):Bool:=match ops[i]? with
  | some o=>o.after.all fun e=>!Region.binds .any e || p e.on
  | none=>true
theorem qo1 {i:Nat} {p:Nat→Bool} (h:qo0 ops i p = true) {j:Nat} (hj:aft ops i j = true):p j = true:=by
  unfold aft at hj
  unfold qo0 at h
  cases ho:ops[i]? with
  | none=>rw [ho] at hj;cases hj
  | some o =>
    rw [ho] at hj h
    obtain ⟨x,hx,e⟩:=Array.any_eq_true'.1 hj
    simp only [Array.all_eq_true_iff_forall_mem] at h
    have:=h x hx
    simp only [Bool.and_eq_true] at e
    rw [e.1] at this
    rw [show j = x.on from (by simpa using e.2:x.on = j).symm]
    simpa using this
theorem afters_not {i:Nat} {p:Nat→Bool} (h:qo0 ops i p = false):∃ j,aft ops i j = true∧p j = false:=by
  unfold qo0 at h
  cases ho:ops[i]? with
  | none=>rw [ho] at h;cases h
  | some o =>
    rw [ho] at h
    simp only at h
    obtain ⟨k,hk,e⟩:=Array.all_eq_false.1 h
    refine ⟨o.after[k].on,(qm8 ho).2 ⟨o.after[k],Array.getElem_mem hk,?_,rfl⟩,?_⟩
    · cases hb:Region.binds .any o.after[k] with
      | true=>rfl
      | false=>simp [hb] at e
    · cases hp:p o.after[k].on with
      | false=>rfl
      | true=>simp [hp] at e
def qte (D:List Nat) (ops:Array Oper) (rs:List Rec) (ms:List Nat):Bool :=
  qrt D ops rs && (rs.all fun r=>qo0 ops r.i fun j=>rs.any fun q=>Nat.beq q.i j) && ((List.range ops.size).all fun i=>(rs.any fun r=>Nat.beq r.i i) || ms.any (Nat.beq i) || !qo0 ops i fun j=>rs.any fun q=>Nat.beq q.i j)
    && ms.any fun m=>Nat.blt m ops.size && !(rs.any fun r=>Nat.beq r.i m) && qo0 ops m fun j=>rs.any fun q=>Nat.beq q.i j
theorem fork_of {D:List Nat} {rs:List Rec} {fs:List FR} {ms:List Nat} (hmap:fs.map (·.r) = rs.reverse) (hfact:∀ a f b,fs = a ++ f :: b→Fact P ops (apps σ0 a) f) (hok:qte D ops rs ms = true) (hB:∀ m ∈ ms,Bran P ops σ0 Q D fs m):Cont P ops σ0 Q D fs:=by
  simp only [qte,Bool.and_eq_true] at hok
  obtain ⟨⟨⟨h1,h2⟩,h3⟩,h4⟩:=hok
  have ex:=fun {i:Nat}=>qvh (i:=i) hmap
  refine cont_fork (qjl hmap hfact h1) (fun s hs j hj=>?_) (fun i hi=>?_) ?_ hB
  · have:s.r ∈ rs:=by
      have h:s.r ∈ fs.map (·.r):=List.mem_map.2 ⟨s,hs,rfl⟩
      rw [hmap] at h
      simpa using h
    exact ex.1 (qo1 (List.all_eq_true.1 h2 _ this) hj)
  · have:=List.all_eq_true.1 h3 i (by simpa using hi)
    simp only [Bool.or_eq_true,Bool.not_eq_true'] at this
    rcases this with (h | h) | h
    · exact .inl (ex.1 h)
    · obtain ⟨m,hm,e⟩:=List.any_eq_true.1 h
      rw [show i = m by simpa using e];exact .inr (.inl hm)
    · obtain ⟨j,hj1,hj2⟩:=afters_not h
      refine .inr (.inr ⟨j,hj1,fun hh=>?_⟩)
      rw [ex.2 hh] at hj2;cases hj2
  · obtain ⟨m,_,h⟩:=List.any_eq_true.1 h4
    simp only [Bool.and_eq_true,Bool.not_eq_true'] at h
    refine ⟨m,by simpa [Nat.blt_eq] using h.1.1,fun hh=>?_,fun j hj=>ex.1 (qo1 h.2 hj)⟩
    rw [ex.2 hh] at h;exact absurd h.1.2 (by simp)
theorem qtz {id:Nat} (hm:P.follows .mixedOrders = true) (h:Cont P ops σ Q [] []):AW P (.region id ops true) σ Q:=by
  intro w0 A okA hb a W hs
  have hf:∀ i,(Array.replicate ops.size false).getD i false = false:=fun i=>by
    rw [Array.getD_eq_getD_getElem?,Array.getElem?_replicate]
    split <;> rfl
  refine wp_region_any hm (h w0 A okA _ _ _ _ hb ⟨by simp,fun i j hi=>?_⟩ (fun d hd=>nomatch hd) (fun i hi=>?_) ?_ ?_)
  · rw [hf] at hi;cases hi
  · rw [hf] at hi;cases hi
  · exact hs.same (qb1.drew W)
  · refine Nat.le_trans (List.length_filter_le _ _) ?_
    simp
theorem aw_any {rs:List Rec} {σf:St} {id:Nat} (hm:P.follows .mixedOrders = true) (h:Hist P ops [] σ rs σf) (hok:qwd ops rs = true) (hQ:Q .normal σf):AW P (.region id ops true) σ Q:=by
  obtain ⟨fs,h1,h2,h3⟩:=h
  rw [List.nil_append] at h1 h2 h3
  subst h2
  have hw:=qui h1 h3 hok hQ
  simp only [qq4,Bool.and_eq_true] at hok
  exact qtz hm (qo7 (gs:=fs) (qjl h1 h3 hok.1) hw)
end
end Go.Proofs.Ytdnkjocenbepaaa.AWN

namespace Go.Proofs.Ytdnkjocenbepaaa.AWN
open Go
def look:List (Nat × V)→Nat→V
  | [],_=>.junk
  | (k,v) :: r,t=>bif Nat.beq k t then v else look r t
def St.of (l:List (Nat × V)) (objs:List AObj) (nt base:Nat):St:={ env:=look l,heap:=qav objs,next:=objs.length,nt:=nt,base:=base }
def qv3 (σ:St) (ρ:Nat→Option Nat) (sn:Bool):List (Nat × V)→Prop
  | []=>True
  | (t,v) :: r=>exV ρ σ.heap sn (σ.env t) = some v∧exVP ρ σ.heap (σ.env t)∧qv3 σ ρ sn r
def qrc (ks:List Nat):Nat→Bool
  | 0=>true
  | n + 1=>(match ks[n]? with
    | some k=>Nat.beq k n
    | none=>false) && qrc ks n
theorem qo4 {ks:List Nat}:∀ {n:Nat},qrc ks n = true→∀ j,j < n→ks[j]? = some j
  | 0,_,j,h=>by omega
  | n + 1,h,j,hj=>by
    simp only [qrc,Bool.and_eq_true] at h
    by_cases hjn:j = n
    · subst hjn
      have h1:=h.1
      split at h1
      · rename_i k hk;rw [hk];simpa using h1
      · cases h1
    · exact qo4 h.2 j (by omega)
section
variable {P:Program} {τ:Tab} {σ:St} {ops:Array Oper} {o:Oper} {Q:Exit→St→Prop}
theorem qta {w0:World} {A:Args} {okA:Nat→Prop} {hb hb2:Handle} {H2:Nat→AObj} {ok':Nat→Prop} {W:World} {a:Act} {ρ:Nat→Option Nat} {sn:Bool} (hs:Sim w0 A okA hb σ a W) (N:qpb W ρ hb hb2 σ.heap H2 (okF w0 okA hb σ.heap W) ok' sn) :
    ∀ {l:List (Nat × V)},qv3 σ ρ sn l→∀ t,Rel W hb2 H2 ok' (look l t) (a.tmps.getD t undef)
  | [],_,t=>.junk _
  | (k,v) :: r,h,t=>by
    obtain ⟨h1,h2,h3⟩:=h
    unfold look
    cases hk:Nat.beq k t with
    | true =>
      have:=Nat.eq_of_beq_eq_true hk
      subst this
      exact qmb N (hs.env k) h1 h2
    | false=>exact qta hs N h3 t
theorem weak_of (ks:List Nat) {objs:List AObj} {l:List (Nat × V)} (hbase:qrc ks σ.base = true) (hnd:ks.Nodup) (hobjs:mapO (fun j=>exO (qdz ks) σ.heap true (σ.heap j)) ks = some objs)
    (hpo:∀ j ∈ ks,exOP (qdz ks) σ.heap (σ.heap j)) (henv:qv3 σ (qdz ks) true l):Weak σ (St.of l objs σ.nt σ.base):=by
  intro w0 A okA hb a W hs
  obtain ⟨m1,m2⟩:=qju hobjs
  have hml:ks.length = objs.length:=by rw [m1]
  let hb2:Handle:=fun i=>match ks[i]? with
    | some j=>hb j
    | none=>none
  have hbj:∀ i j,ks[i]? = some j→hb2 i = hb j:=by intro i j hij;show (match ks[i]? with | some j=>hb j | none=>none) = _;rw [hij]
  have hnone:∀ i,objs.length ≤ i→qav objs i = .none:=by
    intro i hi
    unfold qav
    rw [List.getD_eq_getElem?_getD,List.getElem?_eq_none (by omega)];rfl
  have hin:∀ i,qav objs i ≠ .none→∃ j,ks[i]? = some j:=by
    intro i hi
    rcases Nat.lt_or_ge i ks.length with hl | hl
    · exact ⟨ks[i],List.getElem?_eq_getElem hl⟩
    · exact absurd (hnone i (by omega)) hi
  have hobj:∀ i j,ks[i]? = some j→∃ y,exO (qdz ks) σ.heap true (σ.heap j) = some y∧qav objs i = y:=by
    intro i j hij
    obtain ⟨y,e1,e2⟩:=m2 i j hij
    exact ⟨y,e1,by unfold qav;exact getD_some e2 _⟩
  have hlv:∀ j ∈ ks,σ.heap j ≠ .none:=by
    intro j hj e
    obtain ⟨i,hi,ei⟩:=List.getElem_of_mem hj
    obtain ⟨y,e1,_⟩:=m2 i ks[i] (List.getElem?_eq_getElem hi)
    rw [ei,e] at e1;simp [exO] at e1
  have hltb:∀ j,A.H0 j ≠ .none→j < σ.base:=by
    intro j hj
    rcases Nat.lt_or_ge j σ.base with h | h
    · exact h
    · exact absurd (hs.base j h) hj
  have hm0:∀ j,A.H0 j ≠ .none→ks[j]? = some j:=fun j hj=>qo4 hbase j (hltb j hj)
  have hloc:∀ j b,σ.heap j ≠ .none→j ∉ ks→hb j = some b→w0.heap.size ≤ b:=by
    intro j b hj hjn hjb
    rcases (hs.heap.hnd j b hj hjb).2 with ⟨h1,_⟩ | h1
    · exact absurd (List.mem_of_getElem? (hm0 j h1)) hjn
    · exact h1
  have N:qpb W (qdz ks) hb hb2 σ.heap (qav objs) (okF w0 okA hb σ.heap W) (okF w0 okA hb2 (qav objs) W) true:=by
    refine ⟨fun b hb'=>⟨hb'.1,hb'.2.1,fun i hi e=>?_⟩,fun j i cs hj hcs=>?_,fun j i sz es hj hes=>?_,fun j i kk es hj hes=>?_,fun _ j b hj hne hbjj=>?_,hs.heap.obj⟩
    · obtain ⟨j,hij⟩:=hin i hi
      rw [hbj i j hij] at e
      exact hb'.2.2 j (hlv j (List.mem_of_getElem? hij)) e
    · have hij:=qew hj
      obtain ⟨y,e1,e2⟩:=hobj i j hij
      refine ⟨hbj i j hij,?_⟩
      rw [hcs] at e1
      simp only [exO] at e1
      split at e1
      · simp only [Option.some.injEq] at e1;subst e1;exact ⟨_,e2⟩
      · cases e1
    · have hij:=qew hj
      obtain ⟨y,e1,e2⟩:=hobj i j hij
      refine ⟨hbj i j hij,?_⟩
      rw [hes] at e1
      simp only [exO,Option.some.injEq] at e1
      rw [e2,← e1]
    · have hij:=qew hj
      obtain ⟨y,e1,e2⟩:=hobj i j hij
      refine ⟨hbj i j hij,?_⟩
      rw [hes] at e1
      simp only [exO,Option.some.injEq] at e1
      rw [e2,← e1]
    · have hnmj:=qin hj
      refine ⟨(hs.heap.hnd j b hne hbjj).1,.inr (hloc j b hne hnmj hbjj),fun i hi e=>?_⟩
      obtain ⟨j',hij⟩:=hin i hi
      rw [hbj i j' hij] at e
      have:=hs.heap.inj j j' b hne (hlv j' (List.mem_of_getElem? hij)) hbjj e
      subst this
      exact hnmj (List.mem_of_getElem? hij)
  have hix:∀ i j,ks[i]? = some j→qdz ks j = some i:=by
    intro i j hij
    cases hx:qdz ks j with
    | none=>exact absurd (List.mem_of_getElem? hij) (qin hx)
    | some i'=>rw [qkj hnd (qew hx) hij]
  refine ⟨hb2,hs.defers,hs.size,qta hs N henv,?_,hs.base⟩
  refine { obj:=fun i=>?_,inj:=fun i k b hi hk hbi hbk=>?_,hnd:=fun i b hi hbi=>?_,fresh:=fun i hi=>hnone i hi,ext:=hs.heap.ext,keep:=⟨fun j cs hj=>?_,fun j sz es hj=>?_,fun j kk es hj=>?_⟩,lay:=hs.heap.lay }
  · by_cases hi:qav objs i = .none
    · show qfz W hb2 (qav objs) _ i
      unfold qfz;rw [hi];trivial
    · obtain ⟨j,hij⟩:=hin i hi
      obtain ⟨y,e1,e2⟩:=hobj i j hij
      exact qoc N (hix i j hij) e1 (hpo j (List.mem_of_getElem? hij)) e2 (hbj i j hij)
  · obtain ⟨j,hij⟩:=hin i hi
    obtain ⟨j',hkj⟩:=hin k hk
    rw [hbj i j hij] at hbi
    rw [hbj k j' hkj] at hbk
    have:=hs.heap.inj j j' b (hlv j (List.mem_of_getElem? hij)) (hlv j' (List.mem_of_getElem? hkj)) hbi hbk
    subst this
    exact qkj hnd hij hkj
  · obtain ⟨j,hij⟩:=hin i hi
    rw [hbj i j hij] at hbi
    obtain ⟨h1,h2⟩:=hs.heap.hnd j b (hlv j (List.mem_of_getElem? hij)) hbi
    refine ⟨h1,h2.imp (fun ⟨h3,h4⟩=>?_) id⟩
    have:=qkj hnd hij (hm0 j h3)
    subst this
    exact ⟨h3,h4⟩
  · have hij:=hm0 j (by rw [hj];simp)
    obtain ⟨cs',e1,e2⟩:=hs.heap.keep.box j cs hj
    obtain ⟨y,e3,e4⟩:=hobj j j hij
    rw [e1] at e3
    simp only [exO] at e3
    split at e3
    · simp only [Option.some.injEq] at e3;subst e3
      exact ⟨_,e4,(hbj j j hij).trans e2⟩
    · cases e3
  · have hij:=hm0 j (by rw [hj];simp)
    obtain ⟨es',e1,e0,e2⟩:=hs.heap.keep.row j sz es hj
    obtain ⟨y,e3,e4⟩:=hobj j j hij
    rw [e1] at e3
    simp only [exO,Option.some.injEq] at e3;subst e3
    exact ⟨_,e4,e0,fun hl=>⟨(hbj j j hij).trans (e2 hl).1,(e2 hl).2⟩⟩
  · have hij:=hm0 j (by rw [hj];simp)
    obtain ⟨es',e1,e2⟩:=hs.heap.keep.map j kk es hj
    obtain ⟨y,e3,e4⟩:=hobj j j hij
    rw [e1] at e3
    simp only [exO,Option.some.injEq] at e3;subst e3
    exact ⟨_,e4,(hbj j j hij).trans e2⟩
/-! ### Walking a region that draws its order -/
def Any (P:Program) (ops:Array Oper) (id:List FR) (σ0:St) (Q:Prop) (rs:List Rec) (σ:St):Prop:=Hist P ops id σ0 rs σ→Q
variable {id:List FR} {σ0:St} {rs:List Rec} {G:Prop} {num:Nat} {DD:List Nat}
theorem qcv (h:Any P ops [] σ (AW P (.region num ops true) σ Q) [] σ):AW P (.region num ops true) σ Q:=h .nil
theorem qd4 (hm:P.follows .mixedOrders = true) (hok:qwd ops rs = true) (hQ:Q .normal σ):Any P ops [] σ0 (AW P (.region num ops true) σ0 Q) rs σ:=fun h=>aw_any hm h hok hQ
theorem qph (hm:P.follows .mixedOrders = true) (h:Any P ops [] σ (Cont P ops σ Q [] []) [] σ):AW P (.region num ops true) σ Q:=qtz hm (h .nil)
theorem qib (hok:qq4 DD ops rs = true) (hQ:Q .normal σ):Any P ops id σ0 (Cont P ops σ0 Q DD id) rs σ:=fun ⟨gs,e1,e2,e3⟩=>by
  subst e2
  have hw:=qui e1 e3 hok hQ
  simp only [qq4,Bool.and_eq_true] at hok
  exact qo7 (qjl e1 e3 hok.1) hw
def AllB:List Nat→(Nat→Prop)→Prop
  | [],_=>True
  | m :: l,p=>p m∧AllB l p
theorem qr9 {p:Nat→Prop}:∀ {l:List Nat},AllB l p→∀ m ∈ l,p m
  | [],_,m,h=>nomatch h
  | a :: l,⟨h1,h2⟩,m,h=>by
    rcases List.mem_cons.1 h with rfl | h
    · exact h1
    · exact qr9 h2 m h
theorem qln (ms:List Nat) (hok:qte DD ops rs ms = true) (hB:∀ fs:List FR,fs.map (·.r) = rs.reverse→AllB ms fun m=>Any P ops fs σ0 (Bran P ops σ0 Q DD fs m) rs σ):Any P ops id σ0 (Cont P ops σ0 Q DD id) rs σ:=fun ⟨gs,e1,e2,e3⟩=>by
  have hc:Cont P ops σ0 Q DD (id ++ gs):=fork_of e1 e3 hok fun m hm=>qr9 (hB _ e1) m hm ⟨[],by rw [List.append_nil];exact e1,by rw [List.append_nil];exact e2,by rw [List.append_nil];exact e3⟩
  simp only [qte,Bool.and_eq_true] at hok
  exact qo7 (qjl e1 e3 hok.1.1.1) hc
theorem qg2 {r:Rec} {fs:List FR} (hfs:fs.map (·.r) = rs.reverse) (hok:qrt DD ops (r :: rs) = true) (h:∀ fs,Any P ops fs σ0 (Cont P ops σ0 Q (r.i :: DD) fs) (r :: rs) σ):Any P ops fs σ0 (Bran P ops σ0 Q DD fs r.i) (r :: rs) σ:=fun ⟨gs,e1,e2,e3⟩=>by
  have hl:gs.map (·.r) = [r]:=by
    rw [List.map_append,hfs,List.reverse_cons] at e1
    exact List.append_cancel_left e1
  match gs,hl with
  | [s],hl =>
    have hs:s.r = r:=by simpa using hl
    subst hs
    exact bran_first (qjl e1 e3 hok) (h _ ⟨[],by rw [List.append_nil];exact e1,by rw [List.append_nil];exact e2,by rw [List.append_nil];exact e3⟩)
theorem qgc {σ':St} (h:∀ t ∈ looks ops o,σ'.env t = σ.env t):qcf ops σ' o = qcf ops σ o:=by
  unfold qcf
  cases hg:o.guard with
  | none=>rfl
  | some g =>
    obtain ⟨j,want⟩:=g
    simp only
    have:qqg ops σ' j = qqg ops σ j:=by
      unfold qqg
      cases ho:ops[j]? with
      | none=>rfl
      | some o' =>
        simp only
        cases hd:o'.dst with
        | none=>rfl
        | some d =>
          simp only
          rw [h d (by simp [looks,hg,ho,hd])]
    rw [this]
theorem qj1 {σ':St} (h:σ'.nt = σ.nt) {d:Option Nat} (hd:qga σ d = true):qga σ' d = true:=by
  cases d with
  | none=>rfl
  | some d=>simpa [qga,h] using hd
theorem qjv {σ':St} (h:∀ t ∈ looks ops o,σ'.env t = σ.env t):∀ t ∈ opT o.op,σ'.env t = σ.env t:=fun t ht=>h t (List.mem_append_left _ ht)
theorem qsv {v:V} {J:List Nat} (i:Nat) (ho:ops[i]? = some o) (hf:qvd P ops σ o v J) (hK:Any P ops id σ0 G (⟨i,false,J⟩ :: rs) (σ.putO o.dst v)):Any P ops id σ0 G rs σ:=fun h =>
  hK (.cons ⟨⟨i,false,J⟩,o.dst,v,σ.heap,0⟩ h ⟨o,ho,rfl,.inl ⟨rfl,hf⟩⟩)
theorem qqh {v:V} {J:List Nat} {H:Nat→AObj} {n:Nat} (i:Nat) (ho:ops[i]? = some o) (hf:qty P ops σ o v H n) (hJ:∀ j ∈ J,H j = σ.heap j) (hK:Any P ops id σ0 G (⟨i,true,J⟩ :: rs) ((σ.set H n).putO o.dst v)):Any P ops id σ0 G rs σ:=fun h =>
  hK (.cons ⟨⟨i,true,J⟩,o.dst,v,H,n⟩ h ⟨o,ho,rfl,.inr ⟨rfl,hf,hJ⟩⟩)
def roIn (σ:St) (op:Op) (J:List Nat):Bool:=match qqz σ op with
  | some K=>K.all fun j=>J.any (Nat.beq j)
  | none=>false
theorem roIn_spec {op:Op} {J:List Nat} (h:roIn σ op J = true):∃ K,qqz σ op = some K∧∀ j ∈ K,j ∈ J:=by
  unfold roIn at h
  split at h
  · rename_i K hK
    refine ⟨K,hK,fun j hj=>?_⟩
    obtain ⟨k,hk,e⟩:=List.any_eq_true.1 (List.all_eq_true.1 h j hj)
    rw [show j = k by simpa using e];exact hk
  · cases h
theorem qp6 {σ':St} {op:Op} {J:List Nat} (hr:roIn σ op J = true) (h:∀ t ∈ opT op,σ'.env t = σ.env t) (hh:∀ j ∈ J,σ'.heap j = σ.heap j):qbn τ σ' op = qbn τ σ op:=by
  obtain ⟨K,h1,h2⟩:=roIn_spec hr
  exact step_ro h1 h fun j hj=>hh j (h2 j hj)
theorem qbk (i:Nat) (ho:ops[i]? = some o) (hw:qcf ops σ o = some false) (hd:qga σ o.dst = true) (hK:Any P ops id σ0 G (⟨i,false,[]⟩ :: rs) (σ.putO o.dst .und)):Any P ops id σ0 G rs σ :=
  qsv i ho (fun σ' hn he _=>one_skip (by rw [qgc he,hw]) (qj1 hn hd)) hK
theorem qad (hτ:qeo P τ) {v:V} (J:List Nat) (i:Nat) (ho:ops[i]? = some o) (hw:qcf ops σ o = some true) (hd:qga σ o.dst = true) (hr:roIn σ o.op J = true) (h:qbn τ σ o.op = .val v) (hK:Any P ops id σ0 G (⟨i,false,J⟩ :: rs) (σ.putO o.dst v)):Any P ops id σ0 G rs σ :=
  qsv i ho (fun σ' hn he hh=>one_val hτ (by rw [qgc he,hw]) (qj1 hn hd) (by rw [qp6 hr (qjv he) hh,h])) hK
theorem qfa (hτ:qeo P τ) {v:V} {p:Prop} (J:List Nat) (i:Nat) (ho:ops[i]? = some o) (hw:qcf ops σ o = some true) (hd:qga σ o.dst = true) (hr:roIn σ o.op J = true) (h:qbn τ σ o.op = .need p v) (hp:p) (hK:Any P ops id σ0 G (⟨i,false,J⟩ :: rs) (σ.putO o.dst v)):Any P ops id σ0 G rs σ :=
  qsv i ho (fun σ' hn he hh=>one_need hτ (by rw [qgc he,hw]) (qj1 hn hd) (by rw [qp6 hr (qjv he) hh,h]) hp) hK
theorem qg1 (hτ:qeo P τ) {v:V} {p:Prop} {es:List (List D)} {ix:Nat} {k:List D→Option V} {e:List D} (J:List Nat) (i:Nat) (ho:ops[i]? = some o) (hw:qcf ops σ o = some true) (hd:qga σ o.dst = true) (hr:roIn σ o.op J = true) (h:qbn τ σ o.op = .elem p es ix k) (hp:p) (he:es[ix]? = some e) (hv:k e = some v)
    (hK:Any P ops id σ0 G (⟨i,false,J⟩ :: rs) (σ.putO o.dst v)):Any P ops id σ0 G rs σ :=
  qsv i ho (fun σ' hn hee hh=>one_elem hτ (by rw [qgc hee,hw]) (qj1 hn hd) (by rw [qp6 hr (qjv hee) hh,h]) hp he hv) hK
theorem any_valH (hτ:qeo P τ) (J:List Nat) {v:V} {H:Nat→AObj} {n:Nat} (i:Nat) (ho:ops[i]? = some o) (hw:qcf ops σ o = some true) (hd:qga σ o.dst = true) (h:qbn τ σ o.op = .valH v H n) (hJ:∀ j ∈ J,H j = σ.heap j) (hK:Any P ops id σ0 G (⟨i,true,J⟩ :: rs) ((σ.set H n).putO o.dst v)):Any P ops id σ0 G rs σ :=
  qqh i ho (fun σ' hn he hh hx=>one_valH hτ (by rw [qgc he,hw]) (qj1 hn hd) (by rw [qmn (qjv he) hh hx,h])) hJ hK
theorem any_needH (hτ:qeo P τ) (J:List Nat) {v:V} {p:Prop} {H:Nat→AObj} {n:Nat} (i:Nat) (ho:ops[i]? = some o) (hw:qcf ops σ o = some true) (hd:qga σ o.dst = true) (h:qbn τ σ o.op = .needH p v H n) (hp:p) (hJ:∀ j ∈ J,H j = σ.heap j) (hK:Any P ops id σ0 G (⟨i,true,J⟩ :: rs) ((σ.set H n).putO o.dst v)):Any P ops id σ0 G rs σ :=
  qqh i ho (fun σ' hn he hh hx=>one_needH hτ (by rw [qgc he,hw]) (qj1 hn hd) (by rw [qmn (qjv he) hh hx,h]) hp) hJ hK
theorem any_elemH (hτ:qeo P τ) (J:List Nat) {p:Prop} {es:List (List D)} {ix:Nat} {k:List D→Option (Nat→AObj)} {e:List D} {H:Nat→AObj} (i:Nat) (ho:ops[i]? = some o) (hw:qcf ops σ o = some true) (hd:qga σ o.dst = true) (h:qbn τ σ o.op = .elemH p es ix k) (hp:p) (he:es[ix]? = some e) (hv:k e = some H) (hJ:∀ j ∈ J,H j = σ.heap j)
    (hK:Any P ops id σ0 G (⟨i,true,J⟩ :: rs) ((σ.set H σ.next).putO o.dst .und)):Any P ops id σ0 G rs σ :=
  qqh i ho (fun σ' hn hee hh hx=>by
    have:=one_elemH (P:=P) (ops:=ops) hτ (by rw [qgc hee,hw]) (qj1 hn hd) (by rw [qmn (qjv hee) hh hx,h]) hp he hv
    rw [hx] at this;exact this) hJ hK
theorem any_call (hτ:qeo P τ) (fr:Bool) (js J:List Nat) {k:FuncId} {args args':List V} {objs:List AObj} {r0:V} {o0 n0:List AObj} (i:Nat) (ho:ops[i]? = some o) (hw:qcf ops σ o = some true) (hd:qga σ o.dst = true) (h:qbn τ σ o.op = .call k args) (hfn:qmt P k)
    (hargs:mapO (exV (qdz js) σ.heap fr) args = some args') (hobjs:mapO (fun j=>exO (qdz js) σ.heap fr (σ.heap j)) js = some objs) (hnd:js.Nodup) (hpa:∀ v ∈ args,exVP (qdz js) σ.heap v) (hpo:∀ j ∈ js,exOP (qdz js) σ.heap (σ.heap j))
    (hc:qb0 P fr k args' objs fun r o n=>r = r0∧o = o0∧n = n0) (hJ:∀ j ∈ J,(σ.after js o0 n0).heap j = σ.heap j)
    (hK:Any P ops id σ0 G (⟨i,true,J⟩ :: rs) ((σ.set (σ.after js o0 n0).heap (σ.after js o0 n0).next).putO o.dst (renV (σ.names js n0.length) r0))):Any P ops id σ0 G rs σ :=
  qqh i ho (fun σ' hn he hh hx w0 A okA hb a W hs Qc Kc hKc=>by
    refine one_call (P:=P) (ops:=ops) (σ:=σ') hτ fr js (by rw [qgc he,hw]) (qj1 hn hd) (by rw [qmn (qjv he) hh hx,h]) hfn (by rw [hh];exact hargs) (by rw [hh];exact hobjs) hnd (by rw [hh];exact hpa) (by rw [hh];exact hpo) hc w0 A okA hb a W hs Qc Kc ?_
    rintro σ'' hb' a' W' ⟨r,o',n',⟨rfl,rfl,rfl⟩,_,rfl⟩ hs'
    refine hKc _ hb' a' W' ?_ hs'
    have:σ'.names js n'.length = σ.names js n'.length:=by unfold St.names;rw [hx]
    unfold St.after St.set
    rw [this,hh,hx]) hJ hK
end
end Go.Proofs.Ytdnkjocenbepaaa.AWN

namespace Go.Proofs.Ytdnkjocenbepaaa.AWN
open Go
def qv0 (ρ:Nat→Option Nat) (H:Nat→AObj):List V→Prop
  | []=>True
  | v :: r=>exVP ρ H v∧qv0 ρ H r
def qtv (ρ:Nat→Option Nat) (H:Nat→AObj):List Nat→Prop
  | []=>True
  | j :: r=>exOP ρ H (H j)∧qtv ρ H r
theorem qo3 {ρ:Nat→Option Nat} {H:Nat→AObj}:∀ {l:List V},qv0 ρ H l→∀ v ∈ l,exVP ρ H v
  | [],_,_,h=>nomatch h
  | x :: r,⟨h1,h2⟩,v,h=>by
    rcases List.mem_cons.1 h with rfl | h
    · exact h1
    · exact qo3 h2 v h
theorem qlh {ρ:Nat→Option Nat} {H:Nat→AObj}:∀ {l:List Nat},qtv ρ H l→∀ j ∈ l,exOP ρ H (H j)
  | [],_,_,h=>nomatch h
  | x :: r,⟨h1,h2⟩,v,h=>by
    rcases List.mem_cons.1 h with rfl | h
    · exact h1
    · exact qlh h2 v h
def qpw (H H':Nat→AObj):List Nat→Prop
  | []=>True
  | j :: r=>H' j = H j∧qpw H H' r
theorem qkh {H H':Nat→AObj}:∀ {l:List Nat},qpw H H' l→∀ j ∈ l,H' j = H j
  | [],_,_,h=>nomatch h
  | x :: r,⟨h1,h2⟩,v,h=>by
    rcases List.mem_cons.1 h with rfl | h
    · exact h1
    · exact qkh h2 v h
section
variable {P:Program} {τ:Tab} {σ σ0:St} {ops:Array Oper} {rest:List Oper} {o:Oper} {Q:Exit→St→Prop} {id:List FR} {G:Prop} {rl:List Rec}
theorem qag (hτ:qeo P τ) (fr:Bool) (js:List Nat) {k:FuncId} {args args':List V} {objs:List AObj} {R:V→List AObj→List AObj→Prop} (hw:qcf ops σ o = some true) (hd:qga σ o.dst = true) (h:qbn τ σ o.op = .call k args) (hfn:qmt P k)
    (hargs:mapO (exV (qdz js) σ.heap fr) args = some args') (hobjs:mapO (fun j=>exO (qdz js) σ.heap fr (σ.heap j)) js = some objs) (hnd:js.Nodup) (hpa:qv0 (qdz js) σ.heap args) (hpo:qtv (qdz js) σ.heap js)
    (hc:qb0 P fr k args' objs R) (hK:∀ r objs' new,R r objs' new→objs'.length = js.length→AWL P ops rest ((σ.after js objs' new).putO o.dst (renV (σ.names js new.length) r)) Q):AWL P ops (o :: rest) σ Q :=
  awl_call hτ fr js hw hd h hfn hargs hobjs hnd (qo3 hpa) (qlh hpo) hc hK
theorem qbd (hτ:qeo P τ) (fr:Bool) (js J:List Nat) {k:FuncId} {args args':List V} {objs:List AObj} {r0:V} {o0 n0:List AObj} (i:Nat) (ho:ops[i]? = some o) (hw:qcf ops σ o = some true) (hd:qga σ o.dst = true) (h:qbn τ σ o.op = .call k args) (hfn:qmt P k)
    (hargs:mapO (exV (qdz js) σ.heap fr) args = some args') (hobjs:mapO (fun j=>exO (qdz js) σ.heap fr (σ.heap j)) js = some objs) (hnd:js.Nodup) (hpa:qv0 (qdz js) σ.heap args) (hpo:qtv (qdz js) σ.heap js)
    (hc:qb0 P fr k args' objs fun r o n=>r = r0∧o = o0∧n = n0) (hJ:qpw σ.heap (σ.after js o0 n0).heap J)
    (hK:Any P ops id σ0 G (⟨i,true,J⟩ :: rl) ((σ.set (σ.after js o0 n0).heap (σ.after js o0 n0).next).putO o.dst (renV (σ.names js n0.length) r0))):Any P ops id σ0 G rl σ :=
  any_call hτ fr js J i ho hw hd h hfn hargs hobjs hnd (qo3 hpa) (qlh hpo) hc (qkh hJ) hK
theorem qcd (hτ:qeo P τ) (J:List Nat) {v:V} {H:Nat→AObj} {n:Nat} (i:Nat) (ho:ops[i]? = some o) (hw:qcf ops σ o = some true) (hd:qga σ o.dst = true) (h:qbn τ σ o.op = .valH v H n) (hJ:qpw σ.heap H J) (hK:Any P ops id σ0 G (⟨i,true,J⟩ :: rl) ((σ.set H n).putO o.dst v)):Any P ops id σ0 G rl σ :=
  any_valH hτ J i ho hw hd h (qkh hJ) hK
theorem qg3 (hτ:qeo P τ) (J:List Nat) {v:V} {p:Prop} {H:Nat→AObj} {n:Nat} (i:Nat) (ho:ops[i]? = some o) (hw:qcf ops σ o = some true) (hd:qga σ o.dst = true) (h:qbn τ σ o.op = .needH p v H n) (hp:p) (hJ:qpw σ.heap H J) (hK:Any P ops id σ0 G (⟨i,true,J⟩ :: rl) ((σ.set H n).putO o.dst v)):Any P ops id σ0 G rl σ :=
  any_needH hτ J i ho hw hd h hp (qkh hJ) hK
theorem qij (hτ:qeo P τ) (J:List Nat) {p:Prop} {es:List (List D)} {ix:Nat} {k:List D→Option (Nat→AObj)} {e:List D} {H:Nat→AObj} (i:Nat) (ho:ops[i]? = some o) (hw:qcf ops σ o = some true) (hd:qga σ o.dst = true) (h:qbn τ σ o.op = .elemH p es ix k) (hp:p) (he:es[ix]? = some e) (hv:k e = some H) (hJ:qpw σ.heap H J)
    (hK:Any P ops id σ0 G (⟨i,true,J⟩ :: rl) ((σ.set H σ.next).putO o.dst .und)):Any P ops id σ0 G rl σ :=
  any_elemH hτ J i ho hw hd h hp he hv (qkh hJ) hK
theorem qo2 (t:Nat) {b:Bool} (h:σ.env t = .d (.bool b)) (ht:b = true→Any P ops id σ0 G rl (σ.put t (.d (.bool true)))) (hf:b = false→Any P ops id σ0 G rl (σ.put t (.d (.bool false)))):Any P ops id σ0 G rl σ:=by
  cases b
  · have:=hf rfl;rwa [qnu h] at this
  · have:=ht rfl;rwa [qnu h] at this
theorem qa5 (ks:List Nat) {objs:List AObj} {l:List (Nat × V)} (hbase:qrc ks σ.base = true) (hnd:ks.Nodup) (hobjs:mapO (fun j=>exO (qdz ks) σ.heap true (σ.heap j)) ks = some objs)
    (hpo:qtv (qdz ks) σ.heap ks) (henv:qv3 σ (qdz ks) true l):Weak σ (St.of l objs σ.nt σ.base):=weak_of ks hbase hnd hobjs (qlh hpo) henv
end
section
variable {P:Program} {τ:Tab} {σ:St} {rs:List ResultVar} {fr:Bool} {R:V→List AObj→List AObj→Prop} {e:Exit}
theorem qah {m:Nat} (he:e = .normal ∨ e = .ret) (ex:List Nat) {rv r:V} {objs' new:List AObj} (h:resV τ rs σ = some rv) (hnd:ex.Nodup) (hm:∀ x ∈ ex,m ≤ x) (hr:exV (qdz (List.range m ++ ex)) σ.heap true rv = some r) (hp:exVP (qdz (List.range m ++ ex)) σ.heap rv)
    (ho:mapO (fun j=>exO (qdz (List.range m ++ ex)) σ.heap true (σ.heap j)) (List.range m ++ ex) = some (objs' ++ new)) (hl:objs'.length = m) (hpo:qtv (qdz (List.range m ++ ex)) σ.heap (List.range m ++ ex))
    (hf:fr = true→r.flat∧∀ o ∈ objs' ++ new,o.flat) (hR:R r objs' new):RetQ τ rs fr m R e σ :=
  ⟨he,rv,ex,r,objs',new,h,hnd,hm,hr,hp,ho,hl,qlh hpo,hf,hR⟩
end
end Go.Proofs.Ytdnkjocenbepaaa.AWN

namespace Go.Proofs.Ytdnkjocenbepaaa.AWN
open Go Go.Proofs.Try
def TiOk (t:TypeId) (td:TD):Prop:=prog.underlying t = some td.desc∧∃ i,prog.info? t = some i∧i.size = td.size∧i.bytes = td.bytes∧i.zero = some td.zero
theorem tiOk {t:TypeId} {td:TD} (h:prog.underlying t = some td.desc) (h':(prog.info? t).map (fun i=>(i.size,i.bytes,i.zero)) = some (td.size,td.bytes,some td.zero)):TiOk t td:=by
  refine ⟨h,?_⟩
  cases hi:prog.info? t with
  | none=>rw [hi] at h';cases h'
  | some i =>
    rw [hi] at h'
    simp only [Option.map_some,Option.some.injEq,Prod.mk.injEq] at h'
    exact ⟨i,rfl,h'.1,h'.2.1,h'.2.2⟩
theorem ti2:(prog.info? 2).map (fun i=>(i.size,i.bytes,i.zero)) = some (1,8,some (.int .i64 0)):=by kernel_rfl
theorem ti3:(prog.info? 3).map (fun i=>(i.size,i.bytes,i.zero)) = some (1,8,some (.int .i64 0)):=by kernel_rfl
theorem ti4:(prog.info? 4).map (fun i=>(i.size,i.bytes,i.zero)) = some (1,1,some (.bool false)):=by kernel_rfl
theorem ti5:(prog.info? 5).map (fun i=>(i.size,i.bytes,i.zero)) = some (1,1,some (.int .u8 0)):=by kernel_rfl
theorem ti22:(prog.info? 22).map (fun i=>(i.size,i.bytes,i.zero)) = some (1,24,some (.slice none 0 0)):=by kernel_rfl
theorem ti24:(prog.info? 24).map (fun i=>(i.size,i.bytes,i.zero)) = some (1,8,some (.complex .f32 0 0)):=by kernel_rfl
theorem ti26:(prog.info? 26).map (fun i=>(i.size,i.bytes,i.zero)) = some (3,24,some (.agg #[.complex .f32 0 0,.complex .f32 0 0,.complex .f32 0 0])):=by kernel_rfl
theorem ti27:(prog.info? 27).map (fun i=>(i.size,i.bytes,i.zero)) = some (1,24,some (.slice none 0 0)):=by kernel_rfl
theorem ti29:(prog.info? 29).map (fun i=>(i.size,i.bytes,i.zero)) = some (4,48,some (.agg #[.complex .f32 0 0,.complex .f32 0 0,.complex .f32 0 0,.slice none 0 0])):=by kernel_rfl
theorem ti32:(prog.info? 32).map (fun i=>(i.size,i.bytes,i.zero)) = some (1,4,some (.float .f32 0)):=by kernel_rfl
theorem ti33:(prog.info? 33).map (fun i=>(i.size,i.bytes,i.zero)) = some (1,24,some (.slice none 0 0)):=by kernel_rfl
theorem ti40:(prog.info? 40).map (fun i=>(i.size,i.bytes,i.zero)) = some (8,64,some (.agg #[.int .i64 0,.complex .f32 0 0,.complex .f32 0 0,.int .i64 0,.complex .f32 0 0,.complex .f32 0 0,.complex .f32 0 0,.int .i64 0])):=by kernel_rfl
theorem ti41:(prog.info? 41).map (fun i=>(i.size,i.bytes,i.zero)) = some (1,24,some (.slice none 0 0)):=by kernel_rfl
theorem ti45:(prog.info? 45).map (fun i=>(i.size,i.bytes,i.zero)) = some (4,64,some (.agg #[.slice none 0 0,.slice none 0 0,.int .i64 0,.bool false])):=by kernel_rfl
theorem ti50:(prog.info? 50).map (fun i=>(i.size,i.bytes,i.zero)) = some (1,24,some (.slice none 0 0)):=by kernel_rfl
theorem ti67:(prog.info? 67).map (fun i=>(i.size,i.bytes,i.zero)) = some (1,8,some (.float .f64 0)):=by kernel_rfl
theorem ti92:(prog.info? 92).map (fun i=>(i.size,i.bytes,i.zero)) = some (1,8,some (.nilFunc)):=by kernel_rfl
theorem ti94:(prog.info? 94).map (fun i=>(i.size,i.bytes,i.zero)) = some (1,8,some (.pointer none)):=by kernel_rfl
theorem ti121:(prog.info? 121).map (fun i=>(i.size,i.bytes,i.zero)) = some (1,24,some (.slice none 0 0)):=by kernel_rfl
theorem ti122:(prog.info? 122).map (fun i=>(i.size,i.bytes,i.zero)) = some (1,8,some (.pointer none)):=by kernel_rfl
theorem ti124:(prog.info? 124).map (fun i=>(i.size,i.bytes,i.zero)) = some (1,8,some (.pointer none)):=by kernel_rfl
theorem ti141:(prog.info? 141).map (fun i=>(i.size,i.bytes,i.zero)) = some (1,4,some (.int .u32 0)):=by kernel_rfl
theorem ti146:(prog.info? 146).map (fun i=>(i.size,i.bytes,i.zero)) = some (1,8,some (.int .u64 0)):=by kernel_rfl
theorem ti148:(prog.info? 148).map (fun i=>(i.size,i.bytes,i.zero)) = some (3,40,some (.agg #[.slice none 0 0,.int .i64 0,.int .u64 0])):=by kernel_rfl
theorem ti151:(prog.info? 151).map (fun i=>(i.size,i.bytes,i.zero)) = some (1,8,some (.nilFunc)):=by kernel_rfl
theorem ti158:(prog.info? 158).map (fun i=>(i.size,i.bytes,i.zero)) = some (1,8,some (.pointer none)):=by kernel_rfl
theorem ti162:(prog.info? 162).map (fun i=>(i.size,i.bytes,i.zero)) = some (3,24,some (.agg #[.complex .f32 0 0,.complex .f32 0 0,.complex .f32 0 0])):=by kernel_rfl
theorem ti179:(prog.info? 179).map (fun i=>(i.size,i.bytes,i.zero)) = some (1,16,some (.complex .f64 0 0)):=by kernel_rfl
theorem ti183:(prog.info? 183).map (fun i=>(i.size,i.bytes,i.zero)) = some (1,8,some (.int .u64 0)):=by kernel_rfl
def td2:TD:=⟨(TypeDesc.int IntKind.i64),1,8,.int .i64 0⟩
def td3:TD:=⟨(TypeDesc.int IntKind.i64),1,8,.int .i64 0⟩
def td4:TD:=⟨TypeDesc.bool,1,1,.bool false⟩
def td5:TD:=⟨(TypeDesc.int IntKind.u8),1,1,.int .u8 0⟩
def td22:TD:=⟨(TypeDesc.slice 5),1,24,.slice none 0 0⟩
def td24:TD:=⟨(TypeDesc.complex FloatKind.f32),1,8,.complex .f32 0 0⟩
def td26:TD:=⟨(TypeDesc.struct #[{ name:= "A",type:=24,offset:=0,embedded:=false,tag:= "",pkgPath:= "",byteOffset:=0 },{ name:= "B",type:=24,offset:=1,embedded:=false,tag:= "",pkgPath:= "",byteOffset:=8 },{ name:= "C",type:=24,offset:=2,embedded:=false,tag:= "",pkgPath:= "",byteOffset:=16 }]),3,24,.agg #[.complex .f32 0 0,.complex .f32 0 0,.complex .f32 0 0]⟩
def td27:TD:=⟨(TypeDesc.slice 40),1,24,.slice none 0 0⟩
def td29:TD:=⟨(TypeDesc.struct #[{ name:= "Source",type:=26,offset:=0,embedded:=false,tag:= "",pkgPath:= "",byteOffset:=0 },{ name:= "Buses",type:=27,offset:=3,embedded:=false,tag:= "",pkgPath:= "",byteOffset:=24 }]),4,48,.agg #[.complex .f32 0 0,.complex .f32 0 0,.complex .f32 0 0,.slice none 0 0]⟩
def td32:TD:=⟨(TypeDesc.float FloatKind.f32),1,4,.float .f32 0⟩
def td33:TD:=⟨(TypeDesc.slice 32),1,24,.slice none 0 0⟩
def td40:TD:=⟨(TypeDesc.struct #[{ name:= "Parent",type:=2,offset:=0,embedded:=false,tag:= "",pkgPath:= "",byteOffset:=0 },{ name:= "Own",type:=24,offset:=1,embedded:=false,tag:= "",pkgPath:= "",byteOffset:=8 },{ name:= "Shared",type:=24,offset:=2,embedded:=false,tag:= "",pkgPath:= "",byteOffset:=16 },{ name:= "Kind",type:=2,offset:=3,embedded:=false,tag:= "",pkgPath:= "",byteOffset:=24 },{ name:= "Load",type:=26,offset:=4,embedded:=false,tag:= "",pkgPath:= "",byteOffset:=32 },{ name:= "Customers",type:=2,offset:=7,embedded:=false,tag:= "",pkgPath:= "",byteOffset:=56 }]),8,64,.agg #[.int .i64 0,.complex .f32 0 0,.complex .f32 0 0,.int .i64 0,.complex .f32 0 0,.complex .f32 0 0,.complex .f32 0 0,.int .i64 0]⟩
def td41:TD:=⟨(TypeDesc.slice 26),1,24,.slice none 0 0⟩
def td45:TD:=⟨(TypeDesc.struct #[{ name:= "Voltages",type:=41,offset:=0,embedded:=false,tag:= "",pkgPath:= "",byteOffset:=0 },{ name:= "Currents",type:=41,offset:=1,embedded:=false,tag:= "",pkgPath:= "",byteOffset:=24 },{ name:= "Rounds",type:=2,offset:=2,embedded:=false,tag:= "",pkgPath:= "",byteOffset:=48 },{ name:= "Rests",type:=4,offset:=3,embedded:=false,tag:= "",pkgPath:= "",byteOffset:=56 }]),4,64,.agg #[.slice none 0 0,.slice none 0 0,.int .i64 0,.bool false]⟩
def td50:TD:=⟨(TypeDesc.slice 2),1,24,.slice none 0 0⟩
def td67:TD:=⟨(TypeDesc.float FloatKind.f64),1,8,.float .f64 0⟩
def td92:TD:=⟨(TypeDesc.func #[24,24] #[24] false),1,8,.nilFunc⟩
def td94:TD:=⟨(TypeDesc.pointer 148),1,8,.pointer none⟩
def td121:TD:=⟨(TypeDesc.slice 24),1,24,.slice none 0 0⟩
def td122:TD:=⟨(TypeDesc.pointer 40),1,8,.pointer none⟩
def td124:TD:=⟨(TypeDesc.pointer 29),1,8,.pointer none⟩
def td141:TD:=⟨(TypeDesc.int IntKind.u32),1,4,.int .u32 0⟩
def td146:TD:=⟨(TypeDesc.int IntKind.u64),1,8,.int .u64 0⟩
def td148:TD:=⟨(TypeDesc.struct #[{ name:= "code",type:=22,offset:=0,embedded:=false,tag:= "",pkgPath:= "loop.example/g01212/spec",byteOffset:=0 },{ name:= "at",type:=3,offset:=1,embedded:=false,tag:= "",pkgPath:= "loop.example/g01212/spec",byteOffset:=24 },{ name:= "seed",type:=146,offset:=2,embedded:=false,tag:= "",pkgPath:= "loop.example/g01212/spec",byteOffset:=32 }]),3,40,.agg #[.slice none 0 0,.int .i64 0,.int .u64 0]⟩
def td151:TD:=⟨(TypeDesc.func #[3,26] #[26] false),1,8,.nilFunc⟩
def td158:TD:=⟨(TypeDesc.pointer 45),1,8,.pointer none⟩
def td162:TD:=⟨(TypeDesc.array 3 24),3,24,.agg #[.complex .f32 0 0,.complex .f32 0 0,.complex .f32 0 0]⟩
def td179:TD:=⟨(TypeDesc.complex FloatKind.f64),1,16,.complex .f64 0 0⟩
def td183:TD:=⟨(TypeDesc.int IntKind.u64),1,8,.int .u64 0⟩
inductive TT where
  | leaf
  | node (k:Nat) (v:TD) (l r:TT)
def quc:TT→TypeId→Option TD
  | .leaf,_=>none
  | .node k v l r,t=>bif Nat.beq t k then some v else bif Nat.ble t k then quc l t else quc r t
def allT:TT→Prop
  | .leaf=>True
  | .node k v l r=>TiOk k v∧allT l∧allT r
theorem qqm:∀ {x:TT},allT x→qeo prog (quc x)
  | .leaf,_=>fun t td h=>by cases h
  | .node k v l r,h=>fun t td ht=>by
    unfold quc at ht
    cases hk:Nat.beq t k with
    | true =>
      rw [hk] at ht
      simp only [cond_true,Option.some.injEq] at ht
      subst ht
      rw [Nat.eq_of_beq_eq_true hk]
      have h1:=h.1
      unfold TiOk at h1
      exact h1
    | false =>
      rw [hk] at ht
      cases hl:Nat.ble t k with
      | true=>rw [hl] at ht;exact qqm h.2.1 t td ht
      | false=>rw [hl] at ht;exact qqm h.2.2 t td ht
def tabT:TT:=(.node 50 td50 (.node 27 td27 (.node 5 td5 (.node 3 td3 (.node 2 td2 .leaf .leaf) (.node 4 td4 .leaf .leaf)) (.node 24 td24 (.node 22 td22 .leaf .leaf) (.node 26 td26 .leaf .leaf))) (.node 40 td40 (.node 32 td32 (.node 29 td29 .leaf .leaf) (.node 33 td33 .leaf .leaf)) (.node 45 td45 (.node 41 td41 .leaf .leaf) .leaf))) (.node 146 td146 (.node 121 td121 (.node 92 td92 (.node 67 td67 .leaf .leaf) (.node 94 td94 .leaf .leaf)) (.node 124 td124 (.node 122 td122 .leaf .leaf) (.node 141 td141 .leaf .leaf))) (.node 162 td162 (.node 151 td151 (.node 148 td148 .leaf .leaf) (.node 158 td158 .leaf .leaf)) (.node 183 td183 (.node 179 td179 .leaf .leaf) .leaf))))
abbrev tab:Tab:=quc tabT
theorem hτ:qeo prog tab:=qqm (show allT tabT from ⟨tiOk underlying50 ti50,⟨tiOk underlying27 ti27,⟨tiOk underlying5 ti5,⟨tiOk underlying3 ti3,⟨tiOk underlying2 ti2,trivial,trivial⟩,⟨tiOk underlying4 ti4,trivial,trivial⟩⟩,⟨tiOk underlying24 ti24,⟨tiOk underlying22 ti22,trivial,trivial⟩,⟨tiOk underlying26 ti26,trivial,trivial⟩⟩⟩,⟨tiOk underlying40 ti40,⟨tiOk underlying32 ti32,⟨tiOk underlying29 ti29,trivial,trivial⟩,⟨tiOk underlying33 ti33,trivial,trivial⟩⟩,⟨tiOk underlying45 ti45,⟨tiOk underlying41 ti41,trivial,trivial⟩,trivial⟩⟩⟩,⟨tiOk underlying146 ti146,⟨tiOk underlying121 ti121,⟨tiOk underlying92 ti92,⟨tiOk underlying67 ti67,trivial,trivial⟩,⟨tiOk underlying94 ti94,trivial,trivial⟩⟩,⟨tiOk underlying124 ti124,⟨tiOk underlying122 ti122,trivial,trivial⟩,⟨tiOk underlying141 ti141,trivial,trivial⟩⟩⟩,⟨tiOk underlying162 ti162,⟨tiOk underlying151 ti151,⟨tiOk underlying148 ti148,trivial,trivial⟩,⟨tiOk underlying158 ti158,trivial,trivial⟩⟩,⟨tiOk underlying183 ti183,⟨tiOk underlying179 ti179,trivial,trivial⟩,trivial⟩⟩⟩⟩)
theorem mixed:prog.follows .mixedOrders = true:=by kernel_rfl
end Go.Proofs.Ytdnkjocenbepaaa.AWN

namespace Go.Proofs.Ytdnkjocenbepaaa.AWN
open Go
/-! ### Partial values -/
theorem bnd_some {α β:Type} {o:Option α} {f:α→Option β} {r:β} (h:o.bind f = some r):∃ a,o = some a∧f a = some r:=by
  cases o with
  | none=>cases h
  | some a=>exact ⟨a,rfl,h⟩
theorem qac {α β:Type} {o:Option α} {f:α→Option β} {r:β} {C:Prop} (h:o.bind f = some r) (k:∀ a,o = some a→f a = some r→C):C :=
  have ⟨a,h1,h2⟩:=bnd_some h
  k a h1 h2
def grd {α:Type} (p:Prop) [Decidable p] (x:Option α):Option α:=if p then x else none
theorem qt5 {α:Type} {p:Prop} [Decidable p] {x:Option α} {r:α} (h:grd p x = some r):p∧x = some r:=by
  unfold grd at h
  split at h
  · rename_i hp;exact ⟨hp,h⟩
  · cases h
theorem qd6 {α:Type} {p:Prop} [Decidable p] {x:Option α} {r:α} {C:Prop} (h:grd p x = some r) (k:p→x = some r→C):C:=k (qt5 h).1 (qt5 h).2
def getI {α:Type} (l:List α) (i:Int):Option α:=if 0 ≤ i then l[i.toNat]? else none
theorem qd3 {α:Type} {l:List α} {i:Int} {x:α} (h:getI l i = some x):0 ≤ i∧l[i.toNat]? = some x:=by
  unfold getI at h
  split at h
  · rename_i hp;exact ⟨hp,h⟩
  · cases h
theorem if_t {α:Type} {p:Prop} [Decidable p] {x y:Option α} {r:α} (h:(if p then x else y) = some r) (hc:decide p = true):x = some r:=by
  rw [if_pos (of_decide_eq_true hc)] at h;exact h
theorem if_f {α:Type} {p:Prop} [Decidable p] {x y:Option α} {r:α} (h:(if p then x else y) = some r) (hc:decide p = false):y = some r:=by
  rw [if_neg (of_decide_eq_false hc)] at h;exact h
theorem qcq {α:Type} {b:Bool} {x y:Option α} {r:α} (h:(if b = true then x else y) = some r) (hc:b = true):x = some r:=by
  rw [if_pos hc] at h;exact h
theorem qcp {α:Type} {b:Bool} {x y:Option α} {r:α} (h:(if b = true then x else y) = some r) (hc:b = false):y = some r:=by
  rw [if_neg (by rw [hc];decide)] at h;exact h
theorem qhn {b:Bool} (h:(!b) = true):b = false:=by cases b <;> simp_all
theorem qhm {b:Bool} (h:(!b) = false):b = true:=by cases b <;> simp_all
def room (n b:Nat):Prop:=n * b ≤ 140737488355328
instance (n b:Nat):Decidable (room n b):=by unfold room;infer_instance
abbrev w64 (n:Int):Int:=IntKind.wrap .i64 n
structure Cx where
  re:Nat
  im:Nat
deriving DecidableEq
/-! ### Lists of cells -/
section
variable {α:Type} {f:α→List D}
theorem map_get {l:List α} {k:Nat} {x:α} (h:l[k]? = some x):(l.map f)[k]? = some (f x):=by simp [h]
theorem qeu {l:List α} {i:Int} {x:α} (h:getI l i = some x):(l.map f)[i.toNat]? = some (f x):=map_get (qd3 h).2
theorem qb5 (l:List α):(l.map f).length = l.length:=List.length_map ..
theorem qe0 {l:List α} {i:Int} {x:α} (h:getI l i = some x):(l.map f)[0 + i.toNat]? = some (f x):=by rw [Nat.zero_add];exact qeu h
theorem qdb {l:List α} {i:Int} {x:α} (h:getI l i = some x):0 ≤ i∧i < (l.length:Int)∧0 + l.length ≤ l.length∧(l.map f).length = l.length:=by
  obtain ⟨h1,h2⟩:=qd3 h
  have h3:i.toNat < l.length:=by
    rcases Nat.lt_or_ge i.toNat l.length with h4 | h4
    · exact h4
    · rw [List.getElem?_eq_none h4] at h2;cases h2
  refine ⟨h1,by omega,by omega,qb5 l⟩
theorem qkb {sz:Nat} (hf:∀ x,(f x).length = sz) (l:List α):∀ y ∈ l.map f,y.length = sz:=by
  intro y hy
  obtain ⟨x,_,rfl⟩:=List.mem_map.1 hy
  exact hf x
theorem qr1 {L:Nat} (l:List α) (h:l.length = L):((l.map f).drop 0).take L = l.map f:=by
  subst h;simp [List.take_of_length_le]
end
theorem qcc {α β:Type} {f:α→Option β}:mapO f [] = some []:=rfl
theorem qaj {α β:Type} {f:α→Option β} {x:α} {l:List α} {y:β} {r:List β} (h:f x = some y) (h':mapO f l = some r):mapO f (x :: l) = some (y :: r):=by
  unfold mapO;rw [h,h']
section
variable {ρ:Nat→Option Nat} {H:Nat→AObj} {α:Type} {f:α→List D}
theorem qit {j sz L:Nat} (l:List α) (hr:ρ j = none) (hj:H j = .row sz (l.map f)) (hL:L = l.length):exC ρ H true (.row j L 0 L) = some (.d (.sl false (l.map f))):=by
  subst hL
  simp only [exC,hr,hj]
  rw [qr1 l rfl]
theorem qiv {j sz L:Nat} (l:List α) (hr:ρ j = none) (hj:H j = .row sz (l.map f)) (hL:L = l.length):exV ρ H true (.row j L 0 L) = some (.d (.sl false (l.map f))):=qit l hr hj hL
theorem qiu {j sz L:Nat} (l:List α) (hr:ρ j = none) (hj:H j = .row sz (l.map f)) (hL:L = l.length):exP ρ H (.row j L 0 L):=by
  subst hL
  simp [exP,hr,hj]
theorem qhq {j sz L:Nat} (l:List α) (hr:ρ j = none) (hj:H j = .row sz (l.map f)) (hL:L = l.length):exVP ρ H (.row j L 0 L):=qiu l hr hj hL
theorem exA_agg {cs ds:List V} (h:mapO (exC ρ H true) cs = some ds):exA ρ H true (.agg cs) = some (.agg ds):=by simp only [exA,h]
theorem qn0 {cs ds:List V} (h:mapO (exC ρ H true) cs = some ds):exV ρ H true (.agg cs) = some (.agg ds):=exA_agg h
theorem qkc {cs ds:List V} (h:mapO (exC ρ H true) cs = some ds):exO ρ H true (.box cs) = some (.box ds):=by simp only [exO,h]
end
/-! ### Relaxed states -/
inductive DLe:D→D→Prop where
  | refl (x:D):DLe x x
  | nil:DLe .nils (.sl false [])
  | flag (t:Bool) (es:List (List D)):DLe (.sl t es) (.sl false es)
theorem RelD.le {W:World} {ok:Nat→Prop} {x y:D} {v:Value} (h:DLe x y) (hr:RelD W ok x v):RelD W ok y v:=by
  cases h with
  | refl=>exact hr
  | nil=>cases hr;exact .slnil false
  | flag t es =>
    cases hr with
    | slnil=>exact .slnil false
    | sle t a=>exact .sle false a
    | sl sz vals h1 h2 h3 h4 h5 h6 h7 h8=>exact .sl sz vals h1 h2 h3 (fun h=>nomatch h) h5 h6 h7 h8
inductive CLe (g:Nat→Prop):V→V→Prop where
  | refl (x:V):CLe g x x
  | d {x y:D}:DLe x y→CLe g (.d x) (.d y)
  | ghost {j:Nat}:g j→CLe g (.d .nils) (.row j 0 0 0)
  | junk (x:V):CLe g x .junk
inductive LLe (g:Nat→Prop):List V→List V→Prop where
  | nil:LLe g [] []
  | cons {x y:V} {l r:List V}:CLe g x y→LLe g l r→LLe g (x :: l) (y :: r)
inductive VLe (g:Nat→Prop):V→V→Prop where
  | c {x y:V}:CLe g x y→VLe g x y
  | agg {l r:List V}:LLe g l r→VLe g (.agg l) (.agg r)
inductive OLe (g:Nat→Prop):AObj→AObj→Prop where
  | refl (o:AObj):OLe g o o
  | box {l r:List V}:LLe g l r→OLe g (.box l) (.box r)
inductive ELe (g:Nat→Prop):List (Nat × V)→List (Nat × V)→Prop where
  | nil:ELe g [] []
  | cons {t:Nat} {x y:V} {l r:List (Nat × V)}:VLe g x y→ELe g l r→ELe g ((t,x) :: l) ((t,y) :: r)
inductive HLe (g:Nat→Prop):List AObj→List AObj→Prop where
  | nil:HLe g [] []
  | cons {x y:AObj} {l r:List AObj}:OLe g x y→HLe g l r→HLe g (x :: l) (y :: r)
theorem LLe.len {g:Nat→Prop} {l r:List V} (h:LLe g l r):l.length = r.length:=by
  induction h with
  | nil=>rfl
  | cons _ _ ih=>simp [ih]
theorem HLe.len {g:Nat→Prop} {l r:List AObj} (h:HLe g l r):l.length = r.length:=by
  induction h with
  | nil=>rfl
  | cons _ _ ih=>simp [ih]
theorem LLe.get {g:Nat→Prop} {l r:List V} (h:LLe g l r):∀ i,CLe g (l.getD i .junk) (r.getD i .junk):=by
  induction h with
  | nil=>intro i;exact .refl _
  | cons h _ ih =>
    intro i
    cases i with
    | zero=>simpa using h
    | succ i=>simpa using ih i
theorem HLe.get {g:Nat→Prop} {l r:List AObj} (h:HLe g l r):∀ i,OLe g (l.getD i .none) (r.getD i .none):=by
  induction h with
  | nil=>intro i;exact .refl _
  | cons h _ ih =>
    intro i
    cases i with
    | zero=>simpa using h
    | succ i=>simpa using ih i
structure qr6 (g:Nat→Prop) (hb:Handle) (H:Nat→AObj):Prop where
  row:∀ j,g j→∃ sz,H j = .row sz []
  none:∀ j,g j→hb j = none
section
variable {W:World} {hb:Handle} {H:Nat→AObj} {ok:Nat→Prop} {g:Nat→Prop}
theorem qsm (G:qr6 g hb H) {x y:V} {v:Value} (h:CLe g x y) (hr:Rel W hb H ok x v):Rel W hb H ok y v:=by
  cases h with
  | refl=>exact hr
  | d h=>cases hr with | d hr=>exact .d (hr.le h)
  | ghost h =>
    cases hr with
    | d hr =>
      cases hr
      obtain ⟨sz,e⟩:=G.row _ h
      exact .rowNil e (G.none _ h)
  | junk=>exact .junk _
theorem qus (G:qr6 g hb H) {cs ds:List V} {c:Array Value} (h:LLe g cs ds) (hr:cs.length = c.size∧∀ i,i < c.size→Rel W hb H ok (cs.getD i .junk) (c.getD i undef)):ds.length = c.size∧∀ i,i < c.size→Rel W hb H ok (ds.getD i .junk) (c.getD i undef) :=
  ⟨h.len ▸ hr.1,fun i hi=>qsm G (h.get i) (hr.2 i hi)⟩
theorem qut (G:qr6 g hb H) {x y:V} {v:Value} (h:VLe g x y) (hr:Rel W hb H ok x v):Rel W hb H ok y v:=by
  cases h with
  | c h=>exact qsm G h hr
  | agg h=>cases hr with | agg h1 h2=>exact .agg (qus G h ⟨h1,h2⟩).1 (qus G h ⟨h1,h2⟩).2
theorem rel_ele (G:qr6 g hb H) {a:Act}:∀ {l r:List (Nat × V)},ELe g l r→(∀ t,Rel W hb H ok (look l t) (a.tmps.getD t undef))→∀ t,Rel W hb H ok (look r t) (a.tmps.getD t undef):=by
  intro l r h
  induction h with
  | nil=>exact fun h=>h
  | @cons k x y l r hv _ ih =>
    intro hr t
    have hk:=hr t
    unfold look at hk ⊢
    cases hb':Nat.beq k t with
    | true=>rw [hb'] at hk;exact qut G hv hk
    | false =>
      rw [hb'] at hk
      -- look in the rest
      have:∀ u,Rel W hb H ok (if Nat.beq k u then .junk else look l u) (a.tmps.getD u undef):=fun u=>by
        have:=hr u
        unfold look at this
        cases hu:Nat.beq k u with
        | true=>simp only [if_true];exact .junk _
        | false=>rw [hu] at this;simpa using this
      clear ih hr
      have go:∀ {l r:List (Nat × V)},ELe g l r→∀ u,Rel W hb H ok (look l u) (a.tmps.getD u undef)→Rel W hb H ok (look r u) (a.tmps.getD u undef):=by
        intro l r h
        induction h with
        | nil=>exact fun _ h=>h
        | @cons k x y l r hv _ ih =>
          intro u hu
          unfold look at hu ⊢
          cases hb2:Nat.beq k u with
          | true=>rw [hb2] at hu;exact qut G hv hu
          | false=>rw [hb2] at hu;exact ih u hu
      rename_i hl
      exact go hl t hk
end
end Go.Proofs.Ytdnkjocenbepaaa.AWN

namespace Go.Proofs.Ytdnkjocenbepaaa.AWN
open Go
theorem qof {objs:List AObj} {j:Nat} (h:objs.length ≤ j):qav objs j = .none:=by
  unfold qav;rw [List.getD_eq_getElem?_getD,List.getElem?_eq_none h];rfl
theorem heapOf_l {a b:List AObj} {j:Nat} (h:j < a.length):qav (a ++ b) j = qav a j:=by
  unfold qav;rw [List.getD_eq_getElem?_getD,List.getD_eq_getElem?_getD,List.getElem?_append_left h]
theorem qt6 {a b:List AObj} {j:Nat} (h:a.length ≤ j):qav (a ++ b) j = qav b (j - a.length):=by
  unfold qav;rw [List.getD_eq_getElem?_getD,List.getD_eq_getElem?_getD,List.getElem?_append_right h]
def qgz (gs:List Nat):List AObj:=gs.map fun sz=>.row sz []
theorem qhl (gs:List Nat) {l l':List (Nat × V)} {objs objs':List AObj} {nt base:Nat} (hE:ELe (fun j=>objs.length ≤ j∧j < objs.length + gs.length) l l') (hH:HLe (fun j=>objs.length ≤ j∧j < objs.length + gs.length) objs objs') :
    Weak (St.of l objs nt base) (St.of l' (objs' ++ qgz gs) nt base):=by
  intro w0 A okA hb a W hs
  have hlen:=hH.len
  let g:Nat→Prop:=fun j=>objs.length ≤ j∧j < objs.length + gs.length
  let hb2:Handle:=fun j=>if j < objs.length then hb j else none
  have hbl:∀ j,j < objs.length→hb2 j = hb j:=fun j hj=>by show (if _ then _ else _) = _;rw [if_pos hj]
  have hbg:∀ j,objs.length ≤ j→hb2 j = none:=fun j hj=>by show (if _ then _ else _) = _;rw [if_neg (by omega)]
  have hh:=hs.heap
  have e1:(St.of l objs nt base).heap = qav objs:=rfl
  have e2:(St.of l objs nt base).next = objs.length:=rfl
  rw [e1,e2] at hh
  have hnone:∀ j,objs.length ≤ j→qav objs j = .none:=fun j hj=>qof hj
  have H2l:∀ j,j < objs.length→qav (objs' ++ qgz gs) j = qav objs' j:=fun j hj=>heapOf_l (by omega)
  have H2g:∀ j,objs.length ≤ j→(g j∧∃ sz,qav (objs' ++ qgz gs) j = .row sz []) ∨ qav (objs' ++ qgz gs) j = .none:=by
    intro j hj
    rw [qt6 (by omega)]
    by_cases hlt:j - objs'.length < gs.length
    · left
      refine ⟨⟨hj,by omega⟩,gs[j - objs'.length],?_⟩
      unfold qav qgz
      simp [hlt]
    · right;exact qof (by simp [qgz];omega)
  have ole:∀ j,OLe g (qav objs j) (qav objs' j):=fun j=>hH.get j
  have good:∀ b,okF w0 okA hb (qav objs) W b→okF w0 okA hb2 (qav (objs' ++ qgz gs)) W b:=by
    intro b ⟨h1,h2,h3⟩
    refine ⟨h1,h2,fun j hj=>?_⟩
    by_cases hjl:j < objs.length
    · rw [hbl j hjl]
      refine h3 j fun hn=>hj ?_
      rw [H2l j hjl]
      have:=ole j
      rw [hn] at this
      cases h:qav objs' j with
      | none=>rfl
      | _=>rw [h] at this;cases this
    · rw [hbg j (by omega)];exact fun h=>nomatch h
  have mv:qez W W hb hb2 (qav objs) (qav (objs' ++ qgz gs)) (okF w0 okA hb (qav objs) W) (okF w0 okA hb2 (qav (objs' ++ qgz gs)) W) :=
    { good:=good,cell:=fun b o v _ h=>h,
      box:=fun j cs hj=>by
        have hjl:j < objs.length:=by
          rcases Nat.lt_or_ge j objs.length with h | h
          · exact h
          · rw [hnone j h] at hj;cases hj
        have:=ole j
        rw [hj] at this
        rw [H2l j hjl,hbl j hjl]
        cases h:qav objs' j with
        | box cs'=>exact ⟨cs',rfl,rfl⟩
        | none=>rw [h] at this;cases this
        | row sz es=>rw [h] at this;cases this
        | map kk es=>rw [h] at this;cases this
      row:=fun j sz es hj=>by
        have hjl:j < objs.length:=by
          rcases Nat.lt_or_ge j objs.length with h | h
          · exact h
          · rw [hnone j h] at hj;cases hj
        have:=ole j
        rw [hj] at this
        rw [H2l j hjl,hbl j hjl]
        generalize qav objs' j = z at *
        cases this
        exact ⟨es,rfl,Nat.le_refl _,fun _=>⟨rfl,fun _ _ _ h=>h⟩⟩
      map:=fun j kk es hj=>by
        have hjl:j < objs.length:=by
          rcases Nat.lt_or_ge j objs.length with h | h
          · exact h
          · rw [hnone j h] at hj;cases hj
        have:=ole j
        rw [hj] at this
        rw [H2l j hjl,hbl j hjl]
        generalize qav objs' j = z at *
        cases this
        exact ⟨es,rfl,rfl⟩ }
  have G:qr6 g hb2 (qav (objs' ++ qgz gs)) :=
    ⟨fun j hj=>by
      rcases H2g j hj.1 with h | h
      · exact h.2
      · exfalso
        rw [qt6 (by have:=hj.1;omega)] at h
        unfold qav qgz at h
        have h1:=hj.1
        have h2:=hj.2
        have hlt:j - objs'.length < gs.length:=by omega
        simp [hlt] at h,fun j hj=>hbg j hj.1⟩
  refine ⟨hb2,hs.defers,hs.size,?_,?_,hs.base⟩
  · exact rel_ele G hE (fun t=>(hs.env t).mono mv)
  · refine { obj:=?_,inj:=?_,hnd:=?_,fresh:=?_,ext:=hh.ext,keep:=hh.keep.trans mv.toMovesR,lay:=hh.lay }
    · intro j
      by_cases hjl:j < objs.length
      · have hj:=hh.obj j
        unfold qfz at hj ⊢
        show match qav (objs' ++ qgz gs) j with
          | .none=>True
          | .box cs=>_
          | .row sz es=>_
          | .map k es=>_
        rw [H2l j hjl]
        have ho:=ole j
        generalize qav objs' j = z at *
        cases hz:qav objs j with
        | none=>rw [hz] at ho;cases ho;trivial
        | row sz es =>
          rw [hz] at ho hj
          cases ho
          simp only at hj ⊢
          obtain ⟨h0,hj⟩:=hj
          refine ⟨h0,?_⟩
          rcases hj with ⟨e1,e2⟩ | ⟨b,vals,T,fr,h1,h2,h3,h4,h5⟩
          · exact .inl ⟨e1,by rw [hbl j hjl];exact e2⟩
          · exact .inr ⟨b,vals,T,fr,by rw [hbl j hjl];exact h1,h2,h3,h4,fun i c hi hc=>(h5 i c hi hc).mono mv.toMoves⟩
        | map kk es =>
          rw [hz] at ho hj
          cases ho
          simp only at hj ⊢
          obtain ⟨b,ents,cl,h1,h2,h3,h4⟩:=hj
          exact ⟨b,ents,cl,by rw [hbl j hjl];exact h1,h2,h3,fun i e x he hx=>⟨(h4 i e x he hx).1,(h4 i e x he hx).2.mono mv.toMoves⟩⟩
        | box cs =>
          rw [hz] at ho hj
          simp only at hj
          obtain ⟨b,vals,T,fr,h1,h2,h3,h4,h5,h6⟩:=hj
          have key:∀ ds,LLe g cs ds→qvu W hb2 (qav (objs' ++ qgz gs)) (okF w0 okA hb2 (qav (objs' ++ qgz gs)) W) j ds:=fun ds hd =>
            ⟨b,vals,T,fr,by rw [hbl j hjl];exact h1,h2,by rw [h3,hd.len],h4,h5,fun i hi=>qsm G (hd.get i) ((h6 i hi).mono mv)⟩
          cases ho with
          | refl =>
            have rfl':∀ cs:List V,LLe g cs cs:=fun cs=>by
              induction cs with
              | nil=>exact .nil
              | cons x r ih=>exact .cons (.refl x) ih
            exact key _ (rfl' _)
          | box hl=>exact key _ hl
      · unfold qfz
        show match qav (objs' ++ qgz gs) j with
          | .none=>True
          | .box cs=>_
          | .row sz es=>_
          | .map k es=>_
        rcases H2g j (by omega) with ⟨_,sz,h⟩ | h
        · rw [h];exact ⟨fun e he=>(nomatch he),.inl ⟨rfl,hbg j (by omega)⟩⟩
        · rw [h];trivial
    · intro i j b hi hj hbi hbj
      have hil:i < objs.length:=by
        rcases Nat.lt_or_ge i objs.length with h | h
        · exact h
        · rw [hbg i h] at hbi;cases hbi
      have hjl:j < objs.length:=by
        rcases Nat.lt_or_ge j objs.length with h | h
        · exact h
        · rw [hbg j h] at hbj;cases hbj
      have nn:∀ i,i < objs.length→(St.of l' (objs' ++ qgz gs) nt base).heap i ≠ .none→qav objs i ≠ .none:=by
        intro i hil hi hn
        apply hi
        show qav (objs' ++ qgz gs) i = .none
        rw [H2l i hil]
        have:=ole i
        rw [hn] at this
        generalize qav objs' i = z at *
        cases this;rfl
      rw [hbl i hil] at hbi
      rw [hbl j hjl] at hbj
      exact hh.inj i j b (nn i hil hi) (nn j hjl hj) hbi hbj
    · intro j b hj hbj
      have hjl:j < objs.length:=by
        rcases Nat.lt_or_ge j objs.length with h | h
        · exact h
        · rw [hbg j h] at hbj;cases hbj
      rw [hbl j hjl] at hbj
      refine hh.hnd j b (fun hn=>hj ?_) hbj
      show qav (objs' ++ qgz gs) j = .none
      rw [H2l j hjl]
      have:=ole j
      rw [hn] at this
      generalize qav objs' j = z at *
      cases this;rfl
    · intro j hj
      exact qof hj
end Go.Proofs.Ytdnkjocenbepaaa.AWN

namespace Go.Proofs.Ytdnkjocenbepaaa.AWN
open Go
section
variable {P:Program} {σ:St} {Q:Exit→St→Prop}
theorem qc7 {ι:Type} {x y:Code} (inv:ι→St) (I:ι→Prop) (hk:∀ s,I s→AW P y (inv s) Q) (h:(∀ s,I s→AW P y (inv s) Q)→AW P (.seq x y) σ Q):AW P (.seq x y) σ Q:=h hk
end
/-! ### Calls with values that say less -/
/-! ### Flat results -/
theorem qao:∀ o ∈ ([]:List AObj),o.flat:=fun _ h=>nomatch h
theorem qcr {o:AObj} {l:List AObj} (h:o.flat) (h':∀ o ∈ l,o.flat):∀ p ∈ o :: l,p.flat:=fun p hp=>by
  rcases List.mem_cons.1 hp with rfl | hp
  · exact h
  · exact h' p hp
theorem qfl {α:Type} {f:α→List D} {sz:Nat} (hf:∀ x,∀ c ∈ f x,c.flat) (l:List α):(AObj.row sz (l.map f)).flat:=by
  intro e he c hc
  obtain ⟨x,_,rfl⟩:=List.mem_map.1 he
  exact hf x c hc
/-! ### Values written otherwise -/
section
variable {α:Type} {f:α→List D} {H:Nat→AObj} {n j sz:Nat} {p:Prop}
theorem or_append (l zs:List α) {ys:List (List D)} (hys:ys = zs.map f):OR.needH p (.row j (l.length + ys.length) 0 (l.length + ys.length)) (upd H j (.row sz (l.map f ++ ys))) n = OR.needH p (.row j (l ++ zs).length 0 (l ++ zs).length) (upd H j (.row sz ((l ++ zs).map f))) n:=by
  subst hys;simp
theorem qlu {a b:Nat} {zs:List α} (h:room (a + zs.length) b):(a + (zs.map f).length) * b ≤ 140737488355328:=by rw [qb5];exact h
theorem all1 {e:List D} (h:e.length = sz):∀ y ∈ [e],y.length = sz:=by
  intro y hy;rw [List.mem_singleton.1 hy];exact h
theorem qs3 {l:List α} {i:Int} {x:α} {L:Nat} (h:getI l i = some x) (hL:l.length = L):0 ≤ i∧i < (L:Int)∧0 + L ≤ L∧(l.map f).length = L:=by
  subst hL;exact qdb h
theorem qfx (l:List α):OR.val (.d (.int .i64 ((l.map f).length:Int))) = OR.val (.d (.int .i64 (l.length:Int))):=by rw [qb5]
theorem qn6 {k:Nat} {x:α} {ds:List D} (h:ds = f x):OR.needH p (.row n k 0 k) (upd H n (.row sz (List.replicate k ds))) (n + 1) = OR.needH p (.row n (List.replicate k x).length 0 (List.replicate k x).length) (upd H n (.row sz ((List.replicate k x).map f))) (n + 1):=by
  subst h;simp
theorem qki {z:Int} {b:Nat} (h:0 ≤ z∧room z.toNat b) (hb:0 < b):0 ≤ z∧z = z∧z * b ≤ 140737488355328∧0 < b:=by
  refine ⟨h.1,rfl,?_,hb⟩
  have h2:z.toNat * b ≤ 140737488355328:=h.2
  have e:((z.toNat:Nat):Int) = z:=by omega
  have h3:((z.toNat * b:Nat):Int) ≤ 140737488355328:=by omega
  rw [Int.natCast_mul,e] at h3;exact h3
theorem qge {s k:FloatKind} {x y:Nat} (h:qgo s k x = some y):(match qgo s k x with
    | some r=>OR.val (.d (.fl k r))
    | none=>OR.pick (fun r=>r < 2 ^ k.format.width) (fun r=>.d (.fl k (canon k r)))) = OR.val (.d (.fl k y)):=by rw [h]
theorem qhu (x y:Int):OR.val (.d (.bool (x == y))) = OR.val (.d (.bool (decide (x = y)))):=rfl
theorem qru (x y:Int):OR.val (.d (.bool (x != y))) = OR.val (.d (.bool (!(decide (x = y))))):=rfl
end
section
variable {ρ:Nat→Option Nat} {H:Nat→AObj} {sn:Bool}
theorem qk4 {j i L L':Nat} (h:ρ j = some i) (hL:L = L'):exC ρ H sn (.row j L 0 L) = some (.row i L' 0 L'):=by
  subst hL;simp only [exC,h]
theorem qlp {j i L L':Nat} (h:ρ j = some i) (hL:L = L'):exV ρ H sn (.row j L 0 L) = some (.row i L' 0 L'):=qk4 h hL
end
/-! ### Texts -/
def sub {α:Type} (l:List α) (a b:Int):List α:=(l.drop a.toNat).take (b.toNat - a.toNat)
/-! ### Parts of lists -/
section
variable {α:Type} {f:α→List D}
theorem quj (l:List α) (a b:Nat):((l.map f).drop a).take b = ((l.drop a).take b).map f:=by rw [List.map_take,List.map_drop]
theorem qj9 {H:Nat→AObj} {j sz:Nat} {l:List α} {i:Int} {y:α} {d:List D} (h:d = f y):(some (upd H j (.row sz ((l.map f).set (0 + i.toNat) d))):Option (Nat→AObj)) = some (upd H j (.row sz ((l.set i.toNat y).map f))):=by
  subst h;rw [Nat.zero_add,List.map_set]
theorem map_set {l:List α} {k:Nat} {y:α}:(l.map f).set k (f y) = (l.set k y).map f:=by rw [List.map_set]
end
end Go.Proofs.Ytdnkjocenbepaaa.AWN

namespace Go.Proofs.Ytdnkjocenbepaaa.AWN
open Go
def qmu (P:Program) (k:FuncId) (args:List V) (v:V):Prop :=
  ∀ (W:World) (hb:Handle) (H:Nat→AObj) (ok:Nat→Prop) (vals:Array Value),RelL W hb H ok args vals→∃ cv W',(callFunc k vals).run P W = .ok (.value cv) W'∧qb1 W W'∧Rel W hb H ok v cv
theorem qsf {P:Program} {k:FuncId} {fn:Func} {e:Array Value→Sem Value} {args:List V} {v:V} (hf:P.funcs[k]? = some fn) (hn:(fn.name == "runtime.NumGoroutine") = false) (hb:fn.body.isNone = true) (h1:Extern.findNext fn = none) (h2:Extern.find fn = some e)
    (h:∀ (W:World) (hb:Handle) (H:Nat→AObj) (ok:Nat→Prop) (vals:Array Value),RelL W hb H ok args vals→∃ cv W',(e vals).run P W = .ok cv W'∧qb1 W W'∧Rel W hb H ok v cv):qmu P k args v:=by
  intro W hb' H ok vals hr
  obtain ⟨cv,W',hc,hm,hv⟩:=h W hb' H ok vals hr
  refine ⟨cv,W',?_,hm,hv⟩
  simp only [callFunc,Sem.run_bind,run_program,Result.andThen_ok,hf,hn,hb,h1,h2,if_true,run_mark,Bool.false_eq_true,if_false,Sem.run_map,hc,Sem.run_pure]
section
variable {P:Program} {τ:Tab} {σ σ0:St} {ops:Array Oper} {rest:List Oper} {o:Oper} {Q:Exit→St→Prop} {id:List FR} {G:Prop} {rl:List Rec}
theorem ext_does (hτ:qeo P τ) {k:FuncId} {args:List V} {v:V} (h:qbn τ σ o.op = .call k args) (hx:qmu P k args v) {w0:World} {A:Args} {okA:Nat→Prop} {hb:Handle} {a:Act} {W:World} (hs:Sim w0 A okA hb σ a W) :
    Does P o a W (fun cv W'=>qb1 W W'∧RelS w0 okA hb σ.heap W v cv):=by
  have ho:=qf9 hτ hs o
  rw [h] at ho
  obtain ⟨vals,hrun,hrel⟩:=ho
  obtain ⟨cv,W',h1,h2,h3⟩:=hx W hb σ.heap _ vals hrel
  exact ⟨cv,W',.inl (by rw [hrun,h1]),h2,h3⟩
theorem qsb (hτ:qeo P τ) {k:FuncId} {args:List V} {v:V} (hw:qcf ops σ o = some true) (hd:qga σ o.dst = true) (h:qbn τ σ o.op = .call k args) (hx:qmu P k args v) (hK:AWL P ops rest (σ.putO o.dst v) Q):AWL P ops (o :: rest) σ Q :=
  qgd hw fun w0 A okA hb a W hs=>by
    obtain ⟨cv,W',hrun,s,hr⟩:=ext_does hτ h hx hs
    exact ⟨cv,W',hrun,hK w0 A okA hb _ W' (qgm (hs.same s) (hr.same s) _ hd)⟩
end
/-! ### Words of floats -/
theorem qtf {W:World} {hb:Handle} {H:Nat→AObj} {ok:Nat→Prop} {x:V} {vals:Array Value} (h:RelL W hb H ok [x] vals):∃ v,vals = #[v]∧Rel W hb H ok x v:=by
  obtain ⟨h1,h2⟩:=h
  refine ⟨vals[0]'(by simp at h1;omega),?_,?_⟩
  · apply Array.ext
    · simp at h1 ⊢;omega
    · intro i hi hj
      simp at hj
      subst hj;rfl
  · have:=h2 0 (by simp at h1;omega)
    have h0:0 < vals.size:=by simp at h1;omega
    simpa [Array.getD_eq_getD_getElem?,h0] using this
theorem qng {P:Program} {k:FloatKind} {i:IntKind} {e:Array Value→Sem Value} (he:∀ n:Int,e #[.int i n] = pure (.float k n.toNat)) {n:Int} (hn:n.toNat < 2 ^ k.format.width) {W:World} {hb:Handle} {H:Nat→AObj} {ok:Nat→Prop} {vals:Array Value}
    (h:RelL W hb H ok [.d (.int i n)] vals):∃ cv W',(e vals).run P W = .ok cv W'∧qb1 W W'∧Rel W hb H ok (.d (.fl k (canon k n.toNat))) cv:=by
  obtain ⟨v,rfl,hr⟩:=qtf h
  obtain rfl:=qho hr
  exact ⟨.float k n.toNat,W,by rw [he];rfl,qb1.refl W,qpf rfl hn⟩
def qk2 (x:Nat):Nat:=(FloatKind.f64.format.sqrt x).getD (qnan .f64)
theorem root_not_nan {n:Nat} {a d:Ieee.Datum} (h:a.root n = some d):d.isNaN = false:=by
  cases a with
  | nan s t=>cases h
  | infinity s =>
    simp only [Ieee.Datum.root] at h
    split at h
    · cases h
    · simp only [Option.some.injEq] at h;subst h;rfl
  | number s m i =>
    simp only [Ieee.Datum.root] at h
    split at h
    · simp only [Option.some.injEq] at h;subst h;rfl
    · split at h
      · cases h
      · simp only [Option.some.injEq] at h;subst h;rfl
theorem sqrt_run {P:Program} {x:Nat} {W:World} {hb:Handle} {H:Nat→AObj} {ok:Nat→Prop} {vals:Array Value}
    (h:RelL W hb H ok [.d (.fl .f64 x)] vals):∃ cv W',(Extern.MathSqrt.sqrt vals).run P W = .ok cv W'∧qb1 W W'∧Rel W hb H ok (.d (.fl .f64 (qk2 x))) cv:=by
  obtain ⟨v,rfl,hr⟩:=qtf h
  obtain ⟨b,rfl,h1,h2⟩:=qnn hr
  have hsame:FloatKind.f64.format.sqrt b = FloatKind.f64.format.sqrt x:=by
    cases hn:isnan .f64 b with
    | false=>rw [← h1,qd5 hn]
    | true =>
      obtain ⟨s,t,e⟩:=qh4 hn
      obtain ⟨s',t',e'⟩:=qh4 (show isnan .f64 x = true by rw [← h1,qi0,hn])
      unfold Ieee.Format.sqrt
      rw [e,e'];rfl
  have e:Extern.MathSqrt.sqrt #[.float .f64 b] = (match FloatKind.f64.format.sqrt b with
    | some r=>pure (.float .f64 r)
    | none=>do pure (.float .f64 (← choose (.nanBits .f64 b b)))):=rfl
  rw [e]
  unfold qk2
  rw [← hsame]
  cases hq:FloatKind.f64.format.sqrt b with
  | some r =>
    have hr':isnan .f64 r = false∧r < 2 ^ FloatKind.f64.format.width:=by
      unfold Ieee.Format.sqrt at hq
      cases hd:(FloatKind.f64.format.read b).root (FloatKind.f64.format.fractionBits + 2) with
      | none=>rw [hd] at hq;cases hq
      | some d =>
        rw [hd] at hq
        simp only [Option.map_some,Option.some.injEq] at hq
        subst hq
        exact ⟨qii .f64 d (root_not_nan hd),FloatKind.f64.format.write_lt d⟩
    exact ⟨.float .f64 r,W,rfl,qb1.refl W,qpf (qd5 hr'.1) hr'.2⟩
  | none =>
    obtain ⟨r,W',g1,g2,g3,g4⟩:=qmw P W (.nanBits .f64 b b) .f64 (.inl ⟨_,_,rfl⟩)
    refine ⟨.float .f64 r,W',?_,g2,qpf (qi4 g3) g4⟩
    simp only [Sem.run_bind,g1,Result.andThen_ok,Sem.run_pure]
end Go.Proofs.Ytdnkjocenbepaaa.AWN

namespace Go.Proofs.Ytdnkjocenbepaaa.AWN
open Go
def XOwes (P:Program) (σ:St) (o:Oper) (r:OR):Prop:=∀ w0 A okA hb a W,Sim w0 A okA hb σ a W→Owes P w0 A okA hb σ a W o r
def XSt (P:Program) (ops:Array Oper) (σ:St) (o:Oper) (r:OR):Prop:=∀ σ',(∀ t ∈ opT o.op,σ'.env t = σ.env t)→σ'.heap = σ.heap→XOwes P σ' o r
section
variable {P:Program} {τ:Tab} {σ σ0:St} {ops:Array Oper} {rest:List Oper} {o:Oper} {Q:Exit→St→Prop} {id:List FR} {G:Prop} {rl:List Rec}
theorem qw7 {v:V} (hw:qcf ops σ o = some true) (hd:qga σ o.dst = true) (hx:XSt P ops σ o (.val v)) (hK:AWL P ops rest (σ.putO o.dst v) Q):AWL P ops (o :: rest) σ Q :=
  qgd hw fun w0 A okA hb a W hs=>by
    obtain ⟨cv,W',hrun,s,hr⟩:=hx σ (fun _ _=>rfl) rfl w0 A okA hb a W hs
    exact ⟨cv,W',hrun,hK w0 A okA hb _ W' (qgm (hs.same s) (hr.same s) _ hd)⟩
theorem qrb {R:Nat→Prop} {k:Nat→V} (hw:qcf ops σ o = some true) (hd:qga σ o.dst = true) (hx:XSt P ops σ o (.pick R k)) (hK:∀ r,R r→AWL P ops rest (σ.putO o.dst (k r)) Q):AWL P ops (o :: rest) σ Q :=
  qgd hw fun w0 A okA hb a W hs=>by
    obtain ⟨cv,W',hrun,r,hR,s,hr⟩:=hx σ (fun _ _=>rfl) rfl w0 A okA hb a W hs
    exact ⟨cv,W',hrun,hK r hR w0 A okA hb _ W' (qgm (hs.same s) (hr.same s) _ hd)⟩
theorem qtr {s:(Operand→Value)→Sem Value} {r:OR} (hrun:∀ {a:Act} {W:World},(execOp a.eval o).run P W = ((s a.eval).run P W).andThen fun v w=>.ok (.value v) w) (hpl:r.plain = true)
    (h:∀ σ',(∀ t ∈ opT o.op,σ'.env t = σ.env t)→σ'.heap = σ.heap→∀ w0 A okA hb a W,Sim w0 A okA hb σ' a W→ORv P W (s a.eval) (RelS w0 okA hb σ'.heap W) r):XSt P ops σ o r :=
  fun σ' he hh w0 A okA hb a W hs=>qdu hrun (h σ' he hh w0 A okA hb a W hs) hpl
/-! ### Numbers -/
def f2i (s:FloatKind) (k:IntKind) (x:Nat):Option Int:=match (s.decode x).toInt .zero with
  | some n=>if k.min ≤ n∧n ≤ k.max then some n else none
  | none=>none
theorem qwh (hτ:qeo P τ) {s d:TypeId} {x:Operand} {sd dd:TD} {sk:FloatKind} {k:IntKind} {b:Nat} {z:Int} (ho:o.op = .convert s d x) (hs:τ s = some sd) (hd:τ d = some dd) (hsd:sd.desc = .float sk) (hdd:dd.desc = .int k) (hx:σ.ev x = .d (.fl sk b)) (hz:f2i sk k b = some z):XSt P ops σ o (.val (.d (.int k z))):=by
  refine qtr (s:=fun ev=>convert s d (ev x)) (by intro a W;simp [execOp,ho]) rfl ?_
  intro σ' he hh w0 A okA hb a W hs'
  have hr:=qeg hs' x
  rw [qbz (fun t ht=>he t (by rw [ho];exact ht)),hx] at hr
  obtain ⟨c,hc,h1,h2⟩:=qnn hr
  have us:=qgn hτ hs W
  have ud:=qgn hτ hd W
  refine .pure' (cv:=.int k z) ?_ (qh2 _ _)
  simp only [convert,Sem.run_bind,us,ud,hsd,hdd,hc,Result.andThen_ok]
  have hn:isnan sk c = false:=by
    cases hn:isnan sk c with
    | false=>rfl
    | true =>
      exfalso
      have h3:isnan sk b = true:=by rw [← h1,qi0,hn]
      obtain ⟨sg,t,e⟩:=qh4 h3
      have e':sk.decode b = .nan sg t:=e
      unfold f2i at hz
      rw [e'] at hz
      simp [Ieee.Datum.toInt,Ieee.Datum.integral] at hz
  have hcb:c = b:=by rw [← h1,qd5 hn]
  rw [hcb]
  unfold f2i at hz
  unfold Conv.floatToInt
  split at hz
  · rename_i n hn'
    split at hz
    · rename_i hb'
      simp only [Option.some.injEq] at hz
      subst hz
      simp only [hn',if_pos hb',Sem.run_pure]
    · cases hz
  · cases hz
/-! ### Bytes and texts -/
/-! ### Is a slice nil? -/
theorem quz (hτ:qeo P τ) {t e pos:TypeId} {x y:Operand} {td:TD} {es:List (List D)} {fl:Bool} (ho:o.op = .binOp .eql t x y pos) (ht:τ t = some td) (htd:td.desc = .slice e) (hx:σ.ev x = .d (.sl fl es)) (hy:y = .const (.slice none 0 0)) :
    XSt P ops σ o (.pick (fun r=>r = 1→es = []) (fun r=>.d (.bool (r == 1)))):=by
  refine qtr (s:=fun ev=>do eqGuard .eql t x y (ev x) (ev y);binOp .eql t (ev x) (ev y)) (by
    intro a W
    simp only [execOp,ho,Sem.run_bind,Sem.run_pure]) rfl ?_
  intro σ' he hh w0 A okA hb a W hs'
  have hr:=qeg hs' x
  rw [qbz (fun u hu=>he u (by rw [ho];exact List.mem_append_left _ hu)),hx] at hr
  have ey:a.eval y = .slice none 0 0:=by rw [hy];rfl
  have ut:=qgn hτ ht W
  rw [htd] at ut
  have key:∀ (u:Option Addr) (l c:Nat),(Op.equal t (.slice u l c) (.slice none 0 0)).run P W = .ok u.isNone W:=by
    intro u l c
    unfold Op.equal Op.maxDepth
    rw [show (10000:Nat) = 9999 + 1 from rfl,Op.equalIn]
    simp only [Sem.run_bind,ut,Result.andThen_ok]
    cases u <;> simp [Sem.run_pure]
  rw [ey]
  generalize a.eval x = v at hr
  cases hr with
  | d hr =>
    have g:∀ (u:Option Addr) (l c:Nat),(do eqGuard .eql t x y (.slice u l c) (.slice none 0 0);binOp .eql t (.slice u l c) (.slice none 0 0):Sem Value).run P W = .ok (.bool u.isNone) W:=by
      intro u l c
      simp only [Sem.run_bind,qpn .eql t x y (.slice u l c) (.slice none 0 0) (by simp) (by simp),Result.andThen_ok]
      simp [binOp,key]
    cases hr with
    | slnil=>exact ⟨.bool true,W,g _ _ _,qb1.refl W,1,fun _=>rfl,qg8 _⟩
    | sle=>exact ⟨.bool false,W,g _ _ _,qb1.refl W,0,fun h=>absurd h (by decide),qg8 _⟩
    | sl=>exact ⟨.bool false,W,g _ _ _,qb1.refl W,0,fun h=>absurd h (by decide),qg8 _⟩
end
end Go.Proofs.Ytdnkjocenbepaaa.AWN

namespace Go.Proofs.Ytdnkjocenbepaaa.AWN
open Go Go.RowKit
def bsOf (len:Nat) (zs:List Int):List Int:=zs.take len
theorem qrd {len:Nat} {zs:List Int} (h:∀ n ∈ zs,0 ≤ n∧n < 256):∀ n ∈ bsOf len zs,0 ≤ n∧n < 256:=fun n hn=>h n (List.mem_of_mem_take hn)
theorem qry {W:World} {ok:Nat→Prop} {f:Int→List D} (hf:∀ n,f n = [.int .u8 n]) (hok:∀ b,b < W.heap.size→ok b) {a:Option Addr} {len cap:Nat} {zs:List Int} (h:(a = none∧len = 0∧cap = 0∧zs = []) ∨
    ∃ x,a = some x∧len ≤ cap∧cap ≤ maxLen∧zs.length = cap∧(∀ i,i < zs.length→W.cell? (x.add i) = some (.int .u8 (zs.getD i 0)))∧∀ n ∈ zs,0 ≤ n∧n < 256):RelD W ok (.sl false ((bsOf len zs).map f)) (.slice a len cap):=by
  rcases h with ⟨rfl,rfl,rfl,rfl⟩ | ⟨x,rfl,h1,h2,h3,h4,h5⟩
  · exact .slnil false
  · by_cases hc:cap = 0
    · have hl:len = 0:=by omega
      subst hc hl
      have:bsOf 0 zs = []:=by simp [bsOf]
      rw [this]
      exact .sle false x
    · have h0:=h4 0 (by omega)
      have hsp:x.spot = none:=by
        cases hs:x.spot with
        | none=>rfl
        | some s =>
          exfalso
          unfold World.cell? at h0
          simp only [Addr.add,hs] at h0
          split at h0 <;> simp [hs] at h0
      obtain ⟨b,o,sp⟩:=x
      simp only at hsp
      subst hsp
      have hbl:((bsOf len zs).map f).length = len:=by simp [bsOf];omega
      have hget:∀ i,i < len→((bsOf len zs).map f).getD i [] = [.int .u8 (zs.getD i 0)]:=by
        intro i hi
        have hil:i < zs.length:=by omega
        simp [bsOf,List.getD_eq_getElem?_getD,List.getElem?_take,hi,hil,hf]
      refine .sl (sz:=1) (fun i _=>.int .u8 (zs.getD i 0)) (fun _=>hok b (qsd h0)) hbl h1 (fun h=>nomatch h) (by omega) (fun i hi=>by rw [hget i hi];rfl) (fun i c hi hcc=>?_) (fun i c hi hcc=>?_)
      · have:=h4 i (by omega)
        have hc0:c = 0:=by omega
        subst hc0
        by_cases hi0:i = 0
        · subst hi0;simpa [Addr.add] using this
        · simpa [Addr.add,hi0] using this
      · have hc0:c = 0:=by omega
        subst hc0
        rw [hget i hi]
        exact .int _ _
theorem qil (j:Nat):qav [] j = .none:=by simp [qav]
theorem top_of_acall {P:Program} {k:FuncId} {args:List V} {vals:Array Value} {W:World} (hlay:∀ g vs,quh g = some vs→∃ T fr,W.heap[g]? = some (.cells vs T fr)) (hc:qb0 P false k args [] (fun r o n=>r = .d (.bool true)∧o = []∧n = []))
    (hrel:RelL W (fun _=>none) (qav []) (okF W (fun _=>True) (fun _=>none) (qav []) W) args vals):Calls P k vals W (fun e W'=>e = .returned (.bool true)∧Below W.heap.size W W'):=by
  have hs:HSim W ⟨qav [],fun _=>none⟩ (fun _=>True) (fun _=>none) (qav []) ([]:List AObj).length W :=
    { obj:=fun j=>by unfold qfz;rw [qil];trivial,inj:=fun i j b hi=>absurd (qil i) hi,hnd:=fun j b hj=>absurd (qil j) hj,fresh:=fun j _=>qil j,ext:=Ext.refl _ _,keep:=MovesR.refl _ _ _,lay:=fun g vs hg=>⟨hlay g vs hg,fun ⟨j,hj,_⟩=>hj (qil j)⟩ }
  refine (hc W ⟨qav [],fun _=>none⟩ (fun _=>none) (fun _=>True) vals rfl rfl hs hrel).mono fun e W' ⟨v,r,o,n,hb',he,⟨hr,ho,hn⟩,_,hs',hv⟩=>?_
  subst hr
  have:=qih hv
  subst this
  have hx:=hs'.ext
  exact ⟨he,hx.os,hx.tape,hx.output,hx.size,fun k hk=>hx.kept k hk (fun ⟨j,hj,_⟩=>hj (qil j))⟩
end Go.Proofs.Ytdnkjocenbepaaa.AWN

namespace Go.Proofs.Ytdnkjocenbepaaa.AWN
open Go
section
variable {ρ:Nat→Option Nat} {H:Nat→AObj} {α:Type} {f:α→List D}
end
end Go.Proofs.Ytdnkjocenbepaaa.AWN

namespace Go.Proofs.Ytdnkjocenbepaaa.AWN
open Go
end Go.Proofs.Ytdnkjocenbepaaa.AWN

namespace Go.Proofs.Ytdnkjocenbepaaa.AWN
open Go
section
variable {P:Program} {τ:Tab} {ops:Array Oper} {σ:St} {o:Oper} {rest:List Oper} {Q:Exit→St→Prop}
theorem awl_valS (hτ:qeo P τ) (sz L:Nat) (es:List (List D)) (hw:qcf ops σ o = some true) (hd:qga σ o.dst = true) (h:qbn τ σ o.op = .valH (.row σ.next L 0 L) (upd σ.heap σ.next (.row sz es)) (σ.next + 1)) (hK:AWL P ops rest (({ σ with heap:=upd σ.heap σ.next (.row sz es),next:=σ.next + 1 }:St).putO o.dst (.row σ.next L 0 L)) Q):AWL P ops (o :: rest) σ Q:=qak hτ hw hd h hK
end
end Go.Proofs.Ytdnkjocenbepaaa.AWN

namespace Go.Proofs.Ytdnkjocenbepaaa.AWN
open Go
section
variable {α:Type}
end
end Go.Proofs.Ytdnkjocenbepaaa.AWN

namespace Go.Proofs.Ytdnkjocenbepaaa.AWN
open Go
theorem qtn {α β:Type} (f:α→β):∀ (zs l:List α) (o:Nat),setL (l.map f) o (zs.map f) = (setL l o zs).map f
  | [],l,o=>rfl
  | z :: r,l,o=>by
    rw [List.map_cons,setL,setL,← qtn f r (l.set o z) (o + 1),List.map_set]
theorem qun {α:Type} {f:α→List D} {H:Nat→AObj} {n j sz:Nat} {p:Prop} (l zs:List α) (off len:Nat) {ys:List (List D)} (hys:ys = zs.map f) :
    OR.needH p (.d (.int .i64 ((min ys.length len:Nat):Int))) (upd H j (.row sz (setL (l.map f) off (ys.take (min ys.length len))))) n =
    OR.needH p (.d (.int .i64 ((min zs.length len:Nat):Int))) (upd H j (.row sz ((setL l off (zs.take (min zs.length len))).map f))) n:=by
  subst hys
  rw [List.length_map,← List.map_take,qtn]
/-! ### Elements of arrays -/
theorem aidx_need {α:Type} {l:List α} {i:Int} {x:α} {len:Nat} {cs:List V} (h:getI l i = some x) (hl:l.length = len) (hc:cs.length = len):0 ≤ i∧i < (len:Int)∧i < (cs.length:Int):=by
  obtain ⟨h1,h2⟩:=qd3 h
  have h3:i.toNat < l.length:=by
    rcases Nat.lt_or_ge i.toNat l.length with h | h
    · exact h
    · rw [List.getElem?_eq_none h] at h2;cases h2
  omega
theorem or_aidx {α:Type} {f:α→V} {p:Prop} {l:List α} {i:Int} {x:α} (h:getI l i = some x):OR.need p ((l.map f).getD i.toNat .junk) = OR.need p (f x):=by
  obtain ⟨h1,h2⟩:=qd3 h
  rw [List.getD_eq_getElem?_getD,List.getElem?_map,h2];rfl
end Go.Proofs.Ytdnkjocenbepaaa.AWN

namespace Go.Proofs.Ytdnkjocenbepaaa.AWN
open Go Ieee
theorem qh9 (a b:Nat):a <<< b = a * 2 ^ b:=Nat.shiftLeft_eq a b
theorem log2_mul_pow {m:Nat} (k:Nat) (h:m ≠ 0):(m * 2 ^ k).log2 = m.log2 + k:=by
  have h2:m * 2 ^ k ≠ 0:=Nat.mul_ne_zero h (Nat.pos_iff_ne_zero.1 (Nat.two_pow_pos k))
  rw [Nat.log2_eq_iff h2]
  have h3:=Nat.log2_self_le h
  have h4:=@Nat.lt_log2_self m
  constructor
  · rw [Nat.pow_add];exact Nat.mul_le_mul_right _ h3
  · rw [show m.log2 + k + 1 = (m.log2 + 1) + k by omega,Nat.pow_add]
    exact Nat.mul_lt_mul_of_pos_right h4 (Nat.two_pow_pos k)
theorem qqk (neg:Bool) (n:Nat):Toward.even.cut neg n 0 = n:=by
  simp [Toward.cut,Nat.mod_one]
theorem qjf (neg:Bool) (n drop:Nat):Toward.even.cut neg n drop = n / 2 ^ drop + (decide (2 ^ drop < 2 * (n % 2 ^ drop)) || (2 ^ drop == 2 * (n % 2 ^ drop) && n / 2 ^ drop % 2 == 1)).toNat:=by
  by_cases h:drop ≤ n.log2 + 2
  · unfold Toward.cut
    rw [Nat.min_eq_left h]
    simp [qh9]
  · have hn:n < 2 ^ (n.log2 + 1):=Nat.lt_log2_self
    have h1:2 ^ (n.log2 + 2) ≤ 2 ^ drop:=Nat.pow_le_pow_right (by decide) (by omega)
    have h2:2 ^ (n.log2 + 2) = 2 * 2 ^ (n.log2 + 1):=by rw [Nat.pow_succ];omega
    have h3:n < 2 ^ (n.log2 + 2):=by omega
    have d1:n / 2 ^ drop = 0:=Nat.div_eq_of_lt (by omega)
    have d2:n % 2 ^ drop = n:=Nat.mod_eq_of_lt (by omega)
    have d3:n / 2 ^ (n.log2 + 2) = 0:=Nat.div_eq_of_lt h3
    have d4:n % 2 ^ (n.log2 + 2) = n:=Nat.mod_eq_of_lt h3
    unfold Toward.cut
    rw [Nat.min_eq_right (by omega),qh9,Nat.one_mul]
    simp only [d1,d2,d3,d4]
    have e1:decide (2 ^ (n.log2 + 2) < 2 * n) = false:=by simp;omega
    have e2:decide (2 ^ drop < 2 * n) = false:=by simp;omega
    rw [e1,e2]
    simp
theorem qrg (neg:Bool) (n drop k:Nat):Toward.even.cut neg (n * 2 ^ k) (drop + k) = Toward.even.cut neg n drop:=by
  have hk:=Nat.two_pow_pos k
  rw [qjf,qjf,Nat.pow_add,Nat.mul_div_mul_right _ _ hk,Nat.mul_mod_mul_right]
  have e1:decide (2 ^ drop * 2 ^ k < 2 * (n % 2 ^ drop * 2 ^ k)) = decide (2 ^ drop < 2 * (n % 2 ^ drop)):=by
    rw [← Nat.mul_assoc]
    exact decide_eq_decide.2 ⟨fun h=>Nat.lt_of_mul_lt_mul_right h,fun h=>Nat.mul_lt_mul_of_pos_right h hk⟩
  have e2:(2 ^ drop * 2 ^ k == 2 * (n % 2 ^ drop * 2 ^ k)) = (2 ^ drop == 2 * (n % 2 ^ drop)):=by
    rw [← Nat.mul_assoc]
    rw [Bool.eq_iff_iff]
    simp only [beq_iff_eq]
    exact ⟨fun h=>Nat.eq_of_mul_eq_mul_right hk h,fun h=>congrArg (· * 2 ^ k) h⟩
  rw [e1,e2]
theorem nearest_shift (f:Format) (neg:Bool) (m k:Nat) (p:Int):f.nearest neg (m * 2 ^ k) p = f.nearest neg m (p + k):=by
  unfold Format.nearest
  by_cases hm:m = 0
  · subst hm;simp
  have hm2:m * 2 ^ k ≠ 0:=Nat.mul_ne_zero hm (Nat.pos_iff_ne_zero.1 (Nat.two_pow_pos k))
  rw [if_neg hm,if_neg hm2]
  dsimp only
  rw [log2_mul_pow k hm]
  have el:p + ((m.log2 + k:Nat):Int) - f.fractionBits = p + k + m.log2 - f.fractionBits:=by omega
  rw [el]
  generalize hlast:max (p + k + m.log2 - f.fractionBits:Int) f.leastPlace = last
  have key:Toward.even.cut neg ((m * 2 ^ k) <<< (p - last).toNat) (last - p).toNat = Toward.even.cut neg (m <<< (p + k - last).toNat) (last - (p + k)).toNat:=by
    rw [qh9,qh9]
    rcases Int.le_total (p + k) last with h | h
    · rw [show (p - last).toNat = 0 by omega,show (p + k - last).toNat = 0 by omega,show (last - p).toNat = (last - (p + k)).toNat + k by omega]
      simp only [Nat.pow_zero,Nat.mul_one]
      exact qrg ..
    · rw [show (last - (p + k)).toNat = 0 by omega]
      rcases Int.le_total p last with h' | h'
      · rw [show (p - last).toNat = 0 by omega,Nat.pow_zero,Nat.mul_one]
        have:k = (p + k - last).toNat + (last - p).toNat:=by omega
        generalize (p + k - last).toNat = a at *
        generalize (last - p).toNat = b at *
        subst this
        rw [Nat.pow_add,← Nat.mul_assoc]
        have:=qrg neg (m * 2 ^ a) 0 b
        simpa using this
      · rw [show (last - p).toNat = 0 by omega,qqk,qqk,Nat.mul_assoc,← Nat.pow_add]
        congr 2
        omega
  rw [key]
theorem qh7 (f:Format) (neg:Bool) (p:Int):f.nearest neg 0 p = f.word neg 0:=by simp [Format.nearest]
def qbx (f:Format) (m:Nat) (p:Int):Int:=max (p + m.log2 - f.fractionBits) f.leastPlace
def qfe (f:Format) (m:Nat) (p:Int):Nat:=Toward.even.cut false (m <<< (p - qbx f m p).toNat) (qbx f m p - p).toNat
theorem qn4 (f:Format) (neg:Bool) {m:Nat} (p:Int) (hm:m ≠ 0):f.nearest neg m p = f.word neg (min ((qbx f m p - f.leastPlace).toNat * f.binade + qfe f m p) f.infRung):=by
  unfold Format.nearest
  rw [if_neg hm]
  dsimp only
  rw [show Toward.even.cut neg = Toward.even.cut false by funext a b;rw [qjf,qjf]]
  rfl
theorem cut_le (n drop M:Nat) (h:n ≤ M * 2 ^ drop):Toward.even.cut false n drop ≤ M:=by
  rw [qjf]
  have hp:=Nat.two_pow_pos drop
  have hdm:=Nat.div_add_mod n (2 ^ drop)
  have hml:=Nat.mod_lt n hp
  by_cases hr:n % 2 ^ drop = 0
  · have:n / 2 ^ drop ≤ M:=Nat.div_le_of_le_mul (by rw [Nat.mul_comm];exact h)
    have e1:decide (2 ^ drop < 2 * (n % 2 ^ drop)) = false:=by rw [hr];simp
    have e2:(2 ^ drop == 2 * (n % 2 ^ drop)) = false:=by rw [hr];simp
    rw [e1,e2]
    simpa using this
  · have:n / 2 ^ drop < M:=by
      rw [Nat.div_lt_iff_lt_mul hp]
      rcases Nat.lt_or_eq_of_le h with h' | h'
      · exact h'
      · exfalso;apply hr;rw [h'];exact Nat.mul_mod_left ..
    have hb:∀ b:Bool,b.toNat ≤ 1:=by intro b;cases b <;> decide
    have:=hb (decide (2 ^ drop < 2 * (n % 2 ^ drop)) || (2 ^ drop == 2 * (n % 2 ^ drop) && n / 2 ^ drop % 2 == 1))
    omega
theorem cut_ge (n drop M:Nat) (h:M * 2 ^ drop ≤ n):M ≤ Toward.even.cut false n drop:=by
  rw [qjf]
  have:M ≤ n / 2 ^ drop:=(Nat.le_div_iff_mul_le (Nat.two_pow_pos drop)).2 h
  omega
theorem qky (f:Format) {m:Nat} {p:Int} (hm:m ≠ 0):qfe f m p ≤ 2 * f.binade∧(f.leastPlace ≤ p + m.log2 - f.fractionBits→f.binade ≤ qfe f m p):=by
  unfold qfe
  have h1:=Nat.log2_self_le hm
  have h2:=@Nat.lt_log2_self m
  generalize hL:m.log2 = L at *
  have hlast:qbx f m p = max (p + L - f.fractionBits) f.leastPlace:=by rw [qbx,hL]
  rw [hlast]
  generalize hlst:max (p + L - f.fractionBits:Int) f.leastPlace = last at *
  rw [qh9]
  have hb:2 * f.binade = 2 ^ (f.fractionBits + 1):=by rw [Format.binade,Nat.pow_succ];omega
  constructor
  · apply cut_le
    rw [hb]
    rw [← Nat.pow_add]
    have:m * 2 ^ (p - last).toNat ≤ 2 ^ (L + 1) * 2 ^ (p - last).toNat:=Nat.mul_le_mul_right _ (Nat.le_of_lt h2)
    refine Nat.le_trans this ?_
    rw [← Nat.pow_add]
    exact Nat.pow_le_pow_right (by decide) (by omega)
  · intro hle
    apply cut_ge
    rw [Format.binade,← Nat.pow_add]
    have:2 ^ L * 2 ^ (p - last).toNat ≤ m * 2 ^ (p - last).toNat:=Nat.mul_le_mul_right _ h1
    refine Nat.le_trans ?_ this
    rw [← Nat.pow_add]
    exact Nat.pow_le_pow_right (by decide) (by omega)
theorem qlq (f:Format) {m:Nat} {p:Int} (hm:m ≠ 0) (hs:m < 2 ^ (f.fractionBits + 1)) (hp:f.leastPlace ≤ p):qbx f m p ≤ p∧qfe f m p = m * 2 ^ (p - qbx f m p).toNat:=by
  have hL:m.log2 < f.fractionBits + 1:=(Nat.log2_lt hm).2 hs
  have h1:qbx f m p ≤ p:=by unfold qbx;omega
  refine ⟨h1,?_⟩
  unfold qfe
  rw [show (qbx f m p - p).toNat = 0 by omega,qqk,qh9]
def qff (f:Format):Nat:=2 ^ f.exponentBits - 1
theorem read_nearest (f:Format) (hf:f.infRung < f.signWeight) (hr:0 < qff f) (neg:Bool) {m:Nat} {p:Int} (hm:m ≠ 0) (hs:m < 2 ^ (f.fractionBits + 1)) (hp:f.leastPlace ≤ p) (hmax:(p + m.log2 - f.fractionBits - f.leastPlace + 1:Int) < qff f) :
    f.read (f.nearest neg m p) = .number neg (m * 2 ^ (p - qbx f m p).toNat) (qbx f m p):=by
  obtain ⟨hle,hk⟩:=qlq f hm hs hp
  obtain ⟨b1,b2⟩:=qky f (p:=p) hm
  rw [qn4 f neg p hm]
  have hbp:0 < f.binade:=Nat.two_pow_pos _
  have hL:m.log2 < f.fractionBits + 1:=(Nat.log2_lt hm).2 hs
  have hkl:qfe f m p < 2 * f.binade:=by
    rw [hk]
    have h2:=@Nat.lt_log2_self m
    have:m * 2 ^ (p - qbx f m p).toNat < 2 ^ (m.log2 + 1) * 2 ^ (p - qbx f m p).toNat:=Nat.mul_lt_mul_of_pos_right h2 (Nat.two_pow_pos _)
    rw [← Nat.pow_add] at this
    have h3:2 * f.binade = 2 ^ (f.fractionBits + 1):=by rw [Format.binade,Nat.pow_succ];omega
    rw [h3]
    exact Nat.lt_of_lt_of_le this (Nat.pow_le_pow_right (by decide) (by unfold qbx;omega))
  have hrung:(qbx f m p - f.leastPlace).toNat * f.binade + qfe f m p < f.infRung:=by
    have h0:(qbx f m p - f.leastPlace).toNat + 2 ≤ qff f ∨ qbx f m p = f.leastPlace∧(qfe f m p < f.binade ∨ 2 ≤ qff f):=by
      unfold qbx
      rcases Int.le_total (p + m.log2 - f.fractionBits) f.leastPlace with h | h
      · right
        refine ⟨by omega,?_⟩
        by_cases he:p + m.log2 - f.fractionBits = f.leastPlace
        · right;omega
        · left
          rw [hk]
          have h2:=@Nat.lt_log2_self m
          have:m * 2 ^ (p - qbx f m p).toNat < 2 ^ (m.log2 + 1) * 2 ^ (p - qbx f m p).toNat:=Nat.mul_lt_mul_of_pos_right h2 (Nat.two_pow_pos _)
          rw [← Nat.pow_add] at this
          refine Nat.lt_of_lt_of_le this ?_
          rw [Format.binade]
          exact Nat.pow_le_pow_right (by decide) (by unfold qbx;omega)
      · left;omega
    have hi:f.infRung = qff f * f.binade:=rfl
    rw [hi]
    rcases h0 with h0 | ⟨h0,h1 | h1⟩
    · have:=Nat.mul_le_mul_right f.binade h0
      rw [Nat.add_mul] at this
      omega
    · rw [h0]
      simp only [Int.sub_self,Int.toNat_zero,Nat.zero_mul,Nat.zero_add]
      have:1 ≤ qff f:=hr
      have:=Nat.mul_le_mul_right f.binade this
      omega
    · rw [h0]
      simp only [Int.sub_self,Int.toNat_zero,Nat.zero_mul,Nat.zero_add]
      have:=Nat.mul_le_mul_right f.binade h1
      omega
  rw [Nat.min_eq_left (Nat.le_of_lt hrung),qgu _ _ _ (by omega)]
  rw [← hk]
  by_cases hb:qfe f m p < f.binade
  · have hl:qbx f m p = f.leastPlace:=by
      rcases Int.le_total f.leastPlace (p + m.log2 - f.fractionBits) with h | h
      · exact absurd (b2 h) (by omega)
      · unfold qbx;omega
    rw [hl]
    simp only [Int.sub_self,Int.toNat_zero,Nat.zero_mul,Nat.zero_add]
    rw [if_pos hb]
  · have hge:f.binade ≤ qfe f m p:=by omega
    have e:(qbx f m p - f.leastPlace).toNat * f.binade + qfe f m p = (qfe f m p - f.binade) + f.binade * ((qbx f m p - f.leastPlace).toNat + 1):=by
      rw [Nat.mul_add,Nat.mul_comm];omega
    have hmod:((qbx f m p - f.leastPlace).toNat * f.binade + qfe f m p) % f.binade = qfe f m p - f.binade:=by
      rw [e,Nat.add_mul_mod_self_left,Nat.mod_eq_of_lt (by omega)]
    have hdiv:((qbx f m p - f.leastPlace).toNat * f.binade + qfe f m p) / f.binade = (qbx f m p - f.leastPlace).toNat + 1:=by
      rw [e,Nat.add_mul_div_left _ _ hbp,Nat.div_eq_of_lt (by omega)];omega
    have hn:¬ (qbx f m p - f.leastPlace).toNat * f.binade + qfe f m p < f.binade:=by omega
    rw [hmod,hdiv,if_neg hn,if_pos hrung]
    congr 1
    · omega
    · have:f.leastPlace ≤ qbx f m p:=by unfold qbx;omega
      omega
end Go.Proofs.Ytdnkjocenbepaaa.AWN

namespace Go.Proofs.Ytdnkjocenbepaaa.AWN
open Go Ieee
structure qw4 (f:Format):Prop where
  rung:f.infRung < f.signWeight
  most:0 < qff f
theorem qw0 (k:FloatKind):qw4 k.format:=⟨k.format.infRung_lt,by cases k <;> decide⟩
structure Ex (f:Format) (m:Nat) (p:Int):Prop where
  size:m < 2 ^ (f.fractionBits + 1)
  least:f.leastPlace ≤ p
  most:(p + m.log2 - f.fractionBits - f.leastPlace + 1:Int) < qff f
theorem qsl {f:Format} (hf:qw4 f) (neg:Bool) {m:Nat} {p:Int} (h:Ex f m p):∃ (a:Nat) (P:Int),f.read (f.nearest neg m p) = .number neg (m * 2 ^ a) P∧(m ≠ 0→P = p - a∧m.log2 + a ≤ f.fractionBits):=by
  by_cases hm:m = 0
  · subst hm
    refine ⟨0,f.leastPlace,?_,fun h=>absurd rfl h⟩
    rw [qh7,qgu _ _ _ (by have:=hf.rung;omega),if_pos (show 0 < f.binade from Nat.two_pow_pos _)]
  · have hL:m.log2 < f.fractionBits + 1:=(Nat.log2_lt hm).2 h.size
    have h1:qbx f m p ≤ p:=by have:=h.least;unfold qbx;omega
    refine ⟨(p - qbx f m p).toNat,qbx f m p,read_nearest f hf.rung hf.most neg hm h.size h.least h.most,fun _=>⟨by omega,?_⟩⟩
    unfold qbx;omega
theorem qjy (s:Bool) (u:Nat):signed s 0 u = 0:=by unfold signed;rw [qh9];simp
/-! ### Between 0 and 1 -/
end Go.Proofs.Ytdnkjocenbepaaa.AWN

namespace Go.Proofs.Ytdnkjocenbepaaa.AWN
open Go Ieee
end Go.Proofs.Ytdnkjocenbepaaa.AWN

namespace Go.Proofs.Ytdnkjocenbepaaa.AWN
open Go Ieee
theorem qhz {f:Format} (h2:1 < qff f) {w:Nat} {neg:Bool} {m:Nat} {p:Int} (h:f.read w = .number neg m p):Ex f m p:=by
  unfold Format.read at h
  simp only at h
  have hb:0 < f.binade:=Nat.two_pow_pos _
  have e2:2 ^ (f.fractionBits + 1) = 2 * f.binade:=by rw [Format.binade,Nat.pow_succ];omega
  split at h
  · rename_i hr
    injection h with h0 h1 h3
    subst h3;subst h1
    have hl:w % f.signWeight = 0 ∨ (w % f.signWeight).log2 < f.fractionBits:=by
      by_cases h0:w % f.signWeight = 0
      · exact .inl h0
      · exact .inr ((Nat.log2_lt h0).2 hr)
    refine ⟨by omega,Int.le_refl _,?_⟩
    rcases hl with hl | hl
    · rw [hl,show Nat.log2 0 = 0 from by decide];omega
    · omega
  · split at h
    · rename_i hr hi
      injection h with h0 h1 h3
      subst h3;subst h1
      have hm:=Nat.mod_lt (w % f.signWeight) hb
      have hd:w % f.signWeight / f.binade < qff f:=(Nat.div_lt_iff_lt_mul hb).2 hi
      have hd0:1 ≤ w % f.signWeight / f.binade:=(Nat.le_div_iff_mul_le hb).2 (by omega)
      have hlo:(f.binade + w % f.signWeight % f.binade).log2 < f.fractionBits + 1:=(Nat.log2_lt (by omega)).2 (by omega)
      exact ⟨by omega,by omega,by omega⟩
    · split at h <;> cases h
theorem nearest_read {f:Format} (h2:1 < qff f) (hs:f.infRung < f.signWeight) {w:Nat} (hw:w < 2 * f.signWeight) {neg:Bool} {m:Nat} {p:Int} (h:f.read w = .number neg m p):f.nearest neg m p = w:=by
  have hx:=qhz h2 h
  have hsg:0 < f.signWeight:=by omega
  have hq:w / f.signWeight < 2:=(Nat.div_lt_iff_lt_mul hsg).2 hw
  have hdm:=Nat.div_add_mod w f.signWeight
  have hb:0 < f.binade:=Nat.two_pow_pos _
  have hwd:∀ r,r = w % f.signWeight→neg = (w / f.signWeight % 2 == 1)→f.word neg r = w:=by
    intro r hr hn
    subst hr
    unfold Format.word
    rcases (show w / f.signWeight = 0 ∨ w / f.signWeight = 1 by generalize w / f.signWeight = z at hq ⊢;omega) with h0 | h0
    · rw [h0] at hn hdm
      rw [hn,if_neg (by decide)];omega
    · rw [h0] at hn hdm
      rw [hn,if_pos (by decide)];omega
  by_cases hm:m = 0
  · subst hm
    rw [qh7]
    unfold Format.read at h
    simp only at h
    split at h
    · injection h with h0 h1 h3
      exact hwd 0 h1.symm h0.symm
    · split at h
      · injection h with h0 h1 h3;omega
      · split at h <;> cases h
  · obtain ⟨h1,h3⟩:=qlq f hm hx.size hx.least
    rw [qn4 f neg p hm,h3]
    unfold Format.read at h
    simp only at h
    split at h
    · rename_i hr
      injection h with h0 h1' h4
      subst h1'
      have hl:qbx f (w % f.signWeight) p = p:=by
        have:(w % f.signWeight).log2 < f.fractionBits:=(Nat.log2_lt hm).2 hr
        unfold qbx;omega
      rw [hl,h4]
      simp only [Int.sub_self,Int.toNat_zero,Nat.pow_zero,Nat.mul_one,Nat.zero_mul,Nat.zero_add]
      rw [Nat.min_eq_left (by have:f.binade ≤ f.infRung:=Nat.le_mul_of_pos_left _ (by show 0 < qff f;omega);omega)]
      exact hwd _ rfl h0.symm
    · split at h
      · rename_i hr hi
        injection h with h0 h1' h4
        subst h1'
        have hmm:=Nat.mod_lt (w % f.signWeight) hb
        have hd0:1 ≤ w % f.signWeight / f.binade:=(Nat.le_div_iff_mul_le hb).2 (by omega)
        have hlo:(f.binade + w % f.signWeight % f.binade).log2 = f.fractionBits:=by
          have a1:(f.binade + w % f.signWeight % f.binade).log2 < f.fractionBits + 1:=(Nat.log2_lt (by omega)).2 (by rw [Nat.pow_succ];show _ < f.binade * 2;omega)
          have a2:¬ (f.binade + w % f.signWeight % f.binade).log2 < f.fractionBits:=fun hc=>by
            have:=(Nat.log2_lt (by omega)).1 hc
            have:f.binade + w % f.signWeight % f.binade < f.binade:=this
            omega
          omega
        have hl:qbx f (f.binade + w % f.signWeight % f.binade) p = p:=by unfold qbx;rw [hlo];omega
        rw [hl]
        simp only [Int.sub_self,Int.toNat_zero,Nat.pow_zero,Nat.mul_one]
        have e:(p - f.leastPlace).toNat * f.binade + (f.binade + w % f.signWeight % f.binade) = w % f.signWeight:=by
          have hp:(p - f.leastPlace).toNat = w % f.signWeight / f.binade - 1:=by omega
          have hdm2:=Nat.div_add_mod (w % f.signWeight) f.binade
          rw [hp,Nat.sub_mul,Nat.one_mul,Nat.mul_comm]
          have:f.binade * 1 ≤ f.binade * (w % f.signWeight / f.binade):=Nat.mul_le_mul_left _ hd0
          omega
        rw [e,Nat.min_eq_left (by omega)]
        exact hwd _ rfl h0.symm
      · split at h <;> cases h
theorem qub {m:Nat} {p:Int} (h:Ex single m p):Ex double m p:=by
  obtain ⟨h1,h2,h3⟩:=h
  have e1:single.fractionBits = 23:=rfl
  have e2:double.fractionBits = 52:=rfl
  have e3:single.leastPlace = -149:=by decide
  have e4:double.leastPlace = -1074:=by decide
  have e5:qff single = 255:=by decide
  have e6:qff double = 2047:=by decide
  rw [e1,e3,e5] at h3
  rw [e3] at h2
  rw [e1] at h1
  exact ⟨by rw [e2];exact Nat.lt_of_lt_of_le h1 (by decide),by rw [e4];omega,by rw [e2,e4,e6];omega⟩
theorem qvq:1 < qff single:=by decide
theorem wide_some (x:Nat):∃ r,qgo .f32 .f64 x = some r∧isnan .f64 r = isnan .f32 x∧(∀ neg m p,single.read x = .number neg m p→r = double.nearest neg m p):=by
  unfold qgo
  rw [show fkEq .f32 .f64 = false from rfl,cond_false]
  have hd:FloatKind.f32.decode x = single.read x:=rfl
  rw [hd]
  cases h:single.read x with
  | nan s t =>
    refine ⟨qnan .f64,rfl,?_,fun _ _ _ h=>nomatch h⟩
    unfold isnan
    rw [show FloatKind.f32.format.read x = single.read x from rfl,h];show _ = true;decide
  | infinity s =>
    refine ⟨_,rfl,?_,fun _ _ _ h=>nomatch h⟩
    unfold isnan
    rw [show FloatKind.f32.format.read x = single.read x from rfl,h]
    cases s <;> decide
  | number s m p =>
    have hx:=qub (qhz qvq h)
    obtain ⟨a,P,hr,_⟩:=qsl (qw0 .f64) s hx
    have hr':FloatKind.f64.decode (FloatKind.f64.encode (.number s m p)) = .number s (m * 2 ^ a) P:=hr
    refine ⟨FloatKind.f64.encode (.number s m p),?_,?_,fun neg m' p' he=>?_⟩
    · simp only [hr'];rfl
    · unfold isnan
      rw [show FloatKind.f32.format.read x = single.read x from rfl,h]
      have:FloatKind.f64.format.read (FloatKind.f64.encode (.number s m p)) = .number s (m * 2 ^ a) P:=hr
      rw [this];rfl
    · injection he with e1 e2 e3;subst e1;subst e2;subst e3;rfl
end Go.Proofs.Ytdnkjocenbepaaa.AWN

namespace Go.Proofs.Ytdnkjocenbepaaa.AWN
open Go Ieee
theorem cut_mono {n n':Nat} (d:Nat) (h:n ≤ n'):Toward.even.cut false n d ≤ Toward.even.cut false n' d:=by
  rw [qjf,qjf]
  have hp:=Nat.two_pow_pos d
  have h1:=Nat.div_add_mod n (2 ^ d)
  have h2:=Nat.div_add_mod n' (2 ^ d)
  have h3:=Nat.mod_lt n hp
  have h4:=Nat.mod_lt n' hp
  have hb:∀ b:Bool,b.toNat ≤ 1:=by intro b;cases b <;> decide
  have hq:n / 2 ^ d ≤ n' / 2 ^ d:=Nat.div_le_div_right h
  rcases Nat.lt_or_eq_of_le hq with hq | hq
  · have:=hb (decide (2 ^ d < 2 * (n % 2 ^ d)) || (2 ^ d == 2 * (n % 2 ^ d) && n / 2 ^ d % 2 == 1))
    omega
  · have hr:n % 2 ^ d ≤ n' % 2 ^ d:=by rw [hq] at h1;omega
    rw [hq]
    generalize n % 2 ^ d = r at *
    generalize n' % 2 ^ d = r' at *
    generalize n' / 2 ^ d = q at *
    generalize 2 ^ d = D at *
    have:(decide (D < 2 * r) || (D == 2 * r && q % 2 == 1)).toNat ≤ (decide (D < 2 * r') || (D == 2 * r' && q % 2 == 1)).toNat:=by
      by_cases a1:D < 2 * r
      · have a2:D < 2 * r':=by omega
        simp [a1,a2]
      · by_cases a3:D < 2 * r'
        · rw [decide_eq_true a3,Bool.true_or];exact hb _
        · have e1:decide (D < 2 * r) = false:=decide_eq_false a1
          have e2:decide (D < 2 * r') = false:=decide_eq_false a3
          rw [e1,e2]
          by_cases a4:D = 2 * r
          · have:r' = r:=by omega
            rw [this];exact Nat.le_refl _
          · have e3:(D == 2 * r) = false:=by simpa using a4
            rw [e3];simp
    omega
theorem log2_mono {m M:Nat} (h:m ≤ M) (hm:m ≠ 0):m.log2 ≤ M.log2:=by
  have h1:=Nat.log2_self_le hm
  rcases Nat.lt_or_ge M.log2 m.log2 with h2 | h2
  · exfalso
    have h3:=@Nat.lt_log2_self M
    have:2 ^ (M.log2 + 1) ≤ 2 ^ m.log2:=Nat.pow_le_pow_right (by decide) h2
    omega
  · exact h2
def rung (f:Format) (m:Nat) (p:Int):Nat:=if m = 0 then 0 else min ((qbx f m p - f.leastPlace).toNat * f.binade + qfe f m p) f.infRung
theorem qj4 (f:Format) (neg:Bool) (m:Nat) (p:Int):f.nearest neg m p = f.word neg (rung f m p):=by
  unfold rung
  by_cases hm:m = 0
  · subst hm;rw [if_pos rfl,qh7]
  · rw [if_neg hm,qn4 f neg p hm]
theorem rung_le (f:Format) (m:Nat) (p:Int):rung f m p ≤ f.infRung:=by
  unfold rung
  split
  · exact Nat.zero_le _
  · exact Nat.min_le_right _ _
theorem qhw (f:Format) (p:Int):rung f 0 p = 0:=if_pos rfl
theorem qn9 (f:Format) (m k:Nat) (p:Int):rung f (m * 2 ^ k) p = rung f m (p + k):=by
  have h:=nearest_shift f false m k p
  rw [qj4,qj4] at h
  exact h
theorem qp4 (f:Format) {m M:Nat} (p:Int) (h:m ≤ M):rung f m p ≤ rung f M p:=by
  by_cases hm:m = 0
  · subst hm;rw [qhw];exact Nat.zero_le _
  · have hM:M ≠ 0:=by omega
    unfold rung
    rw [if_neg hm,if_neg hM]
    have hl:=log2_mono h hm
    have hL:qbx f m p ≤ qbx f M p:=by unfold qbx;omega
    have hlow:f.leastPlace ≤ qbx f m p:=by unfold qbx;omega
    suffices h2:(qbx f m p - f.leastPlace).toNat * f.binade + qfe f m p ≤ (qbx f M p - f.leastPlace).toNat * f.binade + qfe f M p by omega
    rcases Int.lt_or_eq_of_le hL with hlt | heq
    · have b1:=(qky f (p:=p) hm).1
      have b2:=(qky f (p:=p) hM).2 (by unfold qbx at *;omega)
      have:((qbx f m p - f.leastPlace).toNat + 1) * f.binade ≤ (qbx f M p - f.leastPlace).toNat * f.binade:=Nat.mul_le_mul_right _ (by omega)
      rw [Nat.add_mul] at this
      omega
    · unfold qfe
      rw [heq]
      have:m <<< (p - qbx f M p).toNat ≤ M <<< (p - qbx f M p).toNat:=by
        rw [qh9,qh9];exact Nat.mul_le_mul_right _ h
      have:=cut_mono (qbx f M p - p).toNat this
      omega
def key (f:Format) (w:Nat):Int:=if w / f.signWeight % 2 = 1 then -((w % f.signWeight:Nat):Int) else ((w % f.signWeight:Nat):Int)
theorem key_word {f:Format} (neg:Bool) {r:Nat} (h:r < f.signWeight):key f (f.word neg r) = if neg then -(r:Int) else (r:Int):=by
  have hs:0 < f.signWeight:=by omega
  unfold key Format.word
  cases neg
  · show (if r / f.signWeight % 2 = 1 then _ else _) = (r:Int)
    rw [Nat.div_eq_of_lt h,if_neg (by decide)]
    show ((r % f.signWeight:Nat):Int) = _
    rw [Nat.mod_eq_of_lt h]
  · show (if (f.signWeight + r) / f.signWeight % 2 = 1 then _ else _) = -(r:Int)
    rw [Nat.add_div_left _ hs,Nat.div_eq_of_lt h,if_pos (by decide)]
    show -(((f.signWeight + r) % f.signWeight:Nat):Int) = _
    rw [Nat.add_mod_left,Nat.mod_eq_of_lt h]
def vz (f:Format) (w:Nat):Int:=match f.read w with
  | .number s m p=>signed s m (p - f.leastPlace).toNat
  | _=>0
def Fin' (f:Format) (w:Nat):Prop:=∃ s m p,f.read w = .number s m p
structure FmtK (f:Format):Prop where
  rung:f.infRung < f.signWeight
  many:1 < qff f
  low:f.leastPlace ≤ 0
theorem fmtK (k:FloatKind):FmtK k.format:=⟨k.format.infRung_lt,by cases k <;> decide,by cases k <;> decide⟩
def kz (f:Format) (z:Int) (p:Int):Int:=if z < 0 then -(rung f z.natAbs p:Int) else (rung f z.natAbs p:Int)
theorem qi1 {f:Format} (hf:FmtK f) (neg:Bool) (m:Nat) (p:Int):key f (f.nearest neg m p) = if neg then -(rung f m p:Int) else (rung f m p:Int):=by
  rw [qj4,key_word _ (by have:=rung_le f m p;have:=hf.rung;omega)]
theorem qqp (f:Format) {z z':Int} (p:Int) (h:z ≤ z'):kz f z p ≤ kz f z' p:=by
  unfold kz
  by_cases h1:z < 0
  · rw [if_pos h1]
    by_cases h2:z' < 0
    · rw [if_pos h2]
      have:=qp4 f p (show z'.natAbs ≤ z.natAbs by omega)
      omega
    · rw [if_neg h2];omega
  · rw [if_neg h1,if_neg (by omega)]
    have:=qp4 f p (show z.natAbs ≤ z'.natAbs by omega)
    omega
theorem qqq (f:Format) (z:Int) (k:Nat) (p:Int):kz f (z * (2 ^ k:Nat)) p = kz f z (p + k):=by
  have hk:(0:Int) < ((2 ^ k:Nat):Int):=by have:=Nat.two_pow_pos k;omega
  unfold kz
  have e:(z * (2 ^ k:Nat)).natAbs = z.natAbs * 2 ^ k:=by rw [Int.natAbs_mul];simp
  rw [e,qn9]
  have:z * (2 ^ k:Nat) < 0 ↔ z < 0:=⟨fun h=>by
    rcases Int.lt_or_le z 0 with h0 | h0
    · exact h0
    · have:=Int.mul_nonneg h0 (Int.le_of_lt hk);omega,fun h=>Int.mul_neg_of_neg_of_pos h hk⟩
  by_cases h:z < 0
  · rw [if_pos h,if_pos (this.2 h)]
  · rw [if_neg h,if_neg (fun h2=>h (this.1 h2))]
theorem ql2 (s:Bool) (m u:Nat):(signed s m u).natAbs = m * 2 ^ u∧(s = false→0 ≤ signed s m u)∧(s = true→signed s m u ≤ 0):=by
  unfold signed
  rw [qh9]
  have e:((m * 2 ^ u:Nat):Int).natAbs = m * 2 ^ u:=Int.natAbs_natCast _
  cases s
  · exact ⟨e,(fun _=>Int.natCast_nonneg _),(fun h=>nomatch h)⟩
  · refine ⟨?_,(fun h=>nomatch h),fun _=>?_⟩
    · show (-((m * 2 ^ u:Nat):Int)).natAbs = _
      rw [Int.natAbs_neg,e]
    · show -((m * 2 ^ u:Nat):Int) ≤ 0
      omega
theorem qw1 {f:Format} (hf:FmtK f) {w:Nat} (hw:w < 2 * f.signWeight) (h:Fin' f w):kz f (vz f w) f.leastPlace = key f w:=by
  obtain ⟨s,m,p,h⟩:=h
  have hn:=nearest_read hf.many hf.rung hw h
  have hx:=qhz hf.many h
  rw [← hn,qi1 hf,hn]
  have e:vz f w = signed s m (p - f.leastPlace).toNat:=by unfold vz;rw [h]
  obtain ⟨a1,a2,a3⟩:=ql2 s m (p - f.leastPlace).toNat
  unfold kz
  rw [e,a1,qn9,show f.leastPlace + ((p - f.leastPlace).toNat:Int) = p by have:=hx.least;omega]
  by_cases hm:m = 0
  · subst hm;rw [qhw];simp
  · have hpos:0 < m * 2 ^ (p - f.leastPlace).toNat:=Nat.mul_pos (Nat.pos_of_ne_zero hm) (Nat.two_pow_pos _)
    cases s
    · rw [if_neg (by have:=a2 rfl;omega),if_neg (by decide)]
    · rw [if_pos (by have:=a3 rfl;omega),if_pos rfl]
theorem qt7 {f:Format} (hf:FmtK f) {w:Nat} (h:Fin' f w):-(f.infRung:Int) < key f w∧key f w < f.infRung:=by
  obtain ⟨s,m,p,h⟩:=h
  have hb:0 < f.binade:=Nat.two_pow_pos _
  have hi:f.infRung = qff f * f.binade:=rfl
  have h1:f.binade ≤ f.infRung:=by rw [hi];exact Nat.le_mul_of_pos_left _ (by have:=hf.many;omega)
  have:w % f.signWeight < f.infRung:=by
    unfold Format.read at h
    simp only at h
    split at h
    · omega
    · split at h
      · assumption
      · split at h <;> cases h
  unfold key
  split <;> omega
theorem qrv {f:Format} (hf:FmtK f) {x y:Nat} (hx:x < 2 * f.signWeight) (hy:y < 2 * f.signWeight) (h:Fin' f x) (h':Fin' f y):f.order x y = some (compare (key f x) (key f y)):=by
  have kx:=qw1 hf hx h
  have ky:=qw1 hf hy h'
  have hv:f.order x y = some (compare (vz f x) (vz f y)):=by
    obtain ⟨s,m,i,e⟩:=h
    obtain ⟨t,n,j,e'⟩:=h'
    have l1:=(qhz hf.many e).least
    have l2:=(qhz hf.many e').least
    unfold Format.order vz
    rw [e,e']
    simp only [Datum.order]
    congr 1
    have sc:∀ (s:Bool) (m:Nat) (i b:Int),f.leastPlace ≤ b→b ≤ i→signed s m (i - f.leastPlace).toNat = signed s m (i - b).toNat * ((2 ^ (b - f.leastPlace).toNat:Nat):Int):=by
      intro s m i b h1 h2
      have e:(i - f.leastPlace).toNat = (i - b).toNat + (b - f.leastPlace).toNat:=by omega
      unfold signed
      rw [qh9,qh9,e,Nat.pow_add]
      cases s
      · simp only [Bool.false_eq_true,if_false,Int.natCast_mul,Int.mul_assoc]
      · simp only [if_true,Int.natCast_mul,Int.mul_assoc,Int.neg_mul]
    rw [sc s m i (min i j) (by omega) (by omega),sc t n j (min i j) (by omega) (by omega)]
    generalize signed s m (i - min i j).toNat = a
    generalize signed t n (j - min i j).toNat = b
    have hk:=Nat.two_pow_pos (min i j - f.leastPlace).toNat
    generalize 2 ^ (min i j - f.leastPlace).toNat = k at *
    have hk':(0:Int) < (k:Int):=by omega
    have l1:a < b ↔ a * (k:Int) < b * (k:Int):=⟨fun h=>Int.mul_lt_mul_of_pos_right h hk',fun h=>Int.lt_of_mul_lt_mul_right h (Int.le_of_lt hk')⟩
    have l2:a = b ↔ a * (k:Int) = b * (k:Int):=⟨fun h=>by rw [h],fun h=>Int.eq_of_mul_eq_mul_right (by omega) h⟩
    show compareOfLessAndEq a b = compareOfLessAndEq _ _
    unfold compareOfLessAndEq
    simp only [l1,l2]
  rw [hv]
  congr 1
  show compareOfLessAndEq _ _ = compareOfLessAndEq _ _
  unfold compareOfLessAndEq
  by_cases h1:vz f x < vz f y
  · have m1:=qqp f f.leastPlace (Int.le_of_lt h1)
    rw [kx,ky] at m1
    have ne:key f x ≠ key f y:=fun he=>by
      -- equal places: equal values
      have:vz f x = vz f y:=by
        obtain ⟨s,m,i,e⟩:=h
        obtain ⟨t,n,j,e'⟩:=h'
        unfold key at he
        unfold vz
        have hz:∀ w,w < 2 * f.signWeight→w / f.signWeight % 2 = 1 ∨ w / f.signWeight % 2 = 0:=fun w _=>by omega
        by_cases h0:x % f.signWeight = 0∧y % f.signWeight = 0
        · have z:∀ {w s m i},w % f.signWeight = 0→f.read w = .number s m i→m = 0:=by
            intro w s m i hw hr
            unfold Format.read at hr
            simp only [hw] at hr
            rw [if_pos (show 0 < f.binade from Nat.two_pow_pos _)] at hr
            injection hr with _ h1 _;exact h1.symm
          have zm:=z h0.1 e
          have zn:=z h0.2 e'
          rw [e,e'];subst zm;subst zn
          show signed s 0 _ = signed t 0 _
          rw [qjy,qjy]
        · have hsg:0 < f.signWeight:=by have:=hf.rung;omega
          have d1:=Nat.div_add_mod x f.signWeight
          have d2:=Nat.div_add_mod y f.signWeight
          have q1:x / f.signWeight < 2:=(Nat.div_lt_iff_lt_mul hsg).2 hx
          have q2:y / f.signWeight < 2:=(Nat.div_lt_iff_lt_mul hsg).2 hy
          have:x = y:=by
            generalize x / f.signWeight = a at *
            generalize y / f.signWeight = b at *
            rcases (show a = 0 ∨ a = 1 by omega) with rfl | rfl <;> rcases (show b = 0 ∨ b = 1 by omega) with rfl | rfl <;> simp at he d1 d2 <;> omega
          rw [this]
      omega
    rw [if_pos h1,if_pos (by omega)]
  · by_cases h2:vz f x = vz f y
    · have:key f x = key f y:=by rw [← kx,← ky,h2]
      rw [if_neg h1,if_pos h2,if_neg (by omega),if_pos this]
    · have m1:=qqp f f.leastPlace (show vz f y ≤ vz f x by omega)
      rw [kx,ky] at m1
      have ne:key f x ≠ key f y:=fun he=>by
        have hsg:0 < f.signWeight:=by have:=hf.rung;omega
        have d1:=Nat.div_add_mod x f.signWeight
        have d2:=Nat.div_add_mod y f.signWeight
        have q1:x / f.signWeight < 2:=(Nat.div_lt_iff_lt_mul hsg).2 hx
        have q2:y / f.signWeight < 2:=(Nat.div_lt_iff_lt_mul hsg).2 hy
        by_cases h0:x % f.signWeight = 0∧y % f.signWeight = 0
        · obtain ⟨s,m,i,e⟩:=h
          obtain ⟨t,n,j,e'⟩:=h'
          have z:∀ {w s m i},w % f.signWeight = 0→f.read w = .number s m i→m = 0:=by
            intro w s m i hw hr
            unfold Format.read at hr
            simp only [hw] at hr
            rw [if_pos (show 0 < f.binade from Nat.two_pow_pos _)] at hr
            injection hr with _ h1 _;exact h1.symm
          have zm:=z h0.1 e
          have zn:=z h0.2 e'
          apply h2
          unfold vz
          rw [e,e'];subst zm;subst zn
          show signed s 0 _ = signed t 0 _
          rw [qjy,qjy]
        · apply h2
          have:x = y:=by
            unfold key at he
            generalize x / f.signWeight = a at *
            generalize y / f.signWeight = b at *
            rcases (show a = 0 ∨ a = 1 by omega) with rfl | rfl <;> rcases (show b = 0 ∨ b = 1 by omega) with rfl | rfl <;> simp at he d1 d2 <;> omega
          rw [this]
      rw [if_neg h1,if_neg h2,if_neg (by omega),if_neg ne]
end Go.Proofs.Ytdnkjocenbepaaa.AWN

namespace Go.Proofs.Ytdnkjocenbepaaa.AWN
open Go Ieee
structure W (f:Format) (w:Nat):Prop where
  lt:w < 2 * f.signWeight
  fin:Fin' f w
theorem qp9 (f:Format):2 ^ f.width = 2 * f.signWeight:=by
  unfold Format.width Format.signWeight
  rw [show 1 + f.exponentBits + f.fractionBits = (f.exponentBits + f.fractionBits) + 1 by omega,Nat.pow_succ];omega
theorem qi3 (f:Format) (neg:Bool) (m:Nat) (p:Int):f.nearest neg m p < 2 * f.signWeight:=by
  rw [← qp9];exact f.nearest_lt neg m p
theorem qkf {f:Format} {w:Nat} (h:key f w < f.infRung) (h':-(f.infRung:Int) < key f w):Fin' f w:=by
  have:w % f.signWeight < f.infRung:=by
    unfold key at h h'
    split at h <;> rename_i hc
    · rw [if_pos hc] at h';omega
    · omega
  unfold Fin' Format.read
  simp only
  by_cases h1:w % f.signWeight < f.binade
  · rw [if_pos h1];exact ⟨_,_,_,rfl⟩
  · rw [if_neg h1,if_pos this];exact ⟨_,_,_,rfl⟩
section
variable {f:Format} (hf:FmtK f)
include hf
theorem W.qt7 {w:Nat} (h:W f w):-(f.infRung:Int) < key f w∧key f w < f.infRung:=Go.Proofs.Ytdnkjocenbepaaa.AWN.qt7 hf h.fin
theorem W.kz {w:Nat} (h:W f w):Go.Proofs.Ytdnkjocenbepaaa.AWN.kz f (vz f w) f.leastPlace = key f w:=qw1 hf h.lt h.fin
theorem W.qvb {x y:Nat} (hx:W f x) (hy:W f y):key f x < key f y ↔ vz f x < vz f y:=by
  have kx:=hx.kz hf
  have ky:=hy.kz hf
  constructor
  · intro h
    rcases Int.lt_or_le (vz f x) (vz f y) with h1 | h1
    · exact h1
    · have:=qqp f f.leastPlace h1;omega
  · intro h
    have m1:=qqp f f.leastPlace (Int.le_of_lt h)
    rw [kx,ky] at m1
    rcases Int.lt_or_eq_of_le m1 with h1 | h1
    · exact h1
    · exfalso
      have:=qrv hf hx.lt hy.lt hx.fin hy.fin
      rw [h1] at this
      have cc:compare (key f y) (key f y) = .eq:=by
        show compareOfLessAndEq _ _ = .eq
        unfold compareOfLessAndEq
        rw [if_neg (by omega),if_pos rfl]
      rw [cc] at this
      obtain ⟨s,m,i,e⟩:=hx.fin
      obtain ⟨t,n,j,e'⟩:=hy.fin
      have l1:=(qhz hf.many e).least
      have l2:=(qhz hf.many e').least
      unfold Format.order at this
      rw [e,e'] at this
      simp only [Datum.order,Option.some.injEq] at this
      have h3:signed s m (i - min i j).toNat = signed t n (j - min i j).toNat:=by
        have h4:compareOfLessAndEq (signed s m (i - min i j).toNat) (signed t n (j - min i j).toNat) = .eq:=this
        unfold compareOfLessAndEq at h4
        split at h4
        · cases h4
        · split at h4
          · assumption
          · cases h4
      have sc:∀ (s:Bool) (m:Nat) (i b:Int),f.leastPlace ≤ b→b ≤ i→signed s m (i - f.leastPlace).toNat = signed s m (i - b).toNat * ((2 ^ (b - f.leastPlace).toNat:Nat):Int):=by
        intro s m i b h1 h2
        have e:(i - f.leastPlace).toNat = (i - b).toNat + (b - f.leastPlace).toNat:=by omega
        unfold signed
        rw [qh9,qh9,e,Nat.pow_add]
        cases s
        · simp only [Bool.false_eq_true,if_false,Int.natCast_mul,Int.mul_assoc]
        · simp only [if_true,Int.natCast_mul,Int.mul_assoc,Int.neg_mul]
      have:vz f x = vz f y:=by
        unfold vz
        rw [e,e']
        show signed s m _ = signed t n _
        rw [sc s m i (min i j) (by omega) (by omega),sc t n j (min i j) (by omega) (by omega),h3]
      omega
theorem W.vz_le {x y:Nat} (hx:W f x) (hy:W f y):key f x ≤ key f y ↔ vz f x ≤ vz f y:=by
  have:=W.qvb hf hy hx
  omega
theorem W.qp8 {x:Nat} (hx:W f x):(key f x < 0 ↔ vz f x < 0)∧(0 < key f x ↔ 0 < vz f x)∧(key f x = 0 ↔ vz f x = 0):=by
  have hb:0 < f.binade:=Nat.two_pow_pos _
  have hi:f.infRung = qff f * f.binade:=rfl
  have hpos:0 < f.infRung:=by rw [hi];exact Nat.mul_pos (by have:=hf.many;omega) hb
  have k00:key f 0 = 0:=by
    unfold key
    rw [Nat.zero_div,if_neg (by decide),Nat.zero_mod];rfl
  have h0:W f 0:=⟨by have:=hf.rung;omega,qkf (by omega) (by omega)⟩
  have k0:key f 0 = 0:=by
    unfold key
    rw [Nat.zero_div,if_neg (by decide),Nat.zero_mod];rfl
  have v0:vz f 0 = 0:=by
    have:=h0.kz hf
    rw [k0] at this
    unfold Go.Proofs.Ytdnkjocenbepaaa.AWN.kz at this
    unfold vz Format.read
    simp only [Nat.zero_mod,Nat.zero_div]
    rw [if_pos hb]
    show signed _ 0 _ = 0
    exact qjy _ _
  have a:=W.qvb hf hx h0
  have b:=W.qvb hf h0 hx
  rw [k0,v0] at a b
  omega
theorem add_key {x y:Nat} (hx:W f x) (hy:W f y):∃ r,f.add x y = some r∧r < 2 * f.signWeight∧key f r = Go.Proofs.Ytdnkjocenbepaaa.AWN.kz f (vz f x + vz f y) f.leastPlace:=by
  obtain ⟨s,m,i,e⟩:=hx.fin
  obtain ⟨t,n,j,e'⟩:=hy.fin
  have l1:=(qhz hf.many e).least
  have l2:=(qhz hf.many e').least
  unfold Format.add
  rw [e,e']
  simp only [Datum.sum,Option.map_some,Format.write]
  refine ⟨_,rfl,qi3 _ _ _ _,?_⟩
  rw [qi1 hf]
  have sc:∀ (s:Bool) (m:Nat) (i b:Int),f.leastPlace ≤ b→b ≤ i→signed s m (i - f.leastPlace).toNat = signed s m (i - b).toNat * ((2 ^ (b - f.leastPlace).toNat:Nat):Int):=by
    intro s m i b h1 h2
    have e:(i - f.leastPlace).toNat = (i - b).toNat + (b - f.leastPlace).toNat:=by omega
    unfold signed
    rw [qh9,qh9,e,Nat.pow_add]
    cases s
    · simp only [Bool.false_eq_true,if_false,Int.natCast_mul,Int.mul_assoc]
    · simp only [if_true,Int.natCast_mul,Int.mul_assoc,Int.neg_mul]
  have hv:vz f x + vz f y = (signed s m (i - min i j).toNat + signed t n (j - min i j).toNat) * ((2 ^ (min i j - f.leastPlace).toNat:Nat):Int):=by
    unfold vz
    rw [e,e',Int.add_mul,← sc s m i (min i j) (by omega) (by omega),← sc t n j (min i j) (by omega) (by omega)]
  rw [hv,qqq,show f.leastPlace + ((min i j - f.leastPlace).toNat:Int) = min i j by omega]
  generalize signed s m (i - min i j).toNat + signed t n (j - min i j).toNat = z
  unfold Go.Proofs.Ytdnkjocenbepaaa.AWN.kz
  by_cases hz:z = 0
  · subst hz
    rw [show (0:Int).natAbs = 0 from rfl,qhw];simp
  · rw [if_neg hz]
    by_cases h1:z < 0
    · rw [if_pos h1,if_pos (by simpa using h1)]
    · rw [if_neg h1,if_neg (by simpa using h1)]
theorem sub_key {x y:Nat} (hx:W f x) (hy:W f y):∃ r,f.sub x y = some r∧r < 2 * f.signWeight∧key f r = Go.Proofs.Ytdnkjocenbepaaa.AWN.kz f (vz f x - vz f y) f.leastPlace:=by
  obtain ⟨s,m,i,e⟩:=hx.fin
  obtain ⟨t,n,j,e'⟩:=hy.fin
  have l1:=(qhz hf.many e).least
  have l2:=(qhz hf.many e').least
  unfold Format.sub
  rw [e,e']
  simp only [Datum.opposite,Datum.sum,Option.map_some,Format.write]
  refine ⟨_,rfl,qi3 _ _ _ _,?_⟩
  rw [qi1 hf]
  have so:∀ u,signed (!t) n u = -signed t n u:=fun u=>by unfold signed;cases t <;> simp
  have sc:∀ (s:Bool) (m:Nat) (i b:Int),f.leastPlace ≤ b→b ≤ i→signed s m (i - f.leastPlace).toNat = signed s m (i - b).toNat * ((2 ^ (b - f.leastPlace).toNat:Nat):Int):=by
    intro s m i b h1 h2
    have e:(i - f.leastPlace).toNat = (i - b).toNat + (b - f.leastPlace).toNat:=by omega
    unfold signed
    rw [qh9,qh9,e,Nat.pow_add]
    cases s
    · simp only [Bool.false_eq_true,if_false,Int.natCast_mul,Int.mul_assoc]
    · simp only [if_true,Int.natCast_mul,Int.mul_assoc,Int.neg_mul]
  have hv:vz f x - vz f y = (signed s m (i - min i j).toNat + signed (!t) n (j - min i j).toNat) * ((2 ^ (min i j - f.leastPlace).toNat:Nat):Int):=by
    unfold vz
    rw [e,e',so,Int.add_mul,Int.neg_mul,← sc s m i (min i j) (by omega) (by omega),← sc t n j (min i j) (by omega) (by omega)];rfl
  rw [hv,qqq,show f.leastPlace + ((min i j - f.leastPlace).toNat:Int) = min i j by omega]
  generalize signed s m (i - min i j).toNat + signed (!t) n (j - min i j).toNat = z
  unfold Go.Proofs.Ytdnkjocenbepaaa.AWN.kz
  by_cases hz:z = 0
  · subst hz
    rw [show (0:Int).natAbs = 0 from rfl,qhw];simp
  · rw [if_neg hz]
    by_cases h1:z < 0
    · rw [if_pos h1,if_pos (by simpa using h1)]
    · rw [if_neg h1,if_neg (by simpa using h1)]
theorem mul_key {x y:Nat} (hx:W f x) (hy:W f y):∃ r,f.mul x y = some r∧r < 2 * f.signWeight∧key f r = Go.Proofs.Ytdnkjocenbepaaa.AWN.kz f (vz f x * vz f y) (2 * f.leastPlace):=by
  obtain ⟨s,m,i,e⟩:=hx.fin
  obtain ⟨t,n,j,e'⟩:=hy.fin
  have l1:=(qhz hf.many e).least
  have l2:=(qhz hf.many e').least
  unfold Format.mul
  rw [e,e']
  simp only [Datum.product,Option.map_some,Format.write]
  refine ⟨_,rfl,qi3 _ _ _ _,?_⟩
  rw [qi1 hf]
  have hv:vz f x * vz f y = (signed (s ^^ t) (m * n) 0) * ((2 ^ ((i - f.leastPlace).toNat + (j - f.leastPlace).toNat):Nat):Int):=by
    unfold vz
    rw [e,e',Nat.pow_add]
    unfold signed
    simp only [qh9]
    have:m * 2 ^ (i - f.leastPlace).toNat * (n * 2 ^ (j - f.leastPlace).toNat) = m * n * (2 ^ (i - f.leastPlace).toNat * 2 ^ (j - f.leastPlace).toNat):=Nat.mul_mul_mul_comm ..
    rw [Nat.pow_zero,Nat.mul_one]
    cases s <;> cases t <;> simp only [Bool.false_eq_true,if_false,if_true,Bool.xor_false,Bool.xor_true,Bool.not_true,Bool.not_false,Int.neg_mul,Int.mul_neg,Int.neg_neg,← Int.natCast_mul,this]
  rw [hv,qqq,show 2 * f.leastPlace + (((i - f.leastPlace).toNat + (j - f.leastPlace).toNat:Nat):Int) = i + j by omega]
  obtain ⟨a1,a2,a3⟩:=ql2 (s ^^ t) (m * n) 0
  rw [Nat.pow_zero,Nat.mul_one] at a1
  unfold Go.Proofs.Ytdnkjocenbepaaa.AWN.kz
  rw [a1]
  generalize hu:(s ^^ t) = u at a1 a2 a3 ⊢
  by_cases h0:m * n = 0
  · rw [h0,qhw];simp
  · cases u
    · rw [if_neg (by decide),if_neg (by have:=a2 rfl;omega)]
    · rw [if_pos rfl,if_pos (by have:=a3 rfl;omega)]
end
end Go.Proofs.Ytdnkjocenbepaaa.AWN

namespace Go.Proofs.Ytdnkjocenbepaaa.AWN
open Go Ieee
section
variable {k:FloatKind} {x y:Nat} (hx:W k.format x) (hy:W k.format y)
include hx hy
theorem qv6:k.format.order x y = some (if key k.format x < key k.format y then .lt else if key k.format x = key k.format y then .eq else .gt) :=
  qrv (fmtK k) hx.lt hy.lt hx.fin hy.fin
theorem qts:fcmp .lss k x y = decide (key k.format x < key k.format y):=by
  unfold fcmp;rw [qv6 hx hy]
  by_cases h:key k.format x < key k.format y
  · rw [if_pos h,decide_eq_true h];rfl
  · rw [if_neg h,decide_eq_false h]
    by_cases h2:key k.format x = key k.format y
    · rw [if_pos h2];rfl
    · rw [if_neg h2];rfl
theorem qw9:fcmp .gtr k x y = decide (key k.format y < key k.format x):=by
  unfold fcmp;rw [qv6 hx hy]
  by_cases h:key k.format x < key k.format y
  · rw [if_pos h,decide_eq_false (by omega)];rfl
  · rw [if_neg h]
    by_cases h2:key k.format x = key k.format y
    · rw [if_pos h2,decide_eq_false (by omega)];rfl
    · rw [if_neg h2,decide_eq_true (by omega)];rfl
theorem qw8:fcmp .geq k x y = decide (key k.format y ≤ key k.format x):=by
  unfold fcmp;rw [qv6 hx hy]
  by_cases h:key k.format x < key k.format y
  · rw [if_pos h,decide_eq_false (by omega)];rfl
  · rw [if_neg h]
    by_cases h2:key k.format x = key k.format y
    · rw [if_pos h2,decide_eq_true (by omega)];rfl
    · rw [if_neg h2,decide_eq_true (by omega)];rfl
theorem qvx:fcmp .eql k x y = decide (key k.format x = key k.format y):=by
  unfold fcmp;rw [qv6 hx hy]
  by_cases h:key k.format x < key k.format y
  · rw [if_pos h,decide_eq_false (by omega)];rfl
  · rw [if_neg h]
    by_cases h2:key k.format x = key k.format y
    · rw [if_pos h2,decide_eq_true (by omega)];rfl
    · rw [if_neg h2,decide_eq_false (by omega)];rfl
theorem neq_w:fcmp .neq k x y = !decide (key k.format x = key k.format y):=by
  have:=qvx hx hy
  unfold fcmp at *
  rw [← this];rfl
theorem qmc:qa8 .add k x y < 2 * k.format.signWeight∧key k.format (qa8 .add k x y) = kz k.format (vz k.format x + vz k.format y) k.format.leastPlace:=by
  obtain ⟨r,h1,h2,h3⟩:=add_key (fmtK k) hx hy
  unfold qa8
  simp only [h1,Option.getD_some]
  exact ⟨h2,h3⟩
theorem qns:qa8 .sub k x y < 2 * k.format.signWeight∧key k.format (qa8 .sub k x y) = kz k.format (vz k.format x - vz k.format y) k.format.leastPlace:=by
  obtain ⟨r,h1,h2,h3⟩:=sub_key (fmtK k) hx hy
  unfold qa8
  simp only [h1,Option.getD_some]
  exact ⟨h2,h3⟩
theorem qkv:qa8 .mul k x y < 2 * k.format.signWeight∧key k.format (qa8 .mul k x y) = kz k.format (vz k.format x * vz k.format y) (2 * k.format.leastPlace):=by
  obtain ⟨r,h1,h2,h3⟩:=mul_key (fmtK k) hx hy
  unfold qa8
  simp only [h1,Option.getD_some]
  exact ⟨h2,h3⟩
end
section
variable {k:FloatKind} {x y lo hi:Nat} (hx:W k.format x) (hy:W k.format y) (hlo:W k.format lo) (hhi:W k.format hi)
include hx hy hlo hhi
end
end Go.Proofs.Ytdnkjocenbepaaa.AWN

namespace Go.Proofs.Ytdnkjocenbepaaa.AWN
open Go Ieee
section
variable {k:FloatKind}
theorem up (k:FloatKind):(0:Int) < ((2 ^ (-k.format.leastPlace).toNat:Nat):Int):=by have:=Nat.two_pow_pos (-k.format.leastPlace).toNat;omega
theorem qp3 (n:Nat):∀ (todo root:Nat),root * root ≤ n→Datum.rootFrom n todo root * Datum.rootFrom n todo root ≤ n
  | 0,root,h=>h
  | todo + 1,root,h=>by
    unfold Datum.rootFrom
    apply qp3 n todo
    split
    · assumption
    · exact h
end
end Go.Proofs.Ytdnkjocenbepaaa.AWN

namespace Go.Proofs.Ytdnkjocenbepaaa.AWN
open Go Ieee
theorem qwg {k:FloatKind} {x:Nat} (hx:W k.format x):W k.format (fneg k x)∧vz k.format (fneg k x) = -vz k.format x∧fneg k x = Op.negFloat k x∧∃ s m p,k.format.read x = .number s m p∧k.format.read (fneg k x) = .number (!s) m p:=by
  have hlt:x < 2 ^ k.format.width:=by rw [qp9];exact hx.lt
  obtain ⟨s,m,p,e⟩:=hx.fin
  have hr:k.format.read (Op.negFloat k x) = .number (!s) m p:=by rw [qtj k x hlt,e];rfl
  have hc:fneg k x = Op.negFloat k x:=by
    unfold fneg
    apply qd5
    unfold isnan
    rw [hr];rfl
  rw [hc]
  refine ⟨⟨by rw [← qp9];exact qtc hlt,_,_,_,hr⟩,?_,rfl,s,m,p,e,hr⟩
  unfold vz
  rw [e,hr]
  dsimp only
  unfold signed
  cases s <;> simp
end Go.Proofs.Ytdnkjocenbepaaa.AWN

namespace Go.Proofs.Ytdnkjocenbepaaa.AWN
open Go Ieee
/-! ### Powers of two -/
def p2 (z:Int):Rat:=(2:Rat) ^ z
theorem qhv (z:Int):0 < p2 z:=Rat.zpow_pos (by decide)
theorem qmi (a b:Int):p2 (a + b) = p2 a * p2 b:=Rat.zpow_add (by decide) a b
theorem qvp (n:Nat):p2 (n:Int) = ((2 ^ n:Nat):Rat):=by
  unfold p2;rw [Rat.zpow_natCast];simp
theorem qiz {a b:Int} {n:Nat} (h:a = b + n):p2 a = ((2 ^ n:Nat):Rat) * p2 b:=by
  rw [h,qmi,qvp];grind
theorem qup {a b:Int} (h:a ≤ b):p2 a ≤ p2 b:=by
  rw [qiz (n:=(b - a).toNat) (show b = a + (b - a).toNat by omega)]
  have h1:(1:Rat) ≤ ((2 ^ (b - a).toNat:Nat):Rat):=by
    have:1 ≤ 2 ^ (b - a).toNat:=Nat.two_pow_pos _
    exact_mod_cast this
  have:=qhv a
  have h2:=Rat.mul_le_mul_of_nonneg_right h1 (Rat.le_of_lt this)
  grind
/-! ### A cut -/
theorem cut_err (n d:Nat):2 * (Toward.even.cut false n d * 2 ^ d) ≤ 2 * n + 2 ^ d∧2 * n ≤ 2 * (Toward.even.cut false n d * 2 ^ d) + 2 ^ d:=by
  rw [qjf]
  have hp:=Nat.two_pow_pos d
  have hdm:=Nat.div_add_mod n (2 ^ d)
  have hml:=Nat.mod_lt n hp
  generalize 2 ^ d = D at *
  generalize n % D = r at *
  generalize n / D = q at *
  have e:(q + 1) * D = D * q + D:=by rw [Nat.add_mul,Nat.one_mul,Nat.mul_comm]
  have e0:(q + 0) * D = D * q:=by rw [Nat.add_zero,Nat.mul_comm]
  by_cases h1:D < 2 * r
  · rw [show (decide (D < 2 * r) || (D == 2 * r && q % 2 == 1)).toNat = 1 by simp [h1],e]
    omega
  · by_cases h2:D = 2 * r
    · cases hb:(decide (D < 2 * r) || (D == 2 * r && q % 2 == 1)) with
      | true=>rw [show (true:Bool).toNat = 1 from rfl,e];omega
      | false=>rw [show (false:Bool).toNat = 0 from rfl,e0];omega
    · have hb:(decide (D < 2 * r) || (D == 2 * r && q % 2 == 1)) = false:=by simp [h1,h2]
      rw [hb,show (false:Bool).toNat = 0 from rfl,e0];omega
theorem rung_val {f:Format} (hf:FmtK f) {m:Nat} {p:Int} (hm:m ≠ 0) (hlt:rung f m p < f.infRung) :
    ∃ (K:Nat) (L:Int),Ex f K L∧rung f K L = rung f m p∧2 * (K * p2 L) ≤ 2 * (m * p2 p) + p2 (qbx f m p)∧2 * (m * p2 p) ≤ 2 * (K * p2 L) + p2 (qbx f m p):=by
  have hb0:0 < f.binade:=Nat.two_pow_pos _
  have hb2:2 * f.binade = 2 ^ (f.fractionBits + 1):=by rw [Format.binade,Nat.pow_succ];omega
  obtain ⟨k1,k2⟩:=qky f (p:=p) hm
  have hrung:rung f m p = min ((qbx f m p - f.leastPlace).toNat * f.binade + qfe f m p) f.infRung:=by unfold rung;rw [if_neg hm]
  have hLl:f.leastPlace ≤ qbx f m p:=by unfold qbx;omega
  have hsmall:qfe f m p < f.binade→qbx f m p = f.leastPlace:=by
    intro h
    have:¬ f.leastPlace ≤ p + m.log2 - f.fractionBits:=fun h2=>by have:=k2 h2;omega
    unfold qbx;omega
  -- the error
  have herr:2 * ((qfe f m p:Nat) * p2 (qbx f m p)) ≤ 2 * (m * p2 p) + p2 (qbx f m p)∧2 * (m * p2 p) ≤ 2 * ((qfe f m p:Nat) * p2 (qbx f m p)) + p2 (qbx f m p):=by
    have hc:=cut_err (m <<< (p - qbx f m p).toNat) (qbx f m p - p).toNat
    have hk:qfe f m p = Toward.even.cut false (m <<< (p - qbx f m p).toNat) (qbx f m p - p).toNat:=rfl
    rw [← hk,qh9] at hc
    generalize qfe f m p = K at *
    generalize qbx f m p = L at *
    rcases Int.le_total L p with h | h
    · have hd:(L - p).toNat = 0:=by omega
      rw [hd] at hc
      simp only [Nat.pow_zero,Nat.mul_one] at hc
      have e:=qiz (n:=(p - L).toNat) (show p = L + (p - L).toNat by omega)
      generalize (p - L).toNat = s at *
      rw [e]
      have c1:2 * (K:Rat) ≤ 2 * (m * ((2 ^ s:Nat):Rat)) + 1:=by exact_mod_cast hc.1
      have c2:2 * (m * ((2 ^ s:Nat):Rat)) ≤ 2 * (K:Rat) + 1:=by exact_mod_cast hc.2
      have hp:=Rat.le_of_lt (qhv L)
      have d1:=Rat.mul_le_mul_of_nonneg_right c1 hp
      have d2:=Rat.mul_le_mul_of_nonneg_right c2 hp
      constructor <;> grind
    · have hs:(p - L).toNat = 0:=by omega
      rw [hs] at hc
      simp only [Nat.pow_zero,Nat.mul_one] at hc
      have e:=qiz (n:=(L - p).toNat) (show L = p + (L - p).toNat by omega)
      generalize (L - p).toNat = s at *
      rw [e]
      have c1:2 * ((K:Rat) * ((2 ^ s:Nat):Rat)) ≤ 2 * (m:Rat) + ((2 ^ s:Nat):Rat):=by exact_mod_cast hc.1
      have c2:2 * (m:Rat) ≤ 2 * ((K:Rat) * ((2 ^ s:Nat):Rat)) + ((2 ^ s:Nat):Rat):=by exact_mod_cast hc.2
      have hp:=Rat.le_of_lt (qhv p)
      have d1:=Rat.mul_le_mul_of_nonneg_right c1 hp
      have d2:=Rat.mul_le_mul_of_nonneg_right c2 hp
      constructor <;> grind
  have hinf:f.infRung = qff f * f.binade:=rfl
  have hsum:(qbx f m p - f.leastPlace).toNat * f.binade + qfe f m p < qff f * f.binade:=by
    rw [hrung,hinf] at hlt;omega
  have hmany:=hf.many
  have mulP:∀ (a:Nat),a * f.binade < qff f * f.binade→a < qff f:=fun a h=>Nat.lt_of_mul_lt_mul_right h
  have hL1:=mulP (qbx f m p - f.leastPlace).toNat (by omega)
  rcases Nat.lt_or_ge (qfe f m p) (2 * f.binade) with hK | hK
  · refine ⟨qfe f m p,qbx f m p,⟨by rw [← hb2];exact hK,hLl,?_⟩,?_,herr⟩
    · -- not too great
      rcases Nat.lt_or_ge (qfe f m p) f.binade with h | h
      · have:=hsmall h
        by_cases h0:qfe f m p = 0
        · rw [h0,show Nat.log2 0 = 0 from by decide];omega
        · have:(qfe f m p).log2 < f.fractionBits:=(Nat.log2_lt h0).2 h
          omega
      · have h0:qfe f m p ≠ 0:=by omega
        have:(qfe f m p).log2 < f.fractionBits + 1:=(Nat.log2_lt h0).2 (by rw [← hb2];exact hK)
        have:=mulP ((qbx f m p - f.leastPlace).toNat + 1) (by rw [Nat.add_mul,Nat.one_mul];omega)
        omega
    · rw [hrung]
      by_cases h0:qfe f m p = 0
      · have:=hsmall (by omega)
        rw [h0,qhw,this]
        simp
      · have hlast:qbx f (qfe f m p) (qbx f m p) = qbx f m p:=by
          rcases Nat.lt_or_ge (qfe f m p) f.binade with h | h
          · have h1:=hsmall h
            have h2:(qfe f m p).log2 < f.fractionBits:=(Nat.log2_lt h0).2 h
            rw [h1]
            show max (f.leastPlace + ((qfe f m p).log2:Int) - f.fractionBits) f.leastPlace = f.leastPlace
            omega
          · have h2:(qfe f m p).log2 < f.fractionBits + 1:=(Nat.log2_lt h0).2 (by rw [← hb2];exact hK)
            have h3:f.fractionBits ≤ (qfe f m p).log2:=(Nat.le_log2 h0).2 h
            show max (qbx f m p + ((qfe f m p).log2:Int) - f.fractionBits) f.leastPlace = qbx f m p
            omega
        obtain ⟨_,q2⟩:=qlq f (p:=qbx f m p) h0 (by rw [← hb2];exact hK) hLl
        rw [hlast,show (qbx f m p - qbx f m p).toNat = 0 by omega,Nat.pow_zero,Nat.mul_one] at q2
        unfold rung
        rw [if_neg h0,hlast,q2]
  · have hKe:qfe f m p = 2 * f.binade:=by omega
    have hbn:f.binade ≠ 0:=by omega
    have hlogb:f.binade.log2 = f.fractionBits:=by rw [Format.binade];exact Nat.log2_two_pow
    have hL2:=mulP ((qbx f m p - f.leastPlace).toNat + 2) (by rw [Nat.add_mul];omega)
    refine ⟨f.binade,qbx f m p + 1,⟨by omega,by omega,by rw [hlogb];omega⟩,?_,?_⟩
    · have hlast:qbx f f.binade (qbx f m p + 1) = qbx f m p + 1:=by
        show max (qbx f m p + 1 + (f.binade.log2:Int) - f.fractionBits) f.leastPlace = _
        rw [hlogb];omega
      obtain ⟨_,q2⟩:=qlq f (p:=qbx f m p + 1) hbn (by omega) (by omega)
      rw [hlast,show (qbx f m p + 1 - (qbx f m p + 1)).toNat = 0 by omega,Nat.pow_zero,Nat.mul_one] at q2
      rw [hrung]
      unfold rung
      rw [if_neg hbn,hlast,q2,hKe,show (qbx f m p + 1 - f.leastPlace).toNat = (qbx f m p - f.leastPlace).toNat + 1 by omega,Nat.add_mul]
      congr 1;omega
    · have e:((f.binade:Nat):Rat) * p2 (qbx f m p + 1) = ((qfe f m p:Nat):Rat) * p2 (qbx f m p):=by
        rw [hKe,qmi]
        have:p2 1 = 2:=Rat.zpow_one 2
        rw [this]
        have e2:(((2 * f.binade:Nat)):Rat) = 2 * ((f.binade:Nat):Rat):=by exact_mod_cast rfl
        rw [e2];grind
      rw [e];exact herr
end Go.Proofs.Ytdnkjocenbepaaa.AWN

namespace Go.Proofs.Ytdnkjocenbepaaa.AWN
open Go Ieee
def qv (k:FloatKind) (w:Nat):Rat:=(vz k.format w:Rat) * p2 k.format.leastPlace
def ulp:FloatKind→Rat
  | .f32=>1 / 16777216
  | .f64=>1 / 9007199254740992
def tiny:Rat:=1 / 1000000000000000000000000000000
def huge:Rat:=1000000000000000000000000000000
abbrev FW (k:FloatKind) (w:Nat):Prop:=W k.format w
theorem qqe (k:FloatKind):ulp k * (2 * (k.format.binade:Rat)) = 1:=by
  cases k
  · show (1 / 16777216:Rat) * (2 * ((8388608:Nat):Rat)) = 1;decide +kernel
  · show (1 / 9007199254740992:Rat) * (2 * ((4503599627370496:Nat):Rat)) = 1;decide +kernel
theorem tiny_least (k:FloatKind):p2 k.format.leastPlace ≤ tiny:=by
  have h:p2 (-149) ≤ tiny:=by unfold p2 tiny;decide +kernel
  cases k
  · exact h
  · exact Rat.le_trans (qup (by decide)) h
theorem quf:huge ≤ p2 100:=by unfold p2 huge;decide +kernel
theorem rung_100 (k:FloatKind):rung k.format 1 100 < k.format.infRung:=by cases k <;> decide +kernel
theorem p2_le_inv {a b:Int} (h:p2 a ≤ p2 b):a ≤ b:=by
  rcases Int.lt_or_le b a with h1 | h1
  · exfalso
    have h2:=qup (show b + 1 ≤ a by omega)
    rw [qmi,show p2 1 = 2 from Rat.zpow_one 2] at h2
    have:=qhv b
    grind
  · exact h1
theorem qh3 {k:FloatKind} {w:Nat} {s:Bool} {m:Nat} {p:Int} (h:k.format.read w = .number s m p):qv k w = (if s then -1 else 1) * ((m:Rat) * p2 p):=by
  have hl:=(qhz (fmtK k).many h).least
  unfold qv vz
  rw [h]
  dsimp only
  have e:=qiz (n:=(p - k.format.leastPlace).toNat) (show p = k.format.leastPlace + (p - k.format.leastPlace).toNat by omega)
  generalize (p - k.format.leastPlace).toNat = n at *
  rw [e]
  have hs:(signed s m n:Rat) = (if s then -1 else 1) * ((m:Rat) * ((2 ^ n:Nat):Rat)):=by
    unfold signed
    rw [qh9]
    cases s
    · simp only [Bool.false_eq_true,if_false]
      have:(((m * 2 ^ n:Nat):Int):Rat) = (m:Rat) * ((2 ^ n:Nat):Rat):=by exact_mod_cast rfl
      rw [this];grind
    · simp only [if_true]
      have:((-((m * 2 ^ n:Nat):Int):Int):Rat) = -((m:Rat) * ((2 ^ n:Nat):Rat)):=by push_cast;rfl
      rw [this];grind
  rw [hs];grind
theorem qmg {k:FloatKind} (s:Bool) (m:Nat) (p:Int) {M:Rat} (hM:M ≤ huge) (h:(m:Rat) * p2 p ≤ M) :
    FW k (k.format.nearest s m p)∧qv k (k.format.nearest s m p) - (if s then -1 else 1) * ((m:Rat) * p2 p) ≤ M * ulp k + tiny∧(if s then -1 else 1) * ((m:Rat) * p2 p) - qv k (k.format.nearest s m p) ≤ M * ulp k + tiny:=by
  have hf:=fmtK k
  have hM0:0 ≤ M:=Rat.le_trans (Rat.mul_nonneg (by exact_mod_cast Nat.zero_le m) (Rat.le_of_lt (qhv p))) h
  have hul:0 ≤ ulp k:=by cases k <;> (unfold ulp;decide +kernel)
  have htiny:0 ≤ tiny:=by unfold tiny;decide +kernel
  have hMu:=Rat.mul_nonneg hM0 hul
  by_cases hm:m = 0
  · subst hm
    have hz:k.format.nearest s 0 p = k.format.word s 0:=qh7 _ _ _
    have hr:k.format.read (k.format.nearest s 0 p) = .number s 0 k.format.leastPlace:=by
      rw [hz,qgu _ _ _ (Nat.two_pow_pos _),if_pos (show 0 < k.format.binade from Nat.two_pow_pos _)]
    have hq:=qh3 hr
    refine ⟨⟨qi3 _ _ _ _,⟨_,_,_,hr⟩⟩,?_,?_⟩
    · rw [hq];simp;grind
    · rw [hq];simp;grind
  · have hp:p ≤ 100:=by
      refine p2_le_inv (Rat.le_trans ?_ (Rat.le_trans h (Rat.le_trans hM quf)))
      have h1:(1:Rat) ≤ (m:Rat):=by exact_mod_cast (show 1 ≤ m by omega)
      have:=Rat.mul_le_mul_of_nonneg_right h1 (Rat.le_of_lt (qhv p))
      grind
    have hlt:rung k.format m p < k.format.infRung:=by
      have h1:m ≤ 2 ^ (100 - p).toNat:=by
        have e:=qiz (n:=(100 - p).toNat) (show (100:Int) = p + (100 - p).toNat by omega)
        have h2:(m:Rat) * p2 p ≤ ((2 ^ (100 - p).toNat:Nat):Rat) * p2 p:=by
          rw [← e];exact Rat.le_trans h (Rat.le_trans hM quf)
        have h3:=Rat.le_of_mul_le_mul_right h2 (qhv p)
        exact_mod_cast h3
      have h2:=qp4 k.format p h1
      have h3:rung k.format (2 ^ (100 - p).toNat) p = rung k.format 1 100:=by
        have:=qn9 k.format 1 (100 - p).toNat p
        rw [Nat.one_mul] at this
        rw [this];congr 1;omega
      have:=rung_100 k
      omega
    obtain ⟨K,L,hE,hk,e1,e2⟩:=rung_val hf hm hlt
    -- the word is the word of what is kept
    have hw:k.format.nearest s m p = k.format.nearest s K L:=by rw [qj4,qj4,hk]
    obtain ⟨a,P,h1,h2⟩:=qsl (qw0 k) s hE
    have hq:=qh3 h1
    have hKP:((K * 2 ^ a:Nat):Rat) * p2 P = (K:Rat) * p2 L:=by
      by_cases hK0:K = 0
      · subst hK0;simp
      · obtain ⟨h3,_⟩:=h2 hK0
        have e:=qiz (n:=a) (show L = P + a by omega)
        rw [e]
        push_cast
        grind
    rw [hKP] at hq
    rw [hw]
    refine ⟨⟨qi3 _ _ _ _,⟨_,_,_,h1⟩⟩,?_⟩
    rw [hq]
    -- a unit in the last place
    have hunit:p2 (qbx k.format m p) ≤ 2 * (M * ulp k) + tiny:=by
      unfold qbx
      rcases Int.le_total (p + m.log2 - k.format.fractionBits) k.format.leastPlace with h3 | h3
      · rw [Int.max_eq_right h3]
        have:=tiny_least k
        grind
      · rw [Int.max_eq_left h3]
        have e:p2 (p + m.log2) = ((k.format.binade:Nat):Rat) * p2 (p + m.log2 - k.format.fractionBits):=by
          have:=qiz (n:=k.format.fractionBits) (show p + (m.log2:Int) = (p + m.log2 - k.format.fractionBits) + k.format.fractionBits by omega)
          exact this
        have e3:p2 (p + m.log2) ≤ M:=by
          refine Rat.le_trans ?_ h
          have:=qiz (n:=m.log2) (show p + (m.log2:Int) = p + m.log2 by omega)
          rw [this]
          refine Rat.mul_le_mul_of_nonneg_right ?_ (Rat.le_of_lt (qhv p))
          exact_mod_cast Nat.log2_self_le hm
        have hub:=qqe k
        -- p2 q = (2 binade ulp) p2 q = 2 ulp (binade p2 q) <= 2 ulp M
        have e4:p2 (p + m.log2 - k.format.fractionBits) = 2 * (p2 (p + m.log2) * ulp k):=by
          rw [e]
          have:(2 * (((k.format.binade:Nat):Rat) * p2 (p + m.log2 - k.format.fractionBits) * ulp k)) = (ulp k * (2 * (k.format.binade:Rat))) * p2 (p + m.log2 - k.format.fractionBits):=by grind
          rw [this,hub];grind
        have e5:=Rat.mul_le_mul_of_nonneg_right e3 hul
        grind
    cases s
    · simp only [Bool.false_eq_true,if_false]
      constructor <;> grind
    · simp only [if_true]
      constructor <;> grind
theorem qjt {k:FloatKind} {x y:Nat} (hx:FW k x) (hy:FW k y):(key k.format x < key k.format y ↔ qv k x < qv k y)∧(key k.format x ≤ key k.format y ↔ qv k x ≤ qv k y):=by
  have hf:=fmtK k
  have hp:=qhv k.format.leastPlace
  have c1:vz k.format x < vz k.format y ↔ qv k x < qv k y:=by
    unfold qv
    constructor
    · intro h
      have:(vz k.format x:Rat) < (vz k.format y:Rat):=by exact_mod_cast h
      exact Rat.mul_lt_mul_of_pos_right this hp
    · intro h
      have:=Rat.lt_of_mul_lt_mul_right h (Rat.le_of_lt hp)
      exact_mod_cast this
  have c2:vz k.format x ≤ vz k.format y ↔ qv k x ≤ qv k y:=by
    unfold qv
    constructor
    · intro h
      have:(vz k.format x:Rat) ≤ (vz k.format y:Rat):=by exact_mod_cast h
      exact Rat.mul_le_mul_of_nonneg_right this (Rat.le_of_lt hp)
    · intro h
      have:=Rat.le_of_mul_le_mul_right h hp
      exact_mod_cast this
  exact ⟨(W.qvb hf hx hy).trans c1,(W.vz_le hf hx hy).trans c2⟩
theorem qkl {k:FloatKind} {x y:Nat} (hx:FW k x) (hy:FW k y) (h:key k.format x = key k.format y):qv k x = qv k y:=by
  have h1:=(qjt hx hy).2.1 (by omega)
  have h2:=(qjt hy hx).2.1 (by omega)
  exact Rat.le_antisymm h1 h2
theorem qr0 {k:FloatKind} {r:Nat} (Z p:Int) {M:Rat} (hr:r < 2 * k.format.signWeight) (hk:key k.format r = kz k.format Z p) (hM:M ≤ huge) (h1:(Z:Rat) * p2 p ≤ M) (h2:-((Z:Rat) * p2 p) ≤ M) :
    FW k r∧qv k r - (Z:Rat) * p2 p ≤ M * ulp k + tiny∧(Z:Rat) * p2 p - qv k r ≤ M * ulp k + tiny:=by
  have hf:=fmtK k
  have hZ:(Z:Rat) = (if decide (Z < 0) then -1 else 1) * ((Z.natAbs:Nat):Rat):=by
    rcases Int.lt_or_le Z 0 with h | h
    · rw [decide_eq_true h,if_pos rfl]
      have:Z = -((Z.natAbs:Nat):Int):=by omega
      have e:(Z:Rat) = ((-((Z.natAbs:Nat):Int):Int):Rat):=congrArg _ this
      rw [e];push_cast;grind
    · rw [decide_eq_false (by omega),if_neg (by simp)]
      have:Z = ((Z.natAbs:Nat):Int):=by omega
      have e:(Z:Rat) = (((Z.natAbs:Nat):Int):Rat):=congrArg _ this
      rw [e];push_cast;grind
  have hA:((Z.natAbs:Nat):Rat) * p2 p ≤ M:=by
    rcases Int.lt_or_le Z 0 with h | h
    · rw [decide_eq_true h,if_pos rfl] at hZ
      rw [hZ] at h2;grind
    · rw [decide_eq_false (by omega),if_neg (by simp)] at hZ
      rw [hZ] at h1;grind
  obtain ⟨w,e1,e2⟩:=qmg (k:=k) (decide (Z < 0)) Z.natAbs p hM hA
  have hkey:key k.format r = key k.format (k.format.nearest (decide (Z < 0)) Z.natAbs p):=by
    rw [hk,qi1 hf]
    unfold kz
    simp
  have hl:=w.qt7 hf
  have wr:FW k r:=⟨hr,qkf (by rw [hkey];exact hl.2) (by rw [hkey];exact hl.1)⟩
  rw [qkl wr w hkey]
  refine ⟨wr,?_,?_⟩
  · rw [hZ];have e:(if decide (Z < 0) = true then -1 else 1) * ((Z.natAbs:Nat):Rat) * p2 p = (if decide (Z < 0) = true then -1 else 1) * (((Z.natAbs:Nat):Rat) * p2 p):=by grind
    rw [e];exact e1
  · rw [hZ];have e:(if decide (Z < 0) = true then -1 else 1) * ((Z.natAbs:Nat):Rat) * p2 p = (if decide (Z < 0) = true then -1 else 1) * (((Z.natAbs:Nat):Rat) * p2 p):=by grind
    rw [e];exact e2
end Go.Proofs.Ytdnkjocenbepaaa.AWN

namespace Go.Proofs.Ytdnkjocenbepaaa.AWN
open Go Ieee
section
variable {k:FloatKind} {x y:Nat} (hx:FW k x) (hy:FW k y) {M:Rat} (hM:M ≤ huge)
include hx hy hM
theorem qw3 (h1:qv k x + qv k y ≤ M) (h2:-(qv k x + qv k y) ≤ M):FW k (qa8 .add k x y)∧qv k (qa8 .add k x y) - (qv k x + qv k y) ≤ M * ulp k + tiny∧(qv k x + qv k y) - qv k (qa8 .add k x y) ≤ M * ulp k + tiny:=by
  obtain ⟨a,b⟩:=qmc hx hy
  have e:((vz k.format x + vz k.format y:Int):Rat) * p2 k.format.leastPlace = qv k x + qv k y:=by
    unfold qv;push_cast;grind
  have:=qr0 (vz k.format x + vz k.format y) k.format.leastPlace a b hM (by rw [e];exact h1) (by rw [e];exact h2)
  rw [e] at this;exact this
theorem qsk (h1:qv k x - qv k y ≤ M) (h2:-(qv k x - qv k y) ≤ M):FW k (qa8 .sub k x y)∧qv k (qa8 .sub k x y) - (qv k x - qv k y) ≤ M * ulp k + tiny∧(qv k x - qv k y) - qv k (qa8 .sub k x y) ≤ M * ulp k + tiny:=by
  obtain ⟨a,b⟩:=qns hx hy
  have e:((vz k.format x - vz k.format y:Int):Rat) * p2 k.format.leastPlace = qv k x - qv k y:=by
    unfold qv;push_cast;grind
  have:=qr0 (vz k.format x - vz k.format y) k.format.leastPlace a b hM (by rw [e];exact h1) (by rw [e];exact h2)
  rw [e] at this;exact this
theorem qpg (h1:qv k x * qv k y ≤ M) (h2:-(qv k x * qv k y) ≤ M):FW k (qa8 .mul k x y)∧qv k (qa8 .mul k x y) - (qv k x * qv k y) ≤ M * ulp k + tiny∧(qv k x * qv k y) - qv k (qa8 .mul k x y) ≤ M * ulp k + tiny:=by
  obtain ⟨a,b⟩:=qkv hx hy
  have e:((vz k.format x * vz k.format y:Int):Rat) * p2 (2 * k.format.leastPlace) = qv k x * qv k y:=by
    unfold qv
    rw [show 2 * k.format.leastPlace = k.format.leastPlace + k.format.leastPlace by omega,qmi]
    push_cast;grind
  have:=qr0 (vz k.format x * vz k.format y) (2 * k.format.leastPlace) a b hM (by rw [e];exact h1) (by rw [e];exact h2)
  rw [e] at this;exact this
end
theorem qv8 {k:FloatKind} {x:Nat} (hx:FW k x):FW k (fneg k x)∧qv k (fneg k x) = -qv k x:=by
  obtain ⟨a,b,_⟩:=qwg hx
  refine ⟨a,?_⟩
  unfold qv;rw [b];push_cast;grind
theorem qrx {x:Nat} (hx:FW .f32 x):∃ r,qgo .f32 .f64 x = some r∧FW .f64 r∧qv .f64 r = qv .f32 x:=by
  obtain ⟨r,e,_,h⟩:=wide_some x
  obtain ⟨s,m,p,hr⟩:=hx.fin
  have hr2:=h s m p hr
  have he:=qub (qhz qvq hr)
  obtain ⟨a,P,h1,h2⟩:=qsl (qw0 .f64) s he
  have h1':FloatKind.f64.format.read r = .number s (m * 2 ^ a) P:=by rw [hr2];exact h1
  refine ⟨r,e,⟨by rw [hr2];exact qi3 _ _ _ _,_,_,_,h1'⟩,?_⟩
  rw [qh3 h1',qh3 (k:=.f32) hr]
  by_cases hm:m = 0
  · subst hm;simp
  · obtain ⟨h3,_⟩:=h2 hm
    have e:=qiz (n:=a) (show p = P + a by omega)
    rw [e];push_cast;grind
theorem qmj {x:Nat} (hx:FW .f64 x) {M:Rat} (hM:M ≤ huge) (h1:qv .f64 x ≤ M) (h2:-qv .f64 x ≤ M):∃ r,qgo .f64 .f32 x = some r∧FW .f32 r∧qv .f32 r - qv .f64 x ≤ M * ulp .f32 + tiny∧qv .f64 x - qv .f32 r ≤ M * ulp .f32 + tiny:=by
  obtain ⟨s,m,p,hr⟩:=hx.fin
  have hq:=qh3 hr
  have hA:(m:Rat) * p2 p ≤ M:=by
    cases s
    · simp only [Bool.false_eq_true,if_false] at hq;rw [hq] at h1;grind
    · simp only [if_true] at hq;rw [hq] at h2;grind
  obtain ⟨w,e1,e2⟩:=qmg (k:=.f32) s m p hM hA
  refine ⟨FloatKind.f32.format.nearest s m p,?_,w,by rw [hq];exact e1,by rw [hq];exact e2⟩
  unfold qgo
  have hk:fkEq FloatKind.f64 .f32 = false:=rfl
  have hd:FloatKind.f64.decode x = .number s m p:=hr
  rw [hk,cond_false,hd]
  dsimp only
  obtain ⟨s',m',p',hr'⟩:=w.fin
  have hi:(FloatKind.f32.decode (FloatKind.f32.encode (.number s m p))).isInfinity = false:=by
    have:FloatKind.f32.decode (FloatKind.f32.encode (.number s m p)) = .number s' m' p':=hr'
    rw [this];rfl
  rw [hi];rfl
/-! ### Order -/
section
variable {k:FloatKind} {x y:Nat} (hx:FW k x) (hy:FW k y)
include hx hy
theorem q_lss:fcmp .lss k x y = decide (qv k x < qv k y):=by rw [qts hx hy];exact decide_eq_decide.2 (qjt hx hy).1
theorem q_eql:fcmp .eql k x y = decide (qv k x = qv k y):=by
  rw [qvx hx hy]
  refine decide_eq_decide.2 ⟨fun h=>qkl hx hy h,fun h=>?_⟩
  have h1:=(qjt hx hy).2.2 (by rw [h];exact Rat.le_refl)
  have h2:=(qjt hy hx).2.2 (by rw [h];exact Rat.le_refl)
  omega
theorem qwe:fcmp .neq k x y = !decide (qv k x = qv k y):=by
  rw [neq_w hx hy,← q_eql hx hy,qvx hx hy]
end
theorem qir {a b c:Rat} (hc:0 < c) (e:a * c = b * c):a = b :=
  Rat.le_antisymm (Rat.le_of_mul_le_mul_right (by rw [e];exact Rat.le_refl) hc) (Rat.le_of_mul_le_mul_right (by rw [e];exact Rat.le_refl) hc)
/-! ### Quotients -/
theorem q_quo {k:FloatKind} {x y:Nat} (hx:FW k x) (hy:FW k y) {q M:Rat} (hM:M * 2 ≤ huge) (hy0:qv k y ≠ 0) (hq:q * qv k y = qv k x) (h1:q ≤ M) (h2:-q ≤ M) :
    FW k (qa8 .quo k x y)∧qv k (qa8 .quo k x y) - q ≤ M * (3 * ulp k) + tiny∧q - qv k (qa8 .quo k x y) ≤ M * (3 * ulp k) + tiny:=by
  obtain ⟨s,m,i,e⟩:=hx.fin
  obtain ⟨t,n,j,e'⟩:=hy.fin
  have vx:=qh3 e
  have vy:=qh3 e'
  have hn:n ≠ 0:=by
    rintro rfl
    apply hy0;rw [vy];simp
  have hul:0 < ulp k:=by cases k <;> (unfold ulp;decide +kernel)
  have htiny:0 ≤ tiny:=by unfold tiny;decide +kernel
  generalize hmore:k.format.fractionBits + 2 + n.log2 - m.log2 = more
  have hdiv:qa8 .quo k x y = k.format.nearest (s ^^ t) (2 * (m <<< more / n) + (m <<< more % n != 0).toNat) (i - j - more - 1):=by
    have:k.format.div x y = some (k.format.nearest (s ^^ t) (2 * (m <<< more / n) + (m <<< more % n != 0).toNat) (i - j - more - 1)):=by
      unfold Format.div
      rw [e,e']
      simp only [Datum.quotient,if_neg hn,Option.map_some,Format.write,hmore]
    unfold qa8
    simp only [this,Option.getD_some]
  rw [hdiv]
  -- magnitudes
  have hsg:∀ b:Bool,(if b then (-1:Rat) else 1) * (if b then (-1:Rat) else 1) = 1:=fun b=>by cases b <;> grind
  have hst:∀ a b:Bool,(if (a ^^ b) then (-1:Rat) else 1) = (if a then (-1:Rat) else 1) * (if b then (-1:Rat) else 1):=fun a b=>by cases a <;> cases b <;> (simp;try grind)
  -- the quotient's own magnitude
  let Q:Rat:=(if (s ^^ t) then -1 else 1) * q
  have hQ:Q * ((n:Rat) * p2 j) = (m:Rat) * p2 i:=by
    rw [vx,vy] at hq
    show (if (s ^^ t) then -1 else 1) * q * ((n:Rat) * p2 j) = _
    rw [hst]
    have h3:=hsg s
    have h4:=hsg t
    generalize (if s = true then (-1:Rat) else 1) = a at *
    generalize (if t = true then (-1:Rat) else 1) = b at *
    grind
  have hqQ:q = (if (s ^^ t) then -1 else 1) * Q:=by
    show q = (if (s ^^ t) then -1 else 1) * ((if (s ^^ t) then -1 else 1) * q)
    have:=hsg (s ^^ t)
    generalize (if (s ^^ t) = true then (-1:Rat) else 1) = a at *
    grind
  have hQM:Q ≤ M:=by
    show (if (s ^^ t) then -1 else 1) * q ≤ M
    cases s <;> cases t <;> simp <;> grind
  have hnp:(0:Rat) < (n:Rat) * p2 j:=Rat.mul_pos (by exact_mod_cast Nat.pos_of_ne_zero hn) (qhv j)
  have hmp:(0:Rat) ≤ (m:Rat) * p2 i:=Rat.mul_nonneg (by exact_mod_cast Nat.zero_le m) (Rat.le_of_lt (qhv i))
  have hQ0:0 ≤ Q:=by
    have h5:0 * ((n:Rat) * p2 j) ≤ Q * ((n:Rat) * p2 j):=by rw [hQ];grind
    exact Rat.le_of_mul_le_mul_right h5 hnp
  -- what the digits say
  have hdm:=Nat.div_add_mod (m <<< more) n
  have hrl:=Nat.mod_lt (m <<< more) (Nat.pos_of_ne_zero hn)
  rw [qh9] at hdm hrl ⊢
  have hQt:m ≠ 0→2 * k.format.binade ≤ m * 2 ^ more / n:=by
    intro hm
    rw [Nat.le_div_iff_mul_le (Nat.pos_of_ne_zero hn)]
    have a1:=Nat.log2_self_le hm
    have a2:=@Nat.lt_log2_self n
    have b2:2 * k.format.binade = 2 ^ (k.format.fractionBits + 1):=by rw [Format.binade,Nat.pow_succ];omega
    rw [b2]
    have a3:2 ^ (k.format.fractionBits + 1) * n ≤ 2 ^ (k.format.fractionBits + 1) * 2 ^ (n.log2 + 1):=Nat.mul_le_mul_left _ (Nat.le_of_lt a2)
    have a4:2 ^ m.log2 * 2 ^ more ≤ m * 2 ^ more:=Nat.mul_le_mul_right _ a1
    rw [← Nat.pow_add] at a3 a4
    exact Nat.le_trans a3 (Nat.le_trans (Nat.pow_le_pow_right (by decide) (by omega)) a4)
  have hst1:(m * 2 ^ more % n != 0).toNat = if m * 2 ^ more % n = 0 then 0 else 1:=by
    by_cases h:m * 2 ^ more % n = 0
    · rw [if_pos h,h];rfl
    · rw [if_neg h];simp [h]
  have hm0:m = 0→m * 2 ^ more / n = 0∧m * 2 ^ more % n = 0:=by rintro rfl;simp
  generalize hT:m * 2 ^ more / n = T at *
  generalize hR:m * 2 ^ more % n = R at *
  generalize hS:(R != 0).toNat = S at *
  -- exact: Q n p2 j = m p2 i,m 2^more = n T + R
  have hP:p2 i = 2 * (p2 (i - j - more - 1) * (p2 j * ((2 ^ more:Nat):Rat))):=by
    have:i = (i - j - more - 1) + 1 + (j + (more:Int)):=by omega
    have h6:p2 i = p2 (i - j - more - 1) * p2 1 * (p2 j * p2 (more:Int)):=by
      rw [← qmi,← qmi,← qmi];congr 1
    rw [h6,qvp,show p2 1 = 2 from Rat.zpow_one 2];grind
  have hex:Q * (n:Rat) = 2 * (((n:Rat) * T + R) * p2 (i - j - more - 1)):=by
    have c1:(m:Rat) * ((2 ^ more:Nat):Rat) = (n:Rat) * T + R:=by exact_mod_cast hdm.symm
    have hj:=qhv j
    have:Q * (n:Rat) * p2 j = 2 * (((n:Rat) * T + R) * p2 (i - j - more - 1)) * p2 j:=by
      rw [hP] at hQ
      rw [← c1]
      grind
    exact qir hj this
  have hPp:=qhv (i - j - more - 1)
  generalize hu':p2 (i - j - more - 1) = u at *
  have hnR:(0:Rat) < (n:Rat):=by exact_mod_cast Nat.pos_of_ne_zero hn
  -- between (2 T + S - 1) u and (2 T + S + 1) u
  have hdist:(((2 * T + S:Nat)):Rat) * u - Q ≤ u∧Q - (((2 * T + S:Nat)):Rat) * u ≤ u:=by
    have hcast:(((2 * T + S:Nat)):Rat) = 2 * (T:Rat) + (S:Rat):=by push_cast;rfl
    rw [hcast]
    by_cases hR0:R = 0
    · rw [if_pos hR0] at hst1
      subst hR0
      have hS0:(S:Rat) = 0:=by rw [hst1];rfl
      have hQe:Q = 2 * (T:Rat) * u:=by
        refine qir hnR ?_
        rw [hex]
        have:((0:Nat):Rat) = 0:=rfl
        rw [this];grind
      rw [hS0,hQe]
      constructor <;> grind
    · rw [if_neg hR0] at hst1
      have hS1:(S:Rat) = 1:=by rw [hst1];rfl
      rw [hS1]
      have r1:(1:Rat) ≤ (R:Rat):=by exact_mod_cast Nat.pos_of_ne_zero hR0
      have r2:(R:Rat) ≤ (n:Rat):=by exact_mod_cast Nat.le_of_lt hrl
      have d1:(2 * (T:Rat) * u) * n ≤ Q * n:=by
        rw [hex]
        have:=Rat.mul_nonneg (Rat.le_trans (by decide:(0:Rat) ≤ 1) r1) (Rat.le_of_lt hPp)
        grind
      have d2:Q * n ≤ (2 * (T:Rat) * u + 2 * u) * n:=by
        rw [hex]
        have:=Rat.mul_le_mul_of_nonneg_right r2 (Rat.le_of_lt hPp)
        grind
      have d1':=Rat.le_of_mul_le_mul_right d1 hnR
      have d2':=Rat.le_of_mul_le_mul_right d2 hnR
      constructor <;> grind
  have hM0:0 ≤ M:=Rat.le_trans hQ0 hQM
  have hMu:=Rat.mul_nonneg hM0 (Rat.le_of_lt hul)
  have hu:u ≤ M * ulp k ∨ m = 0:=by
    by_cases hm:m = 0
    · exact .inr hm
    · left
      have t1:(2 * (k.format.binade:Rat)) ≤ (T:Rat):=by exact_mod_cast hQt hm
      have t2:(2 * (T:Rat) * u) * n ≤ Q * n:=by
        rw [hex]
        have h0:(0:Rat) ≤ (R:Rat):=by exact_mod_cast Nat.zero_le R
        have:=Rat.mul_nonneg h0 (Rat.le_of_lt hPp)
        grind
      have t3:=Rat.le_of_mul_le_mul_right t2 hnR
      have t4:=Rat.mul_le_mul_of_nonneg_right t1 (Rat.le_of_lt hPp)
      have hub:=qqe k
      have t5:(2 * (k.format.binade:Rat)) * u ≤ M:=by grind
      have t6:=Rat.mul_le_mul_of_nonneg_right t5 (Rat.le_of_lt hul)
      have t7:(2 * (k.format.binade:Rat)) * u * ulp k = u * (ulp k * (2 * (k.format.binade:Rat))):=by grind
      rw [t7,hub] at t6
      grind
  rcases hu with hu | hm
  · have hulp1:ulp k ≤ 1:=by cases k <;> (unfold ulp;decide +kernel)
    have hMM:M * ulp k ≤ M:=by
      have:=Rat.mul_le_mul_of_nonneg_left hulp1 hM0
      grind
    obtain ⟨w,e1,e2⟩:=qmg (k:=k) (s ^^ t) (2 * T + S) (i - j - more - 1) (M:=M * 2) hM (by
      rw [hu']
      grind)
    rw [hu'] at e1 e2
    refine ⟨w,?_,?_⟩
    · rw [hqQ] at h1 ⊢
      cases hb:(s ^^ t)
      · simp only [hb,Bool.false_eq_true,if_false] at e1 e2 ⊢;grind
      · simp only [hb,if_true] at e1 e2 ⊢;grind
    · rw [hqQ] at h1 ⊢
      cases hb:(s ^^ t)
      · simp only [hb,Bool.false_eq_true,if_false] at e1 e2 ⊢;grind
      · simp only [hb,if_true] at e1 e2 ⊢;grind
  · -- nought
    obtain ⟨t1,t2⟩:=hm0 hm
    have hS0:S = 0:=by rw [hst1,if_pos t2]
    have hQz:Q = 0:=by
      refine qir hnR ?_
      rw [hex,t1,t2]
      have:((0:Nat):Rat) = 0:=rfl
      rw [this];grind
    have hT0:2 * T + S = 0:=by omega
    obtain ⟨w,e1,e2⟩:=qmg (k:=k) (s ^^ t) (2 * T + S) (i - j - more - 1) (M:=M) (by grind) (by
      rw [hT0]
      have:((0:Nat):Rat) = 0:=rfl
      rw [this];grind)
    rw [hT0,hu'] at e1 e2
    have z0:((0:Nat):Rat) = 0:=rfl
    rw [z0] at e1 e2
    rw [hT0] at w ⊢
    refine ⟨w,?_,?_⟩
    · rw [hqQ,hQz];grind
    · rw [hqQ,hQz];grind
end Go.Proofs.Ytdnkjocenbepaaa.AWN

namespace Go.Proofs.Ytdnkjocenbepaaa.AWN
open Go Ieee
theorem ulp_pos (k:FloatKind):0 < ulp k:=by cases k <;> (unfold ulp;decide +kernel)
theorem ulp_le (k:FloatKind):ulp k ≤ 1 / 16777216:=by cases k <;> (unfold ulp;decide +kernel)
theorem tiny_pos:0 < tiny:=by unfold tiny;decide +kernel
theorem qjx {x y B C:Rat} (h1:-B ≤ x) (h2:x ≤ B) (h3:-C ≤ y) (h4:y ≤ C):x * y ≤ B * C∧-(x * y) ≤ B * C:=by
  have a:=Rat.mul_nonneg (show 0 ≤ B - x by grind) (show 0 ≤ C - y by grind)
  have b:=Rat.mul_nonneg (show 0 ≤ B + x by grind) (show 0 ≤ C + y by grind)
  have c:=Rat.mul_nonneg (show 0 ≤ B - x by grind) (show 0 ≤ C + y by grind)
  have d:=Rat.mul_nonneg (show 0 ≤ B + x by grind) (show 0 ≤ C - y by grind)
  constructor <;> grind
theorem qj5 {a b:Rat} (hb:0 ≤ b) (h:a * a ≤ b * b):a ≤ b:=by
  rcases (Rat.le_total:a ≤ b ∨ b ≤ a) with h1 | h1
  · exact h1
  · have:=Rat.mul_nonneg (show 0 ≤ a - b by grind) (show 0 ≤ a - b by grind)
    have h2:=Rat.mul_nonneg (show 0 ≤ a - b by grind) hb
    -- (a-b)(a+b) <= 0
    by_cases h3:a = b
    · rw [h3];exact Rat.le_refl
    · exfalso
      have h4:0 < a - b:=by grind
      have h5:=Rat.mul_pos h4 h4
      grind
structure Bd (k:FloatKind) (w:Nat) (a b:Rat):Prop where
  wk:FW k w
  lo:a ≤ qv k w
  hi:qv k w ≤ b
section
variable {k:FloatKind} {x y:Nat} {a b c d lo hi M:Rat}
end
theorem qmo {k:FloatKind} {x:Nat} (hx:FW k x):FW k (qa8 .sub k x x)∧qv k (qa8 .sub k x x) = 0:=by
  obtain ⟨a,b⟩:=qns hx hx
  have h0:vz k.format x - vz k.format x = 0:=by omega
  rw [h0] at b
  have hz:kz k.format 0 k.format.leastPlace = 0:=by
    unfold kz;rw [if_neg (by omega),show (0:Int).natAbs = 0 from rfl,qhw];rfl
  rw [hz] at b
  have w:FW k (qa8 .sub k x x):=⟨a,qkf (by rw [b];have:=k.format.infRung_lt;have:0 < k.format.infRung:=by cases k <;> decide
                                           omega) (by rw [b];have:0 < k.format.infRung:=by cases k <;> decide
                                                      omega)⟩
  refine ⟨w,?_⟩
  have:=(W.qp8 (fmtK k) w).2.2.1 b
  unfold qv;rw [this];simp
theorem qms (k:FloatKind):FW k 0∧qv k 0 = 0:=by
  have hr:k.format.read 0 = .number false 0 k.format.leastPlace:=by
    have:=qgu k.format false 0 (Nat.two_pow_pos _)
    rw [show k.format.word false 0 = 0 from rfl,if_pos (show 0 < k.format.binade from Nat.two_pow_pos _)] at this
    exact this
  refine ⟨⟨by have:=Nat.two_pow_pos (k.format.exponentBits + k.format.fractionBits);show 0 < 2 * 2 ^ _;omega,_,_,_,hr⟩,?_⟩
  rw [qh3 hr];simp
/-! ### Sums with nought -/
theorem add_zero_q {k:FloatKind} {x y:Nat} (hx:FW k x) (hy:FW k y) (h:qv k y = 0):FW k (qa8 .add k x y)∧qv k (qa8 .add k x y) = qv k x:=by
  obtain ⟨a,b⟩:=qmc hx hy
  have hv:vz k.format y = 0:=by
    have:=qhv k.format.leastPlace
    unfold qv at h
    have h0:(vz k.format y:Rat) = 0:=by
      rcases Rat.mul_eq_zero.1 h with h1 | h1
      · exact h1
      · grind
    exact_mod_cast h0
  rw [hv,Int.add_zero,hx.kz (fmtK k)] at b
  have hl:=hx.qt7 (fmtK k)
  have w:FW k (qa8 .add k x y):=⟨a,qkf (by rw [b];exact hl.2) (by rw [b];exact hl.1)⟩
  exact ⟨w,qkl w hx b⟩
theorem of_key0 {k:FloatKind} {r:Nat} (a:r < 2 * k.format.signWeight) (b:key k.format r = 0):FW k r∧qv k r = 0:=by
  have h0:0 < k.format.infRung:=by cases k <;> decide
  have w:FW k r:=⟨a,qkf (by omega) (by omega)⟩
  refine ⟨w,?_⟩
  have:=(W.qp8 (fmtK k) w).2.2.1 b
  unfold qv;rw [this];simp
theorem kz_zero (f:Format) (p:Int):kz f 0 p = 0:=by
  unfold kz;rw [if_neg (by omega),show (0:Int).natAbs = 0 from rfl,qhw];rfl
theorem qnw {k:FloatKind} {x y:Nat} (h:qv k x = qv k y):vz k.format x = vz k.format y:=by
  unfold qv at h
  have:=qir (qhv k.format.leastPlace) h
  exact_mod_cast this
theorem qmr {k:FloatKind} {x:Nat} (h:qv k x = 0):vz k.format x = 0:=by
  have:=qnw (h.trans (qms k).2.symm)
  have h0:vz k.format 0 = 0:=(W.qp8 (fmtK k) (qms k).1).2.2.1 (by cases k <;> rfl)
  rw [this,h0]
theorem qq2 {k:FloatKind} {x y:Nat} (hx:FW k x) (hy:FW k y) (h:qv k x = 0 ∨ qv k y = 0):FW k (qa8 .mul k x y)∧qv k (qa8 .mul k x y) = 0:=by
  obtain ⟨a,b⟩:=qkv hx hy
  have hv:vz k.format x * vz k.format y = 0:=by
    rcases h with h | h
    · rw [qmr h,Int.zero_mul]
    · rw [qmr h,Int.mul_zero]
  rw [hv,kz_zero] at b
  exact of_key0 a b
theorem ql0 {x:Nat} (hx:FW .f64 x) (h:qv .f64 x = 0):∃ r,qgo .f64 .f32 x = some r∧FW .f32 r∧qv .f32 r = 0:=by
  obtain ⟨s,m,p,hr⟩:=hx.fin
  have hq:=qh3 hr
  obtain ⟨r,e,w,_⟩:=qmj hx (M:=0) (by unfold huge;decide +kernel) (by rw [h];exact Rat.le_refl) (by rw [h];decide +kernel)
  have hm:m = 0:=by
    have:=qmr h
    unfold vz at this
    rw [hr] at this
    obtain ⟨a1,_⟩:=ql2 s m (p - FloatKind.f64.format.leastPlace).toNat
    have h2:signed s m (p - FloatKind.f64.format.leastPlace).toNat = 0:=this
    rw [h2] at a1
    have:=Nat.two_pow_pos (p - FloatKind.f64.format.leastPlace).toNat
    rcases Nat.mul_eq_zero.1 a1.symm with h | h
    · exact h
    · omega
  refine ⟨r,e,w,?_⟩
  subst hm
  unfold qgo at e
  have hk:fkEq FloatKind.f64 .f32 = false:=rfl
  have hd:FloatKind.f64.decode x = .number s 0 p:=hr
  rw [hk,cond_false,hd] at e
  dsimp only at e
  have hz:FloatKind.f32.encode (.number s 0 p) = FloatKind.f32.format.word s 0:=qh7 _ s p
  rw [hz] at e
  have hr0:FloatKind.f32.format.read (FloatKind.f32.format.word s 0) = .number s 0 FloatKind.f32.format.leastPlace:=by
    rw [qgu _ _ _ (Nat.two_pow_pos _),if_pos (show 0 < FloatKind.f32.format.binade from Nat.two_pow_pos _)]
  have hi:(FloatKind.f32.decode (FloatKind.f32.format.word s 0)).isInfinity = false:=by
    have:FloatKind.f32.decode (FloatKind.f32.format.word s 0) = _:=hr0
    rw [this];rfl
  rw [hi,cond_false] at e
  rw [← Option.some.inj e,qh3 hr0];simp
/-! ### Roots -/
theorem qk1 {x:Nat} (hx:FW .f64 x) (h:qv .f64 x = 0):FW .f64 (qk2 x)∧qv .f64 (qk2 x) = 0:=by
  obtain ⟨s,m,p,hr⟩:=hx.fin
  have hm:m = 0:=by
    have:=qmr h
    unfold vz at this
    rw [hr] at this
    obtain ⟨a1,_⟩:=ql2 s m (p - FloatKind.f64.format.leastPlace).toNat
    have h2:signed s m (p - FloatKind.f64.format.leastPlace).toNat = 0:=this
    rw [h2] at a1
    have:=Nat.two_pow_pos (p - FloatKind.f64.format.leastPlace).toNat
    rcases Nat.mul_eq_zero.1 a1.symm with h | h
    · exact h
    · omega
  subst hm
  have e:qk2 x = FloatKind.f64.format.nearest s 0 p:=by
    unfold qk2 Format.sqrt
    rw [hr]
    simp [Datum.root,Format.write]
  rw [e,qh7]
  have hr0:FloatKind.f64.format.read (FloatKind.f64.format.word s 0) = .number s 0 FloatKind.f64.format.leastPlace:=by
    rw [qgu _ _ _ (Nat.two_pow_pos _),if_pos (show 0 < FloatKind.f64.format.binade from Nat.two_pow_pos _)]
  refine ⟨⟨?_,_,_,_,hr0⟩,by rw [qh3 hr0];simp⟩
  have:=qi3 FloatKind.f64.format s 0 p
  rw [qh7] at this;exact this
theorem qs5 {x:Nat} (hx:FW .f64 x) (h0:0 ≤ qv .f64 x) {B:Rat} (hB:0 ≤ B) (hM:B * 2 ≤ huge) (h:qv .f64 x ≤ B * B):FW .f64 (qk2 x)∧-tiny - B * (4 * ulp .f64) ≤ qv .f64 (qk2 x)∧qv .f64 (qk2 x) ≤ B + B * (4 * ulp .f64) + tiny:=by
  have hul:=ulp_pos .f64
  have ht:=tiny_pos
  have hBu:=Rat.mul_nonneg hB (Rat.le_of_lt hul)
  by_cases hz:qv .f64 x = 0
  · obtain ⟨w,e⟩:=qk1 hx hz
    exact ⟨w,by grind,by grind⟩
  · obtain ⟨s,m,i,hr⟩:=hx.fin
    have hq:=qh3 hr
    have hm:m ≠ 0:=by
      rintro rfl
      apply hz;rw [hq];simp
    have hmp:0 < (m:Rat) * p2 i:=Rat.mul_pos (by exact_mod_cast Nat.pos_of_ne_zero hm) (qhv i)
    have hs:s = false:=by
      cases s with
      | false=>rfl
      | true=>exfalso;simp only [if_true] at hq;rw [hq] at h0;grind
    subst hs
    simp only [Bool.false_eq_true,if_false] at hq
    have hq:qv .f64 x = (m:Rat) * p2 i:=by rw [hq];grind
    generalize hmore:2 * (FloatKind.f64.format.fractionBits + 2) - m.log2 + ((i - ((2 * (FloatKind.f64.format.fractionBits + 2) - m.log2:Nat):Int)) % 2).toNat = more
    have hw:qk2 x = FloatKind.f64.format.nearest false (2 * Datum.rootFrom (m <<< more) ((m <<< more).log2 / 2 + 1) 0 + (Datum.rootFrom (m <<< more) ((m <<< more).log2 / 2 + 1) 0 * Datum.rootFrom (m <<< more) ((m <<< more).log2 / 2 + 1) 0 != m <<< more).toNat) ((i - (more:Int)) / 2 - 1):=by
      unfold qk2 Format.sqrt
      rw [hr]
      unfold Datum.root
      simp only [if_neg hm,Bool.false_eq_true,if_false,Option.map_some,Option.getD_some,Format.write,hmore]
    have hsq:=qp3 (m <<< more) ((m <<< more).log2 / 2 + 1) 0 (Nat.zero_le _)
    have hlog:2 ^ (2 * (FloatKind.f64.format.fractionBits + 2)) ≤ m * 2 ^ more:=by
      have a1:=Nat.log2_self_le hm
      have a4:2 ^ m.log2 * 2 ^ more ≤ m * 2 ^ more:=Nat.mul_le_mul_right _ a1
      rw [← Nat.pow_add] at a4
      exact Nat.le_trans (Nat.pow_le_pow_right (by decide) (by omega)) a4
    have heven:i - (more:Int) = 2 * ((i - (more:Int)) / 2):=by omega
    rw [hw]
    rw [qh9] at hsq ⊢
    generalize Datum.rootFrom (m * 2 ^ more) ((m * 2 ^ more).log2 / 2 + 1) 0 = g at hsq ⊢
    generalize (g * g != m * 2 ^ more) = bb
    have hbb:bb.toNat ≤ 1:=by cases bb <;> decide
    generalize bb.toNat = t at hbb ⊢
    generalize hH:(i - (more:Int)) / 2 = H at heven ⊢
    have hu2:p2 (i - (more:Int)) = p2 H * p2 H:=by rw [heven,← qmi];congr 1;omega
    have hn:qv .f64 x = ((m * 2 ^ more:Nat):Rat) * (p2 H * p2 H):=by
      rw [hq,← hu2]
      have e:=qiz (n:=more) (show i = (i - (more:Int)) + more by omega)
      rw [e]
      have:((m * 2 ^ more:Nat):Rat) = (m:Rat) * ((2 ^ more:Nat):Rat):=by exact_mod_cast rfl
      rw [this];grind
    have hHp:=qhv H
    have hHH:=Rat.mul_nonneg (Rat.le_of_lt hHp) (Rat.le_of_lt hHp)
    -- the root's digits
    have g1:(g:Rat) * p2 H ≤ B:=by
      refine qj5 hB ?_
      have:((g * g:Nat):Rat) ≤ ((m * 2 ^ more:Nat):Rat):=by exact_mod_cast hsq
      have h3:=Rat.mul_le_mul_of_nonneg_right this hHH
      have h4:((g * g:Nat):Rat) = (g:Rat) * (g:Rat):=by exact_mod_cast rfl
      rw [h4,← hn] at h3
      grind
    have g2:((2 ^ (FloatKind.f64.format.fractionBits + 2):Nat):Rat) * p2 H ≤ B:=by
      refine qj5 hB ?_
      have:((2 ^ (2 * (FloatKind.f64.format.fractionBits + 2)):Nat):Rat) ≤ ((m * 2 ^ more:Nat):Rat):=by exact_mod_cast hlog
      have h3:=Rat.mul_le_mul_of_nonneg_right this hHH
      have h4:((2 ^ (2 * (FloatKind.f64.format.fractionBits + 2)):Nat):Rat) = ((2 ^ (FloatKind.f64.format.fractionBits + 2):Nat):Rat) * ((2 ^ (FloatKind.f64.format.fractionBits + 2):Nat):Rat):=by
        rw [show 2 * (FloatKind.f64.format.fractionBits + 2) = (FloatKind.f64.format.fractionBits + 2) + (FloatKind.f64.format.fractionBits + 2) by omega,Nat.pow_add]
        exact_mod_cast rfl
      rw [h4,← hn] at h3
      grind
    have g3:p2 H ≤ B * ulp .f64:=by
      have e:((2 ^ (FloatKind.f64.format.fractionBits + 2):Nat):Rat) * ulp .f64 = 2:=by
        show ((18014398509481984:Nat):Rat) * (1 / 9007199254740992) = 2;decide +kernel
      have:=Rat.mul_le_mul_of_nonneg_right g2 (Rat.le_of_lt hul)
      have e2:((2 ^ (FloatKind.f64.format.fractionBits + 2):Nat):Rat) * p2 H * ulp .f64 = (((2 ^ (FloatKind.f64.format.fractionBits + 2):Nat):Rat) * ulp .f64) * p2 H:=by grind
      rw [e2,e] at this
      grind
    have hval:((2 * g + t:Nat):Rat) * p2 (H - 1) = (g:Rat) * p2 H + (t:Rat) * p2 H / 2:=by
      have e:p2 H = 2 * p2 (H - 1):=by
        have:=qmi (H - 1) 1
        rw [show H - 1 + 1 = H by omega,show p2 1 = 2 from Rat.zpow_one 2] at this
        rw [this];grind
      rw [e]
      push_cast
      grind
    have ht1:(t:Rat) ≤ 1:=by exact_mod_cast hbb
    have ht0:(0:Rat) ≤ (t:Rat):=by exact_mod_cast Nat.zero_le t
    have htp:=Rat.mul_le_mul_of_nonneg_right ht1 (Rat.le_of_lt hHp)
    have htp0:=Rat.mul_nonneg ht0 (Rat.le_of_lt hHp)
    have hg0:(0:Rat) ≤ (g:Rat):=by exact_mod_cast Nat.zero_le g
    have hgp0:=Rat.mul_nonneg hg0 (Rat.le_of_lt hHp)
    have hul1:=ulp_le .f64
    have hBu1:B * ulp .f64 ≤ B:=by
      have:=Rat.mul_le_mul_of_nonneg_left (show ulp .f64 ≤ 1 by grind) hB
      grind
    obtain ⟨w,e1,e2⟩:=qmg (k:=.f64) false (2 * g + t) (H - 1) (M:=B * 2) hM (by rw [hval];grind)
    rw [hval] at e1 e2
    simp only [Bool.false_eq_true,if_false] at e1 e2
    exact ⟨w,by grind,by grind⟩
end Go.Proofs.Ytdnkjocenbepaaa.AWN

namespace Go.Proofs.Ytdnkjocenbepaaa.AWN
open Go Ieee
structure Cq where
  re:Rat
  im:Rat
theorem qk3 {x y:Cq} (h1:x.re = y.re) (h2:x.im = y.im):x = y:=by cases x;cases y;simp at h1 h2;rw [h1,h2]
instance : Add Cq:=⟨fun x y=>⟨x.re + y.re,x.im + y.im⟩⟩
instance : Sub Cq:=⟨fun x y=>⟨x.re - y.re,x.im - y.im⟩⟩
instance : Neg Cq:=⟨fun x=>⟨-x.re,-x.im⟩⟩
instance : Mul Cq:=⟨fun x y=>⟨x.re * y.re - x.im * y.im,x.re * y.im + x.im * y.re⟩⟩
theorem qku (x y:Cq):(x + y).re = x.re + y.re:=rfl
theorem qkt (x y:Cq):(x + y).im = x.im + y.im:=rfl
theorem qj7 (x y:Cq):(x - y).re = x.re - y.re:=rfl
theorem qj6 (x y:Cq):(x - y).im = x.im - y.im:=rfl
theorem qpd (x:Cq):(-x).re = -x.re:=rfl
theorem qpc (x:Cq):(-x).im = -x.im:=rfl
theorem qm1 (x y:Cq):(x * y).re = x.re * y.re - x.im * y.im:=rfl
theorem qm9 (x y:Cq):(x * y).im = x.re * y.im + x.im * y.re:=rfl
theorem qt1 {x y:Cq} (h:x = y):x.re = y.re∧x.im = y.im:=by rw [h];exact ⟨rfl,rfl⟩
def n2 (x:Cq):Rat:=x.re * x.re + x.im * x.im
structure Mo (x:Cq) (B:Rat):Prop where
  pos:0 ≤ B
  sq:n2 x ≤ B * B
theorem qgl (z:Rat):0 ≤ z * z:=by
  rcases (Rat.le_total:z ≤ 0 ∨ 0 ≤ z) with h | h
  · have:=Rat.mul_nonneg (show 0 ≤ -z by grind) (show 0 ≤ -z by grind);grind
  · exact Rat.mul_nonneg h h
theorem qrr (x:Cq):0 ≤ n2 x:=by
  have:=qgl x.re;have:=qgl x.im;unfold n2;grind
theorem qul (x y:Cq):n2 (x * y) = n2 x * n2 y:=by
  unfold n2;simp only [qm1,qm9];grind
theorem qkm {a b c d:Rat} (h0:0 ≤ a) (h1:a ≤ b) (h2:0 ≤ c) (h3:c ≤ d):a * c ≤ b * d:=by
  have p:=Rat.mul_nonneg (show 0 ≤ b - a by grind) h2
  have q:=Rat.mul_nonneg (show 0 ≤ b by grind) (show 0 ≤ d - c by grind)
  grind
theorem Mo.mono {x:Cq} {B C:Rat} (h:Mo x B) (hBC:B ≤ C):Mo x C:=by
  have:=h.pos
  exact ⟨by grind,Rat.le_trans h.sq (qkm h.pos hBC h.pos hBC)⟩
theorem Mo.mul {x y:Cq} {B C:Rat} (hx:Mo x B) (hy:Mo y C):Mo (x * y) (B * C):=by
  refine ⟨Rat.mul_nonneg hx.pos hy.pos,?_⟩
  rw [qul]
  have:=qkm (qrr x) hx.sq (qrr y) hy.sq
  grind
theorem Mo.re {x:Cq} {B:Rat} (h:Mo x B):x.re ≤ B∧-x.re ≤ B:=by
  have h1:=h.sq;have h2:=qgl x.im
  unfold n2 at h1
  exact ⟨qj5 h.pos (by grind),qj5 h.pos (by grind)⟩
theorem Mo.im {x:Cq} {B:Rat} (h:Mo x B):x.im ≤ B∧-x.im ≤ B:=by
  have h1:=h.sq;have h2:=qgl x.re
  unfold n2 at h1
  exact ⟨qj5 h.pos (by grind),qj5 h.pos (by grind)⟩
theorem dot_le {x y:Cq} {B C:Rat} (hx:Mo x B) (hy:Mo y C):x.re * y.re + x.im * y.im ≤ B * C:=by
  have h:=Mo.mul (x:=x) (y:=⟨y.re,-y.im⟩) hx ⟨hy.pos,by have:=hy.sq;unfold n2 at *;dsimp only;grind⟩
  have:=h.re.1
  simp only [qm1] at this
  grind
theorem Mo.add {x y:Cq} {B C:Rat} (hx:Mo x B) (hy:Mo y C):Mo (x + y) (B + C):=by
  have hb:=hx.pos;have hc:=hy.pos
  refine ⟨by grind,?_⟩
  have:=dot_le hx hy
  have h1:=hx.sq;have h2:=hy.sq
  unfold n2 at *
  simp only [qku,qkt]
  grind
theorem Mo.neg {x:Cq} {B:Rat} (hx:Mo x B):Mo (-x) B:=⟨hx.pos,by have:=hx.sq;unfold n2 at *;simp only [qpd,qpc];grind⟩
theorem Mo.sub {x y:Cq} {B C:Rat} (hx:Mo x B) (hy:Mo y C):Mo (x - y) (B + C):=by
  have:=hx.add hy.neg
  have e:x + -y = x - y:=qk3 (by simp only [qku,qpd,qj7];grind) (by simp only [qkt,qpc,qj6];grind)
  rw [e] at this;exact this
theorem Mo.of {x:Cq} {w B:Rat} (h1:x.re ≤ w) (h2:-x.re ≤ w) (h3:x.im ≤ w) (h4:-x.im ≤ w) (hB:17 / 12 * w ≤ B):Mo x B:=by
  have hw:0 ≤ w:=by grind
  have hB0:0 ≤ B:=by grind
  refine ⟨hB0,?_⟩
  have a:=qjx (x:=x.re) (y:=x.re) (B:=w) (C:=w) (by grind) h1 (by grind) h1
  have b:=qjx (x:=x.im) (y:=x.im) (B:=w) (C:=w) (by grind) h3 (by grind) h3
  have c:=qkm (a:=17 / 12 * w) (c:=17 / 12 * w) (by grind) hB (by grind) hB
  have d:=Rat.mul_nonneg hw hw
  unfold n2
  grind
theorem Mo.of2 {x:Cq} {a b B:Rat} (h1:x.re ≤ a) (h2:-x.re ≤ a) (h3:x.im ≤ b) (h4:-x.im ≤ b) (hB:0 ≤ B) (h:a * a + b * b ≤ B * B):Mo x B:=by
  refine ⟨hB,?_⟩
  have p:=qjx (x:=x.re) (y:=x.re) (B:=a) (C:=a) (by grind) h1 (by grind) h1
  have q:=qjx (x:=x.im) (y:=x.im) (B:=b) (C:=b) (by grind) h3 (by grind) h3
  unfold n2;grind
theorem Mo.div {x s:Cq} {w m:Rat} (h:Mo (x * s) (w * m)) (hm:0 < m) (hs:m * m ≤ n2 s):Mo x w:=by
  have hw:0 ≤ w:=by
    apply Rat.le_of_mul_le_mul_right (c:=m) _ hm
    have:=h.pos;grind
  refine ⟨hw,?_⟩
  have h1:=h.sq
  rw [qul] at h1
  have hs0:0 < n2 s:=by have:=Rat.mul_pos hm hm;grind
  apply Rat.le_of_mul_le_mul_right (c:=n2 s) _ hs0
  have h2:=Rat.mul_nonneg (qgl w) (show 0 ≤ n2 s - m * m by grind)
  grind
end Go.Proofs.Ytdnkjocenbepaaa.AWN
