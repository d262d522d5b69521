/- Return: from a body to a contract. -/
import Derived.Test.YtiegopnofbgoaaaGreatDoorFnAfterA
import Derived.Orders
import Derived.Test.YtiegopnofbgoaaaGreatDoorProg
import Derived.KernelRfl
import Derived.Laws.BytesString
import Derived.Below
import Derived.RowKit
import Derived.Sort.Grow
import Derived.Sort.Row
import Derived.Shelf.SlicesE.Delete
import Derived.Shelf.SlGeneric
set_option linter.unusedVariables false
set_option linter.unusedSimpArgs false
set_option linter.unusedSectionVars false
namespace Go.Proofs.YtiegopnofbgoaaaGreatDoor.AWN
open Go
/-! ### Data without slices: related whatever memory may be read -/
def D.flat:D→Prop
  | .sl _ es=>es = []
  | _=>True
def V.qbb:V→Prop
  | .d x=>x.flat
  | .rop cs _=>cs = []
  | .func _ a c=>a = []∧c = []
  | .agg _=>False
  | .tup _=>False
  | _=>True
def V.qbg:V→Prop
  | .agg cs=>∀ c ∈ cs,c.qbb
  | v=>v.qbb
def V.flat:V→Prop
  | .tup vs=>∀ v ∈ vs,v.qbg
  | v=>v.qbg
def AObj.flat:AObj→Prop
  | .none=>True
  | .box cs=>∀ c ∈ cs,c.qbb
  | .row _ es=>∀ e ∈ es,∀ c ∈ e,c.flat
  | .map _ es=>∀ e ∈ es,e.2.flat
section
variable {P:Program} {τ:Tab} {W:World} {hb hb':Handle} {H H':Nat→AObj} {ok ok':Nat→Prop}
theorem RelD.flat {x:D} {v:Value} (h:RelD W ok x v) (hf:x.flat):RelD W ok' x v:=by
  cases h with
  | bool b=>exact .bool b
  | int k n=>exact .int k n
  | fl h1 h2=>exact .fl h1 h2
  | cx h1 h2 h3 h4=>exact .cx h1 h2 h3 h4
  | str s=>exact .str s
  | slnil t=>exact .slnil t
  | sle t a=>exact .sle t a
  | nils=>exact .nils
  | nilp=>exact .nilp
  | nilf=>exact .nilf
  | nilm=>exact .nilm
  | sl sz vals h1 h2 h3 h4 hm h5 h6 h7 =>
    have he:_ = []:=hf
    subst he
    simp at h2
    subst h2
    exact .sl sz vals (fun h=>absurd rfl h) rfl h3 h4 hm (fun i hi=>by omega) (fun i c hi=>by omega) (fun i c hi=>by omega)
theorem Rel.qbb {x:V} {v:Value} (h:Rel W hb H ok x v) (hf:x.qbb):Rel W hb H ok' x v:=by
  cases h with
  | junk v=>exact .junk v
  | und=>exact .und
  | d h=>exact .d (h.flat hf)
  | agg=>exact hf.elim
  | tup=>exact hf.elim
  | ptr h1 h2=>exact .ptr h1 h2
  | eptr h1 h2 h3=>exact .eptr h1 h2 h3
  | eptrStale v h1 h2 h3=>exact .eptrStale _ h1 h2 h3
  | @rop cs b o off vals h1 h2 h3 =>
    have hc:cs = []:=hf
    subst hc;exact .rop vals (fun h=>absurd rfl h) h2 (fun c hc=>by simp at hc)
  | row h1 h2 h3 h4 h5 h6 h7 h8 h9=>exact .row h1 h2 h3 h4 h5 h6 h7 h8 h9
  | rowEmpty h1 h2 h3=>exact .rowEmpty h1 h2 h3
  | rowNil h1 h2=>exact .rowNil h1 h2
  | rowStale v h1 h2 h3=>exact .rowStale _ h1 h2 h3
  | func h1 h2 h3 h4 =>
    obtain ⟨rfl,rfl⟩:=hf
    exact .func h1 h2 (fun i hi=>by rw [← h1] at hi;simp at hi) (fun i hi=>by rw [← h2] at hi;simp at hi)
  | mref h1 h2=>exact .mref h1 h2
theorem Rel.qbg {x:V} {v:Value} (h:Rel W hb H ok x v) (hf:x.qbg):Rel W hb H ok' x v:=by
  by_cases hx:∃ cs,x = .agg cs
  · obtain ⟨cs,rfl⟩:=hx
    cases h with
    | agg e1 e2 =>
      refine .agg e1 (fun i hi=>?_)
      have hl:i < cs.length:=by omega
      have:=e2 i hi
      rw [List.getD_eq_getElem?_getD,List.getElem?_eq_getElem hl] at *
      exact this.qbb (hf _ (List.getElem_mem hl))
  · refine h.qbb ?_
    cases x <;> first | exact hf | exact absurd ⟨_,rfl⟩ hx
theorem Rel.flat {x:V} {v:Value} (h:Rel W hb H ok x v) (hf:x.flat):Rel W hb H ok' x v:=by
  by_cases hx:∃ cs,x = .tup cs
  · obtain ⟨cs,rfl⟩:=hx
    cases h with
    | tup e1 e2 =>
      refine .tup e1 (fun i hi=>?_)
      have hl:i < cs.length:=by omega
      have:=e2 i hi
      rw [List.getD_eq_getElem?_getD,List.getElem?_eq_getElem hl] at *
      exact this.qbg (hf _ (List.getElem_mem hl))
  · refine h.qbg ?_
    cases x <;> first | exact hf | exact absurd ⟨_,rfl⟩ hx
theorem qge.flat {j:Nat} (h:qge W hb H ok j) (hf:(H j).flat):qge W hb H ok' j:=by
  unfold qge at *
  cases hj:H j with
  | none=>trivial
  | box cs =>
    rw [hj] at h hf
    obtain ⟨b,vals,T,fr,h1,h2,h3,h4,h5,h6⟩:=h
    refine ⟨b,vals,T,fr,h1,h2,h3,h4,h5,fun i hi=>?_⟩
    have hl:i < cs.length:=by omega
    have:=h6 i hi
    rw [List.getD_eq_getElem?_getD,List.getElem?_eq_getElem hl] at *
    exact this.qbb (hf _ (List.getElem_mem hl))
  | row sz es =>
    rw [hj] at h hf
    obtain ⟨h0,h⟩:=h
    refine ⟨h0,?_⟩
    rcases h with h | ⟨b,vals,T,fr,h1,h2,h3,h4,h5⟩
    · exact .inl h
    · refine .inr ⟨b,vals,T,fr,h1,h2,h3,h4,fun i c hi hc=>?_⟩
      have:=h5 i c hi hc
      have he:es.getD i [] = es[i]:=by rw [List.getD_eq_getElem?_getD,List.getElem?_eq_getElem hi];rfl
      have hl:c < es[i].length:=by rw [h0 _ (List.getElem_mem hi)];exact hc
      have hd:es[i].getD c .nilp = es[i][c]:=by rw [List.getD_eq_getElem?_getD,List.getElem?_eq_getElem hl];rfl
      exact this.flat (by rw [he,hd];exact hf _ (List.getElem_mem hi) _ (List.getElem_mem hl))
  | map k es =>
    rw [hj] at h hf
    obtain ⟨b,ents,cl,h1,h2,h3,h4⟩:=h
    exact ⟨b,ents,cl,h1,h2,h3,fun i e x he hx=>⟨(h4 i e x he hx).1,(h4 i e x he hx).2.flat (hf x (List.mem_of_getElem? hx))⟩⟩
/-! ### What a body returns -/
def qtn (τ:Tab) (σ:St):ResultVar→Option V
  | .tmp t=>some (σ.env t)
  | .cell x t=>match τ t with
    | some td=>match σ.env x with
      | .ptr j off=>match σ.heap j with
        | .box cs=>qoq td cs off
        | _=>none
      | _=>none
    | none=>none
def resV (τ:Tab) (rs:List ResultVar) (σ:St):Option V :=
  match mapO (qtn τ σ) rs with
  | some [v]=>some v
  | some vs=>some (.tup vs)
  | none=>none
theorem resOne_run (hτ:qfd P τ) {w0:World} {A:Args} {okA:Nat→Prop} {σ:St} {a:Act} (h:Sim w0 A okA hb σ a W) {r:ResultVar} {v:V} (hr:qtn τ σ r = some v) :
    ∃ cv,(match r with
      | .tmp t=>(pure (a.tmps.getD t undef):Sem Value)
      | .cell x t=>do loadVar t (← asAddr (a.tmps.getD x undef))).run P W = .ok cv W∧RelS w0 okA hb σ.heap W v cv:=by
  cases r with
  | tmp t =>
    simp only [qtn,Option.some.injEq] at hr
    subst hr
    exact ⟨_,rfl,h.env t⟩
  | cell x t =>
    simp only [qtn] at hr
    split at hr
    · rename_i td ht
      split at hr
      · rename_i j off hx
        split at hr
        · rename_i cs hj
          have he:=h.env x
          rw [hx] at he
          obtain ⟨b,hu,e2⟩:∃ b,a.tmps.getD x undef = .pointer (some ⟨b,off,none⟩)∧hb j = some b:=by
            generalize a.tmps.getD x undef = u at *
            cases he with
            | ptr e1 e2=>exact ⟨_,rfl,e2⟩
          simp only [hu]
          clear he hu
          · obtain ⟨b,vals,T,fr,g1,g2,g3,g4,g5,g6⟩:=qvm h.heap hj
            have hbb:=Option.some.inj (g1.symm.trans e2)
            subst hbb
            have hi:=qoh hτ ht
            have hz:=qjb hτ ht
            have hc:∀ c,c < cs.length→W.cell? ⟨b,c,none⟩ = some (vals.getD c undef):=fun c hc=>by rw [cell_of_heap g2];exact qev (by omega)
            unfold qoq at hr
            cases hagg:qp3 td.desc with
            | true =>
              rw [hagg] at hr
              simp only [cond_true] at hr
              cases hle:Nat.ble (off + td.size) cs.length with
              | false=>rw [hle] at hr;cases hr
              | true =>
                rw [hle] at hr
                simp only [cond_true,Option.some.injEq] at hr
                subst hr
                have hle':off + td.size ≤ cs.length:=by simpa using hle
                refine ⟨.agg ((List.range td.size).map fun j=>vals.getD (off + j) undef).toArray,?_,?_⟩
                · simp only [asAddr,Sem.run_bind,Sem.run_pure,Result.andThen_ok,loadVar,hi,hagg,if_true,hz]
                  rw [run_loadCells W _ td.size (fun j=>vals.getD (off + j) undef) (fun j hj=>by rw [addr_add];exact hc (off + j) (by omega))]
                  rfl
                · refine .agg (by simp;omega) (fun i hi'=>?_)
                  have hi2:i < td.size:=by simpa using hi'
                  rw [qfc _ _ _ _ _ hi2,qnj (fun j=>vals.getD (off + j) undef) _ _ hi2]
                  exact g6 _ (by omega)
            | false =>
              rw [hagg] at hr
              simp only [cond_false] at hr
              have hlt:off < cs.length:=(List.getElem?_eq_some_iff.1 hr).1
              refine ⟨vals.getD off undef,?_,?_⟩
              · have hcc:=hc off hlt
                simp only [asAddr,Sem.run_bind,Sem.run_pure,Result.andThen_ok,loadVar,hi,hagg,Bool.false_eq_true,if_false,run_load,hcc]
              · have:=g6 off (by omega)
                rwa [getD_some hr] at this
        · cases hr
      · cases hr
    · cases hr
def qwc (a:Act) (r:ResultVar):Sem Value:=match r with
  | .tmp t=>(pure (a.tmps.getD t undef):Sem Value)
  | .cell x t=>do loadVar t (← asAddr (a.tmps.getD x undef))
theorem qsl (hτ:qfd P τ) {w0:World} {A:Args} {okA:Nat→Prop} {σ:St} {a:Act} (h:Sim w0 A okA hb σ a W):∀ (rs:List ResultVar) (vs:List V),mapO (qtn τ σ) rs = some vs →
    ∃ cvs:List Value,(rs.mapM (qwc a)).run P W = .ok cvs W∧RelL W hb σ.heap (okF w0 okA hb σ.heap W) vs cvs.toArray
  | [],vs,he=>by simp [mapO] at he;subst he;exact ⟨[],rfl,rfl,fun i hi=>by simp at hi⟩
  | r :: rs,vs,he=>by
    unfold mapO at he
    split at he
    · rename_i y s hy hs
      simp only [Option.some.injEq] at he
      subst he
      obtain ⟨cv,e1,e2⟩:=resOne_run hτ h hy
      obtain ⟨cvs,e3,e4⟩:=qsl hτ h rs s hs
      refine ⟨cv :: cvs,?_,by simp [e4.1],fun i hi=>?_⟩
      · rw [List.mapM_cons]
        have e1':(qwc a r).run P W = .ok cv W:=e1
        simp only [Sem.run_bind,e1',e3,Result.andThen_ok,Sem.run_pure]
      · cases i with
        | zero=>simpa using e2
        | succ i =>
          have:=e4.2 i (by simpa using hi)
          simpa using this
    · cases he
theorem resV_run (hτ:qfd P τ) {w0:World} {A:Args} {okA:Nat→Prop} {σ:St} {a:Act} {fn:Func} (h:Sim w0 A okA hb σ a W) {v:V} (hr:resV τ fn.results.toList σ = some v):∃ cv,(results fn a.tmps).run P W = .ok cv W∧RelS w0 okA hb σ.heap W v cv:=by
  unfold resV at hr
  have hrun:∀ cvs:List Value,(fn.results.toList.mapM (qwc a)).run P W = .ok cvs W→(results fn a.tmps).run P W = .ok (if h:cvs.toArray.size = 1 then cvs.toArray[0] else .tuple cvs.toArray) W:=by
    intro cvs hc
    unfold results
    rw [Array.mapM_eq_mapM_toList]
    simp only [Sem.run_bind,Sem.run_map]
    refine Eq.trans (congrArg (fun z=>Result.andThen z _) (congrArg (fun z=>Result.andThen z _) hc)) ?_
    rfl
  split at hr
  · rename_i v' hv
    simp only [Option.some.injEq] at hr;subst hr
    obtain ⟨cvs,e1,e2⟩:=qsl hτ h _ _ hv
    have hl:cvs.length = 1:=by have:=e2.1;simpa using this.symm
    obtain ⟨c,rfl⟩:=List.length_eq_one_iff.1 hl
    exact ⟨c,hrun [c] e1,by simpa using e2.2 0 (by simp)⟩
  · rename_i vs hne hv
    simp only [Option.some.injEq] at hr;subst hr
    obtain ⟨cvs,e1,e2⟩:=qsl hτ h _ _ hv
    have hl:cvs.toArray.size ≠ 1:=by
      intro h1
      rw [← e2.1] at h1
      obtain ⟨x,hx⟩:=List.length_eq_one_iff.1 h1
      exact hne x hx
    exact ⟨.tuple cvs.toArray,by rw [hrun cvs e1,dif_neg hl],.tup e2.1 e2.2⟩
  · cases hr
def St.enter (args:List V) (objs:List AObj) (nt:Nat):St:={ env:=fun t=>args.getD t .und,heap:=qax objs,next:=objs.length,nt:=nt,base:=objs.length }
def RetQ (τ:Tab) (rs:List ResultVar) (fr:Bool) (m:Nat) (R:V→List AObj→List AObj→Prop):Exit→St→Prop:=fun e σ =>
  (e = .normal ∨ e = .ret)∧∃ rv ex r objs' new,resV τ rs σ = some rv∧ex.Nodup∧(∀ x ∈ ex,m ≤ x) ∧
    exV (qdy (List.range m ++ ex)) σ.heap true rv = some r∧exVP (qdy (List.range m ++ ex)) σ.heap rv ∧
    mapO (fun j=>exO (qdy (List.range m ++ ex)) σ.heap true (σ.heap j)) (List.range m ++ ex) = some (objs' ++ new)∧objs'.length = m∧(∀ j ∈ List.range m ++ ex,exOP (qdy (List.range m ++ ex)) σ.heap (σ.heap j)) ∧
    (fr = true→r.flat∧∀ o ∈ objs' ++ new,o.flat)∧R r objs' new
theorem qak (hτ:qfd P τ) {k:FuncId} {fn:Func} {c:Code} {args:List V} {objs:List AObj} {fr:Bool} {R:V→List AObj→List AObj→Prop} (hf:P.funcs[k]? = some fn) (hbd:fn.body = some c) (hn:args.length ≤ fn.ntmps) (hlive:∀ o ∈ objs,o ≠ .none)
    (h:AW P c (St.enter args objs fn.ntmps) (RetQ τ fn.results.toList fr objs.length R)):qb1 P fr k args objs R:=by
  intro W A hb okA vals hA0 hA1 hsim hrel
  refine calls_of_wp hf hbd ?_
  have hs:Sim W A okA hb (St.enter args objs fn.ntmps) { tmps:=vals ++ Array.replicate (fn.ntmps - vals.size) undef,defers:=[] } W:=by
    refine ⟨rfl,?_,fun t=>?_,hsim,fun j hj=>?_⟩
    rotate_left 2
    · rw [hA0];unfold qax
      rw [List.getD_eq_getElem?_getD,List.getElem?_eq_none hj];rfl
    · show (vals ++ Array.replicate (fn.ntmps - vals.size) undef).size = fn.ntmps
      have:=hrel.1
      simp;omega
    · show Rel W hb (qax objs) _ (args.getD t .und) _
      by_cases ht:t < vals.size
      · have hl:t < args.length:=by rw [hrel.1];exact ht
        have e1:(vals ++ Array.replicate (fn.ntmps - vals.size) undef).getD t undef = vals.getD t undef:=by
          rw [Array.getD_eq_getD_getElem?,Array.getElem?_append_left ht,← Array.getD_eq_getD_getElem?]
        have e2:args.getD t .und = args.getD t .junk:=by
          rw [List.getD_eq_getElem?_getD,List.getElem?_eq_getElem hl,List.getD_eq_getElem?_getD,List.getElem?_eq_getElem hl];rfl
        rw [e1,e2]
        exact hrel.2 t ht
      · have e1:(vals ++ Array.replicate (fn.ntmps - vals.size) undef).getD t undef = undef:=by
          rw [Array.getD_eq_getD_getElem?,Array.getElem?_append_right (by omega)]
          by_cases h2:t - vals.size < fn.ntmps - vals.size
          · simp [Array.getElem?_replicate,h2]
          · simp [Array.getElem?_replicate,h2]
        have e2:args.getD t .und = .und:=by
          rw [List.getD_eq_getElem?_getD,List.getElem?_eq_none (by rw [hrel.1];omega)];rfl
        rw [e1,e2]
        exact .und
  refine Code.wp_mono (fun e a W' ⟨hb1,σ,hq,hs1⟩=>?_) (h W A okA hb _ W hs)
  obtain ⟨he,rv,ex,r,objs',new,q1,q2,q2',q3,q3',q4,q5,q6,q7,q8⟩:=hq
  obtain ⟨cv,r1,r2⟩:=resV_run (fn:=fn) hτ hs1 q1
  -- the names that go out
  let nm:=List.range objs.length ++ ex
  have hnm:nm = List.range objs.length ++ ex:=rfl
  have hnn:nm.Nodup:=List.nodup_append.2 ⟨List.nodup_range,q2,fun x hx y hy=>by
    have:=q2' y hy
    simp at hx;omega⟩
  obtain ⟨m1,m2⟩:=qlp q4
  have hml:nm.length = (objs' ++ new).length:=by rw [m1]
  let hb2:Handle:=fun i=>match nm[i]? with
    | some j=>hb1 j
    | none=>none
  have hbj:∀ i j,nm[i]? = some j→hb2 i = hb1 j:=by intro i j hij;show (match nm[i]? with | some j=>hb1 j | none=>none) = _;rw [hij]
  have hnone:∀ i,nm.length ≤ i→qax (objs' ++ new) i = .none:=by
    intro i hi
    unfold qax
    rw [List.getD_eq_getElem?_getD,List.getElem?_eq_none (by omega)];rfl
  have hin:∀ i,qax (objs' ++ new) i ≠ .none→∃ j,nm[i]? = some j:=by
    intro i hi
    rcases Nat.lt_or_ge i nm.length with hl | hl
    · exact ⟨nm[i],List.getElem?_eq_getElem hl⟩
    · exact absurd (hnone i hl) hi
  have hobj:∀ i j,nm[i]? = some j→∃ y,exO (qdy nm) σ.heap true (σ.heap j) = some y∧qax (objs' ++ new) i = y:=by
    intro i j hij
    obtain ⟨y,e1,e2⟩:=m2 i j hij
    exact ⟨y,e1,by unfold qax;exact getD_some e2 _⟩
  have hlv:∀ j ∈ nm,σ.heap j ≠ .none:=by
    intro j hj e
    obtain ⟨i,hi,ei⟩:=List.getElem_of_mem hj
    obtain ⟨y,e1,_⟩:=m2 i nm[i] (List.getElem?_eq_getElem hi)
    rw [ei,e] at e1;simp [exO] at e1
  -- an object that does not go out lies in new memory
  have hloc:∀ j b,σ.heap j ≠ .none→j ∉ nm→hb1 j = some b→W.heap.size ≤ b:=by
    intro j b hj hjn hjb
    rcases (hs1.heap.hnd j b hj hjb).2 with ⟨h1,_⟩ | h1
    · rw [hA0] at h1
      refine absurd ?_ hjn
      rw [hnm]
      refine List.mem_append_left _ ?_
      rcases Nat.lt_or_ge j objs.length with h2 | h2
      · simpa using h2
      · exfalso;apply h1
        unfold qax
        rw [List.getD_eq_getElem?_getD,List.getElem?_eq_none h2];rfl
    · exact h1
  have N:qqu W' (qdy nm) hb1 hb2 σ.heap (qax (objs' ++ new)) (okF W okA hb1 σ.heap W') (okF W okA hb2 (qax (objs' ++ new)) W') true:=by
    refine ⟨fun b hb'=>⟨hb'.1,hb'.2.1,fun i hi e=>?_⟩,fun j i cs hj hcs=>?_,fun j i sz es hj hes=>?_,fun j i kk es hj hes=>?_,fun _ j b hj hne hbjj=>?_,hs1.heap.obj⟩
    · obtain ⟨j,hij⟩:=hin i hi
      rw [hbj i j hij] at e
      exact hb'.2.2 j (hlv j (List.mem_of_getElem? hij)) e
    · have hij:=qgc hj
      obtain ⟨y,e1,e2⟩:=hobj i j hij
      refine ⟨hbj i j hij,?_⟩
      rw [hcs] at e1
      simp only [exO] at e1
      split at e1
      · simp only [Option.some.injEq] at e1;subst e1;exact ⟨_,e2⟩
      · cases e1
    · have hij:=qgc hj
      obtain ⟨y,e1,e2⟩:=hobj i j hij
      refine ⟨hbj i j hij,?_⟩
      rw [hes] at e1
      simp only [exO,Option.some.injEq] at e1
      rw [e2,← e1]
    · have hij:=qgc hj
      obtain ⟨y,e1,e2⟩:=hobj i j hij
      refine ⟨hbj i j hij,?_⟩
      rw [hes] at e1
      simp only [exO,Option.some.injEq] at e1
      rw [e2,← e1]
    · have hnmj:=qk9 hj
      refine ⟨(hs1.heap.hnd j b hne hbjj).1,.inr (hloc j b hne hnmj hbjj),fun i hi e=>?_⟩
      obtain ⟨j',hij⟩:=hin i hi
      rw [hbj i j' hij] at e
      have:=hs1.heap.inj j j' b hne (hlv j' (List.mem_of_getElem? hij)) hbjj e
      subst this
      exact hnmj (List.mem_of_getElem? hij)
  have hix:∀ i j,nm[i]? = some j→qdy nm j = some i:=by
    intro i j hij
    cases hx:qdy nm j with
    | none=>exact absurd (List.mem_of_getElem? hij) (qk9 hx)
    | some i'=>rw [qm7 hnn (qgc hx) hij]
  have hrel2:RelS W okA hb2 (qax (objs' ++ new)) W' r cv:=qo2 N r2 q3 q3'
  have hobj2:∀ i,qge W' hb2 (qax (objs' ++ new)) (okF W okA hb2 (qax (objs' ++ new)) W') i:=by
    intro i
    by_cases hi:qax (objs' ++ new) i = .none
    · unfold qge;rw [hi];trivial
    · obtain ⟨j,hij⟩:=hin i hi
      obtain ⟨y,e1,e2⟩:=hobj i j hij
      exact qpx N (hix i j hij) e1 (q6 j (List.mem_of_getElem? hij)) e2 (hbj i j hij)
  have hm0:∀ i,i < objs.length→nm[i]? = some i:=by
    intro i hi
    rw [hnm,List.getElem?_append_left (by simpa using hi),List.getElem?_range hi]
  have hsim2:HSim W A (if fr then noOk else okA) hb2 (qax (objs' ++ new)) (objs' ++ new).length W':=by
    refine { obj:=fun i=>?_,inj:=fun i k b hi hk hbi hbk=>?_,hnd:=fun i b hi hbi=>?_,fresh:=fun i hi=>hnone i (by omega),ext:=hs1.heap.ext,keep:=?_,lay:=hs1.heap.lay }
    · cases fr with
      | false=>exact hobj2 i
      | true =>
        refine (hobj2 i).flat ?_
        rcases Nat.lt_or_ge i (objs' ++ new).length with hl | hl
        · unfold qax
          rw [List.getD_eq_getElem?_getD,List.getElem?_eq_getElem hl]
          exact (q7 rfl).2 _ (List.getElem_mem hl)
        · rw [hnone i (by omega)];trivial
    · obtain ⟨j,hij⟩:=hin i hi
      obtain ⟨j',hkj⟩:=hin k hk
      rw [hbj i j hij] at hbi
      rw [hbj k j' hkj] at hbk
      have:=hs1.heap.inj j j' b (hlv j (List.mem_of_getElem? hij)) (hlv j' (List.mem_of_getElem? hkj)) hbi hbk
      subst this
      exact qm7 hnn hij hkj
    · obtain ⟨j,hij⟩:=hin i hi
      rw [hbj i j hij] at hbi
      obtain ⟨h1,h2⟩:=hs1.heap.hnd j b (hlv j (List.mem_of_getElem? hij)) hbi
      refine ⟨h1,h2.imp (fun ⟨h3,h4⟩=>?_) id⟩
      have hjl:j < objs.length:=by
        rw [hA0] at h3
        rcases Nat.lt_or_ge j objs.length with h5 | h5
        · exact h5
        · exfalso;apply h3
          unfold qax
          rw [List.getD_eq_getElem?_getD,List.getElem?_eq_none h5];rfl
      have:=qm7 hnn hij (hm0 j hjl)
      subst this
      exact ⟨h3,h4⟩
    · have hlt:∀ j,A.H0 j ≠ .none→j < objs.length:=by
        intro j hj
        rw [hA0] at hj
        rcases Nat.lt_or_ge j objs.length with h5 | h5
        · exact h5
        · exfalso;apply hj
          unfold qax
          rw [List.getD_eq_getElem?_getD,List.getElem?_eq_none h5];rfl
      refine ⟨fun j cs hj=>?_,fun j sz es hj=>?_,fun j kk es hj=>?_⟩
      · have hij:=hm0 j (hlt j (by rw [hj];simp))
        obtain ⟨cs',e1,e2⟩:=hs1.heap.keep.box j cs hj
        obtain ⟨y,e3,e4⟩:=hobj j j hij
        rw [e1] at e3
        simp only [exO] at e3
        split at e3
        · simp only [Option.some.injEq] at e3;subst e3
          exact ⟨_,e4,(hbj j j hij).trans e2⟩
        · cases e3
      · have hij:=hm0 j (hlt j (by rw [hj];simp))
        obtain ⟨es',e1,e0,e2⟩:=hs1.heap.keep.row j sz es hj
        obtain ⟨y,e3,e4⟩:=hobj j j hij
        rw [e1] at e3
        simp only [exO,Option.some.injEq] at e3;subst e3
        exact ⟨_,e4,e0,fun hl=>⟨(hbj j j hij).trans (e2 hl).1,(e2 hl).2⟩⟩
      · have hij:=hm0 j (hlt j (by rw [hj];simp))
        obtain ⟨es',e1,e2⟩:=hs1.heap.keep.map j kk es hj
        obtain ⟨y,e3,e4⟩:=hobj j j hij
        rw [e1] at e3
        simp only [exO,Option.some.injEq] at e3;subst e3
        exact ⟨_,e4,(hbj j j hij).trans e2⟩
  have fin:∃ v r objs' new hb',Ending.returned cv = .returned v∧R r objs' new∧objs'.length = objs.length ∧
      HSim W A (if fr then noOk else okA) hb' (qax (objs' ++ new)) (objs' ++ new).length W'∧RelS W (if fr then noOk else okA) hb' (qax (objs' ++ new)) W' r v :=
    ⟨cv,r,objs',new,hb2,rfl,q8,q5,hsim2,by
      cases fr with
      | false=>exact hrel2
      | true=>exact hrel2.flat (q7 rfl).1⟩
  rcases he with rfl | rfl
  · exact ⟨hs1.defers,cv,r1,fin⟩
  · exact ⟨hs1.defers,cv,r1,fin⟩
end
end Go.Proofs.YtiegopnofbgoaaaGreatDoor.AWN

namespace Go.Proofs.YtiegopnofbgoaaaGreatDoor.AWN
open Go
def One (P:Program) (ops:Array Oper) (o:Oper) (σ:St) (S:St→Prop):Prop :=
  ∀ w0 A okA hb a W,Sim w0 A okA hb σ a W→∀ (Q:Exit→Act→World→Prop) (K:Act→World→Prop),
    (∀ σ' hb' a' W',S σ'→Sim w0 A okA hb' σ' a' W'→K a' W')→if Region.wanted o (yielded ops a.tmps) then o.wp P a W K Q else K (a.put o.dst undef) W
section
variable {P:Program} {τ:Tab} {σ:St} {ops:Array Oper} {o:Oper}
theorem qkf {S:St→Prop} (hw:qcx ops σ o = some true) (h:∀ w0 A okA hb a W,Sim w0 A okA hb σ a W→Does P o a W (fun cv W'=>∃ σ' hb',S σ'∧Sim w0 A okA hb' σ' (a.put o.dst cv) W')):One P ops o σ S:=by
  intro w0 A okA hb a W hs Q K hK
  have hwn:=qmc hs hw
  obtain ⟨cv,W',hrun,σ',hb',h1,h2⟩:=h w0 A okA hb a W hs
  rw [if_pos hwn]
  unfold Oper.wp
  rcases hrun with hrun | ⟨hrun,rfl⟩
  · rw [hrun];exact hK σ' hb' _ _ h1 h2
  · rw [hrun];exact hK σ' hb' _ _ h1 h2
theorem one_skip (hw:qcx ops σ o = some false) (hd:qhi σ o.dst = true):One P ops o σ (· = σ.putO o.dst .und):=by
  intro w0 A okA hb a W hs Q K hK
  have hwn:=qmc hs hw
  rw [if_neg (by simp [hwn])]
  exact hK _ hb _ _ rfl (qhw hs .und _ hd)
theorem one_val (hτ:qfd P τ) {v:V} (hw:qcx ops σ o = some true) (hd:qhi σ o.dst = true) (h:qbu τ σ o.op = .val v):One P ops o σ (· = σ.putO o.dst v) :=
  qkf hw fun w0 A okA hb a W hs=>by
    have:=qg7 hτ hs o
    rw [h] at this
    obtain ⟨cv,W',hrun,s,hr⟩:=this
    exact ⟨cv,W',hrun,_,hb,rfl,qhw (hs.same s) (hr.same s) _ hd⟩
theorem one_need (hτ:qfd P τ) {v:V} {p:Prop} (hw:qcx ops σ o = some true) (hd:qhi σ o.dst = true) (h:qbu τ σ o.op = .need p v) (hp:p):One P ops o σ (· = σ.putO o.dst v) :=
  qkf hw fun w0 A okA hb a W hs=>by
    have:=qg7 hτ hs o
    rw [h] at this
    obtain ⟨cv,W',hrun,s,hr⟩:=this hp
    exact ⟨cv,W',hrun,_,hb,rfl,qhw (hs.same s) (hr.same s) _ hd⟩
theorem one_elem (hτ:qfd P τ) {v:V} {p:Prop} {es:List (List D)} {i:Nat} {k:List D→Option V} {e:List D} (hw:qcx ops σ o = some true) (hd:qhi σ o.dst = true) (h:qbu τ σ o.op = .elem p es i k) (hp:p) (he:es[i]? = some e) (hv:k e = some v):One P ops o σ (· = σ.putO o.dst v) :=
  qkf hw fun w0 A okA hb a W hs=>by
    have:=qg7 hτ hs o
    rw [h] at this
    obtain ⟨cv,W',hrun,s,hr⟩:=this e v hp he hv
    exact ⟨cv,W',hrun,_,hb,rfl,qhw (hs.same s) (hr.same s) _ hd⟩
theorem qpu {H:Nat→AObj} {n:Nat} {d:Option Nat} (hd:qhi σ d = true):qhi ({ σ with heap:=H,next:=n }:St) d = true:=by cases d <;> exact hd
theorem one_valH (hτ:qfd P τ) {v:V} {H:Nat→AObj} {n:Nat} (hw:qcx ops σ o = some true) (hd:qhi σ o.dst = true) (h:qbu τ σ o.op = .valH v H n):One P ops o σ (· = ({ σ with heap:=H,next:=n }:St).putO o.dst v) :=
  qkf hw fun w0 A okA hb a W hs=>by
    have:=qg7 hτ hs o
    rw [h] at this
    obtain ⟨cv,W',hrun,hb',s,hr⟩:=this
    exact ⟨cv,W',hrun,_,hb',rfl,qhw s hr _ (qpu hd)⟩
theorem one_needH (hτ:qfd P τ) {v:V} {p:Prop} {H:Nat→AObj} {n:Nat} (hw:qcx ops σ o = some true) (hd:qhi σ o.dst = true) (h:qbu τ σ o.op = .needH p v H n) (hp:p):One P ops o σ (· = ({ σ with heap:=H,next:=n }:St).putO o.dst v) :=
  qkf hw fun w0 A okA hb a W hs=>by
    have:=qg7 hτ hs o
    rw [h] at this
    obtain ⟨cv,W',hrun,hb',s,hr⟩:=this hp
    exact ⟨cv,W',hrun,_,hb',rfl,qhw s hr _ (qpu hd)⟩
theorem one_elemH (hτ:qfd P τ) {p:Prop} {es:List (List D)} {i:Nat} {k:List D→Option (Nat→AObj)} {e:List D} {H:Nat→AObj} (hw:qcx ops σ o = some true) (hd:qhi σ o.dst = true) (h:qbu τ σ o.op = .elemH p es i k) (hp:p) (he:es[i]? = some e) (hv:k e = some H) :
    One P ops o σ (· = ({ σ with heap:=H,next:=σ.next }:St).putO o.dst .und) :=
  qkf hw fun w0 A okA hb a W hs=>by
    have:=qg7 hτ hs o
    rw [h] at this
    obtain ⟨cv,W',hrun,hb',s,rfl⟩:=this e H hp he hv
    exact ⟨undef,W',hrun,_,hb',rfl,qhw (σ:={ σ with heap:=H,next:=σ.next }) s .und _ (qpu hd)⟩
theorem quw (hτ:qfd P τ) (fr:Bool) (js:List Nat) {k:FuncId} {args args':List V} {objs:List AObj} {R:V→List AObj→List AObj→Prop} (hw:qcx ops σ o = some true) (hd:qhi σ o.dst = true) (h:qbu τ σ o.op = .call k args) (hfn:qms P k)
    (hargs:mapO (exV (qdy js) σ.heap fr) args = some args') (hobjs:mapO (fun j=>exO (qdy js) σ.heap fr (σ.heap j)) js = some objs) (hnd:js.Nodup) (hpa:∀ v ∈ args,exVP (qdy js) σ.heap v) (hpo:∀ j ∈ js,exOP (qdy js) σ.heap (σ.heap j))
    (hc:qb1 P fr k args' objs R):One P ops o σ (fun σ'=>∃ r objs' new,R r objs' new∧objs'.length = js.length∧σ' = (σ.after js objs' new).putO o.dst (renV (σ.names js new.length) r)):=by
  intro w0 A okA hb a W hs Q K hK
  have hwn:=qmc hs hw
  have ho:=qg7 hτ hs o
  rw [h] at ho
  obtain ⟨vals,hrun,hrel⟩:=ho
  obtain ⟨c1,c2,c3⟩:=qvp hs.heap hnd hobjs hpo
  obtain ⟨m1,m2⟩:=qlp hobjs
  rw [if_pos hwn]
  unfold Oper.wp
  rw [hrun,hfn]
  simp only [Oper.upon]
  have hrel':=qle c2 (fun a b c=>qo2 c2 a b c) hrel hargs hpa
  refine (hc W ⟨qax objs,fun i=>match js[i]? with
    | some j=>hb j
    | none=>none⟩ _ _ vals rfl rfl c1 hrel').mono fun e W' hpost=>?_
  obtain ⟨v,r,objs',new,hb',rfl,hR,hl,hsim,hrv⟩:=hpost
  simp only
  have hbj:∀ (i j:Nat),js[i]? = some j→(match js[i]? with | some j=>hb j | none=>none) = hb j:=fun i j hij=>by rw [hij]
  have hobj:∀ i j,js[i]? = some j→∃ y,exO (qdy js) σ.heap fr (σ.heap j) = some y∧qax objs i = y:=by
    intro i j hij
    obtain ⟨y,e1,e2⟩:=m2 i j hij
    exact ⟨y,e1,by unfold qax;exact getD_some e2 _⟩
  obtain ⟨hb'',hout⟩:=quc (a:=a) hs.heap (fr:=fr) (objs:=objs) hnd c3 hbj m1 (okc:=fun b=>b < W.heap.size∧(okF w0 okA hb σ.heap W b ∨ (fr = true∧∃ j,σ.heap j ≠ .none∧j ∉ js∧hb j = some b)))
    (fun b hfr hb1=>by
      rcases hb1.2 with h1 | ⟨h1,_⟩
      · exact h1
      · rw [hfr] at h1;cases h1)
    (Ac:=⟨qax objs,_⟩) rfl rfl
    (fun i j cs hij hj=>by
      obtain ⟨y,e1,e2⟩:=hobj i j hij
      rw [hj] at e1
      simp only [exO] at e1
      split at e1
      · simp only [Option.some.injEq] at e1;subst e1;exact ⟨_,e2⟩
      · cases e1)
    (fun i j sz es hij hj=>by
      obtain ⟨y,e1,e2⟩:=hobj i j hij
      rw [hj] at e1
      simp only [exO,Option.some.injEq] at e1
      rw [e2,← e1])
    (fun i j kk es hij hj=>by
      obtain ⟨y,e1,e2⟩:=hobj i j hij
      rw [hj] at e1
      simp only [exO,Option.some.injEq] at e1
      rw [e2,← e1]) hl hsim
  obtain ⟨s1,s2⟩:=hout hs
  have hr2:=qrw s2 hrv
  exact hK _ hb'' _ W' ⟨r,objs',new,hR,by rw [hl,m1],rfl⟩ (qhw s1 hr2 _ (by cases hdd:o.dst <;> rw [hdd] at hd <;> exact hd))
/-! ### What a step depends on -/
def opdT:Operand→List Nat
  | .tmp t=>[t]
  | _=>[]
def opT:Op→List Nat
  | .move x | .assign x | .box _ x | .load _ x | .nilCheck x | .unOp _ _ x | .convert _ _ x | .fieldAddr _ x _ | .field _ x _ | .extract x _=>opdT x
  | .pick c a b=>opdT c ++ opdT a ++ opdT b
  | .build _ parts | .buildSlice _ _ parts=>parts.toList.flatMap fun p=>opdT p.2
  | .makeSlice _ x v | .store _ x v | .binOp _ _ x v _ | .indexAddr _ x v | .index _ x v=>opdT x ++ opdT v
  | .makeFunc _ first caps=>first.toList.flatMap opdT ++ caps.toList.flatMap opdT
  | .slice _ x lo hi mx=>opdT x ++ (lo.map opdT).getD [] ++ (hi.map opdT).getD [] ++ (mx.map opdT).getD []
  | .call c=>(match c.callee with
    | .value f=>opdT f
    | _=>[]) ++ c.args.toList.flatMap opdT
  | .lookup _ x i _=>opdT x ++ opdT i
  | .mapUpdate _ m k x=>opdT m ++ opdT k ++ opdT x
  | _=>[]
theorem qck {σ σ':St} {x:Operand} (h:∀ t ∈ opdT x,σ'.env t = σ.env t):σ'.ev x = σ.ev x:=by
  cases x with
  | tmp t=>exact h t (by simp [opdT])
  | _=>rfl
theorem qtv {σ σ':St} (l:List Operand) (h:∀ t ∈ l.flatMap opdT,σ'.env t = σ.env t):l.map σ'.ev = l.map σ.ev:=by
  refine List.map_congr_left fun x hx=>qck fun t ht=>h t (List.mem_flatMap.2 ⟨x,hx,ht⟩)
theorem quf {σ σ':St} (l:List (Nat × Operand)) (h:∀ t ∈ l.flatMap (fun p=>opdT p.2),σ'.env t = σ.env t):l.map (fun p=>(p.1,σ'.ev p.2)) = l.map (fun p=>(p.1,σ.ev p.2)):=by
  refine List.map_congr_left fun x hx=>?_
  rw [qck fun t ht=>h t (List.mem_flatMap.2 ⟨x,hx,ht⟩)]
theorem qvu {σ σ':St} (x:Option Operand) (h:∀ t ∈ (x.map opdT).getD [],σ'.env t = σ.env t):x.map σ'.ev = x.map σ.ev:=by
  cases x with
  | none=>rfl
  | some x=>simp only [Option.map_some];rw [qck (by simpa using h)]
theorem qna {σ σ':St} {op:Op} (h:∀ t ∈ opT op,σ'.env t = σ.env t) (hh:σ'.heap = σ.heap) (hn:σ'.next = σ.next):qbu τ σ' op = qbu τ σ op:=by
  have app:∀ {l1 l2:List Nat},(∀ t ∈ l1 ++ l2,σ'.env t = σ.env t)→(∀ t ∈ l1,σ'.env t = σ.env t)∧∀ t ∈ l2,σ'.env t = σ.env t :=
    fun h=>⟨fun t ht=>h t (List.mem_append_left _ ht),fun t ht=>h t (List.mem_append_right _ ht)⟩
  cases op
  case move x=>simp only [qbu];rw [qck h]
  case assign x=>simp only [qbu];rw [qck h]
  case pick c a b=>simp only [qbu];obtain ⟨h1,h3⟩:=app h;obtain ⟨h1,h2⟩:=app h1;rw [qck h1,qck h2,qck h3]
  case box t x=>simp only [qbu];rw [qck h,hh,hn]
  case alloc t=>simp only [qbu];rw [hh,hn]
  case build t parts=>simp only [qbu];rw [quf _ h]
  case buildSlice t len parts=>simp only [qbu];rw [quf _ h,hh,hn]
  case makeSlice t x v=>simp only [qbu];obtain ⟨h1,h2⟩:=app h;rw [qck h1,qck h2,hh,hn]
  case load t x=>simp only [qbu];rw [qck h,hh]
  case store t x v=>simp only [qbu];obtain ⟨h1,h2⟩:=app h;rw [qck h1,qck h2,hh,hn]
  case nilCheck x=>simp only [qbu];rw [qck h,hh]
  case binOp op t x y _=>simp only [qbu];obtain ⟨h1,h2⟩:=app h;rw [qck h1,qck h2]
  case unOp op _ x=>simp only [qbu];rw [qck h]
  case convert s d x=>simp only [qbu];rw [qck h]
  case makeFunc f first caps =>
    obtain ⟨h1,h2⟩:=app h
    cases f <;> simp only [qbu]
    rw [qtv _ h1,qtv _ h2]
  case slice t x lo hi mx =>
    simp only [qbu]
    obtain ⟨h1,h4⟩:=app h
    obtain ⟨h1,h3⟩:=app h1
    obtain ⟨h1,h2⟩:=app h1
    rw [qck h1,qvu _ h2,qvu _ h3,qvu _ h4,hh]
  case fieldAddr s x f=>simp only [qbu];rw [qck h,hh]
  case field s x f=>simp only [qbu];rw [qck h]
  case indexAddr t x i=>simp only [qbu];obtain ⟨h1,h2⟩:=app h;rw [qck h1,qck h2,hh]
  case index t x i=>simp only [qbu];obtain ⟨h1,h2⟩:=app h;rw [qck h1,qck h2]
  case extract x i=>simp only [qbu];rw [qck h]
  case call c =>
    obtain ⟨h1,h2⟩:=app h
    simp only [qbu]
    rw [qtv _ h2,hh,hn]
    cases hc:c.callee with
    | value f =>
      simp only [hc] at h1
      simp only
      rw [qck h1]
    | _=>rfl
  case makeMap t r=>cases r <;> simp only [qbu];rw [hh,hn]
  case lookup t x i ok=>simp only [qbu];obtain ⟨h1,h2⟩:=app h;rw [qck h1,qck h2,hh]
  case mapUpdate t m k x=>simp only [qbu];obtain ⟨h1,h3⟩:=app h;obtain ⟨h1,h2⟩:=app h1;rw [qck h1,qck h2,qck h3,hh,hn]
  all_goals rfl
def V.nm:V→List Nat
  | .ptr j _ | .eptr j _ _ _ | .row j _ _ _ | .mref j=>[j]
  | _=>[]
def qsm (σ:St):Op→Option (List Nat)
  | .load _ x | .fieldAddr _ x _ | .indexAddr _ x _ | .slice _ x _ _ _ | .lookup _ x _ _=>some (σ.ev x).nm
  | .move _ | .assign _ | .pick _ _ _ | .build _ _ | .binOp _ _ _ _ _ | .unOp _ _ _ | .convert _ _ _ | .makeFunc _ _ _ | .field _ _ _ | .index _ _ _ | .extract _ _=>some []
  | .nilCheck x=>some (match σ.ev x with | .eptr j _ _ _=>[j] | _=>[])
  | .call c=>match c.callee with
    | .builtin .len | .builtin .complex | .builtin .real | .builtin .imag | .builtin .max | .builtin .min=>some (c.args.toList.flatMap fun x=>(σ.ev x).nm)
    | _=>none
  | _=>none
theorem loadV_nm {H H':Nat→AObj} {td:TD} {x:V} (h:∀ j ∈ x.nm,H' j = H j):qsf H' td x = qsf H td x:=by
  cases x with
  | ptr j off=>simp only [qsf];rw [h j (by simp [V.nm])]
  | eptr j L i off=>simp only [qsf];rw [h j (by simp [V.nm])]
  | _=>rfl
theorem ptrAdd_nm {H H':Nat→AObj} {n:Nat} {x:V} (h:∀ j ∈ x.nm,H' j = H j):qp5 H' x n = qp5 H x n:=by
  cases x with
  | ptr j off=>rfl
  | eptr j L i off=>simp only [qp5];rw [h j (by simp [V.nm])]
  | _=>rfl
theorem indexAddrV_nm {H H':Nat→AObj} {t:TypeId} {x i:V} (h:∀ j ∈ x.nm,H' j = H j):qjo τ H' t x i = qjo τ H t x i:=by
  unfold qjo
  rcases τ t with _ | ⟨desc,a1,a2,a3⟩
  · rfl
  · cases i with
    | d y =>
      cases y with
      | int k n =>
        cases desc with
        | slice et =>
          cases x with
          | row j L off len=>dsimp only;rw [h j (by simp [V.nm])]
          | d z=>cases z <;> rfl
          | _=>rfl
        | _=>cases x <;> rfl
      | _=>rfl
    | _=>rfl
theorem sliceV_nm {H H':Nat→AObj} {t:TypeId} {x:V} {lo hi mx:Option V} (h:∀ j ∈ x.nm,H' j = H j):qp9 τ H' t x lo hi mx = qp9 τ H t x lo hi mx:=by
  unfold qp9
  rcases τ t with _ | ⟨desc,a1,a2,a3⟩
  · rfl
  · rcases qqe lo with _ | lo
    · rfl
    · rcases qqe hi with _ | hi
      · rfl
      · cases mx with
        | some _=>rfl
        | none =>
          cases desc with
          | slice et =>
            cases x with
            | row j L off len=>dsimp only;rw [h j (by simp [V.nm])]
            | d z=>cases z <;> rfl
            | _=>rfl
          | _ =>
            cases x with
            | d z=>cases z <;> rfl
            | _=>rfl
theorem lenV_nm {H H':Nat→AObj} {t:TypeId} {x:V} (h:∀ j ∈ x.nm,H' j = H j):lenV τ H' t x = lenV τ H t x:=by
  unfold lenV
  rcases τ t with _ | ⟨desc,a1,a2,a3⟩
  · rfl
  · cases x with
    | row j L off len=>cases desc <;> first | rfl | (dsimp only;rw [h j (by simp [V.nm])])
    | d z=>cases desc <;> cases z <;> rfl
    | _=>cases desc <;> rfl
theorem qk8 {H H':Nat→AObj} {n n':Nat} {b:Builtin} {ts:Array TypeId} {args:List V} (hb:b = .len ∨ b = .complex ∨ b = .real ∨ b = .imag ∨ b = .max ∨ b = .min) (h:∀ j ∈ args.flatMap V.nm,H' j = H j):qn3 τ H' n' b ts args = qn3 τ H n b ts args:=by
  rcases hb with rfl | rfl | rfl | rfl | rfl | rfl
  · rcases args with _ | ⟨x,_ | ⟨y,r⟩⟩
    · rfl
    · simp only [qn3]
      split
      · exact lenV_nm (by simpa using h)
      · rfl
    · rfl
  all_goals (unfold qn3;split <;> first | rfl | (rename_i hb;cases hb;done) | contradiction | trivial)
theorem lookupV_nm {H H':Nat→AObj} {t:TypeId} {x i:V} {ok:Bool} (h:∀ j ∈ x.nm,H' j = H j):qq5 τ H' t x i ok = qq5 τ H t x i ok:=by
  unfold qq5
  cases mapT τ t with
  | none=>rfl
  | some p =>
    obtain ⟨k,ed⟩:=p
    cases x with
    | mref j=>cases i with
      | d y=>cases y with
        | int k' n=>dsimp only;rw [h j (by simp [V.nm])]
        | _=>rfl
      | _=>rfl
    | _=>rfl
theorem step_ro {σ σ':St} {op:Op} {J:List Nat} (hr:qsm σ op = some J) (h:∀ t ∈ opT op,σ'.env t = σ.env t) (hh:∀ j ∈ J,σ'.heap j = σ.heap j):qbu τ σ' op = qbu τ σ op:=by
  have e:=qna (τ:=τ) (σ:=σ) (σ':={ σ with env:=σ'.env }) h rfl rfl
  rw [← e]
  have hx:∀ x,(∀ t ∈ opdT x,σ'.env t = σ.env t)→(σ.ev x).nm = (σ'.ev x).nm:=fun x h=>by rw [qck h]
  have app:∀ {l1 l2:List Nat},(∀ t ∈ l1 ++ l2,σ'.env t = σ.env t)→(∀ t ∈ l1,σ'.env t = σ.env t)∧∀ t ∈ l2,σ'.env t = σ.env t :=
    fun h=>⟨fun t ht=>h t (List.mem_append_left _ ht),fun t ht=>h t (List.mem_append_right _ ht)⟩
  have evE:∀ x,({ σ with env:=σ'.env }:St).ev x = σ'.ev x:=fun x=>by cases x <;> rfl
  have evL:(({ σ with env:=σ'.env }:St).ev) = σ'.ev:=funext evE
  have nmE:∀ x,(∀ t ∈ opdT x,σ'.env t = σ.env t)→some (σ.ev x).nm = some J→∀ j ∈ (σ'.ev x).nm,σ'.heap j = σ.heap j:=fun x h hr j hj=>hh j (by rw [← Option.some.inj hr,hx x h];exact hj)
  cases op <;> simp only [qsm] at hr <;> try (first | cases hr;done | skip)
  case load t x =>
    simp only [qbu,evE]
    cases τ t with
    | none=>rfl
    | some td=>exact loadV_nm (nmE x h hr)
  case fieldAddr s x f =>
    simp only [qbu,evE]
    split
    · rw [ptrAdd_nm (nmE x h hr)]
    · rfl
  case indexAddr t x i=>simp only [qbu,evE];exact indexAddrV_nm (nmE x (app h).1 hr)
  case lookup t x i ok=>simp only [qbu,evE];exact lookupV_nm (nmE x (app h).1 hr)
  case nilCheck x =>
    simp only [qbu,evE]
    rw [← qck h] at hr
    cases hv:σ'.ev x with
    | eptr j L i off =>
      rw [hv] at hr
      dsimp only
      rw [hh j (by rw [← Option.some.inj hr];simp)]
    | _=>rfl
  case slice t x lo hi mx=>simp only [qbu,evE,evL];exact sliceV_nm (nmE x (app (app (app h).1).1).1 hr)
  case call c =>
    simp only [qbu,evL]
    have hnm:some (c.args.toList.flatMap fun x=>(σ.ev x).nm) = some J→∀ j ∈ (c.args.toList.map σ'.ev).flatMap V.nm,σ'.heap j = σ.heap j:=by
      intro hr j hj
      refine hh j ?_
      rw [← Option.some.inj hr]
      simp only [List.mem_flatMap,List.mem_map] at hj ⊢
      obtain ⟨_,⟨x,hx1,rfl⟩,hj⟩:=hj
      exact ⟨x,hx1,by rw [hx x fun t ht=>(app h).2 t (List.mem_flatMap.2 ⟨x,hx1,ht⟩)];exact hj⟩
    split at hr
    · rename_i hc;rw [hc];exact qk8 (by simp) (hnm hr)
    · rename_i hc;rw [hc];exact qk8 (by simp) (hnm hr)
    · rename_i hc;rw [hc];exact qk8 (by simp) (hnm hr)
    · rename_i hc;rw [hc];exact qk8 (by simp) (hnm hr)
    · rename_i hc;rw [hc];exact qk8 (by simp) (hnm hr)
    · rename_i hc;rw [hc];exact qk8 (by simp) (hnm hr)
    · cases hr
  case makeFunc f first caps=>cases f <;> simp only [qbu,evL] <;> rfl
  all_goals (simp only [qbu,evE,evL])
end
end Go.Proofs.YtiegopnofbgoaaaGreatDoor.AWN

namespace Go.Proofs.YtiegopnofbgoaaaGreatDoor.AWN
open Go
structure Rec where
  i:Nat
  mem:Bool
  J:List Nat
  nd:Bool
def looks (ops:Array Oper) (o:Oper):List Nat:=opT o.op ++ (match o.guard with
  | some (j,_)=>match ops[j]? with
    | some o'=>match o'.dst with
      | some d=>[d]
      | none=>[]
    | none=>[]
  | none=>[])
def qwn (P:Program) (ops:Array Oper) (σ:St) (o:Oper) (v:V) (J:List Nat):Prop :=
  ∀ σ',σ'.nt = σ.nt→(∀ t ∈ looks ops o,σ'.env t = σ.env t)→(∀ j ∈ J,σ'.heap j = σ.heap j)→One P ops o σ' (· = σ'.putO o.dst v)
def St.set (σ:St) (H:Nat→AObj) (n:Nat):St:={ σ with heap:=H,next:=n }
def qtr (P:Program) (ops:Array Oper) (σ:St) (o:Oper) (v:V) (H:Nat→AObj) (n:Nat):Prop :=
  ∀ σ',σ'.nt = σ.nt→(∀ t ∈ looks ops o,σ'.env t = σ.env t)→σ'.heap = σ.heap→σ'.next = σ.next→One P ops o σ' (· = (σ'.set H n).putO o.dst v)
structure FR where
  r:Rec
  dst:Option Nat
  v:V
  H:Nat→AObj
  n:Nat
def app (σ:St) (f:FR):St:=bif f.r.mem then (σ.set f.H f.n).putO f.dst f.v else σ.putO f.dst f.v
abbrev apps (σ:St) (l:List FR):St:=l.foldl app σ
def Fact (P:Program) (ops:Array Oper) (σ:St) (f:FR):Prop:=∃ o,ops[f.r.i]? = some o∧f.dst = o.dst ∧
  ((f.r.mem = false∧qwn P ops σ o f.v f.r.J) ∨ (f.r.mem = true∧(qtr P ops σ o f.v f.H f.n ∨ f.r.nd = true)∧∀ j ∈ f.r.J,f.H j = σ.heap j))
def Hist (P:Program) (ops:Array Oper) (fs0:List FR) (σ0:St) (rs:List Rec) (σ:St):Prop :=
  ∃ gs:List FR,(fs0 ++ gs).map (·.r) = rs.reverse∧σ = apps σ0 (fs0 ++ gs)∧∀ a f b,fs0 ++ gs = a ++ f :: b→Fact P ops (apps σ0 a) f
theorem Hist.nil {P:Program} {ops:Array Oper} {σ0:St}:Hist P ops [] σ0 [] σ0:=⟨[],rfl,rfl,fun a f b e=>by cases a <;> cases e⟩
theorem Hist.cons {P:Program} {ops:Array Oper} {fs0:List FR} {σ0:St} {rs:List Rec} {σ:St} (f:FR) (h:Hist P ops fs0 σ0 rs σ) (hf:Fact P ops σ f):Hist P ops fs0 σ0 (f.r :: rs) (app σ f):=by
  obtain ⟨gs,e1,e2,e3⟩:=h
  refine ⟨gs ++ [f],by rw [← List.append_assoc,List.map_append,e1];simp,by rw [← List.append_assoc,apps,List.foldl_append,← show σ = List.foldl app σ0 (fs0 ++ gs) from e2];rfl,fun a g b e=>?_⟩
  rw [← List.append_assoc] at e
  rcases List.eq_nil_or_concat b with rfl | ⟨b',x,rfl⟩
  · have e':a ++ [g] = (fs0 ++ gs) ++ [f]:=e.symm
    obtain ⟨e4,e5⟩:=List.append_inj' e' rfl
    cases e5
    rw [e4,← e2];exact hf
  · have e':(a ++ g :: b') ++ [x] = (fs0 ++ gs) ++ [f]:=by rw [e];simp
    obtain ⟨e4,e5⟩:=List.append_inj' e' rfl
    exact e3 a g b' e4.symm
section
variable {P:Program} {τ:Tab} {σ σ0:St} {ops:Array Oper} {o:Oper} {w0:World} {A:Args} {okA:Nat→Prop} {Q:Exit→St→Prop}
def aft (ops:Array Oper) (i j:Nat):Bool:=match ops[i]? with
  | some o=>o.after.any fun e=>Region.binds .any e && Nat.beq e.on j
  | none=>false
inductive Reach (ops:Array Oper):Nat→Nat→Prop where
  | one {i j:Nat}:aft ops i j = true→Reach ops i j
  | more {i k j:Nat}:aft ops i k = true→Reach ops k j→Reach ops i j
def qwi (ms:List Nat) (m:Nat) (e:Edge):Nat:=bif Region.binds .any e then (m ||| 2 ^ e.on) ||| ms.getD e.on 0 else m
def qus (ms:List Nat) (o:Oper):Nat:=o.after.toList.foldl (qwi ms) 0
def masks:List Oper→List Nat→List Nat
  | [],ms=>ms
  | o :: l,ms=>masks l (ms ++ [qus ms o])
def aftT (ms:List Nat) (i j:Nat):Bool:=(ms.getD i 0).testBit j
def qmv (ops:Array Oper) (i:Nat):Option Nat:=match ops[i]? with
  | some o=>o.dst
  | none=>none
def qlx (ops:Array Oper) (i:Nat):List Nat:=match ops[i]? with
  | some o=>looks ops o
  | none=>[]
def hasD:Option Nat→List Nat→Bool
  | some d,l=>l.any (Nat.beq d)
  | none,_=>false
def qwl:Option Nat→Option Nat→Bool
  | some d,some e=>Nat.beq d e
  | _,_=>false
def qk6 (D ms:List Nat) (ops:Array Oper) (r s:Rec):Bool :=
  !Nat.beq r.i s.i && !aft ops r.i s.i && (aftT ms s.i r.i || D.any (Nat.beq r.i) || (!hasD (qmv ops r.i) (qlx ops s.i) && !hasD (qmv ops s.i) (qlx ops r.i) && !qwl (qmv ops r.i) (qmv ops s.i) && !r.mem
    && (!s.mem || r.J.all fun j=>s.J.any (Nat.beq j))))
def qop (D ms:List Nat) (ops:Array Oper):List Rec→Bool
  | []=>true
  | r :: l=>l.all (qk6 D ms ops r) && qop D ms ops l
def qv2 (ops:Array Oper) (r:Rec):Bool:=match ops[r.i]? with
  | some o=>o.after.all fun e=>!Region.binds .any e || (Nat.blt e.on ops.size && !Nat.beq e.on r.i)
  | none=>false
def qti (D:List Nat) (ops:Array Oper) (rs:List Rec):Bool :=
  qop D (masks ops.toList []) ops rs.reverse && rs.all (qv2 ops) && rs.all fun r=>!r.nd || D.any (Nat.beq r.i)
def qrq (D:List Nat) (ops:Array Oper) (rs:List Rec):Bool :=
  qti D ops rs && (List.range ops.size).all (fun i=>rs.any fun r=>Nat.beq r.i i)
abbrev qxi (ops:Array Oper) (rs:List Rec):Bool:=qrq [] ops rs
theorem qrl {ms:List Nat} {i:Nat} {o:Oper} (ho:ops[i]? = some o) (hms:∀ k j,(ms.getD k 0).testBit j = true→Reach ops k j):∀ (l:List Edge) (m:Nat),(∀ e ∈ l,e ∈ o.after.toList)→(∀ j,m.testBit j = true→Reach ops i j)→∀ j,(l.foldl (qwi ms) m).testBit j = true→Reach ops i j
  | [],_,_,hm,j,h=>hm j h
  | e :: l,m,hl,hm,j,h=>by
    refine qrl ho hms l (qwi ms m e) (fun x hx=>hl x (List.mem_cons_of_mem _ hx)) (fun j hj=>?_) j h
    unfold qwi at hj
    cases hb:Region.binds .any e with
    | false=>rw [hb] at hj;exact hm j hj
    | true =>
      rw [hb] at hj
      simp only [cond_true,Nat.testBit_or,Bool.or_eq_true] at hj
      have hd:aft ops i e.on = true:=by
        unfold aft
        rw [ho]
        exact Array.any_eq_true'.2 ⟨e,Array.mem_toList_iff.1 (hl e (List.mem_cons_self ..)),by simp [hb]⟩
      rcases hj with (hj | hj) | hj
      · exact hm j hj
      · have:e.on = j:=by
          rw [Nat.testBit_two_pow] at hj
          simpa using hj
        rw [← this];exact .one hd
      · exact .more hd (hms _ _ hj)
theorem qrm:∀ (l:List Oper) (ms:List Nat),(∀ k,l[k]? = ops[ms.length + k]?)→(∀ k j,(ms.getD k 0).testBit j = true→Reach ops k j)→∀ k j,((masks l ms).getD k 0).testBit j = true→Reach ops k j
  | [],ms,_,h,k,j,hk=>h k j hk
  | o :: l,ms,hl,h,k,j,hk=>by
    have ho:ops[ms.length]? = some o:=by simpa using (hl 0).symm
    refine qrm l (ms ++ [qus ms o]) (fun k=>?_) (fun k j hkj=>?_) k j hk
    · have:=hl (k + 1)
      simp only [List.getElem?_cons_succ] at this
      rw [this,List.length_append,List.length_singleton];congr 1;omega
    · rw [List.getD_eq_getElem?_getD,List.getElem?_append] at hkj
      split at hkj
      · rw [← List.getD_eq_getElem?_getD] at hkj;exact h k j hkj
      · by_cases hk0:k - ms.length = 0
        · rw [hk0] at hkj
          have:k = ms.length:=by omega
          subst this
          exact qrl ho h _ 0 (fun _ he=>he) (fun j hj=>by simp at hj) j (by
            have e:[qus ms o][0]?.getD 0 = qus ms o:=rfl
            rw [e] at hkj;exact hkj)
        · rw [List.getElem?_eq_none (by simp;omega)] at hkj
          simp at hkj
theorem qpn {i j:Nat} (h:aftT (masks ops.toList []) i j = true):Reach ops i j :=
  qrm ops.toList [] (by simp) (fun k j h=>by simp at h) i j h
theorem qp6 {L:Nat→Prop} (hdc:∀ i j,L i→aft ops i j = true→L j) {i j:Nat} (h:Reach ops i j) (hi:L i):L j:=by
  induction h with
  | one h=>exact hdc _ _ hi h
  | more h _ ih=>exact ih (hdc _ _ hi h)
theorem qqj {L:Nat→Prop} (hdc:∀ i j,L i→aft ops i j = true→L j) {i j:Nat} (h:Reach ops i j) (hi:∀ k,aft ops i k = true→L k):L j:=by
  cases h with
  | one h=>exact hi _ h
  | more h h2=>exact qp6 hdc h2 (hi _ h)
theorem qjq {D ms:List Nat}:∀ {l a b c:List Rec} {r s:Rec},qop D ms ops l = true→l = a ++ r :: (b ++ s :: c)→qk6 D ms ops r s = true
  | [],a,b,c,r,s,h,e=>by cases a <;> cases e
  | x :: l,[],b,c,r,s,h,e=>by
    cases e
    simp only [qop,Bool.and_eq_true] at h
    exact List.all_eq_true.1 h.1 s (by simp)
  | x :: l,y :: a,b,c,r,s,h,e=>by
    cases e
    simp only [qop,Bool.and_eq_true] at h
    exact qjq h.2 rfl
/-! ### Folds -/
theorem app_nt (f:FR):(app σ f).nt = σ.nt:=by
  unfold app;cases f.r.mem <;> cases hd:f.dst <;> rfl
theorem qpq:∀ (l:List FR) (σ:St),(apps σ l).nt = σ.nt
  | [],_=>rfl
  | f :: l,σ=>(qpq l (app σ f)).trans (app_nt f)
theorem qs2 (f:FR) (t:Nat):(app σ f).env t = if f.dst = some t then f.v else σ.env t:=by
  unfold app
  cases f.r.mem <;> cases hd:f.dst with
  | none=>simp [St.putO,St.set]
  | some d =>
    simp only [St.putO,St.put,St.set,cond_true,cond_false,Option.some.injEq]
    by_cases h:t = d
    · subst h;rw [upd_same,if_pos rfl]
    · rw [upd_ne _ _ h,if_neg (Ne.symm h)]
theorem ql5 (f:FR):(app σ f).heap = (if f.r.mem = true then f.H else σ.heap)∧(app σ f).next = if f.r.mem = true then f.n else σ.next:=by
  unfold app;cases f.r.mem <;> cases hd:f.dst <;> exact ⟨rfl,rfl⟩
theorem qn4 (p:FR→Bool) (t:Nat):∀ (l:List FR) (σ σ':St),σ.env t = σ'.env t→(∀ f ∈ l,f.dst = some t→p f = true)→(apps σ (l.filter p)).env t = (apps σ' l).env t
  | [],σ,σ',h,_=>h
  | f :: l,σ,σ',h,hp=>by
    have hl:=fun f hf=>hp f (List.mem_cons_of_mem _ hf)
    by_cases hpf:p f = true
    · rw [List.filter_cons_of_pos hpf]
      exact qn4 p t l (app σ f) (app σ' f) (by rw [qs2,qs2,h]) hl
    · rw [List.filter_cons_of_neg hpf]
      refine qn4 p t l σ (app σ' f) ?_ hl
      rw [qs2,if_neg (fun e=>hpf (hp f (List.mem_cons_self ..) e))];exact h
theorem qme (p:FR→Bool):∀ (l:List FR) (σ σ':St),σ.heap = σ'.heap→σ.next = σ'.next→(∀ f ∈ l,f.r.mem = true→p f = true)→(apps σ (l.filter p)).heap = (apps σ' l).heap∧(apps σ (l.filter p)).next = (apps σ' l).next
  | [],σ,σ',h,k,_=>⟨h,k⟩
  | f :: l,σ,σ',h,k,hp=>by
    have hl:=fun f hf=>hp f (List.mem_cons_of_mem _ hf)
    by_cases hpf:p f = true
    · rw [List.filter_cons_of_pos hpf]
      exact qme p l (app σ f) (app σ' f) (by rw [(ql5 f).1,(ql5 f).1,h]) (by rw [(ql5 f).2,(ql5 f).2,k]) hl
    · rw [List.filter_cons_of_neg hpf]
      have hm:¬ f.r.mem = true:=fun e=>hpf (hp f (List.mem_cons_self ..) e)
      exact qme p l σ (app σ' f) (by rw [(ql5 f).1,if_neg hm];exact h) (by rw [(ql5 f).2,if_neg hm];exact k) hl
theorem qvt (t:Nat):∀ (l:List FR) (σ:St),(∀ f ∈ l,f.dst ≠ some t)→(apps σ l).env t = σ.env t
  | [],_,_=>rfl
  | f :: l,σ,h=>by
    show (apps (app σ f) l).env t = _
    rw [qvt t l _ fun g hg=>h g (List.mem_cons_of_mem _ hg),qs2,if_neg (h f (List.mem_cons_self ..))]
theorem put_comm {d e:Nat} {x y:V} (h:d ≠ e):(σ.put d x).put e y = (σ.put e y).put d x:=by
  unfold St.put
  congr 1
  funext t
  show upd (upd σ.env d x) e y t = upd (upd σ.env e y) d x t
  by_cases h1:t = d
  · subst h1;rw [upd_ne _ _ h,upd_same,upd_same]
  · by_cases h2:t = e
    · subst h2;rw [upd_same,upd_ne _ _ (Ne.symm h),upd_same]
    · rw [upd_ne _ _ h2,upd_ne _ _ h1,upd_ne _ _ h1,upd_ne _ _ h2]
theorem app_comm {f g:FR} (hf:f.r.mem = false) (hd:∀ d,f.dst = some d→g.dst ≠ some d):app (app σ f) g = app (app σ g) f:=by
  unfold app
  rw [hf]
  simp only [cond_false]
  cases hfd:f.dst with
  | none=>cases g.r.mem <;> rfl
  | some d =>
    cases hgd:g.dst with
    | none=>cases g.r.mem <;> rfl
    | some e =>
      have hne:d ≠ e:=fun h=>by subst h;exact hd d hfd hgd
      cases g.r.mem
      · simp only [St.putO,cond_false];exact put_comm hne
      · simp only [St.putO,cond_true];exact put_comm (σ:=σ.set g.H g.n) hne
theorem qsu {f:FR} (hf:f.r.mem = false):∀ (l:List FR) (σ:St),(∀ g ∈ l,∀ d,f.dst = some d→g.dst ≠ some d)→apps (app σ f) l = app (apps σ l) f
  | [],_,_=>rfl
  | g :: l,σ,h=>by
    show apps (app (app σ f) g) l = app (apps (app σ g) l) f
    rw [app_comm hf (h g (List.mem_cons_self ..)),qsu hf l _ fun k hk=>h k (List.mem_cons_of_mem _ hk)]
theorem qon {d:Nat} {l:List Nat} {x:Option Nat} (h:hasD x l = false) (hd:d ∈ l):x ≠ some d:=by
  rintro rfl
  simp only [hasD,List.any_eq_false] at h
  exact h d hd (by simp)
theorem sameD_false {x y:Option Nat} (h:qwl x y = false) {d:Nat} (hx:x = some d):y ≠ some d:=by
  rintro rfl
  subst hx
  simp [qwl] at h
def atL (σ0:St) (fs:List FR) (L:Array Bool):St:=apps σ0 (fs.filter fun f=>L.getD f.r.i false)
theorem qnv {i j:Nat} {o:Oper} (ho:ops[i]? = some o):aft ops i j = true ↔ ∃ e ∈ o.after,Region.binds .any e = true∧e.on = j:=by
  unfold aft
  rw [ho]
  simp only [Array.any_eq_true']
  constructor
  · rintro ⟨e,he,h⟩
    simp only [Bool.and_eq_true] at h
    exact ⟨e,he,h.1,by simpa using h.2⟩
  · rintro ⟨e,he,h1,h2⟩
    exact ⟨e,he,by simp [h1,h2]⟩
theorem ql7 (L:Array Bool) (i j:Nat) (h:i < L.size):(L.setIfInBounds i true).getD j false = if j = i then true else L.getD j false:=by
  rw [Array.getD_eq_getD_getElem?,Array.getElem?_setIfInBounds]
  by_cases hj:i = j
  · subst hj;simp [h]
  · rw [if_neg hj,if_neg (Ne.symm hj),← Array.getD_eq_getD_getElem?]
theorem qvg {fs a b:List FR} {s:FR} {L:Array Bool} (hfs:fs = a ++ s :: b) (hs:s.r.i < L.size) (hun:L.getD s.r.i false = false) (hne:∀ f ∈ a ++ b,f.r.i ≠ s.r.i)
    (hro:(∃ f ∈ b,L.getD f.r.i false = true)→s.r.mem = false) (hd:∀ f ∈ b,L.getD f.r.i false = true→∀ d,s.dst = some d→f.dst ≠ some d) :
    atL σ0 fs (L.setIfInBounds s.r.i true) = app (atL σ0 fs L) s:=by
  have hfil:∀ l:List FR,(∀ f ∈ l,f.r.i ≠ s.r.i)→(l.filter fun f=>(L.setIfInBounds s.r.i true).getD f.r.i false) = l.filter fun f=>L.getD f.r.i false:=fun l hl =>
    List.filter_congr fun f hf=>by rw [ql7 _ _ _ hs,if_neg (hl f hf)]
  unfold atL
  rw [hfs,List.filter_append,List.filter_append,List.filter_cons_of_pos (by rw [ql7 _ _ _ hs,if_pos rfl]),List.filter_cons_of_neg (by simp [hun]),
    hfil a (fun f hf=>hne f (List.mem_append_left _ hf)),hfil b (fun f hf=>hne f (List.mem_append_right _ hf))]
  unfold apps
  rw [List.foldl_append,List.foldl_append,List.foldl_cons]
  by_cases hb:∃ f ∈ b,L.getD f.r.i false = true
  · exact qsu (hro hb) _ _ fun g hg d hsd=>hd g (List.mem_filter.1 hg).1 (List.mem_filter.1 hg).2 d hsd
  · have:(b.filter fun f=>L.getD f.r.i false) = []:=List.filter_eq_nil_iff.2 fun f hf h=>hb ⟨f,hf,h⟩
    rw [this];rfl
theorem heap_kept {fs a:List FR} {s:FR} {J:List Nat} (hro:s.r.mem = false) (hfact:∀ x f y,fs = x ++ f :: y→Fact P ops (apps σ0 x) f) (p:FR→Bool) :
    ∀ (b:List FR),(∃ y,fs = a ++ s :: (b ++ y)) →
      (∀ x f y,b = x ++ f :: y→f.r.mem = true→p f = true→(∀ j ∈ J,j ∈ f.r.J)∧∀ g ∈ x,g.r.mem = true→p g = true)→(∀ f ∈ b,True) →
      ∀ (σ:St),(∀ j ∈ J,σ.heap j = (apps σ0 a).heap j)→∀ j ∈ J,(apps σ (b.filter p)).heap j = (apps σ0 a).heap j:=by
  intro b hy hb _ σ hσ
  -- from the right
  have key:∀ (n:Nat) (b:List FR),b.length = n→(∃ y,fs = a ++ s :: (b ++ y)) →
      (∀ x f y,b = x ++ f :: y→f.r.mem = true→p f = true→(∀ j ∈ J,j ∈ f.r.J)∧∀ g ∈ x,g.r.mem = true→p g = true) →
      (∀ j ∈ J,(apps σ (b.filter p)).heap j = (apps σ0 a).heap j)∧((∀ g ∈ b,g.r.mem = true→p g = true)→∀ j ∈ J,(apps σ0 (a ++ s :: b)).heap j = (apps σ0 a).heap j):=by
    intro n
    induction n with
    | zero =>
      intro b hn _ _
      obtain rfl:=List.length_eq_zero_iff.1 hn
      refine ⟨hσ,fun _ j _=>?_⟩
      rw [apps,List.foldl_append]
      show (app (apps σ0 a) s).heap j = _
      rw [(ql5 s).1,if_neg (by simp [hro])]
    | succ n ih0 =>
      intro b0 hn ⟨y,hy⟩ hb
      obtain ⟨b,f,rfl⟩:∃ b f,b0 = b ++ [f]:=by
        rcases List.eq_nil_or_concat b0 with rfl | ⟨b,f,rfl⟩
        · cases hn
        · exact ⟨b,f,by simp⟩
      have ih:=ih0 b (by simpa using hn)
      have hb':∀ x g z,b = x ++ g :: z→g.r.mem = true→p g = true→(∀ j ∈ J,j ∈ g.r.J)∧∀ k ∈ x,k.r.mem = true→p k = true:=fun x g z e=>hb x g (z ++ [f]) (by rw [e];simp)
      obtain ⟨i1,i2⟩:=ih ⟨f :: y,by rw [hy];simp⟩ hb'
      have hmem:f.r.mem = true→p f = true→∀ j ∈ J,f.H j = (apps σ0 a).heap j:=by
        intro hm hp j hj
        obtain ⟨h1,h2⟩:=hb b f [] rfl hm hp
        obtain ⟨o,_,_,hff⟩:=hfact (a ++ s :: b) f y (by rw [hy];simp)
        rcases hff with ⟨h3,_⟩ | ⟨_,_,h3⟩
        · rw [h3] at hm;cases hm
        · rw [h3 j (h1 j hj)];exact i2 h2 j hj
      refine ⟨fun j hj=>?_,fun hall j hj=>?_⟩
      · rw [List.filter_append,apps,List.foldl_append]
        by_cases hp:p f = true
        · rw [List.filter_cons_of_pos hp]
          show (app (apps σ (b.filter p)) f).heap j = _
          rw [(ql5 f).1]
          by_cases hm:f.r.mem = true
          · rw [if_pos hm];exact hmem hm hp j hj
          · rw [if_neg hm];exact i1 j hj
        · rw [List.filter_cons_of_neg hp]
          exact i1 j hj
      · have e:a ++ s :: (b ++ [f]) = (a ++ s :: b) ++ [f]:=by simp
        rw [e,apps,List.foldl_append]
        show (app (apps σ0 (a ++ s :: b)) f).heap j = _
        rw [(ql5 f).1]
        by_cases hm:f.r.mem = true
        · rw [if_pos hm];exact hmem hm (hall f (by simp) hm) j hj
        · rw [if_neg hm];exact i2 (fun g hg=>hall g (List.mem_append_left _ hg)) j hj
  exact (key _ b rfl hy hb).1
end
end Go.Proofs.YtiegopnofbgoaaaGreatDoor.AWN

namespace Go.Proofs.YtiegopnofbgoaaaGreatDoor.AWN
open Go
section
variable {P:Program} {τ:Tab} {σ σ0:St} {ops:Array Oper} {o:Oper} {w0:World} {A:Args} {okA:Nat→Prop} {Q:Exit→St→Prop}
theorem qrb {α:Type} (p q:α→Bool):∀ (l:List α),(∀ x ∈ l,q x = true→p x = true)→(∃ x ∈ l,p x = true∧q x = false)→(l.filter q).length < (l.filter p).length
  | [],_,h=>by obtain ⟨x,hx,_⟩:=h;cases hx
  | y :: l,hq,h=>by
    have hle:∀ l:List α,(∀ x ∈ l,q x = true→p x = true)→(l.filter q).length ≤ (l.filter p).length:=by
      intro l
      induction l with
      | nil=>intro _;exact Nat.le_refl _
      | cons z l ih =>
        intro hz
        have:=ih fun x hx=>hz x (List.mem_cons_of_mem _ hx)
        cases hqz:q z with
        | true=>rw [List.filter_cons_of_pos hqz,List.filter_cons_of_pos (hz z (List.mem_cons_self ..) hqz)];simpa using this
        | false =>
          rw [List.filter_cons_of_neg (by simp [hqz])]
          cases hpz:p z with
          | true=>rw [List.filter_cons_of_pos hpz];simp;omega
          | false=>rw [List.filter_cons_of_neg (by simp [hpz])];exact this
    have hql:=fun x hx=>hq x (List.mem_cons_of_mem _ hx)
    obtain ⟨x,hx,h1,h2⟩:=h
    rcases List.mem_cons.1 hx with rfl | hx
    · rw [List.filter_cons_of_pos h1,List.filter_cons_of_neg (by simp [h2])]
      have:=hle l hql
      simp;omega
    · have:=qrb p q l hql ⟨x,hx,h1,h2⟩
      cases hqz:q y with
      | true=>rw [List.filter_cons_of_pos hqz,List.filter_cons_of_pos (hq y (List.mem_cons_self ..) hqz)];simpa using this
      | false =>
        rw [List.filter_cons_of_neg (by simp [hqz])]
        cases hpz:p y with
        | true=>rw [List.filter_cons_of_pos hpz];simp;omega
        | false=>rw [List.filter_cons_of_neg (by simp [hpz])];exact this
structure Wk (P:Program) (ops:Array Oper) (σ0:St) (D:List Nat) (fs:List FR):Prop where
  fact:∀ a f b,fs = a ++ f :: b→Fact P ops (apps σ0 a) f
  pairs:qop D (masks ops.toList []) ops (fs.map (·.r)) = true
  self:∀ s ∈ fs,qv2 ops s.r = true
  nds:∀ s ∈ fs,s.r.nd = true→s.r.i ∈ D
def Down (ops:Array Oper) (L:Array Bool):Prop:=L.size = ops.size∧∀ i j,L.getD i false = true→aft ops i j = true→L.getD j false = true
def Has (D:List Nat) (L:Array Bool):Prop:=∀ d ∈ D,L.getD d false = true
def Within (fs:List FR) (L:Array Bool):Prop:=∀ i,L.getD i false = true→∃ s ∈ fs,s.r.i = i
def qv7 (ops:Array Oper) (L:Array Bool):Nat:=((List.range ops.size).filter fun i=>!L.getD i false).length
theorem qld {D:List Nat} {rs:List Rec} {fs:List FR} (hmap:fs.map (·.r) = rs.reverse) (hfact:∀ a f b,fs = a ++ f :: b→Fact P ops (apps σ0 a) f) (hok:qti D ops rs = true):Wk P ops σ0 D fs:=by
  simp only [qti,Bool.and_eq_true] at hok
  have hin:∀ s ∈ fs,s.r ∈ rs:=fun s hs=>by
    have:s.r ∈ fs.map (·.r):=List.mem_map.2 ⟨s,hs,rfl⟩
    rw [hmap] at this
    simpa using this
  refine ⟨hfact,by rw [hmap];exact hok.1.1,fun s hs=>List.all_eq_true.1 hok.1.2 _ (hin s hs),fun s hs hn=>?_⟩
  have:=List.all_eq_true.1 hok.2 _ (hin s hs)
  rw [hn,Bool.not_true,Bool.false_or] at this
  obtain ⟨d,hd,e⟩:=List.any_eq_true.1 this
  rw [show s.r.i = d by simpa using e];exact hd
theorem qnb {L:Array Bool} {i:Nat} (hL:L.size = ops.size) (hi:i < ops.size) (hun:L.getD i false = false) {fuel:Nat} (h:qv7 ops L ≤ fuel + 1):qv7 ops (L.setIfInBounds i true) ≤ fuel:=by
  refine Nat.le_of_lt_succ (Nat.lt_of_lt_of_le (qrb _ _ (List.range ops.size) (fun f hf h=>?_) ⟨i,List.mem_range.2 hi,by simp [hun],by rw [ql7 _ _ _ (by omega),if_pos rfl];rfl⟩) h)
  rw [ql7 _ _ _ (by omega)] at h
  by_cases hfi:f = i
  · rw [if_pos hfi] at h;simp at h
  · rw [if_neg hfi] at h;exact h
theorem qpf {L:Array Bool} {i:Nat} (hL:Down ops L) (hi:i < ops.size) (hdep:∀ j,aft ops i j = true→L.getD j false = true):Down ops (L.setIfInBounds i true):=by
  refine ⟨by rw [Array.size_setIfInBounds];exact hL.1,fun k j hk haf=>?_⟩
  have hs:=hL.1
  rw [ql7 _ _ _ (by omega)] at hk ⊢
  by_cases hj:j = i
  · rw [if_pos hj]
  · rw [if_neg hj]
    by_cases his:k = i
    · subst his;exact hdep j haf
    · rw [if_neg his] at hk;exact hL.2 k j hk haf
theorem qsb {D:List Nat} {L:Array Bool} {i:Nat} (hi:i < L.size) (h:Has D L):Has D (L.setIfInBounds i true):=fun d hd=>by
  rw [ql7 _ _ _ hi]
  split
  · rfl
  · exact h d hd
theorem qlb {L:Array Bool} {i:Nat} (hL:Down ops L) (hi:i ∈ Region.ready .any ops L):i < ops.size∧L.getD i false = false∧∀ j,aft ops i j = true→L.getD j false = true:=by
  obtain ⟨h0,o,ho,hafter⟩:=mem_ready.1 hi
  have hlt:=(Array.getElem?_eq_some_iff.1 ho).1
  have hs:=hL.1
  refine ⟨hlt,?_,fun j hj=>?_⟩
  · rw [Array.getD_eq_getD_getElem?,Array.getElem?_eq_getElem (by omega)] at h0 ⊢
    exact h0
  · obtain ⟨ed,h1,h2,rfl⟩:=(qnv ho).1 hj
    exact hafter ed h1 h2
theorem ready_of {L:Array Bool} {i:Nat} (hL:Down ops L) (hi:i < ops.size) (hun:L.getD i false = false) (hdep:∀ j,aft ops i j = true→L.getD j false = true):i ∈ Region.ready .any ops L:=by
  have hs:=hL.1
  refine mem_ready.2 ⟨?_,ops[i],Array.getElem?_eq_getElem hi,fun ed hed hbd=>?_⟩
  · rw [Array.getD_eq_getD_getElem?,Array.getElem?_eq_getElem (by omega)] at hun ⊢
    exact hun
  · exact hdep _ ((qnv (Array.getElem?_eq_getElem hi)).2 ⟨ed,hed,hbd,rfl⟩)
theorem qs1 {D:List Nat} {fs:List FR} (hw:Wk P ops σ0 D fs) {fuel:Nat} {L:Array Bool} {a:Act} {W:World} {hb:Handle} (hL:Down ops L) (hD:Has D L) (hs:Sim w0 A okA hb (atL σ0 fs L) a W) {s:FR} (hsm:s ∈ fs) (hi:s.r.i ∈ Region.ready .any ops L)
    (hK:∀ a' W' hb',Sim w0 A okA hb' (atL σ0 fs (L.setIfInBounds s.r.i true)) a' W'→wpAny P .any ops (lift w0 A okA Q) fuel (L.setIfInBounds s.r.i true) a' W') :
    wpOp P ops (lift w0 A okA Q) s.r.i (wpAny P .any ops (lift w0 A okA Q) fuel (L.setIfInBounds s.r.i true)) a W:=by
  have hpairs:=hw.pairs
  have pairA:∀ {a b:List FR} {s r:FR},fs = a ++ s :: b→r ∈ a→qk6 D (masks ops.toList []) ops r.r s.r = true:=by
    intro a b s r e hr
    obtain ⟨x,y,rfl⟩:=List.append_of_mem hr
    refine qjq (a:=x.map (·.r)) (b:=y.map (·.r)) (c:=b.map (·.r)) hpairs ?_
    rw [e];simp
  have pairB:∀ {a b:List FR} {s r:FR},fs = a ++ s :: b→r ∈ b→qk6 D (masks ops.toList []) ops s.r r.r = true:=by
    intro a b s r e hr
    obtain ⟨x,y,rfl⟩:=List.append_of_mem hr
    refine qjq (a:=a.map (·.r)) (b:=x.map (·.r)) (c:=y.map (·.r)) hpairs ?_
    rw [e];simp
  have hfact:=hw.fact
  have opS:∀ s ∈ fs,∃ o,ops[s.r.i]? = some o∧s.dst = o.dst:=by
    intro s hs
    obtain ⟨x,y,e⟩:=List.append_of_mem hs
    obtain ⟨o,h1,h2,_⟩:=hfact x s y e
    exact ⟨o,h1,h2⟩
  have dstS:∀ s ∈ fs,qmv ops s.r.i = s.dst:=by
    intro s hs
    obtain ⟨o,h1,h2⟩:=opS s hs
    unfold qmv;rw [h1,h2]
  have ltS:∀ s ∈ fs,s.r.i < ops.size:=by
    intro s hs
    obtain ⟨o,h1,_⟩:=opS s hs
    exact (Array.getElem?_eq_some_iff.1 h1).1
  obtain ⟨hlt,hun,hdep⟩:=qlb hL hi
  have hdc:=hL.2
  have hDm:∀ {i:Nat},D.any (Nat.beq i) = true→L.getD i false = true:=fun {i} h=>by
    obtain ⟨d,hd,e⟩:=List.any_eq_true.1 h
    rw [show i = d by simpa using e];exact hD d hd
  obtain ⟨x,y,e⟩:=List.append_of_mem hsm
  obtain ⟨o,ho',hdst,hf⟩:=hfact x s y e
  have ho:ops[s.r.i]? = some o:=ho'
  have hdepT:∀ j,aftT (masks ops.toList []) s.r.i j = true→L.getD j false = true:=fun j hj=>qqj (L:=fun k=>L.getD k false = true) (fun i j h1 h2=>hdc i j h1 h2) (qpn hj) hdep
  have hdcT:∀ i j,L.getD i false = true→aftT (masks ops.toList []) i j = true→L.getD j false = true:=fun i j hi hj=>qp6 (L:=fun k=>L.getD k false = true) (fun i j h1 h2=>hdc i j h1 h2) (qpn hj) hi
  -- those behind it that have come up do not wait for it
  have hB:∀ g ∈ y,L.getD g.r.i false = true→(hasD (qmv ops s.r.i) (qlx ops g.r.i) = false∧hasD (qmv ops g.r.i) (qlx ops s.r.i) = false∧qwl (qmv ops s.r.i) (qmv ops g.r.i) = false∧s.r.mem = false∧(g.r.mem = false ∨ ∀ j ∈ s.r.J,j ∈ g.r.J)):=by
    intro g hg hl
    have hp:=pairB e hg
    have hna:aftT (masks ops.toList []) g.r.i s.r.i = false:=by
      cases h:aftT (masks ops.toList []) g.r.i s.r.i with
      | false=>rfl
      | true=>rw [hdcT _ _ hl h] at hun;cases hun
    have hnd:D.any (Nat.beq s.r.i) = false:=by
      cases h:D.any (Nat.beq s.r.i) with
      | false=>rfl
      | true=>rw [hDm h] at hun;cases hun
    simp only [qk6,hna,hnd,Bool.false_or,Bool.and_eq_true,Bool.not_eq_true',Bool.or_eq_true] at hp
    obtain ⟨_,⟨⟨⟨p1,p2⟩,p3⟩,p4⟩,p5⟩:=hp
    refine ⟨p1,p2,p3,p4,p5.imp id fun h j hj=>?_⟩
    have:=List.all_eq_true.1 h j hj
    obtain ⟨k,hk,e⟩:=List.any_eq_true.1 this
    rw [show j = k by simpa using e];exact hk
  have hA:∀ g ∈ x,L.getD g.r.i false = true ∨ (hasD (qmv ops g.r.i) (qlx ops s.r.i) = false∧g.r.mem = false):=by
    intro g hg
    have hp:=pairA e hg
    cases h:aftT (masks ops.toList []) s.r.i g.r.i with
    | true=>exact .inl (hdepT _ h)
    | false =>
      simp only [qk6,h,Bool.false_or,Bool.and_eq_true,Bool.not_eq_true',Bool.or_eq_true] at hp
      rcases hp.2 with hd | hp
      · exact .inl (hDm hd)
      · exact .inr ⟨hp.1.1.1.1,hp.1.2⟩
  have hgm:∀ g ∈ x ++ y,g ∈ fs:=fun g hg=>by
    rw [e]
    rcases List.mem_append.1 hg with hg | hg <;> simp [hg]
  have hne:∀ g ∈ x ++ y,g.r.i ≠ s.r.i:=by
    intro g hg
    rcases List.mem_append.1 hg with hg | hg
    · have hp:=pairA e hg
      simp only [qk6,Bool.and_eq_true,Bool.not_eq_true'] at hp
      have:=hp.1.1
      intro h;rw [h] at this;simp at this
    · have hp:=pairB e hg
      simp only [qk6,Bool.and_eq_true,Bool.not_eq_true'] at hp
      have:=hp.1.1
      intro h;rw [h] at this;simp at this
  have hX:atL σ0 fs L = apps (apps σ0 (x.filter fun f=>L.getD f.r.i false)) (y.filter fun f=>L.getD f.r.i false):=by
    unfold atL apps
    rw [e,List.filter_append,List.filter_cons_of_neg (by simp [hun]),List.foldl_append]
  have hlk:qlx ops s.r.i = looks ops o:=by unfold qlx;rw [ho]
  have henv:∀ t ∈ looks ops o,(atL σ0 fs L).env t = (apps σ0 x).env t:=by
    intro t ht
    rw [← hlk] at ht
    rw [hX,qvt t _ _ fun g hg=>by
      obtain ⟨hg1,hg2⟩:=List.mem_filter.1 hg
      have:=(hB g hg1 hg2).2.1
      rw [dstS g (hgm g (List.mem_append_right _ hg1))] at this
      exact qon this ht]
    exact qn4 _ t x σ0 σ0 rfl fun g hg hgd=>by
      rcases hA g hg with h | ⟨h,_⟩
      · exact h
      · rw [dstS g (hgm g (List.mem_append_left _ hg))] at h
        exact absurd hgd (qon h ht)
  have hnt:(atL σ0 fs L).nt = (apps σ0 x).nt:=by unfold atL;rw [qpq,qpq]
  have hheapA:=qme (fun f:FR=>L.getD f.r.i false) x σ0 σ0 rfl rfl fun g hg hm=>by
    rcases hA g hg with h | ⟨_,h⟩
    · exact h
    · rw [h] at hm;cases hm
  -- the step
  have hone:One P ops o (atL σ0 fs L) (· = app (atL σ0 fs L) s):=by
    rcases hf with ⟨hm,hf⟩ | ⟨hm,hf,hk⟩
    · have h1:app (atL σ0 fs L) s = (atL σ0 fs L).putO o.dst s.v:=by unfold app;rw [hm,hdst];rfl
      rw [h1]
      refine hf _ hnt henv fun j hj=>?_
      rw [hX]
      refine heap_kept hm hfact (fun f:FR=>L.getD f.r.i false) y ⟨[],by rw [e];simp⟩ (fun x' f y' ey hfm hfl=>⟨fun j hj=>?_,fun g hg hgm'=>?_⟩) (fun _ _=>trivial) _ (fun j hj=>by rw [hheapA.1]) j hj
      · rcases (hB f (by rw [ey];simp) hfl).2.2.2.2 with h | h
        · rw [h] at hfm;cases hfm
        · exact h j hj
      · -- an earlier change of memory: waited for
        have e2:fs = (x ++ s :: x') ++ f :: y':=by rw [e,ey];simp
        have hp:=pairA e2 (r:=g) (by simp [hg])
        cases h:aftT (masks ops.toList []) f.r.i g.r.i with
        | true=>exact hdcT _ _ hfl h
        | false =>
          simp only [qk6,h,Bool.false_or,Bool.and_eq_true,Bool.not_eq_true',Bool.or_eq_true] at hp
          rcases hp.2 with hd | hp
          · exact hDm hd
          · rw [hp.1.2] at hgm';cases hgm'
    · replace hf:qtr P ops (apps σ0 x) o s.v s.H s.n:=hf.resolve_right fun hn=>by
        rw [hD _ (hw.nds s hsm hn)] at hun;cases hun
      have hnil:(y.filter fun f=>L.getD f.r.i false) = []:=List.filter_eq_nil_iff.2 fun g hg h=>by
        have:=(hB g hg h).2.2.2.1
        rw [hm] at this;cases this
      have h1:app (atL σ0 fs L) s = ((atL σ0 fs L).set s.H s.n).putO o.dst s.v:=by unfold app;rw [hm,hdst];rfl
      rw [h1]
      rw [hnil] at hX
      refine hf _ hnt henv ?_ ?_
      · rw [hX];exact hheapA.1
      · rw [hX];exact hheapA.2
  have hset:=qvg (σ0:=σ0) e (by rw [hL.1];exact hlt) hun hne (fun ⟨g,hg,hl⟩=>(hB g hg hl).2.2.2.1) (fun g hg hl d hd=>by
    have:=(hB g hg hl).2.2.1
    rw [dstS s hsm,dstS g (hgm g (List.mem_append_right _ hg))] at this
    exact sameD_false this hd)
  have:=hone w0 A okA hb a W hs (lift w0 A okA Q) (wpAny P .any ops (lift w0 A okA Q) fuel (L.setIfInBounds s.r.i true))
    (fun σ' hb' a' W' hσ' hs'=>hK a' W' hb' (by rw [hset,← hσ'];exact hs'))
  unfold wpOp
  simp only [ho]
  split
  · rename_i hw;rw [if_pos hw] at this;exact .inl this
  · rename_i hw;rw [if_neg hw] at this;exact this
theorem qwq {D:List Nat} {fs:List FR} (hw:Wk P ops σ0 D fs) {L:Array Bool} (hL:Down ops L) (hD:Has D L) (hcl:∀ s ∈ fs,∀ j,aft ops s.r.i j = true→∃ r ∈ fs,r.r.i = j) (hr:Region.ready .any ops L = []):∀ s ∈ fs,L.getD s.r.i false = true:=by
  have hpairs:=hw.pairs
  have pairA:∀ {a b:List FR} {s r:FR},fs = a ++ s :: b→r ∈ a→qk6 D (masks ops.toList []) ops r.r s.r = true:=by
    intro a b s r e hr
    obtain ⟨x,y,rfl⟩:=List.append_of_mem hr
    refine qjq (a:=x.map (·.r)) (b:=y.map (·.r)) (c:=b.map (·.r)) hpairs ?_
    rw [e];simp
  have pairB:∀ {a b:List FR} {s r:FR},fs = a ++ s :: b→r ∈ b→qk6 D (masks ops.toList []) ops s.r r.r = true:=by
    intro a b s r e hr
    obtain ⟨x,y,rfl⟩:=List.append_of_mem hr
    refine qjq (a:=a.map (·.r)) (b:=x.map (·.r)) (c:=y.map (·.r)) hpairs ?_
    rw [e];simp
  have hfact:=hw.fact
  have selfS:=hw.self
  have opS:∀ s ∈ fs,∃ o,ops[s.r.i]? = some o∧s.dst = o.dst:=by
    intro s hs
    obtain ⟨x,y,e⟩:=List.append_of_mem hs
    obtain ⟨o,h1,h2,_⟩:=hfact x s y e
    exact ⟨o,h1,h2⟩
  have dstS:∀ s ∈ fs,qmv ops s.r.i = s.dst:=by
    intro s hs
    obtain ⟨o,h1,h2⟩:=opS s hs
    unfold qmv;rw [h1,h2]
  have ltS:∀ s ∈ fs,s.r.i < ops.size:=by
    intro s hs
    obtain ⟨o,h1,_⟩:=opS s hs
    exact (Array.getElem?_eq_some_iff.1 h1).1
  -- the first that has not
  have key:∀ (n:Nat) (a b:List FR),a.length = n→fs = a ++ b→(∀ s ∈ a,L.getD s.r.i false = true)→∀ s ∈ fs,L.getD s.r.i false = true:=by
    intro n a b
    induction b generalizing a n with
    | nil=>intro _ e h s hs;rw [e] at hs;simp at hs;exact h s hs
    | cons s b ih =>
      intro hn e h
      have hsm:s ∈ fs:=by rw [e];simp
      have hls:L.getD s.r.i false = true:=by
        cases hc:L.getD s.r.i false with
        | true=>rfl
        | false =>
          exfalso
          obtain ⟨o,ho,hd⟩:=opS s hsm
          have hlt:=ltS s hsm
          have hm:s.r.i ∈ Region.ready .any ops L:=by
            refine mem_ready.2 ⟨?_,o,ho,fun ed hed hbd=>?_⟩
            · rw [Array.getD_eq_getD_getElem?,Array.getElem?_eq_getElem (by rw [hL.1];exact hlt)] at hc ⊢
              exact hc
            · have hso:=selfS s hsm
              unfold qv2 at hso
              rw [ho] at hso
              simp only [Array.all_eq_true_iff_forall_mem] at hso
              have:=hso ed hed
              simp only [hbd,Bool.not_true,Bool.false_or,Bool.and_eq_true] at this
              have hon:ed.on < ops.size:=by simpa [Nat.blt_eq] using this.1
              have hne:ed.on ≠ s.r.i:=fun h=>by have h2:=this.2;rw [h] at h2;simp at h2
              have haf:aft ops s.r.i ed.on = true:=(qnv ho).2 ⟨ed,hed,hbd,rfl⟩
              obtain ⟨r,hrm,hri⟩:=hcl s hsm _ haf
              rw [e] at hrm
              rcases List.mem_append.1 hrm with hra | hrb
              · rw [← hri];exact h r hra
              · rcases List.mem_cons.1 hrb with rfl | hrb
                · exact absurd hri.symm hne
                · have:=pairB e hrb
                  simp only [qk6,Bool.and_eq_true,Bool.not_eq_true'] at this
                  rw [hri] at this
                  rw [this.1.2] at haf;cases haf
          rw [hr] at hm;cases hm
      exact ih _ (a ++ [s]) rfl (by rw [e];simp) (fun x hx=>by
        rcases List.mem_append.1 hx with hx | hx
        · exact h x hx
        · simp at hx;subst hx;exact hls)
  exact key 0 [] fs rfl rfl (fun s hs=>by cases hs)
def Cont (P:Program) (ops:Array Oper) (σ0:St) (Q:Exit→St→Prop) (D:List Nat) (fs:List FR):Prop :=
  ∀ (w0:World) (A:Args) (okA:Nat→Prop) (fuel:Nat) (L:Array Bool) (a:Act) (W:World) (hb:Handle),Down ops L→Has D L→Within fs L→Sim w0 A okA hb (atL σ0 fs L) a W→qv7 ops L ≤ fuel→wpAny P .any ops (lift w0 A okA Q) fuel L a W
def Bran (P:Program) (ops:Array Oper) (σ0:St) (Q:Exit→St→Prop) (D:List Nat) (fs:List FR) (m:Nat):Prop :=
  ∀ (w0:World) (A:Args) (okA:Nat→Prop) (fuel:Nat) (L:Array Bool) (a:Act) (W:World) (hb:Handle),Down ops L→Has D L→Within fs L→m ∈ Region.ready .any ops L→Sim w0 A okA hb (atL σ0 fs L) a W→qv7 ops L ≤ fuel + 1 →
    wpOp P ops (lift w0 A okA Q) m (wpAny P .any ops (lift w0 A okA Q) fuel (L.setIfInBounds m true)) a W
theorem qnc {fs:List FR} {L:Array Bool} {i:Nat} (hi:i < L.size) (h:Within fs L) (hs:∃ s ∈ fs,s.r.i = i):Within fs (L.setIfInBounds i true):=fun j hj=>by
  rw [ql7 _ _ _ hi] at hj
  by_cases hji:j = i
  · subst hji;exact hs
  · rw [if_neg hji] at hj;exact h j hj
theorem cont_leaf {D:List Nat} {fs:List FR} (hw:Wk P ops σ0 D fs) (hall:∀ i,i < ops.size→∃ s ∈ fs,s.r.i = i) (hQ:Q .normal (apps σ0 fs)):Cont P ops σ0 Q D fs:=by
  intro w0 A okA fuel
  have hcl:∀ s ∈ fs,∀ j,aft ops s.r.i j = true→∃ r ∈ fs,r.r.i = j:=by
    intro s hs j hj
    have hso:=hw.self s hs
    unfold qv2 at hso
    obtain ⟨x,y,e⟩:=List.append_of_mem hs
    obtain ⟨o,ho,_⟩:=hw.fact x s y e
    rw [ho] at hso
    simp only [Array.all_eq_true_iff_forall_mem] at hso
    obtain ⟨ed,h1,h2,rfl⟩:=(qnv ho).1 hj
    have:=hso ed h1
    simp only [h2,Bool.not_true,Bool.false_or,Bool.and_eq_true] at this
    exact hall _ (by simpa [Nat.blt_eq] using this.1)
  have fin:∀ L:Array Bool,(∀ s ∈ fs,L.getD s.r.i false = true)→atL σ0 fs L = apps σ0 fs:=by
    intro L h
    unfold atL
    rw [List.filter_eq_self.2 h]
  induction fuel with
  | zero =>
    intro L a W hb hL hD hin hs hlen
    have hz:∀ i,i < ops.size→L.getD i false = true:=by
      intro i hi
      have h0:=List.length_eq_zero_iff.1 (Nat.le_zero.1 hlen)
      have:=List.filter_eq_nil_iff.1 h0 i (List.mem_range.2 hi)
      simpa using this
    have hz':∀ s ∈ fs,L.getD s.r.i false = true:=fun s hs'=>by
      obtain ⟨x,y,e⟩:=List.append_of_mem hs'
      obtain ⟨o,ho,_⟩:=hw.fact x s y e
      exact hz _ (Array.getElem?_eq_some_iff.1 ho).1
    refine ⟨?_,hb,_,hQ,by rw [← fin L hz'];exact hs⟩
    refine List.eq_nil_iff_forall_not_mem.2 fun i hi=>?_
    obtain ⟨h1,h2,_⟩:=qlb hL hi
    rw [hz i h1] at h2;cases h2
  | succ fuel ih =>
    intro L a W hb hL hD hin hs hlen
    refine ⟨fun hr=>⟨hb,_,hQ,by rw [← fin L (qwq hw hL hD hcl hr)];exact hs⟩,fun i hi=>?_⟩
    obtain ⟨h1,h2,h3⟩:=qlb hL hi
    obtain ⟨s,hsm,rfl⟩:=hall i h1
    exact qs1 hw hL hD hs hsm hi fun a' W' hb' hs'=>ih _ a' W' hb' (qpf hL h1 h3) (qsb (by rw [hL.1];exact h1) hD) (qnc (by rw [hL.1];exact h1) hin ⟨s,hsm,rfl⟩) hs' (qnb hL.1 h1 h2 hlen)
theorem cont_fork {D:List Nat} {fs:List FR} {ms:List Nat} (hw:Wk P ops σ0 D fs) (hcl:∀ s ∈ fs,∀ j,aft ops s.r.i j = true→∃ r ∈ fs,r.r.i = j) (hout:∀ i,i < ops.size→(∃ s ∈ fs,s.r.i = i) ∨ i ∈ ms ∨ ∃ j,aft ops i j = true∧¬ ∃ s ∈ fs,s.r.i = j)
    (hmay:∃ m,m < ops.size∧(¬ ∃ s ∈ fs,s.r.i = m)∧∀ j,aft ops m j = true→∃ s ∈ fs,s.r.i = j) (hB:∀ m ∈ ms,Bran P ops σ0 Q D fs m):Cont P ops σ0 Q D fs:=by
  intro w0 A okA fuel
  obtain ⟨m,hm1,hm2,hm3⟩:=hmay
  induction fuel with
  | zero =>
    intro L a W hb hL hD hin hs hlen
    exfalso
    have h0:=List.length_eq_zero_iff.1 (Nat.le_zero.1 hlen)
    have:=List.filter_eq_nil_iff.1 h0 m (List.mem_range.2 hm1)
    exact hm2 (hin m (by simpa using this))
  | succ fuel ih =>
    intro L a W hb hL hD hin hs hlen
    refine ⟨fun hr=>?_,fun i hi=>?_⟩
    · exfalso
      have hall:=qwq hw hL hD hcl hr
      have hun:L.getD m false = false:=by
        cases h:L.getD m false with
        | false=>rfl
        | true=>exact absurd (hin m h) hm2
      have:=ready_of hL hm1 hun fun j hj=>by
        obtain ⟨s,h1,rfl⟩:=hm3 j hj
        exact hall s h1
      rw [hr] at this;cases this
    · obtain ⟨h1,h2,h3⟩:=qlb hL hi
      rcases hout i h1 with ⟨s,hsm,rfl⟩ | hms | ⟨j,hj1,hj2⟩
      · exact qs1 hw hL hD hs hsm hi fun a' W' hb' hs'=>ih _ a' W' hb' (qpf hL h1 h3) (qsb (by rw [hL.1];exact h1) hD) (qnc (by rw [hL.1];exact h1) hin ⟨s,hsm,rfl⟩) hs' (qnb hL.1 h1 h2 hlen)
      · exact hB i hms w0 A okA fuel L a W hb hL hD hin hi hs hlen
      · exact absurd (hin j (h3 j hj1)) hj2
theorem qs4 {fs gs:List FR} {L:Array Bool} (h:∀ g ∈ gs,L.getD g.r.i false = false):atL σ0 (fs ++ gs) L = atL σ0 fs L:=by
  unfold atL
  have e:gs.filter (fun f=>L.getD f.r.i false) = []:=List.filter_eq_nil_iff.2 fun g hg h'=>by rw [h g hg] at h';cases h'
  rw [List.filter_append,e,List.append_nil]
theorem qx3 {D:List Nat} {fs gs:List FR} (hw:Wk P ops σ0 D (fs ++ gs)) {L:Array Bool} (hin:Within fs L):∀ g ∈ gs,L.getD g.r.i false = false:=by
  intro g hg
  cases h:L.getD g.r.i false with
  | false=>rfl
  | true =>
    exfalso
    obtain ⟨s,hs,e⟩:=hin _ h
    obtain ⟨x,y,rfl⟩:=List.append_of_mem hs
    obtain ⟨x',y',rfl⟩:=List.append_of_mem hg
    have:=qjq (a:=x.map (·.r)) (b:=(y ++ x').map (·.r)) (c:=y'.map (·.r)) (r:=s.r) (s:=g.r) hw.pairs (by simp)
    simp only [qk6,Bool.and_eq_true,Bool.not_eq_true'] at this
    have:=this.1.1
    rw [e] at this;simp at this
theorem qnu {fs gs:List FR} {L:Array Bool} (h:Within fs L):Within (fs ++ gs) L:=fun i hi=>by
  obtain ⟨s,hs,e⟩:=h i hi
  exact ⟨s,List.mem_append_left _ hs,e⟩
theorem qpt {D:List Nat} {fs gs:List FR} (hw:Wk P ops σ0 D (fs ++ gs)) (h:Cont P ops σ0 Q D (fs ++ gs)):Cont P ops σ0 Q D fs:=fun w0 A okA fuel L a W hb hL hD hin hs hlen =>
  h w0 A okA fuel L a W hb hL hD (qnu hin) (by rw [qs4 (qx3 hw hin)];exact hs) hlen
theorem bran_first {D:List Nat} {fs:List FR} {s:FR} (hw:Wk P ops σ0 D (fs ++ [s])) (h:Cont P ops σ0 Q (s.r.i :: D) (fs ++ [s])):Bran P ops σ0 Q D fs s.r.i:=by
  intro w0 A okA fuel L a W hb hL hD hin hi hs hlen
  obtain ⟨h1,h2,h3⟩:=qlb hL hi
  have hlt:s.r.i < L.size:=by rw [hL.1];exact h1
  refine qs1 hw hL hD (by rw [qs4 (qx3 hw hin)];exact hs) (by simp) hi fun a' W' hb' hs'=>h w0 A okA fuel _ a' W' hb' (qpf hL h1 h3) (fun d hd=>?_) (qnc hlt (qnu hin) ⟨s,by simp,rfl⟩) hs' (qnb hL.1 h1 h2 hlen)
  rcases List.mem_cons.1 hd with rfl | hd
  · rw [ql7 _ _ _ hlt,if_pos rfl]
  · exact qsb hlt hD d hd
def NdFact (P:Program) (ops:Array Oper) (σ:St) (o:Oper) (J:List Nat) (G:V→(Nat→AObj)→Nat→Prop):Prop :=
  (∀ σ',σ'.nt = σ.nt→(∀ t ∈ looks ops o,σ'.env t = σ.env t)→σ'.heap = σ.heap→σ'.next = σ.next→One P ops o σ' fun σ''=>∃ v H n,G v H n∧σ'' = (σ'.set H n).putO o.dst v)∧∀ v H n,G v H n→∀ j ∈ J,H j = σ.heap j
theorem bran_nd {D:List Nat} {fs:List FR} {i:Nat} {J:List Nat} {G:V→(Nat→AObj)→Nat→Prop} (ho:ops[i]? = some o) (hfd:∀ g ∈ fs,qmv ops g.r.i = g.dst) (hpA:∀ g ∈ fs,qk6 D (masks ops.toList []) ops g.r ⟨i,true,J,true⟩ = true) (hnd:NdFact P ops (apps σ0 fs) o J G)
    (h:∀ v H n,G v H n→Cont P ops σ0 Q (i :: D) (fs ++ [⟨⟨i,true,J,true⟩,o.dst,v,H,n⟩])):Bran P ops σ0 Q D fs i:=by
  intro w0 A okA fuel L a W hb hL hD hin hi hs hlen
  obtain ⟨h1,h2,h3⟩:=qlb hL hi
  have hlt:i < L.size:=by rw [hL.1];exact h1
  have hDm:∀ {i:Nat},D.any (Nat.beq i) = true→L.getD i false = true:=fun {i} h=>by
    obtain ⟨d,hd,e⟩:=List.any_eq_true.1 h
    rw [show i = d by simpa using e];exact hD d hd
  have hdepT:∀ j,aftT (masks ops.toList []) i j = true→L.getD j false = true:=fun j hj=>qqj (L:=fun k=>L.getD k false = true) (fun i j h1 h2=>hL.2 i j h1 h2) (qpn hj) h3
  have hA:∀ g ∈ fs,L.getD g.r.i false = true ∨ (hasD (qmv ops g.r.i) (qlx ops i) = false∧g.r.mem = false):=by
    intro g hg
    have hp:=hpA g hg
    cases h:aftT (masks ops.toList []) i g.r.i with
    | true=>exact .inl (hdepT _ h)
    | false =>
      simp only [qk6,h,Bool.false_or,Bool.and_eq_true,Bool.not_eq_true',Bool.or_eq_true] at hp
      rcases hp.2 with hd | hp
      · exact .inl (hDm hd)
      · exact .inr ⟨hp.1.1.1.1,hp.1.2⟩
  have hne:∀ g ∈ fs,g.r.i ≠ i:=by
    intro g hg
    have hp:=hpA g hg
    simp only [qk6,Bool.and_eq_true,Bool.not_eq_true'] at hp
    have:=hp.1.1
    intro h;rw [h] at this;simp at this
  have hlk:qlx ops i = looks ops o:=by unfold qlx;rw [ho]
  have henv:∀ t ∈ looks ops o,(atL σ0 fs L).env t = (apps σ0 fs).env t:=by
    intro t ht
    rw [← hlk] at ht
    exact qn4 _ t fs σ0 σ0 rfl fun g hg hgd=>by
      rcases hA g hg with h | ⟨h,_⟩
      · exact h
      · rw [hfd g hg] at h
        exact absurd hgd (qon h ht)
  have hnt:(atL σ0 fs L).nt = (apps σ0 fs).nt:=by unfold atL;rw [qpq,qpq]
  have hheap:=qme (fun f:FR=>L.getD f.r.i false) fs σ0 σ0 rfl rfl fun g hg hm=>by
    rcases hA g hg with h | ⟨_,h⟩
    · exact h
    · rw [h] at hm;cases hm
  have hone:=hnd.1 (atL σ0 fs L) hnt henv hheap.1 hheap.2
  have:=hone w0 A okA hb a W hs (lift w0 A okA Q) (wpAny P .any ops (lift w0 A okA Q) fuel (L.setIfInBounds i true))
    (fun σ' hb' a' W' ⟨v,H,n,hG,hσ'⟩ hs'=>by
      have hset:=qvg (σ0:=σ0) (fs:=fs ++ [⟨⟨i,true,J,true⟩,o.dst,v,H,n⟩]) (a:=fs) (s:=⟨⟨i,true,J,true⟩,o.dst,v,H,n⟩) (b:=[]) (L:=L) rfl hlt h2 (fun f hf=>hne f (by simpa using hf)) (fun ⟨f,hf,_⟩=>nomatch hf) (fun f hf=>nomatch hf)
      rw [qs4 (fs:=fs) (gs:=[⟨⟨i,true,J,true⟩,o.dst,v,H,n⟩]) (L:=L) (fun g hg=>by simp at hg;subst hg;exact h2)] at hset
      refine h v H n hG w0 A okA fuel _ a' W' hb' (qpf hL h1 h3) (fun d hd=>?_) (qnc hlt (qnu hin) ⟨⟨⟨i,true,J,true⟩,o.dst,v,H,n⟩,by simp,rfl⟩) ?_ (qnb hL.1 h1 h2 hlen)
      · rcases List.mem_cons.1 hd with rfl | hd
        · rw [ql7 _ _ _ hlt,if_pos rfl]
        · exact qsb hlt hD d hd
      · rw [hset]
        have e:app (atL σ0 fs L) ⟨⟨i,true,J,true⟩,o.dst,v,H,n⟩ = ((atL σ0 fs L).set H n).putO o.dst v:=rfl
        rw [e,← hσ'];exact hs')
  unfold wpOp
  simp only [ho]
  split
  · rename_i hw;rw [if_pos hw] at this;exact .inl this
  · rename_i hw;rw [if_neg hw] at this;exact this
theorem qwt {rs:List Rec} {fs:List FR} (hmap:fs.map (·.r) = rs.reverse) {i:Nat}:(rs.any fun r=>Nat.beq r.i i) = true ↔ ∃ s ∈ fs,s.r.i = i:=by
  constructor
  · intro h
    obtain ⟨r,hr,e⟩:=List.any_eq_true.1 h
    have hr':r ∈ fs.map (·.r):=by rw [hmap];simpa using hr
    obtain ⟨s,hs,rfl⟩:=List.mem_map.1 hr'
    exact ⟨s,hs,by simpa using e⟩
  · rintro ⟨s,hs,rfl⟩
    have:s.r ∈ rs:=by
      have h:s.r ∈ fs.map (·.r):=List.mem_map.2 ⟨s,hs,rfl⟩
      rw [hmap] at h
      simpa using h
    exact List.any_eq_true.2 ⟨_,this,by simp⟩
theorem qw1 {D:List Nat} {rs:List Rec} {fs:List FR} (hmap:fs.map (·.r) = rs.reverse) (hfact:∀ a f b,fs = a ++ f :: b→Fact P ops (apps σ0 a) f) (hok:qrq D ops rs = true) (hQ:Q .normal (apps σ0 fs)):Cont P ops σ0 Q D fs:=by
  simp only [qrq,Bool.and_eq_true] at hok
  refine cont_leaf (qld hmap hfact hok.1) (fun i hi=>(qwt hmap).1 ?_) hQ
  exact List.all_eq_true.1 hok.2 i (by simpa using hi)
def qpo (ops:Array Oper) (i:Nat) (p:Nat→Bool):Bool:=match ops[i]? with
  | some o=>o.after.all fun e=>!Region.binds .any e || p e.on
  | none=>true
theorem qpp {i:Nat} {p:Nat→Bool} (h:qpo ops i p = true) {j:Nat} (hj:aft ops i j = true):p j = true:=by
  unfold aft at hj
  unfold qpo at h
  cases ho:ops[i]? with
  | none=>rw [ho] at hj;cases hj
  | some o =>
    rw [ho] at hj h
    obtain ⟨x,hx,e⟩:=Array.any_eq_true'.1 hj
    simp only [Array.all_eq_true_iff_forall_mem] at h
    have:=h x hx
    simp only [Bool.and_eq_true] at e
    rw [e.1] at this
    rw [show j = x.on from (by simpa using e.2:x.on = j).symm]
    simpa using this
theorem afters_not {i:Nat} {p:Nat→Bool} (h:qpo ops i p = false):∃ j,aft ops i j = true∧p j = false:=by
  unfold qpo at h
  cases ho:ops[i]? with
  | none=>rw [ho] at h;cases h
  | some o =>
    rw [ho] at h
    simp only at h
    obtain ⟨k,hk,e⟩:=Array.all_eq_false.1 h
    refine ⟨o.after[k].on,(qnv ho).2 ⟨o.after[k],Array.getElem_mem hk,?_,rfl⟩,?_⟩
    · cases hb:Region.binds .any o.after[k] with
      | true=>rfl
      | false=>simp [hb] at e
    · cases hp:p o.after[k].on with
      | false=>rfl
      | true=>simp [hp] at e
def quv (D:List Nat) (ops:Array Oper) (rs:List Rec) (ms:List Nat):Bool :=
  qti D ops rs && (rs.all fun r=>qpo ops r.i fun j=>rs.any fun q=>Nat.beq q.i j) && ((List.range ops.size).all fun i=>(rs.any fun r=>Nat.beq r.i i) || ms.any (Nat.beq i) || !qpo ops i fun j=>rs.any fun q=>Nat.beq q.i j)
    && ms.any fun m=>Nat.blt m ops.size && !(rs.any fun r=>Nat.beq r.i m) && qpo ops m fun j=>rs.any fun q=>Nat.beq q.i j
theorem fork_of {D:List Nat} {rs:List Rec} {fs:List FR} {ms:List Nat} (hmap:fs.map (·.r) = rs.reverse) (hfact:∀ a f b,fs = a ++ f :: b→Fact P ops (apps σ0 a) f) (hok:quv D ops rs ms = true) (hB:∀ m ∈ ms,Bran P ops σ0 Q D fs m):Cont P ops σ0 Q D fs:=by
  simp only [quv,Bool.and_eq_true] at hok
  obtain ⟨⟨⟨h1,h2⟩,h3⟩,h4⟩:=hok
  have ex:=fun {i:Nat}=>qwt (i:=i) hmap
  refine cont_fork (qld hmap hfact h1) (fun s hs j hj=>?_) (fun i hi=>?_) ?_ hB
  · have:s.r ∈ rs:=by
      have h:s.r ∈ fs.map (·.r):=List.mem_map.2 ⟨s,hs,rfl⟩
      rw [hmap] at h
      simpa using h
    exact ex.1 (qpp (List.all_eq_true.1 h2 _ this) hj)
  · have:=List.all_eq_true.1 h3 i (by simpa using hi)
    simp only [Bool.or_eq_true,Bool.not_eq_true'] at this
    rcases this with (h | h) | h
    · exact .inl (ex.1 h)
    · obtain ⟨m,hm,e⟩:=List.any_eq_true.1 h
      rw [show i = m by simpa using e];exact .inr (.inl hm)
    · obtain ⟨j,hj1,hj2⟩:=afters_not h
      refine .inr (.inr ⟨j,hj1,fun hh=>?_⟩)
      rw [ex.2 hh] at hj2;cases hj2
  · obtain ⟨m,_,h⟩:=List.any_eq_true.1 h4
    simp only [Bool.and_eq_true,Bool.not_eq_true'] at h
    refine ⟨m,by simpa [Nat.blt_eq] using h.1.1,fun hh=>?_,fun j hj=>ex.1 (qpp h.2 hj)⟩
    rw [ex.2 hh] at h;exact absurd h.1.2 (by simp)
theorem qvh {id:Nat} (hm:P.follows .mixedOrders = true) (h:Cont P ops σ Q [] []):AW P (.region id ops true) σ Q:=by
  intro w0 A okA hb a W hs
  have hf:∀ i,(Array.replicate ops.size false).getD i false = false:=fun i=>by
    rw [Array.getD_eq_getD_getElem?,Array.getElem?_replicate]
    split <;> rfl
  refine wp_region_any hm (h w0 A okA _ _ _ _ hb ⟨by simp,fun i j hi=>?_⟩ (fun d hd=>nomatch hd) (fun i hi=>?_) ?_ ?_)
  · rw [hf] at hi;cases hi
  · rw [hf] at hi;cases hi
  · exact hs.same (qbc.drew W)
  · refine Nat.le_trans (List.length_filter_le _ _) ?_
    simp
theorem aw_any {rs:List Rec} {σf:St} {id:Nat} (hm:P.follows .mixedOrders = true) (h:Hist P ops [] σ rs σf) (hok:qxi ops rs = true) (hQ:Q .normal σf):AW P (.region id ops true) σ Q:=by
  obtain ⟨fs,h1,h2,h3⟩:=h
  rw [List.nil_append] at h1 h2 h3
  subst h2
  have hw:=qw1 h1 h3 hok hQ
  simp only [qrq,Bool.and_eq_true] at hok
  exact qvh hm (qpt (gs:=fs) (qld h1 h3 hok.1) hw)
end
end Go.Proofs.YtiegopnofbgoaaaGreatDoor.AWN

namespace Go.Proofs.YtiegopnofbgoaaaGreatDoor.AWN
open Go
def look:List (Nat × V)→Nat→V
  | [],_=>.junk
  | (k,v) :: r,t=>bif Nat.beq k t then v else look r t
def St.of (l:List (Nat × V)) (objs:List AObj) (nt base:Nat):St:={ env:=look l,heap:=qax objs,next:=objs.length,nt:=nt,base:=base }
def qwh (σ:St) (ρ:Nat→Option Nat) (sn:Bool):List (Nat × V)→Prop
  | []=>True
  | (t,v) :: r=>exV ρ σ.heap sn (σ.env t) = some v∧exVP ρ σ.heap (σ.env t)∧qwh σ ρ sn r
def qsw (ks:List Nat):Nat→Bool
  | 0=>true
  | n + 1=>(match ks[n]? with
    | some k=>Nat.beq k n
    | none=>false) && qsw ks n
theorem qps {ks:List Nat}:∀ {n:Nat},qsw ks n = true→∀ j,j < n→ks[j]? = some j
  | 0,_,j,h=>by omega
  | n + 1,h,j,hj=>by
    simp only [qsw,Bool.and_eq_true] at h
    by_cases hjn:j = n
    · subst hjn
      have h1:=h.1
      split at h1
      · rename_i k hk;rw [hk];simpa using h1
      · cases h1
    · exact qps h.2 j (by omega)
section
variable {P:Program} {τ:Tab} {σ:St} {ops:Array Oper} {o:Oper} {Q:Exit→St→Prop}
theorem quq {w0:World} {A:Args} {okA:Nat→Prop} {hb hb2:Handle} {H2:Nat→AObj} {ok':Nat→Prop} {W:World} {a:Act} {ρ:Nat→Option Nat} {sn:Bool} (hs:Sim w0 A okA hb σ a W) (N:qqu W ρ hb hb2 σ.heap H2 (okF w0 okA hb σ.heap W) ok' sn) :
    ∀ {l:List (Nat × V)},qwh σ ρ sn l→∀ t,Rel W hb2 H2 ok' (look l t) (a.tmps.getD t undef)
  | [],_,t=>.junk _
  | (k,v) :: r,h,t=>by
    obtain ⟨h1,h2,h3⟩:=h
    unfold look
    cases hk:Nat.beq k t with
    | true =>
      have:=Nat.eq_of_beq_eq_true hk
      subst this
      exact qo2 N (hs.env k) h1 h2
    | false=>exact quq hs N h3 t
theorem weak_of (ks:List Nat) {objs:List AObj} {l:List (Nat × V)} (hbase:qsw ks σ.base = true) (hnd:ks.Nodup) (hobjs:mapO (fun j=>exO (qdy ks) σ.heap true (σ.heap j)) ks = some objs)
    (hpo:∀ j ∈ ks,exOP (qdy ks) σ.heap (σ.heap j)) (henv:qwh σ (qdy ks) true l):Weak σ (St.of l objs σ.nt σ.base):=by
  intro w0 A okA hb a W hs
  obtain ⟨m1,m2⟩:=qlp hobjs
  have hml:ks.length = objs.length:=by rw [m1]
  let hb2:Handle:=fun i=>match ks[i]? with
    | some j=>hb j
    | none=>none
  have hbj:∀ i j,ks[i]? = some j→hb2 i = hb j:=by intro i j hij;show (match ks[i]? with | some j=>hb j | none=>none) = _;rw [hij]
  have hnone:∀ i,objs.length ≤ i→qax objs i = .none:=by
    intro i hi
    unfold qax
    rw [List.getD_eq_getElem?_getD,List.getElem?_eq_none (by omega)];rfl
  have hin:∀ i,qax objs i ≠ .none→∃ j,ks[i]? = some j:=by
    intro i hi
    rcases Nat.lt_or_ge i ks.length with hl | hl
    · exact ⟨ks[i],List.getElem?_eq_getElem hl⟩
    · exact absurd (hnone i (by omega)) hi
  have hobj:∀ i j,ks[i]? = some j→∃ y,exO (qdy ks) σ.heap true (σ.heap j) = some y∧qax objs i = y:=by
    intro i j hij
    obtain ⟨y,e1,e2⟩:=m2 i j hij
    exact ⟨y,e1,by unfold qax;exact getD_some e2 _⟩
  have hlv:∀ j ∈ ks,σ.heap j ≠ .none:=by
    intro j hj e
    obtain ⟨i,hi,ei⟩:=List.getElem_of_mem hj
    obtain ⟨y,e1,_⟩:=m2 i ks[i] (List.getElem?_eq_getElem hi)
    rw [ei,e] at e1;simp [exO] at e1
  have hltb:∀ j,A.H0 j ≠ .none→j < σ.base:=by
    intro j hj
    rcases Nat.lt_or_ge j σ.base with h | h
    · exact h
    · exact absurd (hs.base j h) hj
  have hm0:∀ j,A.H0 j ≠ .none→ks[j]? = some j:=fun j hj=>qps hbase j (hltb j hj)
  have hloc:∀ j b,σ.heap j ≠ .none→j ∉ ks→hb j = some b→w0.heap.size ≤ b:=by
    intro j b hj hjn hjb
    rcases (hs.heap.hnd j b hj hjb).2 with ⟨h1,_⟩ | h1
    · exact absurd (List.mem_of_getElem? (hm0 j h1)) hjn
    · exact h1
  have N:qqu W (qdy ks) hb hb2 σ.heap (qax objs) (okF w0 okA hb σ.heap W) (okF w0 okA hb2 (qax objs) W) true:=by
    refine ⟨fun b hb'=>⟨hb'.1,hb'.2.1,fun i hi e=>?_⟩,fun j i cs hj hcs=>?_,fun j i sz es hj hes=>?_,fun j i kk es hj hes=>?_,fun _ j b hj hne hbjj=>?_,hs.heap.obj⟩
    · obtain ⟨j,hij⟩:=hin i hi
      rw [hbj i j hij] at e
      exact hb'.2.2 j (hlv j (List.mem_of_getElem? hij)) e
    · have hij:=qgc hj
      obtain ⟨y,e1,e2⟩:=hobj i j hij
      refine ⟨hbj i j hij,?_⟩
      rw [hcs] at e1
      simp only [exO] at e1
      split at e1
      · simp only [Option.some.injEq] at e1;subst e1;exact ⟨_,e2⟩
      · cases e1
    · have hij:=qgc hj
      obtain ⟨y,e1,e2⟩:=hobj i j hij
      refine ⟨hbj i j hij,?_⟩
      rw [hes] at e1
      simp only [exO,Option.some.injEq] at e1
      rw [e2,← e1]
    · have hij:=qgc hj
      obtain ⟨y,e1,e2⟩:=hobj i j hij
      refine ⟨hbj i j hij,?_⟩
      rw [hes] at e1
      simp only [exO,Option.some.injEq] at e1
      rw [e2,← e1]
    · have hnmj:=qk9 hj
      refine ⟨(hs.heap.hnd j b hne hbjj).1,.inr (hloc j b hne hnmj hbjj),fun i hi e=>?_⟩
      obtain ⟨j',hij⟩:=hin i hi
      rw [hbj i j' hij] at e
      have:=hs.heap.inj j j' b hne (hlv j' (List.mem_of_getElem? hij)) hbjj e
      subst this
      exact hnmj (List.mem_of_getElem? hij)
  have hix:∀ i j,ks[i]? = some j→qdy ks j = some i:=by
    intro i j hij
    cases hx:qdy ks j with
    | none=>exact absurd (List.mem_of_getElem? hij) (qk9 hx)
    | some i'=>rw [qm7 hnd (qgc hx) hij]
  refine ⟨hb2,hs.defers,hs.size,quq hs N henv,?_,hs.base⟩
  refine { obj:=fun i=>?_,inj:=fun i k b hi hk hbi hbk=>?_,hnd:=fun i b hi hbi=>?_,fresh:=fun i hi=>hnone i hi,ext:=hs.heap.ext,keep:=⟨fun j cs hj=>?_,fun j sz es hj=>?_,fun j kk es hj=>?_⟩,lay:=hs.heap.lay }
  · by_cases hi:qax objs i = .none
    · show qge W hb2 (qax objs) _ i
      unfold qge;rw [hi];trivial
    · obtain ⟨j,hij⟩:=hin i hi
      obtain ⟨y,e1,e2⟩:=hobj i j hij
      exact qpx N (hix i j hij) e1 (hpo j (List.mem_of_getElem? hij)) e2 (hbj i j hij)
  · obtain ⟨j,hij⟩:=hin i hi
    obtain ⟨j',hkj⟩:=hin k hk
    rw [hbj i j hij] at hbi
    rw [hbj k j' hkj] at hbk
    have:=hs.heap.inj j j' b (hlv j (List.mem_of_getElem? hij)) (hlv j' (List.mem_of_getElem? hkj)) hbi hbk
    subst this
    exact qm7 hnd hij hkj
  · obtain ⟨j,hij⟩:=hin i hi
    rw [hbj i j hij] at hbi
    obtain ⟨h1,h2⟩:=hs.heap.hnd j b (hlv j (List.mem_of_getElem? hij)) hbi
    refine ⟨h1,h2.imp (fun ⟨h3,h4⟩=>?_) id⟩
    have:=qm7 hnd hij (hm0 j h3)
    subst this
    exact ⟨h3,h4⟩
  · have hij:=hm0 j (by rw [hj];simp)
    obtain ⟨cs',e1,e2⟩:=hs.heap.keep.box j cs hj
    obtain ⟨y,e3,e4⟩:=hobj j j hij
    rw [e1] at e3
    simp only [exO] at e3
    split at e3
    · simp only [Option.some.injEq] at e3;subst e3
      exact ⟨_,e4,(hbj j j hij).trans e2⟩
    · cases e3
  · have hij:=hm0 j (by rw [hj];simp)
    obtain ⟨es',e1,e0,e2⟩:=hs.heap.keep.row j sz es hj
    obtain ⟨y,e3,e4⟩:=hobj j j hij
    rw [e1] at e3
    simp only [exO,Option.some.injEq] at e3;subst e3
    exact ⟨_,e4,e0,fun hl=>⟨(hbj j j hij).trans (e2 hl).1,(e2 hl).2⟩⟩
  · have hij:=hm0 j (by rw [hj];simp)
    obtain ⟨es',e1,e2⟩:=hs.heap.keep.map j kk es hj
    obtain ⟨y,e3,e4⟩:=hobj j j hij
    rw [e1] at e3
    simp only [exO,Option.some.injEq] at e3;subst e3
    exact ⟨_,e4,(hbj j j hij).trans e2⟩
/-! ### Walking a region that draws its order -/
def Any (P:Program) (ops:Array Oper) (id:List FR) (σ0:St) (Q:Prop) (rs:List Rec) (σ:St):Prop:=Hist P ops id σ0 rs σ→Q
variable {id:List FR} {σ0:St} {rs:List Rec} {G:Prop} {num:Nat} {DD:List Nat}
theorem qd5 (h:Any P ops [] σ (AW P (.region num ops true) σ Q) [] σ):AW P (.region num ops true) σ Q:=h .nil
theorem qbo (hm:P.follows .mixedOrders = true) (hok:qxi ops rs = true) (hQ:Q .normal σ):Any P ops [] σ0 (AW P (.region num ops true) σ0 Q) rs σ:=fun h=>aw_any hm h hok hQ
theorem qk7 (hm:P.follows .mixedOrders = true) (h:Any P ops [] σ (Cont P ops σ Q [] []) [] σ):AW P (.region num ops true) σ Q:=qvh hm (h .nil)
theorem qg2 (hok:qrq DD ops rs = true) (hQ:Q .normal σ):Any P ops id σ0 (Cont P ops σ0 Q DD id) rs σ:=fun ⟨gs,e1,e2,e3⟩=>by
  subst e2
  have hw:=qw1 e1 e3 hok hQ
  simp only [qrq,Bool.and_eq_true] at hok
  exact qpt (qld e1 e3 hok.1) hw
def AllB:List Nat→(Nat→Prop)→Prop
  | [],_=>True
  | m :: l,p=>p m∧AllB l p
theorem qst {p:Nat→Prop}:∀ {l:List Nat},AllB l p→∀ m ∈ l,p m
  | [],_,m,h=>nomatch h
  | a :: l,⟨h1,h2⟩,m,h=>by
    rcases List.mem_cons.1 h with rfl | h
    · exact h1
    · exact qst h2 m h
theorem qgs (ms:List Nat) (hok:quv DD ops rs ms = true) (hB:∀ fs:List FR,fs.map (·.r) = rs.reverse→AllB ms fun m=>Any P ops fs σ0 (Bran P ops σ0 Q DD fs m) rs σ):Any P ops id σ0 (Cont P ops σ0 Q DD id) rs σ:=fun ⟨gs,e1,e2,e3⟩=>by
  have hc:Cont P ops σ0 Q DD (id ++ gs):=fork_of e1 e3 hok fun m hm=>qst (hB _ e1) m hm ⟨[],by rw [List.append_nil];exact e1,by rw [List.append_nil];exact e2,by rw [List.append_nil];exact e3⟩
  simp only [quv,Bool.and_eq_true] at hok
  exact qpt (qld e1 e3 hok.1.1.1) hc
theorem qfe {r:Rec} {fs:List FR} (hfs:fs.map (·.r) = rs.reverse) (hok:qti DD ops (r :: rs) = true) (h:∀ fs,Any P ops fs σ0 (Cont P ops σ0 Q (r.i :: DD) fs) (r :: rs) σ):Any P ops fs σ0 (Bran P ops σ0 Q DD fs r.i) (r :: rs) σ:=fun ⟨gs,e1,e2,e3⟩=>by
  have hl:gs.map (·.r) = [r]:=by
    rw [List.map_append,hfs,List.reverse_cons] at e1
    exact List.append_cancel_left e1
  match gs,hl with
  | [s],hl =>
    have hs:s.r = r:=by simpa using hl
    subst hs
    exact bran_first (qld e1 e3 hok) (h _ ⟨[],by rw [List.append_nil];exact e1,by rw [List.append_nil];exact e2,by rw [List.append_nil];exact e3⟩)
theorem qhg {σ':St} (h:∀ t ∈ looks ops o,σ'.env t = σ.env t):qcx ops σ' o = qcx ops σ o:=by
  unfold qcx
  cases hg:o.guard with
  | none=>rfl
  | some g =>
    obtain ⟨j,want⟩:=g
    simp only
    have:qrz ops σ' j = qrz ops σ j:=by
      unfold qrz
      cases ho:ops[j]? with
      | none=>rfl
      | some o' =>
        simp only
        cases hd:o'.dst with
        | none=>rfl
        | some d =>
          simp only
          rw [h d (by simp [looks,hg,ho,hd])]
    rw [this]
theorem qju {σ':St} (h:σ'.nt = σ.nt) {d:Option Nat} (hd:qhi σ d = true):qhi σ' d = true:=by
  cases d with
  | none=>rfl
  | some d=>simpa [qhi,h] using hd
theorem qkr {σ':St} (h:∀ t ∈ looks ops o,σ'.env t = σ.env t):∀ t ∈ opT o.op,σ'.env t = σ.env t:=fun t ht=>h t (List.mem_append_left _ ht)
theorem qu8 {v:V} {J:List Nat} (i:Nat) (ho:ops[i]? = some o) (hf:qwn P ops σ o v J) (hK:Any P ops id σ0 G (⟨i,false,J,false⟩ :: rs) (σ.putO o.dst v)):Any P ops id σ0 G rs σ:=fun h =>
  hK (.cons ⟨⟨i,false,J,false⟩,o.dst,v,σ.heap,0⟩ h ⟨o,ho,rfl,.inl ⟨rfl,hf⟩⟩)
theorem qs0 {v:V} {J:List Nat} {H:Nat→AObj} {n:Nat} (i:Nat) (ho:ops[i]? = some o) (hf:qtr P ops σ o v H n) (hJ:∀ j ∈ J,H j = σ.heap j) (hK:Any P ops id σ0 G (⟨i,true,J,false⟩ :: rs) ((σ.set H n).putO o.dst v)):Any P ops id σ0 G rs σ:=fun h =>
  hK (.cons ⟨⟨i,true,J,false⟩,o.dst,v,H,n⟩ h ⟨o,ho,rfl,.inr ⟨rfl,.inl hf,hJ⟩⟩)
def roIn (σ:St) (op:Op) (J:List Nat):Bool:=match qsm σ op with
  | some K=>K.all fun j=>J.any (Nat.beq j)
  | none=>false
theorem roIn_spec {op:Op} {J:List Nat} (h:roIn σ op J = true):∃ K,qsm σ op = some K∧∀ j ∈ K,j ∈ J:=by
  unfold roIn at h
  split at h
  · rename_i K hK
    refine ⟨K,hK,fun j hj=>?_⟩
    obtain ⟨k,hk,e⟩:=List.any_eq_true.1 (List.all_eq_true.1 h j hj)
    rw [show j = k by simpa using e];exact hk
  · cases h
theorem qqr {σ':St} {op:Op} {J:List Nat} (hr:roIn σ op J = true) (h:∀ t ∈ opT op,σ'.env t = σ.env t) (hh:∀ j ∈ J,σ'.heap j = σ.heap j):qbu τ σ' op = qbu τ σ op:=by
  obtain ⟨K,h1,h2⟩:=roIn_spec hr
  exact step_ro h1 h fun j hj=>hh j (h2 j hj)
theorem qa9 (i:Nat) (ho:ops[i]? = some o) (hw:qcx ops σ o = some false) (hd:qhi σ o.dst = true) (hK:Any P ops id σ0 G (⟨i,false,[],false⟩ :: rs) (σ.putO o.dst .und)):Any P ops id σ0 G rs σ :=
  qu8 i ho (fun σ' hn he _=>one_skip (by rw [qhg he,hw]) (qju hn hd)) hK
theorem qa4 (hτ:qfd P τ) {v:V} (J:List Nat) (i:Nat) (ho:ops[i]? = some o) (hw:qcx ops σ o = some true) (hd:qhi σ o.dst = true) (hr:roIn σ o.op J = true) (h:qbu τ σ o.op = .val v) (hK:Any P ops id σ0 G (⟨i,false,J,false⟩ :: rs) (σ.putO o.dst v)):Any P ops id σ0 G rs σ :=
  qu8 i ho (fun σ' hn he hh=>one_val hτ (by rw [qhg he,hw]) (qju hn hd) (by rw [qqr hr (qkr he) hh,h])) hK
theorem qca (hτ:qfd P τ) {v:V} {p:Prop} (J:List Nat) (i:Nat) (ho:ops[i]? = some o) (hw:qcx ops σ o = some true) (hd:qhi σ o.dst = true) (hr:roIn σ o.op J = true) (h:qbu τ σ o.op = .need p v) (hp:p) (hK:Any P ops id σ0 G (⟨i,false,J,false⟩ :: rs) (σ.putO o.dst v)):Any P ops id σ0 G rs σ :=
  qu8 i ho (fun σ' hn he hh=>one_need hτ (by rw [qhg he,hw]) (qju hn hd) (by rw [qqr hr (qkr he) hh,h]) hp) hK
theorem qbx (hτ:qfd P τ) {v:V} {p:Prop} {es:List (List D)} {ix:Nat} {k:List D→Option V} {e:List D} (J:List Nat) (i:Nat) (ho:ops[i]? = some o) (hw:qcx ops σ o = some true) (hd:qhi σ o.dst = true) (hr:roIn σ o.op J = true) (h:qbu τ σ o.op = .elem p es ix k) (hp:p) (he:es[ix]? = some e) (hv:k e = some v)
    (hK:Any P ops id σ0 G (⟨i,false,J,false⟩ :: rs) (σ.putO o.dst v)):Any P ops id σ0 G rs σ :=
  qu8 i ho (fun σ' hn hee hh=>one_elem hτ (by rw [qhg hee,hw]) (qju hn hd) (by rw [qqr hr (qkr hee) hh,h]) hp he hv) hK
theorem any_valH (hτ:qfd P τ) (J:List Nat) {v:V} {H:Nat→AObj} {n:Nat} (i:Nat) (ho:ops[i]? = some o) (hw:qcx ops σ o = some true) (hd:qhi σ o.dst = true) (h:qbu τ σ o.op = .valH v H n) (hJ:∀ j ∈ J,H j = σ.heap j) (hK:Any P ops id σ0 G (⟨i,true,J,false⟩ :: rs) ((σ.set H n).putO o.dst v)):Any P ops id σ0 G rs σ :=
  qs0 i ho (fun σ' hn he hh hx=>one_valH hτ (by rw [qhg he,hw]) (qju hn hd) (by rw [qna (qkr he) hh hx,h])) hJ hK
theorem any_needH (hτ:qfd P τ) (J:List Nat) {v:V} {p:Prop} {H:Nat→AObj} {n:Nat} (i:Nat) (ho:ops[i]? = some o) (hw:qcx ops σ o = some true) (hd:qhi σ o.dst = true) (h:qbu τ σ o.op = .needH p v H n) (hp:p) (hJ:∀ j ∈ J,H j = σ.heap j) (hK:Any P ops id σ0 G (⟨i,true,J,false⟩ :: rs) ((σ.set H n).putO o.dst v)):Any P ops id σ0 G rs σ :=
  qs0 i ho (fun σ' hn he hh hx=>one_needH hτ (by rw [qhg he,hw]) (qju hn hd) (by rw [qna (qkr he) hh hx,h]) hp) hJ hK
theorem any_elemH (hτ:qfd P τ) (J:List Nat) {p:Prop} {es:List (List D)} {ix:Nat} {k:List D→Option (Nat→AObj)} {e:List D} {H:Nat→AObj} (i:Nat) (ho:ops[i]? = some o) (hw:qcx ops σ o = some true) (hd:qhi σ o.dst = true) (h:qbu τ σ o.op = .elemH p es ix k) (hp:p) (he:es[ix]? = some e) (hv:k e = some H) (hJ:∀ j ∈ J,H j = σ.heap j)
    (hK:Any P ops id σ0 G (⟨i,true,J,false⟩ :: rs) ((σ.set H σ.next).putO o.dst .und)):Any P ops id σ0 G rs σ :=
  qs0 i ho (fun σ' hn hee hh hx=>by
    have:=one_elemH (P:=P) (ops:=ops) hτ (by rw [qhg hee,hw]) (qju hn hd) (by rw [qna (qkr hee) hh hx,h]) hp he hv
    rw [hx] at this;exact this) hJ hK
theorem any_call (hτ:qfd P τ) (fr:Bool) (js J:List Nat) {k:FuncId} {args args':List V} {objs:List AObj} {r0:V} {o0 n0:List AObj} (i:Nat) (ho:ops[i]? = some o) (hw:qcx ops σ o = some true) (hd:qhi σ o.dst = true) (h:qbu τ σ o.op = .call k args) (hfn:qms P k)
    (hargs:mapO (exV (qdy js) σ.heap fr) args = some args') (hobjs:mapO (fun j=>exO (qdy js) σ.heap fr (σ.heap j)) js = some objs) (hnd:js.Nodup) (hpa:∀ v ∈ args,exVP (qdy js) σ.heap v) (hpo:∀ j ∈ js,exOP (qdy js) σ.heap (σ.heap j))
    (hc:qb1 P fr k args' objs fun r o n=>r = r0∧o = o0∧n = n0) (hJ:∀ j ∈ J,(σ.after js o0 n0).heap j = σ.heap j)
    (hK:Any P ops id σ0 G (⟨i,true,J,false⟩ :: rs) ((σ.set (σ.after js o0 n0).heap (σ.after js o0 n0).next).putO o.dst (renV (σ.names js n0.length) r0))):Any P ops id σ0 G rs σ :=
  qs0 i ho (fun σ' hn he hh hx w0 A okA hb a W hs Qc Kc hKc=>by
    refine quw (P:=P) (ops:=ops) (σ:=σ') hτ fr js (by rw [qhg he,hw]) (qju hn hd) (by rw [qna (qkr he) hh hx,h]) hfn (by rw [hh];exact hargs) (by rw [hh];exact hobjs) hnd (by rw [hh];exact hpa) (by rw [hh];exact hpo) hc w0 A okA hb a W hs Qc Kc ?_
    rintro σ'' hb' a' W' ⟨r,o',n',⟨rfl,rfl,rfl⟩,_,rfl⟩ hs'
    refine hKc _ hb' a' W' ?_ hs'
    have:σ'.names js n'.length = σ.names js n'.length:=by unfold St.names;rw [hx]
    unfold St.after St.set
    rw [this,hh,hx]) hJ hK
theorem any_callN (hτ:qfd P τ) (fr:Bool) (js J:List Nat) {k:FuncId} {args args':List V} {objs:List AObj} {R:V→List AObj→List AObj→Prop} {fs:List FR} {i:Nat} (hfs:fs.map (·.r) = rs.reverse) (hok:(rs.all fun q=>qk6 DD (masks ops.toList []) ops q ⟨i,true,J,true⟩) = true)
    (ho:ops[i]? = some o) (hw:qcx ops σ o = some true) (hd:qhi σ o.dst = true) (h:qbu τ σ o.op = .call k args) (hfn:qms P k)
    (hargs:mapO (exV (qdy js) σ.heap fr) args = some args') (hobjs:mapO (fun j=>exO (qdy js) σ.heap fr (σ.heap j)) js = some objs) (hnd:js.Nodup) (hpa:∀ v ∈ args,exVP (qdy js) σ.heap v) (hpo:∀ j ∈ js,exOP (qdy js) σ.heap (σ.heap j))
    (hc:qb1 P fr k args' objs R) (hJ:∀ r o' n',R r o' n'→o'.length = js.length→∀ j ∈ J,(σ.after js o' n').heap j = σ.heap j)
    (hK:∀ r o' n',R r o' n'→o'.length = js.length→∀ fs',Any P ops fs' σ0 (Cont P ops σ0 Q (i :: DD) fs') (⟨i,true,J,true⟩ :: rs) ((σ.set (σ.after js o' n').heap (σ.after js o' n').next).putO o.dst (renV (σ.names js n'.length) r))) :
    Any P ops fs σ0 (Bran P ops σ0 Q DD fs i) rs σ:=fun ⟨gs,e1,e2,e3⟩=>by
  have hg:gs = []:=by
    rw [List.map_append,hfs] at e1
    have:gs.map (·.r) = []:=by simpa using e1
    exact List.map_eq_nil_iff.1 this
  subst hg
  rw [List.append_nil] at e1 e2 e3
  subst e2
  have opS:∀ s ∈ fs,qmv ops s.r.i = s.dst:=fun s hs=>by
    obtain ⟨x,y,e⟩:=List.append_of_mem hs
    obtain ⟨o,h1,h2,_⟩:=e3 x s y e
    unfold qmv;rw [h1,h2]
  refine bran_nd (J:=J) (G:=fun v H n=>∃ r o' n',R r o' n'∧o'.length = js.length∧v = renV (((apps σ0 fs)).names js n'.length) r∧H = ((apps σ0 fs).after js o' n').heap∧n = ((apps σ0 fs).after js o' n').next) ho opS (fun g hg=>List.all_eq_true.1 hok _ ?_) ⟨fun σ' hn he hh hx w0 A okA hb a W hs Qc Kc hKc=>?_,?_⟩ ?_
  · have h:g.r ∈ fs.map (·.r):=List.mem_map.2 ⟨g,hg,rfl⟩
    rw [e1] at h
    simpa using h
  · refine quw (P:=P) (ops:=ops) (σ:=σ') hτ fr js (by rw [qhg he,hw]) (qju hn hd) (by rw [qna (qkr he) hh hx,h]) hfn (by rw [hh];exact hargs) (by rw [hh];exact hobjs) hnd (by rw [hh];exact hpa) (by rw [hh];exact hpo) hc w0 A okA hb a W hs Qc Kc ?_
    rintro σ'' hb' a' W' ⟨r,o',n',hR,hl,rfl⟩ hs'
    refine hKc _ hb' a' W' ⟨_,_,_,⟨r,o',n',hR,hl,rfl,rfl,rfl⟩,?_⟩ hs'
    have:σ'.names js n'.length = (apps σ0 fs).names js n'.length:=by unfold St.names;rw [hx]
    unfold St.after St.set
    rw [this,hh,hx]
  · rintro v H n ⟨r,o',n',hR,hl,rfl,rfl,rfl⟩
    exact hJ r o' n' hR hl
  · rintro v H n ⟨r,o',n',hR,hl,rfl,rfl,rfl⟩
    refine hK r o' n' hR hl _ ⟨[],?_,?_,?_⟩
    · rw [List.append_nil,List.map_append,e1,List.reverse_cons];rfl
    · rw [List.append_nil]
      show _ = List.foldl app σ0 (fs ++ [_])
      rw [List.foldl_append];rfl
    · rw [List.append_nil]
      intro a f b e
      rcases List.eq_nil_or_concat b with rfl | ⟨b',x,rfl⟩
      · obtain ⟨e4,e5⟩:=List.append_inj' e rfl
        cases e5
        subst e4
        exact ⟨o,ho,rfl,.inr ⟨rfl,.inr rfl,hJ r o' n' hR hl⟩⟩
      · rw [show a ++ f :: b'.concat x = (a ++ f :: b') ++ [x] by simp] at e
        obtain ⟨e4,_⟩:=List.append_inj' e rfl
        exact e3 a f b' e4
end
end Go.Proofs.YtiegopnofbgoaaaGreatDoor.AWN

namespace Go.Proofs.YtiegopnofbgoaaaGreatDoor.AWN
open Go
def qvf (ρ:Nat→Option Nat) (H:Nat→AObj):List V→Prop
  | []=>True
  | v :: r=>exVP ρ H v∧qvf ρ H r
def qu1 (ρ:Nat→Option Nat) (H:Nat→AObj):List Nat→Prop
  | []=>True
  | j :: r=>exOP ρ H (H j)∧qu1 ρ H r
theorem qnw {ρ:Nat→Option Nat} {H:Nat→AObj}:∀ {l:List V},qvf ρ H l→∀ v ∈ l,exVP ρ H v
  | [],_,_,h=>nomatch h
  | x :: r,⟨h1,h2⟩,v,h=>by
    rcases List.mem_cons.1 h with rfl | h
    · exact h1
    · exact qnw h2 v h
theorem qm8 {ρ:Nat→Option Nat} {H:Nat→AObj}:∀ {l:List Nat},qu1 ρ H l→∀ j ∈ l,exOP ρ H (H j)
  | [],_,_,h=>nomatch h
  | x :: r,⟨h1,h2⟩,v,h=>by
    rcases List.mem_cons.1 h with rfl | h
    · exact h1
    · exact qm8 h2 v h
def qq3 (H H':Nat→AObj):List Nat→Prop
  | []=>True
  | j :: r=>H' j = H j∧qq3 H H' r
theorem qla {H H':Nat→AObj}:∀ {l:List Nat},qq3 H H' l→∀ j ∈ l,H' j = H j
  | [],_,_,h=>nomatch h
  | x :: r,⟨h1,h2⟩,v,h=>by
    rcases List.mem_cons.1 h with rfl | h
    · exact h1
    · exact qla h2 v h
section
variable {P:Program} {τ:Tab} {σ σ0:St} {ops:Array Oper} {rest:List Oper} {o:Oper} {Q:Exit→St→Prop} {id:List FR} {G:Prop} {rl:List Rec}
theorem qae (hτ:qfd P τ) (fr:Bool) (js:List Nat) {k:FuncId} {args args':List V} {objs:List AObj} {R:V→List AObj→List AObj→Prop} (hw:qcx ops σ o = some true) (hd:qhi σ o.dst = true) (h:qbu τ σ o.op = .call k args) (hfn:qms P k)
    (hargs:mapO (exV (qdy js) σ.heap fr) args = some args') (hobjs:mapO (fun j=>exO (qdy js) σ.heap fr (σ.heap j)) js = some objs) (hnd:js.Nodup) (hpa:qvf (qdy js) σ.heap args) (hpo:qu1 (qdy js) σ.heap js)
    (hc:qb1 P fr k args' objs R) (hK:∀ r objs' new,R r objs' new→objs'.length = js.length→AWL P ops rest ((σ.after js objs' new).putO o.dst (renV (σ.names js new.length) r)) Q):AWL P ops (o :: rest) σ Q :=
  awl_call hτ fr js hw hd h hfn hargs hobjs hnd (qnw hpa) (qm8 hpo) hc hK
theorem qcf (hτ:qfd P τ) (fr:Bool) (js J:List Nat) {k:FuncId} {args args':List V} {objs:List AObj} {r0:V} {o0 n0:List AObj} (i:Nat) (ho:ops[i]? = some o) (hw:qcx ops σ o = some true) (hd:qhi σ o.dst = true) (h:qbu τ σ o.op = .call k args) (hfn:qms P k)
    (hargs:mapO (exV (qdy js) σ.heap fr) args = some args') (hobjs:mapO (fun j=>exO (qdy js) σ.heap fr (σ.heap j)) js = some objs) (hnd:js.Nodup) (hpa:qvf (qdy js) σ.heap args) (hpo:qu1 (qdy js) σ.heap js)
    (hc:qb1 P fr k args' objs fun r o n=>r = r0∧o = o0∧n = n0) (hJ:qq3 σ.heap (σ.after js o0 n0).heap J)
    (hK:Any P ops id σ0 G (⟨i,true,J,false⟩ :: rl) ((σ.set (σ.after js o0 n0).heap (σ.after js o0 n0).next).putO o.dst (renV (σ.names js n0.length) r0))):Any P ops id σ0 G rl σ :=
  any_call hτ fr js J i ho hw hd h hfn hargs hobjs hnd (qnw hpa) (qm8 hpo) hc (qla hJ) hK
theorem qie (hτ:qfd P τ) (fr:Bool) (js J:List Nat) {k:FuncId} {args args':List V} {objs:List AObj} {R:V→List AObj→List AObj→Prop} {DD:List Nat} {Q:Exit→St→Prop} {fs:List FR} {i:Nat} (hfs:fs.map (·.r) = rl.reverse) (hok:(rl.all fun q=>qk6 DD (masks ops.toList []) ops q ⟨i,true,J,true⟩) = true)
    (ho:ops[i]? = some o) (hw:qcx ops σ o = some true) (hd:qhi σ o.dst = true) (h:qbu τ σ o.op = .call k args) (hfn:qms P k)
    (hargs:mapO (exV (qdy js) σ.heap fr) args = some args') (hobjs:mapO (fun j=>exO (qdy js) σ.heap fr (σ.heap j)) js = some objs) (hnd:js.Nodup) (hpa:qvf (qdy js) σ.heap args) (hpo:qu1 (qdy js) σ.heap js)
    (hc:qb1 P fr k args' objs R) (hJ:∀ r o' n',R r o' n'→o'.length = js.length→qq3 σ.heap (σ.after js o' n').heap J)
    (hK:∀ r o' n',R r o' n'→o'.length = js.length→∀ fs',Any P ops fs' σ0 (Cont P ops σ0 Q (i :: DD) fs') (⟨i,true,J,true⟩ :: rl) ((σ.set (σ.after js o' n').heap (σ.after js o' n').next).putO o.dst (renV (σ.names js n'.length) r))) :
    Any P ops fs σ0 (Bran P ops σ0 Q DD fs i) rl σ :=
  any_callN hτ fr js J hfs hok ho hw hd h hfn hargs hobjs hnd (qnw hpa) (qm8 hpo) hc (fun r o' n' hr hl=>qla (hJ r o' n' hr hl)) hK
theorem qbf (hτ:qfd P τ) (J:List Nat) {v:V} {H:Nat→AObj} {n:Nat} (i:Nat) (ho:ops[i]? = some o) (hw:qcx ops σ o = some true) (hd:qhi σ o.dst = true) (h:qbu τ σ o.op = .valH v H n) (hJ:qq3 σ.heap H J) (hK:Any P ops id σ0 G (⟨i,true,J,false⟩ :: rl) ((σ.set H n).putO o.dst v)):Any P ops id σ0 G rl σ :=
  any_valH hτ J i ho hw hd h (qla hJ) hK
theorem qif (hτ:qfd P τ) (J:List Nat) {v:V} {p:Prop} {H:Nat→AObj} {n:Nat} (i:Nat) (ho:ops[i]? = some o) (hw:qcx ops σ o = some true) (hd:qhi σ o.dst = true) (h:qbu τ σ o.op = .needH p v H n) (hp:p) (hJ:qq3 σ.heap H J) (hK:Any P ops id σ0 G (⟨i,true,J,false⟩ :: rl) ((σ.set H n).putO o.dst v)):Any P ops id σ0 G rl σ :=
  any_needH hτ J i ho hw hd h hp (qla hJ) hK
theorem any_elemHP (hτ:qfd P τ) (J:List Nat) {p:Prop} {es:List (List D)} {ix:Nat} {k:List D→Option (Nat→AObj)} {e:List D} {H:Nat→AObj} (i:Nat) (ho:ops[i]? = some o) (hw:qcx ops σ o = some true) (hd:qhi σ o.dst = true) (h:qbu τ σ o.op = .elemH p es ix k) (hp:p) (he:es[ix]? = some e) (hv:k e = some H) (hJ:qq3 σ.heap H J)
    (hK:Any P ops id σ0 G (⟨i,true,J,false⟩ :: rl) ((σ.set H σ.next).putO o.dst .und)):Any P ops id σ0 G rl σ :=
  any_elemH hτ J i ho hw hd h hp he hv (qla hJ) hK
theorem qda (t:Nat) {b:Bool} (h:σ.env t = .d (.bool b)) (ht:b = true→Any P ops id σ0 G rl (σ.put t (.d (.bool true)))) (hf:b = false→Any P ops id σ0 G rl (σ.put t (.d (.bool false)))):Any P ops id σ0 G rl σ:=by
  cases b
  · have:=hf rfl;rwa [qpl h] at this
  · have:=ht rfl;rwa [qpl h] at this
theorem qa3 (ks:List Nat) {objs:List AObj} {l:List (Nat × V)} (hbase:qsw ks σ.base = true) (hnd:ks.Nodup) (hobjs:mapO (fun j=>exO (qdy ks) σ.heap true (σ.heap j)) ks = some objs)
    (hpo:qu1 (qdy ks) σ.heap ks) (henv:qwh σ (qdy ks) true l):Weak σ (St.of l objs σ.nt σ.base):=weak_of ks hbase hnd hobjs (qm8 hpo) henv
end
section
variable {P:Program} {τ:Tab} {σ:St} {rs:List ResultVar} {fr:Bool} {R:V→List AObj→List AObj→Prop} {e:Exit}
theorem qah {m:Nat} (he:e = .normal ∨ e = .ret) (ex:List Nat) {rv r:V} {objs' new:List AObj} (h:resV τ rs σ = some rv) (hnd:ex.Nodup) (hm:∀ x ∈ ex,m ≤ x) (hr:exV (qdy (List.range m ++ ex)) σ.heap true rv = some r) (hp:exVP (qdy (List.range m ++ ex)) σ.heap rv)
    (ho:mapO (fun j=>exO (qdy (List.range m ++ ex)) σ.heap true (σ.heap j)) (List.range m ++ ex) = some (objs' ++ new)) (hl:objs'.length = m) (hpo:qu1 (qdy (List.range m ++ ex)) σ.heap (List.range m ++ ex))
    (hf:fr = true→r.flat∧∀ o ∈ objs' ++ new,o.flat) (hR:R r objs' new):RetQ τ rs fr m R e σ :=
  ⟨he,rv,ex,r,objs',new,h,hnd,hm,hr,hp,ho,hl,qm8 hpo,hf,hR⟩
end
end Go.Proofs.YtiegopnofbgoaaaGreatDoor.AWN

namespace Go.Proofs.YtiegopnofbgoaaaGreatDoor.AWN
open Go Go.Proofs.Tryz
def TiOk (t:TypeId) (td:TD):Prop:=prog.underlying t = some td.desc∧∃ i,prog.info? t = some i∧i.size = td.size∧i.bytes = td.bytes∧i.zero = some td.zero
theorem tiOk {t:TypeId} {td:TD} (h:prog.underlying t = some td.desc) (h':(prog.info? t).map (fun i=>(i.size,i.bytes,i.zero)) = some (td.size,td.bytes,some td.zero)):TiOk t td:=by
  refine ⟨h,?_⟩
  cases hi:prog.info? t with
  | none=>rw [hi] at h';cases h'
  | some i =>
    rw [hi] at h'
    simp only [Option.map_some,Option.some.injEq,Prod.mk.injEq] at h'
    exact ⟨i,rfl,h'.1,h'.2.1,h'.2.2⟩
theorem ti1:(prog.info? 1).map (fun i=>(i.size,i.bytes,i.zero)) = some (1,8,some (.nilFunc)):=by kernel_rfl
theorem ti2:(prog.info? 2).map (fun i=>(i.size,i.bytes,i.zero)) = some (1,8,some (.int .i64 0)):=by kernel_rfl
theorem ti3:(prog.info? 3).map (fun i=>(i.size,i.bytes,i.zero)) = some (1,8,some (.int .i64 0)):=by kernel_rfl
theorem ti4:(prog.info? 4).map (fun i=>(i.size,i.bytes,i.zero)) = some (1,1,some (.bool false)):=by kernel_rfl
theorem ti5:(prog.info? 5).map (fun i=>(i.size,i.bytes,i.zero)) = some (1,1,some (.int .u8 0)):=by kernel_rfl
theorem ti6:(prog.info? 6).map (fun i=>(i.size,i.bytes,i.zero)) = some (1,1,some (.int .u8 0)):=by kernel_rfl
theorem ti7:(prog.info? 7).map (fun i=>(i.size,i.bytes,i.zero)) = some (4,24,some (.agg #[.int .i64 0,.int .i64 0,.bool false,.int .u8 0])):=by kernel_rfl
theorem ti8:(prog.info? 8).map (fun i=>(i.size,i.bytes,i.zero)) = some (4,24,some (.agg #[.int .i64 0,.int .i64 0,.bool false,.int .u8 0])):=by kernel_rfl
theorem ti9:(prog.info? 9).map (fun i=>(i.size,i.bytes,i.zero)) = some (1,16,some (.string ⟨#[]⟩)):=by kernel_rfl
theorem ti10:(prog.info? 10).map (fun i=>(i.size,i.bytes,i.zero)) = some (1,16,some (.string ⟨#[]⟩)):=by kernel_rfl
theorem ti11:(prog.info? 11).map (fun i=>(i.size,i.bytes,i.zero)) = some (1,16,some (.string ⟨#[]⟩)):=by kernel_rfl
theorem ti12:(prog.info? 12).map (fun i=>(i.size,i.bytes,i.zero)) = some (1,8,some (.int .u64 0)):=by kernel_rfl
theorem ti13:(prog.info? 13).map (fun i=>(i.size,i.bytes,i.zero)) = some (2,24,some (.agg #[.string ⟨#[]⟩,.int .u64 0])):=by kernel_rfl
theorem ti14:(prog.info? 14).map (fun i=>(i.size,i.bytes,i.zero)) = some (2,24,some (.agg #[.string ⟨#[]⟩,.int .u64 0])):=by kernel_rfl
theorem ti15:(prog.info? 15).map (fun i=>(i.size,i.bytes,i.zero)) = some (1,8,some (.pointer none)):=by kernel_rfl
theorem ti16:(prog.info? 16).map (fun i=>(i.size,i.bytes,i.zero)) = some (1,8,some (.pointer none)):=by kernel_rfl
theorem ti17:(prog.info? 17).map (fun i=>(i.size,i.bytes,i.zero)) = some (1,8,some (.pointer none)):=by kernel_rfl
theorem ti18:(prog.info? 18).map (fun i=>(i.size,i.bytes,i.zero)) = some (1,8,some (.agg #[.pointer none])):=by kernel_rfl
theorem ti19:(prog.info? 19).map (fun i=>(i.size,i.bytes,i.zero)) = some (1,8,some (.agg #[.pointer none])):=by kernel_rfl
theorem ti21:(prog.info? 21).map (fun i=>(i.size,i.bytes,i.zero)) = some (1,4,some (.int .i32 0)):=by kernel_rfl
theorem ti22:(prog.info? 22).map (fun i=>(i.size,i.bytes,i.zero)) = some (1,24,some (.slice none 0 0)):=by kernel_rfl
theorem ti23:(prog.info? 23).map (fun i=>(i.size,i.bytes,i.zero)) = some (1,8,some (.nilFunc)):=by kernel_rfl
theorem ti24:(prog.info? 24).map (fun i=>(i.size,i.bytes,i.zero)) = some (1,8,some (.complex .f32 0 0)):=by kernel_rfl
theorem ti25:(prog.info? 25).map (fun i=>(i.size,i.bytes,i.zero)) = some (3,24,some (.agg #[.complex .f32 0 0,.complex .f32 0 0,.complex .f32 0 0])):=by kernel_rfl
theorem ti26:(prog.info? 26).map (fun i=>(i.size,i.bytes,i.zero)) = some (3,24,some (.agg #[.complex .f32 0 0,.complex .f32 0 0,.complex .f32 0 0])):=by kernel_rfl
theorem ti27:(prog.info? 27).map (fun i=>(i.size,i.bytes,i.zero)) = some (1,24,some (.slice none 0 0)):=by kernel_rfl
theorem ti28:(prog.info? 28).map (fun i=>(i.size,i.bytes,i.zero)) = some (4,48,some (.agg #[.complex .f32 0 0,.complex .f32 0 0,.complex .f32 0 0,.slice none 0 0])):=by kernel_rfl
theorem ti29:(prog.info? 29).map (fun i=>(i.size,i.bytes,i.zero)) = some (4,48,some (.agg #[.complex .f32 0 0,.complex .f32 0 0,.complex .f32 0 0,.slice none 0 0])):=by kernel_rfl
theorem ti30:(prog.info? 30).map (fun i=>(i.size,i.bytes,i.zero)) = some (1,24,some (.slice none 0 0)):=by kernel_rfl
theorem ti31:(prog.info? 31).map (fun i=>(i.size,i.bytes,i.zero)) = some (5,72,some (.agg #[.complex .f32 0 0,.complex .f32 0 0,.complex .f32 0 0,.slice none 0 0,.slice none 0 0])):=by kernel_rfl
theorem ti32:(prog.info? 32).map (fun i=>(i.size,i.bytes,i.zero)) = some (5,72,some (.agg #[.complex .f32 0 0,.complex .f32 0 0,.complex .f32 0 0,.slice none 0 0,.slice none 0 0])):=by kernel_rfl
theorem ti33:(prog.info? 33).map (fun i=>(i.size,i.bytes,i.zero)) = some (1,8,some (.nilFunc)):=by kernel_rfl
theorem ti34:(prog.info? 34).map (fun i=>(i.size,i.bytes,i.zero)) = some (1,8,some (.nilFunc)):=by kernel_rfl
theorem ti35:(prog.info? 35).map (fun i=>(i.size,i.bytes,i.zero)) = some (1,8,some (.nilFunc)):=by kernel_rfl
theorem ti36:(prog.info? 36).map (fun i=>(i.size,i.bytes,i.zero)) = some (1,24,some (.slice none 0 0)):=by kernel_rfl
theorem ti38:(prog.info? 38).map (fun i=>(i.size,i.bytes,i.zero)) = some (1,8,some (.nilFunc)):=by kernel_rfl
theorem ti40:(prog.info? 40).map (fun i=>(i.size,i.bytes,i.zero)) = some (1,8,some (.nilFunc)):=by kernel_rfl
theorem ti42:(prog.info? 42).map (fun i=>(i.size,i.bytes,i.zero)) = some (1,8,some (.nilFunc)):=by kernel_rfl
theorem ti43:(prog.info? 43).map (fun i=>(i.size,i.bytes,i.zero)) = some (1,8,some (.nilFunc)):=by kernel_rfl
theorem ti44:(prog.info? 44).map (fun i=>(i.size,i.bytes,i.zero)) = some (1,8,some (.nilFunc)):=by kernel_rfl
theorem ti45:(prog.info? 45).map (fun i=>(i.size,i.bytes,i.zero)) = some (8,64,some (.agg #[.int .i64 0,.complex .f32 0 0,.complex .f32 0 0,.int .i64 0,.complex .f32 0 0,.complex .f32 0 0,.complex .f32 0 0,.int .i64 0])):=by kernel_rfl
theorem ti46:(prog.info? 46).map (fun i=>(i.size,i.bytes,i.zero)) = some (8,64,some (.agg #[.int .i64 0,.complex .f32 0 0,.complex .f32 0 0,.int .i64 0,.complex .f32 0 0,.complex .f32 0 0,.complex .f32 0 0,.int .i64 0])):=by kernel_rfl
theorem ti47:(prog.info? 47).map (fun i=>(i.size,i.bytes,i.zero)) = some (1,8,some (.nilFunc)):=by kernel_rfl
theorem ti48:(prog.info? 48).map (fun i=>(i.size,i.bytes,i.zero)) = some (1,8,some (.nilFunc)):=by kernel_rfl
theorem ti49:(prog.info? 49).map (fun i=>(i.size,i.bytes,i.zero)) = some (5,40,some (.agg #[.int .i64 0,.int .i64 0,.complex .f32 0 0,.complex .f32 0 0,.int .i64 0])):=by kernel_rfl
theorem ti50:(prog.info? 50).map (fun i=>(i.size,i.bytes,i.zero)) = some (5,40,some (.agg #[.int .i64 0,.int .i64 0,.complex .f32 0 0,.complex .f32 0 0,.int .i64 0])):=by kernel_rfl
theorem ti51:(prog.info? 51).map (fun i=>(i.size,i.bytes,i.zero)) = some (1,24,some (.slice none 0 0)):=by kernel_rfl
theorem ti52:(prog.info? 52).map (fun i=>(i.size,i.bytes,i.zero)) = some (4,64,some (.agg #[.slice none 0 0,.slice none 0 0,.int .i64 0,.bool false])):=by kernel_rfl
theorem ti53:(prog.info? 53).map (fun i=>(i.size,i.bytes,i.zero)) = some (4,64,some (.agg #[.slice none 0 0,.slice none 0 0,.int .i64 0,.bool false])):=by kernel_rfl
theorem ti55:(prog.info? 55).map (fun i=>(i.size,i.bytes,i.zero)) = some (1,8,some (.nilFunc)):=by kernel_rfl
theorem ti56:(prog.info? 56).map (fun i=>(i.size,i.bytes,i.zero)) = some (1,4,some (.float .f32 0)):=by kernel_rfl
theorem ti57:(prog.info? 57).map (fun i=>(i.size,i.bytes,i.zero)) = some (1,8,some (.nilFunc)):=by kernel_rfl
theorem ti60:(prog.info? 60).map (fun i=>(i.size,i.bytes,i.zero)) = some (1,8,some (.pointer none)):=by kernel_rfl
theorem ti61:(prog.info? 61).map (fun i=>(i.size,i.bytes,i.zero)) = some (1,8,some (.nilFunc)):=by kernel_rfl
theorem ti63:(prog.info? 63).map (fun i=>(i.size,i.bytes,i.zero)) = some (1,8,some (.nilFunc)):=by kernel_rfl
theorem ti64:(prog.info? 64).map (fun i=>(i.size,i.bytes,i.zero)) = some (1,8,some (.nilFunc)):=by kernel_rfl
theorem ti65:(prog.info? 65).map (fun i=>(i.size,i.bytes,i.zero)) = some (1,8,some (.nilFunc)):=by kernel_rfl
theorem ti66:(prog.info? 66).map (fun i=>(i.size,i.bytes,i.zero)) = some (1,8,some (.nilFunc)):=by kernel_rfl
theorem ti67:(prog.info? 67).map (fun i=>(i.size,i.bytes,i.zero)) = some (1,8,some (.int .u64 0)):=by kernel_rfl
theorem ti68:(prog.info? 68).map (fun i=>(i.size,i.bytes,i.zero)) = some (1,8,some (.nilFunc)):=by kernel_rfl
theorem ti69:(prog.info? 69).map (fun i=>(i.size,i.bytes,i.zero)) = some (1,8,some (.nilFunc)):=by kernel_rfl
theorem ti70:(prog.info? 70).map (fun i=>(i.size,i.bytes,i.zero)) = some (1,8,some (.nilFunc)):=by kernel_rfl
theorem ti72:(prog.info? 72).map (fun i=>(i.size,i.bytes,i.zero)) = some (1,8,some (.nilFunc)):=by kernel_rfl
theorem ti74:(prog.info? 74).map (fun i=>(i.size,i.bytes,i.zero)) = some (1,24,some (.slice none 0 0)):=by kernel_rfl
theorem ti77:(prog.info? 77).map (fun i=>(i.size,i.bytes,i.zero)) = some (3,24,some (.agg #[.int .i64 0,.complex .f32 0 0,.complex .f32 0 0])):=by kernel_rfl
theorem ti78:(prog.info? 78).map (fun i=>(i.size,i.bytes,i.zero)) = some (1,8,some (.nilFunc)):=by kernel_rfl
theorem ti80:(prog.info? 80).map (fun i=>(i.size,i.bytes,i.zero)) = some (1,8,some (.nilFunc)):=by kernel_rfl
theorem ti81:(prog.info? 81).map (fun i=>(i.size,i.bytes,i.zero)) = some (1,8,some (.nilFunc)):=by kernel_rfl
theorem ti86:(prog.info? 86).map (fun i=>(i.size,i.bytes,i.zero)) = some (1,8,some (.nilFunc)):=by kernel_rfl
theorem ti87:(prog.info? 87).map (fun i=>(i.size,i.bytes,i.zero)) = some (1,8,some (.nilFunc)):=by kernel_rfl
theorem ti88:(prog.info? 88).map (fun i=>(i.size,i.bytes,i.zero)) = some (1,8,some (.nilFunc)):=by kernel_rfl
theorem ti89:(prog.info? 89).map (fun i=>(i.size,i.bytes,i.zero)) = some (1,8,some (.int .u64 0)):=by kernel_rfl
theorem ti91:(prog.info? 91).map (fun i=>(i.size,i.bytes,i.zero)) = some (3,40,some (.agg #[.slice none 0 0,.int .i64 0,.int .u64 0])):=by kernel_rfl
theorem ti94:(prog.info? 94).map (fun i=>(i.size,i.bytes,i.zero)) = some (1,8,some (.nilFunc)):=by kernel_rfl
theorem ti95:(prog.info? 95).map (fun i=>(i.size,i.bytes,i.zero)) = some (1,8,some (.pointer none)):=by kernel_rfl
theorem ti96:(prog.info? 96).map (fun i=>(i.size,i.bytes,i.zero)) = some (1,8,some (.pointer none)):=by kernel_rfl
theorem ti98:(prog.info? 98).map (fun i=>(i.size,i.bytes,i.zero)) = some (1,24,some (.slice none 0 0)):=by kernel_rfl
theorem ti101:(prog.info? 101).map (fun i=>(i.size,i.bytes,i.zero)) = some (1,8,some (.nilFunc)):=by kernel_rfl
theorem ti102:(prog.info? 102).map (fun i=>(i.size,i.bytes,i.zero)) = some (1,4,some (.int .u32 0)):=by kernel_rfl
theorem ti103:(prog.info? 103).map (fun i=>(i.size,i.bytes,i.zero)) = some (1,8,some (.nilFunc)):=by kernel_rfl
theorem ti104:(prog.info? 104).map (fun i=>(i.size,i.bytes,i.zero)) = some (1,8,some (.pointer none)):=by kernel_rfl
theorem ti106:(prog.info? 106).map (fun i=>(i.size,i.bytes,i.zero)) = some (1,8,some (.nilFunc)):=by kernel_rfl
theorem ti107:(prog.info? 107).map (fun i=>(i.size,i.bytes,i.zero)) = some (1,8,some (.nilFunc)):=by kernel_rfl
theorem ti109:(prog.info? 109).map (fun i=>(i.size,i.bytes,i.zero)) = some (3,24,some (.agg #[.complex .f32 0 0,.complex .f32 0 0,.complex .f32 0 0])):=by kernel_rfl
theorem ti112:(prog.info? 112).map (fun i=>(i.size,i.bytes,i.zero)) = some (1,8,some (.nilFunc)):=by kernel_rfl
theorem ti116:(prog.info? 116).map (fun i=>(i.size,i.bytes,i.zero)) = some (1,8,some (.nilFunc)):=by kernel_rfl
theorem ti123:(prog.info? 123).map (fun i=>(i.size,i.bytes,i.zero)) = some (1,8,some (.nilFunc)):=by kernel_rfl
theorem ti124:(prog.info? 124).map (fun i=>(i.size,i.bytes,i.zero)) = some (1,8,some (.float .f64 0)):=by kernel_rfl
theorem ti130:(prog.info? 130).map (fun i=>(i.size,i.bytes,i.zero)) = some (64,64,some (.agg #[.int .u8 0,.int .u8 0,.int .u8 0,.int .u8 0,.int .u8 0,.int .u8 0,.int .u8 0,.int .u8 0,.int .u8 0,.int .u8 0,.int .u8 0,.int .u8 0,.int .u8 0,.int .u8 0,.int .u8 0,.int .u8 0,.int .u8 0,.int .u8 0,.int .u8 0,.int .u8 0,.int .u8 0,.int .u8 0,.int .u8 0,.int .u8 0,.int .u8 0,.int .u8 0,.int .u8 0,.int .u8 0,.int .u8 0,.int .u8 0,.int .u8 0,.int .u8 0,.int .u8 0,.int .u8 0,.int .u8 0,.int .u8 0,.int .u8 0,.int .u8 0,.int .u8 0,.int .u8 0,.int .u8 0,.int .u8 0,.int .u8 0,.int .u8 0,.int .u8 0,.int .u8 0,.int .u8 0,.int .u8 0,.int .u8 0,.int .u8 0,.int .u8 0,.int .u8 0,.int .u8 0,.int .u8 0,.int .u8 0,.int .u8 0,.int .u8 0,.int .u8 0,.int .u8 0,.int .u8 0,.int .u8 0,.int .u8 0,.int .u8 0,.int .u8 0])):=by kernel_rfl
theorem ti138:(prog.info? 138).map (fun i=>(i.size,i.bytes,i.zero)) = some (1,8,some (.nilFunc)):=by kernel_rfl
theorem ti142:(prog.info? 142).map (fun i=>(i.size,i.bytes,i.zero)) = some (1,16,some (.complex .f64 0 0)):=by kernel_rfl
theorem ti144:(prog.info? 144).map (fun i=>(i.size,i.bytes,i.zero)) = some (1,8,some (.nilFunc)):=by kernel_rfl
theorem ti153:(prog.info? 153).map (fun i=>(i.size,i.bytes,i.zero)) = some (4,40,some (.agg #[.pointer none,.pointer none,.pointer none,.string ⟨#[]⟩])):=by kernel_rfl
theorem ti158:(prog.info? 158).map (fun i=>(i.size,i.bytes,i.zero)) = some (1,1,some (.int .u8 0)):=by kernel_rfl
theorem ti159:(prog.info? 159).map (fun i=>(i.size,i.bytes,i.zero)) = some (1,1,some (.int .u8 0)):=by kernel_rfl
theorem ti160:(prog.info? 160).map (fun i=>(i.size,i.bytes,i.zero)) = some (1,8,some (.nilFunc)):=by kernel_rfl
theorem ti161:(prog.info? 161).map (fun i=>(i.size,i.bytes,i.zero)) = some (1,8,some (.pointer none)):=by kernel_rfl
theorem ti162:(prog.info? 162).map (fun i=>(i.size,i.bytes,i.zero)) = some (1,4,some (.int .i32 0)):=by kernel_rfl
theorem ti163:(prog.info? 163).map (fun i=>(i.size,i.bytes,i.zero)) = some (1,4,some (.int .i32 0)):=by kernel_rfl
theorem ti165:(prog.info? 165).map (fun i=>(i.size,i.bytes,i.zero)) = some (11,48,some (.agg #[.int .u64 0,.int .u64 0,.int .u32 0,.int .u8 0,.int .u8 0,.int .u8 0,.int .u8 0,.nilFunc,.pointer none,.int .i32 0,.int .i32 0])):=by kernel_rfl
def td1:TD:=⟨(TypeDesc.func #[] #[] false),1,8,.nilFunc⟩
def td2:TD:=⟨(TypeDesc.int IntKind.i64),1,8,.int .i64 0⟩
def td3:TD:=⟨(TypeDesc.int IntKind.i64),1,8,.int .i64 0⟩
def td4:TD:=⟨TypeDesc.bool,1,1,.bool false⟩
def td5:TD:=⟨(TypeDesc.int IntKind.u8),1,1,.int .u8 0⟩
def td6:TD:=⟨(TypeDesc.int IntKind.u8),1,1,.int .u8 0⟩
def td7:TD:=⟨(TypeDesc.struct #[{ name:= "x",type:=2,offset:=0,embedded:=false,tag:= "",pkgPath:= "runtime",byteOffset:=0 },{ name:= "y",type:=3,offset:=1,embedded:=false,tag:= "",pkgPath:= "runtime",byteOffset:=8 },{ name:= "signed",type:=4,offset:=2,embedded:=false,tag:= "",pkgPath:= "runtime",byteOffset:=16 },{ name:= "code",type:=6,offset:=3,embedded:=false,tag:= "",pkgPath:= "runtime",byteOffset:=17 }]),4,24,.agg #[.int .i64 0,.int .i64 0,.bool false,.int .u8 0]⟩
def td8:TD:=⟨(TypeDesc.struct #[{ name:= "x",type:=2,offset:=0,embedded:=false,tag:= "",pkgPath:= "runtime",byteOffset:=0 },{ name:= "y",type:=3,offset:=1,embedded:=false,tag:= "",pkgPath:= "runtime",byteOffset:=8 },{ name:= "signed",type:=4,offset:=2,embedded:=false,tag:= "",pkgPath:= "runtime",byteOffset:=16 },{ name:= "code",type:=6,offset:=3,embedded:=false,tag:= "",pkgPath:= "runtime",byteOffset:=17 }]),4,24,.agg #[.int .i64 0,.int .i64 0,.bool false,.int .u8 0]⟩
def td9:TD:=⟨TypeDesc.string,1,16,.string ⟨#[]⟩⟩
def td10:TD:=⟨TypeDesc.string,1,16,.string ⟨#[]⟩⟩
def td11:TD:=⟨TypeDesc.string,1,16,.string ⟨#[]⟩⟩
def td12:TD:=⟨(TypeDesc.int IntKind.u64),1,8,.int .u64 0⟩
def td13:TD:=⟨(TypeDesc.struct #[{ name:= "msg",type:=9,offset:=0,embedded:=false,tag:= "",pkgPath:= "runtime",byteOffset:=0 },{ name:= "addr",type:=12,offset:=1,embedded:=false,tag:= "",pkgPath:= "runtime",byteOffset:=16 }]),2,24,.agg #[.string ⟨#[]⟩,.int .u64 0]⟩
def td14:TD:=⟨(TypeDesc.struct #[{ name:= "msg",type:=9,offset:=0,embedded:=false,tag:= "",pkgPath:= "runtime",byteOffset:=0 },{ name:= "addr",type:=12,offset:=1,embedded:=false,tag:= "",pkgPath:= "runtime",byteOffset:=16 }]),2,24,.agg #[.string ⟨#[]⟩,.int .u64 0]⟩
def td15:TD:=⟨(TypeDesc.pointer 153),1,8,.pointer none⟩
def td16:TD:=⟨(TypeDesc.pointer 156),1,8,.pointer none⟩
def td17:TD:=⟨(TypeDesc.pointer 165),1,8,.pointer none⟩
def td18:TD:=⟨(TypeDesc.struct #[{ name:= "typ",type:=17,offset:=0,embedded:=false,tag:= "",pkgPath:= "internal/runtime/maps",byteOffset:=0 }]),1,8,.agg #[.pointer none]⟩
def td19:TD:=⟨(TypeDesc.struct #[{ name:= "typ",type:=17,offset:=0,embedded:=false,tag:= "",pkgPath:= "internal/runtime/maps",byteOffset:=0 }]),1,8,.agg #[.pointer none]⟩
def td21:TD:=⟨(TypeDesc.int IntKind.i32),1,4,.int .i32 0⟩
def td22:TD:=⟨(TypeDesc.slice 5),1,24,.slice none 0 0⟩
def td23:TD:=⟨(TypeDesc.func #[22,22] #[4] false),1,8,.nilFunc⟩
def td24:TD:=⟨(TypeDesc.complex FloatKind.f32),1,8,.complex .f32 0 0⟩
def td25:TD:=⟨(TypeDesc.struct #[{ name:= "A",type:=24,offset:=0,embedded:=false,tag:= "",pkgPath:= "",byteOffset:=0 },{ name:= "B",type:=24,offset:=1,embedded:=false,tag:= "",pkgPath:= "",byteOffset:=8 },{ name:= "C",type:=24,offset:=2,embedded:=false,tag:= "",pkgPath:= "",byteOffset:=16 }]),3,24,.agg #[.complex .f32 0 0,.complex .f32 0 0,.complex .f32 0 0]⟩
def td26:TD:=⟨(TypeDesc.struct #[{ name:= "A",type:=24,offset:=0,embedded:=false,tag:= "",pkgPath:= "",byteOffset:=0 },{ name:= "B",type:=24,offset:=1,embedded:=false,tag:= "",pkgPath:= "",byteOffset:=8 },{ name:= "C",type:=24,offset:=2,embedded:=false,tag:= "",pkgPath:= "",byteOffset:=16 }]),3,24,.agg #[.complex .f32 0 0,.complex .f32 0 0,.complex .f32 0 0]⟩
def td27:TD:=⟨(TypeDesc.slice 46),1,24,.slice none 0 0⟩
def td28:TD:=⟨(TypeDesc.struct #[{ name:= "Source",type:=26,offset:=0,embedded:=false,tag:= "",pkgPath:= "",byteOffset:=0 },{ name:= "Buses",type:=27,offset:=3,embedded:=false,tag:= "",pkgPath:= "",byteOffset:=24 }]),4,48,.agg #[.complex .f32 0 0,.complex .f32 0 0,.complex .f32 0 0,.slice none 0 0]⟩
def td29:TD:=⟨(TypeDesc.struct #[{ name:= "Source",type:=26,offset:=0,embedded:=false,tag:= "",pkgPath:= "",byteOffset:=0 },{ name:= "Buses",type:=27,offset:=3,embedded:=false,tag:= "",pkgPath:= "",byteOffset:=24 }]),4,48,.agg #[.complex .f32 0 0,.complex .f32 0 0,.complex .f32 0 0,.slice none 0 0]⟩
def td30:TD:=⟨(TypeDesc.slice 50),1,24,.slice none 0 0⟩
def td31:TD:=⟨(TypeDesc.struct #[{ name:= "Feeder",type:=29,offset:=0,embedded:=false,tag:= "",pkgPath:= "",byteOffset:=0 },{ name:= "Ties",type:=30,offset:=4,embedded:=false,tag:= "",pkgPath:= "",byteOffset:=48 }]),5,72,.agg #[.complex .f32 0 0,.complex .f32 0 0,.complex .f32 0 0,.slice none 0 0,.slice none 0 0]⟩
def td32:TD:=⟨(TypeDesc.struct #[{ name:= "Feeder",type:=29,offset:=0,embedded:=false,tag:= "",pkgPath:= "",byteOffset:=0 },{ name:= "Ties",type:=30,offset:=4,embedded:=false,tag:= "",pkgPath:= "",byteOffset:=48 }]),5,72,.agg #[.complex .f32 0 0,.complex .f32 0 0,.complex .f32 0 0,.slice none 0 0,.slice none 0 0]⟩
def td33:TD:=⟨(TypeDesc.func #[22] #[32] false),1,8,.nilFunc⟩
def td34:TD:=⟨(TypeDesc.func #[32] #[4] false),1,8,.nilFunc⟩
def td35:TD:=⟨(TypeDesc.func #[22,2,2] #[2] false),1,8,.nilFunc⟩
def td36:TD:=⟨(TypeDesc.slice 2),1,24,.slice none 0 0⟩
def td38:TD:=⟨(TypeDesc.func #[32,2] #[36,2,4] false),1,8,.nilFunc⟩
def td40:TD:=⟨(TypeDesc.func #[32,2,36] #[29,36,4] false),1,8,.nilFunc⟩
def td42:TD:=⟨(TypeDesc.func #[32,2,36] #[36,4] false),1,8,.nilFunc⟩
def td43:TD:=⟨(TypeDesc.func #[29] #[4] false),1,8,.nilFunc⟩
def td44:TD:=⟨(TypeDesc.func #[36,2] #[4] false),1,8,.nilFunc⟩
def td45:TD:=⟨(TypeDesc.struct #[{ name:= "Parent",type:=2,offset:=0,embedded:=false,tag:= "",pkgPath:= "",byteOffset:=0 },{ name:= "Own",type:=24,offset:=1,embedded:=false,tag:= "",pkgPath:= "",byteOffset:=8 },{ name:= "Shared",type:=24,offset:=2,embedded:=false,tag:= "",pkgPath:= "",byteOffset:=16 },{ name:= "Kind",type:=2,offset:=3,embedded:=false,tag:= "",pkgPath:= "",byteOffset:=24 },{ name:= "Load",type:=26,offset:=4,embedded:=false,tag:= "",pkgPath:= "",byteOffset:=32 },{ name:= "Customers",type:=2,offset:=7,embedded:=false,tag:= "",pkgPath:= "",byteOffset:=56 }]),8,64,.agg #[.int .i64 0,.complex .f32 0 0,.complex .f32 0 0,.int .i64 0,.complex .f32 0 0,.complex .f32 0 0,.complex .f32 0 0,.int .i64 0]⟩
def td46:TD:=⟨(TypeDesc.struct #[{ name:= "Parent",type:=2,offset:=0,embedded:=false,tag:= "",pkgPath:= "",byteOffset:=0 },{ name:= "Own",type:=24,offset:=1,embedded:=false,tag:= "",pkgPath:= "",byteOffset:=8 },{ name:= "Shared",type:=24,offset:=2,embedded:=false,tag:= "",pkgPath:= "",byteOffset:=16 },{ name:= "Kind",type:=2,offset:=3,embedded:=false,tag:= "",pkgPath:= "",byteOffset:=24 },{ name:= "Load",type:=26,offset:=4,embedded:=false,tag:= "",pkgPath:= "",byteOffset:=32 },{ name:= "Customers",type:=2,offset:=7,embedded:=false,tag:= "",pkgPath:= "",byteOffset:=56 }]),8,64,.agg #[.int .i64 0,.complex .f32 0 0,.complex .f32 0 0,.int .i64 0,.complex .f32 0 0,.complex .f32 0 0,.complex .f32 0 0,.int .i64 0]⟩
def td47:TD:=⟨(TypeDesc.func #[26,26] #[4] false),1,8,.nilFunc⟩
def td48:TD:=⟨(TypeDesc.func #[24,24] #[4] false),1,8,.nilFunc⟩
def td49:TD:=⟨(TypeDesc.struct #[{ name:= "A",type:=2,offset:=0,embedded:=false,tag:= "",pkgPath:= "",byteOffset:=0 },{ name:= "B",type:=2,offset:=1,embedded:=false,tag:= "",pkgPath:= "",byteOffset:=8 },{ name:= "Own",type:=24,offset:=2,embedded:=false,tag:= "",pkgPath:= "",byteOffset:=16 },{ name:= "Shared",type:=24,offset:=3,embedded:=false,tag:= "",pkgPath:= "",byteOffset:=24 },{ name:= "Most",type:=2,offset:=4,embedded:=false,tag:= "",pkgPath:= "",byteOffset:=32 }]),5,40,.agg #[.int .i64 0,.int .i64 0,.complex .f32 0 0,.complex .f32 0 0,.int .i64 0]⟩
def td50:TD:=⟨(TypeDesc.struct #[{ name:= "A",type:=2,offset:=0,embedded:=false,tag:= "",pkgPath:= "",byteOffset:=0 },{ name:= "B",type:=2,offset:=1,embedded:=false,tag:= "",pkgPath:= "",byteOffset:=8 },{ name:= "Own",type:=24,offset:=2,embedded:=false,tag:= "",pkgPath:= "",byteOffset:=16 },{ name:= "Shared",type:=24,offset:=3,embedded:=false,tag:= "",pkgPath:= "",byteOffset:=24 },{ name:= "Most",type:=2,offset:=4,embedded:=false,tag:= "",pkgPath:= "",byteOffset:=32 }]),5,40,.agg #[.int .i64 0,.int .i64 0,.complex .f32 0 0,.complex .f32 0 0,.int .i64 0]⟩
def td51:TD:=⟨(TypeDesc.slice 26),1,24,.slice none 0 0⟩
def td52:TD:=⟨(TypeDesc.struct #[{ name:= "Voltages",type:=51,offset:=0,embedded:=false,tag:= "",pkgPath:= "",byteOffset:=0 },{ name:= "Currents",type:=51,offset:=1,embedded:=false,tag:= "",pkgPath:= "",byteOffset:=24 },{ name:= "Rounds",type:=2,offset:=2,embedded:=false,tag:= "",pkgPath:= "",byteOffset:=48 },{ name:= "Rests",type:=4,offset:=3,embedded:=false,tag:= "",pkgPath:= "",byteOffset:=56 }]),4,64,.agg #[.slice none 0 0,.slice none 0 0,.int .i64 0,.bool false]⟩
def td53:TD:=⟨(TypeDesc.struct #[{ name:= "Voltages",type:=51,offset:=0,embedded:=false,tag:= "",pkgPath:= "",byteOffset:=0 },{ name:= "Currents",type:=51,offset:=1,embedded:=false,tag:= "",pkgPath:= "",byteOffset:=24 },{ name:= "Rounds",type:=2,offset:=2,embedded:=false,tag:= "",pkgPath:= "",byteOffset:=48 },{ name:= "Rests",type:=4,offset:=3,embedded:=false,tag:= "",pkgPath:= "",byteOffset:=56 }]),4,64,.agg #[.slice none 0 0,.slice none 0 0,.int .i64 0,.bool false]⟩
def td55:TD:=⟨(TypeDesc.func #[29,2,56] #[53,4] false),1,8,.nilFunc⟩
def td56:TD:=⟨(TypeDesc.float FloatKind.f32),1,4,.float .f32 0⟩
def td57:TD:=⟨(TypeDesc.func #[32] #[36,4] false),1,8,.nilFunc⟩
def td60:TD:=⟨(TypeDesc.pointer 91),1,8,.pointer none⟩
def td61:TD:=⟨(TypeDesc.func #[22] #[60] false),1,8,.nilFunc⟩
def td63:TD:=⟨(TypeDesc.func #[30,65] #[4] false),1,8,.nilFunc⟩
def td64:TD:=⟨(TypeDesc.func #[2] #[4] false),1,8,.nilFunc⟩
def td65:TD:=⟨(TypeDesc.func #[50] #[4] false),1,8,.nilFunc⟩
def td66:TD:=⟨(TypeDesc.func #[2,36] #[2] false),1,8,.nilFunc⟩
def td67:TD:=⟨(TypeDesc.int IntKind.u64),1,8,.int .u64 0⟩
def td68:TD:=⟨(TypeDesc.func #[67] #[36] false),1,8,.nilFunc⟩
def td69:TD:=⟨(TypeDesc.func #[32,2,36] #[4] false),1,8,.nilFunc⟩
def td70:TD:=⟨(TypeDesc.func #[98] #[3] true),1,8,.nilFunc⟩
def td72:TD:=⟨(TypeDesc.func #[3,3] #[3] false),1,8,.nilFunc⟩
def td74:TD:=⟨(TypeDesc.slice 77),1,24,.slice none 0 0⟩
def td77:TD:=⟨(TypeDesc.struct #[{ name:= "bus",type:=2,offset:=0,embedded:=false,tag:= "",pkgPath:= "loop.example/g01212/impl",byteOffset:=0 },{ name:= "own",type:=24,offset:=1,embedded:=false,tag:= "",pkgPath:= "loop.example/g01212/impl",byteOffset:=8 },{ name:= "shared",type:=24,offset:=2,embedded:=false,tag:= "",pkgPath:= "loop.example/g01212/impl",byteOffset:=16 }]),3,24,.agg #[.int .i64 0,.complex .f32 0 0,.complex .f32 0 0]⟩
def td78:TD:=⟨(TypeDesc.func #[2,36] #[4] false),1,8,.nilFunc⟩
def td80:TD:=⟨(TypeDesc.func #[2,2,2] #[4] false),1,8,.nilFunc⟩
def td81:TD:=⟨(TypeDesc.func #[56,56] #[4] false),1,8,.nilFunc⟩
def td86:TD:=⟨(TypeDesc.func #[51,51] #[56] false),1,8,.nilFunc⟩
def td87:TD:=⟨(TypeDesc.func #[36] #[2] false),1,8,.nilFunc⟩
def td88:TD:=⟨(TypeDesc.func #[2] #[36] false),1,8,.nilFunc⟩
def td89:TD:=⟨(TypeDesc.int IntKind.u64),1,8,.int .u64 0⟩
def td91:TD:=⟨(TypeDesc.struct #[{ name:= "code",type:=22,offset:=0,embedded:=false,tag:= "",pkgPath:= "loop.example/g01212/spec",byteOffset:=0 },{ name:= "at",type:=3,offset:=1,embedded:=false,tag:= "",pkgPath:= "loop.example/g01212/spec",byteOffset:=24 },{ name:= "seed",type:=89,offset:=2,embedded:=false,tag:= "",pkgPath:= "loop.example/g01212/spec",byteOffset:=32 }]),3,40,.agg #[.slice none 0 0,.int .i64 0,.int .u64 0]⟩
def td94:TD:=⟨(TypeDesc.func #[30,65] #[3] false),1,8,.nilFunc⟩
def td95:TD:=⟨(TypeDesc.pointer 50),1,8,.pointer none⟩
def td96:TD:=⟨(TypeDesc.pointer 32),1,8,.pointer none⟩
def td98:TD:=⟨(TypeDesc.slice 3),1,24,.slice none 0 0⟩
def td101:TD:=⟨(TypeDesc.func #[2,2] #[] false),1,8,.nilFunc⟩
def td102:TD:=⟨(TypeDesc.int IntKind.u32),1,4,.int .u32 0⟩
def td103:TD:=⟨(TypeDesc.func #[56] #[102] false),1,8,.nilFunc⟩
def td104:TD:=⟨(TypeDesc.pointer 29),1,8,.pointer none⟩
def td106:TD:=⟨(TypeDesc.func #[3,26] #[26] false),1,8,.nilFunc⟩
def td107:TD:=⟨(TypeDesc.func #[51,106] #[51] false),1,8,.nilFunc⟩
def td109:TD:=⟨(TypeDesc.array 3 24),3,24,.agg #[.complex .f32 0 0,.complex .f32 0 0,.complex .f32 0 0]⟩
def td112:TD:=⟨(TypeDesc.func #[24] #[56] false),1,8,.nilFunc⟩
def td116:TD:=⟨(TypeDesc.func #[102] #[3] false),1,8,.nilFunc⟩
def td123:TD:=⟨(TypeDesc.func #[24,24] #[24] false),1,8,.nilFunc⟩
def td124:TD:=⟨(TypeDesc.float FloatKind.f64),1,8,.float .f64 0⟩
def td130:TD:=⟨(TypeDesc.array 64 5),64,64,.agg #[.int .u8 0,.int .u8 0,.int .u8 0,.int .u8 0,.int .u8 0,.int .u8 0,.int .u8 0,.int .u8 0,.int .u8 0,.int .u8 0,.int .u8 0,.int .u8 0,.int .u8 0,.int .u8 0,.int .u8 0,.int .u8 0,.int .u8 0,.int .u8 0,.int .u8 0,.int .u8 0,.int .u8 0,.int .u8 0,.int .u8 0,.int .u8 0,.int .u8 0,.int .u8 0,.int .u8 0,.int .u8 0,.int .u8 0,.int .u8 0,.int .u8 0,.int .u8 0,.int .u8 0,.int .u8 0,.int .u8 0,.int .u8 0,.int .u8 0,.int .u8 0,.int .u8 0,.int .u8 0,.int .u8 0,.int .u8 0,.int .u8 0,.int .u8 0,.int .u8 0,.int .u8 0,.int .u8 0,.int .u8 0,.int .u8 0,.int .u8 0,.int .u8 0,.int .u8 0,.int .u8 0,.int .u8 0,.int .u8 0,.int .u8 0,.int .u8 0,.int .u8 0,.int .u8 0,.int .u8 0,.int .u8 0,.int .u8 0,.int .u8 0,.int .u8 0]⟩
def td138:TD:=⟨(TypeDesc.func #[24,24,24] #[24] false),1,8,.nilFunc⟩
def td142:TD:=⟨(TypeDesc.complex FloatKind.f64),1,16,.complex .f64 0 0⟩
def td144:TD:=⟨(TypeDesc.func #[24] #[142] false),1,8,.nilFunc⟩
def td153:TD:=⟨(TypeDesc.struct #[{ name:= "_interface",type:=17,offset:=0,embedded:=false,tag:= "",pkgPath:= "runtime",byteOffset:=0 },{ name:= "concrete",type:=17,offset:=1,embedded:=false,tag:= "",pkgPath:= "runtime",byteOffset:=8 },{ name:= "asserted",type:=17,offset:=2,embedded:=false,tag:= "",pkgPath:= "runtime",byteOffset:=16 },{ name:= "missingMethod",type:=9,offset:=3,embedded:=false,tag:= "",pkgPath:= "runtime",byteOffset:=24 }]),4,40,.agg #[.pointer none,.pointer none,.pointer none,.string ⟨#[]⟩]⟩
def td158:TD:=⟨(TypeDesc.int IntKind.u8),1,1,.int .u8 0⟩
def td159:TD:=⟨(TypeDesc.int IntKind.u8),1,1,.int .u8 0⟩
def td160:TD:=⟨(TypeDesc.func #[167,167] #[4] false),1,8,.nilFunc⟩
def td161:TD:=⟨(TypeDesc.pointer 5),1,8,.pointer none⟩
def td162:TD:=⟨(TypeDesc.int IntKind.i32),1,4,.int .i32 0⟩
def td163:TD:=⟨(TypeDesc.int IntKind.i32),1,4,.int .i32 0⟩
def td165:TD:=⟨(TypeDesc.struct #[{ name:= "Size_",type:=12,offset:=0,embedded:=false,tag:= "",pkgPath:= "",byteOffset:=0 },{ name:= "PtrBytes",type:=12,offset:=1,embedded:=false,tag:= "",pkgPath:= "",byteOffset:=8 },{ name:= "Hash",type:=102,offset:=2,embedded:=false,tag:= "",pkgPath:= "",byteOffset:=16 },{ name:= "TFlag",type:=158,offset:=3,embedded:=false,tag:= "",pkgPath:= "",byteOffset:=20 },{ name:= "Align_",type:=5,offset:=4,embedded:=false,tag:= "",pkgPath:= "",byteOffset:=21 },{ name:= "FieldAlign_",type:=5,offset:=5,embedded:=false,tag:= "",pkgPath:= "",byteOffset:=22 },{ name:= "Kind_",type:=159,offset:=6,embedded:=false,tag:= "",pkgPath:= "",byteOffset:=23 },{ name:= "Equal",type:=160,offset:=7,embedded:=false,tag:= "",pkgPath:= "",byteOffset:=24 },{ name:= "GCData",type:=161,offset:=8,embedded:=false,tag:= "",pkgPath:= "",byteOffset:=32 },{ name:= "Str",type:=162,offset:=9,embedded:=false,tag:= "",pkgPath:= "",byteOffset:=40 },{ name:= "PtrToThis",type:=163,offset:=10,embedded:=false,tag:= "",pkgPath:= "",byteOffset:=44 }]),11,48,.agg #[.int .u64 0,.int .u64 0,.int .u32 0,.int .u8 0,.int .u8 0,.int .u8 0,.int .u8 0,.nilFunc,.pointer none,.int .i32 0,.int .i32 0]⟩
inductive TT where
  | leaf
  | node (k:Nat) (v:TD) (l r:TT)
def qvx:TT→TypeId→Option TD
  | .leaf,_=>none
  | .node k v l r,t=>bif Nat.beq t k then some v else bif Nat.ble t k then qvx l t else qvx r t
def allT:TT→Prop
  | .leaf=>True
  | .node k v l r=>TiOk k v∧allT l∧allT r
theorem qsa:∀ {x:TT},allT x→qfd prog (qvx x)
  | .leaf,_=>fun t td h=>by cases h
  | .node k v l r,h=>fun t td ht=>by
    unfold qvx at ht
    cases hk:Nat.beq t k with
    | true =>
      rw [hk] at ht
      simp only [cond_true,Option.some.injEq] at ht
      subst ht
      rw [Nat.eq_of_beq_eq_true hk]
      have h1:=h.1
      unfold TiOk at h1
      exact h1
    | false =>
      rw [hk] at ht
      cases hl:Nat.ble t k with
      | true=>rw [hl] at ht;exact qsa h.2.1 t td ht
      | false=>rw [hl] at ht;exact qsa h.2.2 t td ht
def tabT:TT:=(.node 56 td56 (.node 27 td27 (.node 13 td13 (.node 7 td7 (.node 4 td4 (.node 2 td2 (.node 1 td1 .leaf .leaf) (.node 3 td3 .leaf .leaf)) (.node 6 td6 (.node 5 td5 .leaf .leaf) .leaf)) (.node 10 td10 (.node 9 td9 (.node 8 td8 .leaf .leaf) .leaf) (.node 12 td12 (.node 11 td11 .leaf .leaf) .leaf))) (.node 21 td21 (.node 17 td17 (.node 15 td15 (.node 14 td14 .leaf .leaf) (.node 16 td16 .leaf .leaf)) (.node 19 td19 (.node 18 td18 .leaf .leaf) .leaf)) (.node 24 td24 (.node 23 td23 (.node 22 td22 .leaf .leaf) .leaf) (.node 26 td26 (.node 25 td25 .leaf .leaf) .leaf)))) (.node 43 td43 (.node 34 td34 (.node 31 td31 (.node 29 td29 (.node 28 td28 .leaf .leaf) (.node 30 td30 .leaf .leaf)) (.node 33 td33 (.node 32 td32 .leaf .leaf) .leaf)) (.node 38 td38 (.node 36 td36 (.node 35 td35 .leaf .leaf) .leaf) (.node 42 td42 (.node 40 td40 .leaf .leaf) .leaf))) (.node 49 td49 (.node 46 td46 (.node 45 td45 (.node 44 td44 .leaf .leaf) .leaf) (.node 48 td48 (.node 47 td47 .leaf .leaf) .leaf)) (.node 52 td52 (.node 51 td51 (.node 50 td50 .leaf .leaf) .leaf) (.node 55 td55 (.node 53 td53 .leaf .leaf) .leaf))))) (.node 96 td96 (.node 74 td74 (.node 66 td66 (.node 63 td63 (.node 60 td60 (.node 57 td57 .leaf .leaf) (.node 61 td61 .leaf .leaf)) (.node 65 td65 (.node 64 td64 .leaf .leaf) .leaf)) (.node 69 td69 (.node 68 td68 (.node 67 td67 .leaf .leaf) .leaf) (.node 72 td72 (.node 70 td70 .leaf .leaf) .leaf))) (.node 87 td87 (.node 80 td80 (.node 78 td78 (.node 77 td77 .leaf .leaf) .leaf) (.node 86 td86 (.node 81 td81 .leaf .leaf) .leaf)) (.node 91 td91 (.node 89 td89 (.node 88 td88 .leaf .leaf) .leaf) (.node 95 td95 (.node 94 td94 .leaf .leaf) .leaf)))) (.node 130 td130 (.node 107 td107 (.node 103 td103 (.node 101 td101 (.node 98 td98 .leaf .leaf) (.node 102 td102 .leaf .leaf)) (.node 106 td106 (.node 104 td104 .leaf .leaf) .leaf)) (.node 116 td116 (.node 112 td112 (.node 109 td109 .leaf .leaf) .leaf) (.node 124 td124 (.node 123 td123 .leaf .leaf) .leaf))) (.node 159 td159 (.node 144 td144 (.node 142 td142 (.node 138 td138 .leaf .leaf) .leaf) (.node 158 td158 (.node 153 td153 .leaf .leaf) .leaf)) (.node 162 td162 (.node 161 td161 (.node 160 td160 .leaf .leaf) .leaf) (.node 165 td165 (.node 163 td163 .leaf .leaf) .leaf))))))
abbrev tab:Tab:=qvx tabT
theorem hτ:qfd prog tab:=qsa (show allT tabT from ⟨tiOk underlying56 ti56,⟨tiOk underlying27 ti27,⟨tiOk underlying13 ti13,⟨tiOk underlying7 ti7,⟨tiOk underlying4 ti4,⟨tiOk underlying2 ti2,⟨tiOk underlying1 ti1,trivial,trivial⟩,⟨tiOk underlying3 ti3,trivial,trivial⟩⟩,⟨tiOk underlying6 ti6,⟨tiOk underlying5 ti5,trivial,trivial⟩,trivial⟩⟩,⟨tiOk underlying10 ti10,⟨tiOk underlying9 ti9,⟨tiOk underlying8 ti8,trivial,trivial⟩,trivial⟩,⟨tiOk underlying12 ti12,⟨tiOk underlying11 ti11,trivial,trivial⟩,trivial⟩⟩⟩,⟨tiOk underlying21 ti21,⟨tiOk underlying17 ti17,⟨tiOk underlying15 ti15,⟨tiOk underlying14 ti14,trivial,trivial⟩,⟨tiOk underlying16 ti16,trivial,trivial⟩⟩,⟨tiOk underlying19 ti19,⟨tiOk underlying18 ti18,trivial,trivial⟩,trivial⟩⟩,⟨tiOk underlying24 ti24,⟨tiOk underlying23 ti23,⟨tiOk underlying22 ti22,trivial,trivial⟩,trivial⟩,⟨tiOk underlying26 ti26,⟨tiOk underlying25 ti25,trivial,trivial⟩,trivial⟩⟩⟩⟩,⟨tiOk underlying43 ti43,⟨tiOk underlying34 ti34,⟨tiOk underlying31 ti31,⟨tiOk underlying29 ti29,⟨tiOk underlying28 ti28,trivial,trivial⟩,⟨tiOk underlying30 ti30,trivial,trivial⟩⟩,⟨tiOk underlying33 ti33,⟨tiOk underlying32 ti32,trivial,trivial⟩,trivial⟩⟩,⟨tiOk underlying38 ti38,⟨tiOk underlying36 ti36,⟨tiOk underlying35 ti35,trivial,trivial⟩,trivial⟩,⟨tiOk underlying42 ti42,⟨tiOk underlying40 ti40,trivial,trivial⟩,trivial⟩⟩⟩,⟨tiOk underlying49 ti49,⟨tiOk underlying46 ti46,⟨tiOk underlying45 ti45,⟨tiOk underlying44 ti44,trivial,trivial⟩,trivial⟩,⟨tiOk underlying48 ti48,⟨tiOk underlying47 ti47,trivial,trivial⟩,trivial⟩⟩,⟨tiOk underlying52 ti52,⟨tiOk underlying51 ti51,⟨tiOk underlying50 ti50,trivial,trivial⟩,trivial⟩,⟨tiOk underlying55 ti55,⟨tiOk underlying53 ti53,trivial,trivial⟩,trivial⟩⟩⟩⟩⟩,⟨tiOk underlying96 ti96,⟨tiOk underlying74 ti74,⟨tiOk underlying66 ti66,⟨tiOk underlying63 ti63,⟨tiOk underlying60 ti60,⟨tiOk underlying57 ti57,trivial,trivial⟩,⟨tiOk underlying61 ti61,trivial,trivial⟩⟩,⟨tiOk underlying65 ti65,⟨tiOk underlying64 ti64,trivial,trivial⟩,trivial⟩⟩,⟨tiOk underlying69 ti69,⟨tiOk underlying68 ti68,⟨tiOk underlying67 ti67,trivial,trivial⟩,trivial⟩,⟨tiOk underlying72 ti72,⟨tiOk underlying70 ti70,trivial,trivial⟩,trivial⟩⟩⟩,⟨tiOk underlying87 ti87,⟨tiOk underlying80 ti80,⟨tiOk underlying78 ti78,⟨tiOk underlying77 ti77,trivial,trivial⟩,trivial⟩,⟨tiOk underlying86 ti86,⟨tiOk underlying81 ti81,trivial,trivial⟩,trivial⟩⟩,⟨tiOk underlying91 ti91,⟨tiOk underlying89 ti89,⟨tiOk underlying88 ti88,trivial,trivial⟩,trivial⟩,⟨tiOk underlying95 ti95,⟨tiOk underlying94 ti94,trivial,trivial⟩,trivial⟩⟩⟩⟩,⟨tiOk underlying130 ti130,⟨tiOk underlying107 ti107,⟨tiOk underlying103 ti103,⟨tiOk underlying101 ti101,⟨tiOk underlying98 ti98,trivial,trivial⟩,⟨tiOk underlying102 ti102,trivial,trivial⟩⟩,⟨tiOk underlying106 ti106,⟨tiOk underlying104 ti104,trivial,trivial⟩,trivial⟩⟩,⟨tiOk underlying116 ti116,⟨tiOk underlying112 ti112,⟨tiOk underlying109 ti109,trivial,trivial⟩,trivial⟩,⟨tiOk underlying124 ti124,⟨tiOk underlying123 ti123,trivial,trivial⟩,trivial⟩⟩⟩,⟨tiOk underlying159 ti159,⟨tiOk underlying144 ti144,⟨tiOk underlying142 ti142,⟨tiOk underlying138 ti138,trivial,trivial⟩,trivial⟩,⟨tiOk underlying158 ti158,⟨tiOk underlying153 ti153,trivial,trivial⟩,trivial⟩⟩,⟨tiOk underlying162 ti162,⟨tiOk underlying161 ti161,⟨tiOk underlying160 ti160,trivial,trivial⟩,trivial⟩,⟨tiOk underlying165 ti165,⟨tiOk underlying163 ti163,trivial,trivial⟩,trivial⟩⟩⟩⟩⟩⟩)
theorem mixed:prog.follows .mixedOrders = true:=by kernel_rfl
end Go.Proofs.YtiegopnofbgoaaaGreatDoor.AWN

namespace Go.Proofs.YtiegopnofbgoaaaGreatDoor.AWN
open Go
/-! ### Partial values -/
theorem qub {α β:Type} {o:Option α} {f:α→Option β} {r:β} (h:o.bind f = some r):∃ a,o = some a∧f a = some r:=by
  cases o with
  | none=>cases h
  | some a=>exact ⟨a,rfl,h⟩
theorem qaf {α β:Type} {o:Option α} {f:α→Option β} {r:β} {C:Prop} (h:o.bind f = some r) (k:∀ a,o = some a→f a = some r→C):C :=
  have ⟨a,h1,h2⟩:=qub h
  k a h1 h2
def grd {α:Type} (p:Prop) [Decidable p] (x:Option α):Option α:=if p then x else none
theorem qui {α:Type} {p:Prop} [Decidable p] {x:Option α} {r:α} (h:grd p x = some r):p∧x = some r:=by
  unfold grd at h
  split at h
  · rename_i hp;exact ⟨hp,h⟩
  · cases h
theorem qci {α:Type} {p:Prop} [Decidable p] {x:Option α} {r:α} {C:Prop} (h:grd p x = some r) (k:p→x = some r→C):C:=k (qui h).1 (qui h).2
def getI {α:Type} (l:List α) (i:Int):Option α:=if 0 ≤ i then l[i.toNat]? else none
theorem qb8 {α:Type} {l:List α} {i:Int} {x:α} (h:getI l i = some x):0 ≤ i∧l[i.toNat]? = some x:=by
  unfold getI at h
  split at h
  · rename_i hp;exact ⟨hp,h⟩
  · cases h
theorem if_t {α:Type} {p:Prop} [Decidable p] {x y:Option α} {r:α} (h:(if p then x else y) = some r) (hc:decide p = true):x = some r:=by
  rw [if_pos (of_decide_eq_true hc)] at h;exact h
theorem if_f {α:Type} {p:Prop} [Decidable p] {x y:Option α} {r:α} (h:(if p then x else y) = some r) (hc:decide p = false):y = some r:=by
  rw [if_neg (of_decide_eq_false hc)] at h;exact h
theorem qeh {α:Type} {b:Bool} {x y:Option α} {r:α} (h:(if b = true then x else y) = some r) (hc:b = true):x = some r:=by
  rw [if_pos hc] at h;exact h
theorem qeg {α:Type} {b:Bool} {x y:Option α} {r:α} (h:(if b = true then x else y) = some r) (hc:b = false):y = some r:=by
  rw [if_neg (by rw [hc];decide)] at h;exact h
theorem qjf {b:Bool} (h:(!b) = true):b = false:=by cases b <;> simp_all
theorem qje {b:Bool} (h:(!b) = false):b = true:=by cases b <;> simp_all
def room (n b:Nat):Prop:=n * b ≤ 140737488355328
instance (n b:Nat):Decidable (room n b):=by unfold room;infer_instance
abbrev w64 (n:Int):Int:=IntKind.wrap .i64 n
structure Cx where
  re:Nat
  im:Nat
deriving DecidableEq
abbrev Str:=List UInt8
/-! ### Lists of cells -/
section
variable {α:Type} {f:α→List D}
theorem map_get {l:List α} {k:Nat} {x:α} (h:l[k]? = some x):(l.map f)[k]? = some (f x):=by simp [h]
theorem qbm {l:List α} {i:Int} {x:α} (h:getI l i = some x):(l.map f)[i.toNat]? = some (f x):=map_get (qb8 h).2
theorem qb4 (l:List α):(l.map f).length = l.length:=List.length_map ..
theorem qds {l:List α} {i:Int} {x:α} (h:getI l i = some x):(l.map f)[0 + i.toNat]? = some (f x):=by rw [Nat.zero_add];exact qbm h
theorem qcy {l:List α} {i:Int} {x:α} (h:getI l i = some x):0 ≤ i∧i < (l.length:Int)∧0 + l.length ≤ l.length∧(l.map f).length = l.length:=by
  obtain ⟨h1,h2⟩:=qb8 h
  have h3:i.toNat < l.length:=by
    rcases Nat.lt_or_ge i.toNat l.length with h4 | h4
    · exact h4
    · rw [List.getElem?_eq_none h4] at h2;cases h2
  refine ⟨h1,by omega,by omega,qb4 l⟩
theorem qo9 {sz:Nat} (hf:∀ x,(f x).length = sz) (l:List α):∀ y ∈ l.map f,y.length = sz:=by
  intro y hy
  obtain ⟨x,_,rfl⟩:=List.mem_map.1 hy
  exact hf x
theorem row_all {L:Nat} (l:List α) (h:l.length = L):((l.map f).drop 0).take L = l.map f:=by
  subst h;simp [List.take_of_length_le]
end
theorem qgu {α β:Type} {f:α→Option β}:mapO f [] = some []:=rfl
theorem qbe {α β:Type} {f:α→Option β} {x:α} {l:List α} {y:β} {r:List β} (h:f x = some y) (h':mapO f l = some r):mapO f (x :: l) = some (y :: r):=by
  unfold mapO;rw [h,h']
section
variable {ρ:Nat→Option Nat} {H:Nat→AObj} {α:Type} {f:α→List D}
theorem qkg {j sz L:Nat} (l:List α) (hr:ρ j = none) (hj:H j = .row sz (l.map f)) (hL:L = l.length):exC ρ H true (.row j L 0 L) = some (.d (.sl false (l.map f))):=by
  subst hL
  simp only [exC,hr,hj]
  rw [row_all l rfl]
theorem qgy {j sz L:Nat} (l:List α) (hr:ρ j = none) (hj:H j = .row sz (l.map f)) (hL:L = l.length):exV ρ H true (.row j L 0 L) = some (.d (.sl false (l.map f))):=qkg l hr hj hL
theorem qkh {j sz L:Nat} (l:List α) (hr:ρ j = none) (hj:H j = .row sz (l.map f)) (hL:L = l.length):exP ρ H (.row j L 0 L):=by
  subst hL
  simp [exP,hr,hj]
theorem qfg {j sz L:Nat} (l:List α) (hr:ρ j = none) (hj:H j = .row sz (l.map f)) (hL:L = l.length):exVP ρ H (.row j L 0 L):=qkh l hr hj hL
theorem exA_agg {cs ds:List V} (h:mapO (exC ρ H true) cs = some ds):exA ρ H true (.agg cs) = some (.agg ds):=by simp only [exA,h]
theorem qs8 {cs ds:List V} (h:mapO (exC ρ H true) cs = some ds):exV ρ H true (.agg cs) = some (.agg ds):=exA_agg h
theorem qvv {cs ds:List V} (h:mapO (exC ρ H true) cs = some ds):exO ρ H true (.box cs) = some (.box ds):=by simp only [exO,h]
end
/-! ### Relaxed states -/
inductive DLe:D→D→Prop where
  | refl (x:D):DLe x x
  | nil:DLe .nils (.sl false [])
  | flag (t:Bool) (es:List (List D)):DLe (.sl t es) (.sl false es)
theorem RelD.le {W:World} {ok:Nat→Prop} {x y:D} {v:Value} (h:DLe x y) (hr:RelD W ok x v):RelD W ok y v:=by
  cases h with
  | refl=>exact hr
  | nil=>cases hr;exact .slnil false
  | flag t es =>
    cases hr with
    | slnil=>exact .slnil false
    | sle t a=>exact .sle false a
    | sl sz vals h1 h2 h3 h4 h5 h6 h7 h8=>exact .sl sz vals h1 h2 h3 (fun h=>nomatch h) h5 h6 h7 h8
inductive CLe (g:Nat→Prop):V→V→Prop where
  | refl (x:V):CLe g x x
  | d {x y:D}:DLe x y→CLe g (.d x) (.d y)
  | ghost {j:Nat}:g j→CLe g (.d .nils) (.row j 0 0 0)
  | junk (x:V):CLe g x .junk
inductive LLe (g:Nat→Prop):List V→List V→Prop where
  | nil:LLe g [] []
  | cons {x y:V} {l r:List V}:CLe g x y→LLe g l r→LLe g (x :: l) (y :: r)
inductive VLe (g:Nat→Prop):V→V→Prop where
  | c {x y:V}:CLe g x y→VLe g x y
  | agg {l r:List V}:LLe g l r→VLe g (.agg l) (.agg r)
inductive OLe (g:Nat→Prop):AObj→AObj→Prop where
  | refl (o:AObj):OLe g o o
  | box {l r:List V}:LLe g l r→OLe g (.box l) (.box r)
inductive ELe (g:Nat→Prop):List (Nat × V)→List (Nat × V)→Prop where
  | nil:ELe g [] []
  | cons {t:Nat} {x y:V} {l r:List (Nat × V)}:VLe g x y→ELe g l r→ELe g ((t,x) :: l) ((t,y) :: r)
inductive HLe (g:Nat→Prop):List AObj→List AObj→Prop where
  | nil:HLe g [] []
  | cons {x y:AObj} {l r:List AObj}:OLe g x y→HLe g l r→HLe g (x :: l) (y :: r)
theorem LLe.len {g:Nat→Prop} {l r:List V} (h:LLe g l r):l.length = r.length:=by
  induction h with
  | nil=>rfl
  | cons _ _ ih=>simp [ih]
theorem HLe.len {g:Nat→Prop} {l r:List AObj} (h:HLe g l r):l.length = r.length:=by
  induction h with
  | nil=>rfl
  | cons _ _ ih=>simp [ih]
theorem LLe.get {g:Nat→Prop} {l r:List V} (h:LLe g l r):∀ i,CLe g (l.getD i .junk) (r.getD i .junk):=by
  induction h with
  | nil=>intro i;exact .refl _
  | cons h _ ih =>
    intro i
    cases i with
    | zero=>simpa using h
    | succ i=>simpa using ih i
theorem HLe.get {g:Nat→Prop} {l r:List AObj} (h:HLe g l r):∀ i,OLe g (l.getD i .none) (r.getD i .none):=by
  induction h with
  | nil=>intro i;exact .refl _
  | cons h _ ih =>
    intro i
    cases i with
    | zero=>simpa using h
    | succ i=>simpa using ih i
structure qsr (g:Nat→Prop) (hb:Handle) (H:Nat→AObj):Prop where
  row:∀ j,g j→∃ sz,H j = .row sz []
  none:∀ j,g j→hb j = none
section
variable {W:World} {hb:Handle} {H:Nat→AObj} {ok:Nat→Prop} {g:Nat→Prop}
theorem qu3 (G:qsr g hb H) {x y:V} {v:Value} (h:CLe g x y) (hr:Rel W hb H ok x v):Rel W hb H ok y v:=by
  cases h with
  | refl=>exact hr
  | d h=>cases hr with | d hr=>exact .d (hr.le h)
  | ghost h =>
    cases hr with
    | d hr =>
      cases hr
      obtain ⟨sz,e⟩:=G.row _ h
      exact .rowNil e (G.none _ h)
  | junk=>exact .junk _
theorem qwb (G:qsr g hb H) {cs ds:List V} {c:Array Value} (h:LLe g cs ds) (hr:cs.length = c.size∧∀ i,i < c.size→Rel W hb H ok (cs.getD i .junk) (c.getD i undef)):ds.length = c.size∧∀ i,i < c.size→Rel W hb H ok (ds.getD i .junk) (c.getD i undef) :=
  ⟨h.len ▸ hr.1,fun i hi=>qu3 G (h.get i) (hr.2 i hi)⟩
theorem qu4 (G:qsr g hb H) {x y:V} {v:Value} (h:VLe g x y) (hr:Rel W hb H ok x v):Rel W hb H ok y v:=by
  cases h with
  | c h=>exact qu3 G h hr
  | agg h=>cases hr with | agg h1 h2=>exact .agg (qwb G h ⟨h1,h2⟩).1 (qwb G h ⟨h1,h2⟩).2
theorem rel_ele (G:qsr g hb H) {a:Act}:∀ {l r:List (Nat × V)},ELe g l r→(∀ t,Rel W hb H ok (look l t) (a.tmps.getD t undef))→∀ t,Rel W hb H ok (look r t) (a.tmps.getD t undef):=by
  intro l r h
  induction h with
  | nil=>exact fun h=>h
  | @cons k x y l r hv _ ih =>
    intro hr t
    have hk:=hr t
    unfold look at hk ⊢
    cases hb':Nat.beq k t with
    | true=>rw [hb'] at hk;exact qu4 G hv hk
    | false =>
      rw [hb'] at hk
      -- look in the rest
      have:∀ u,Rel W hb H ok (if Nat.beq k u then .junk else look l u) (a.tmps.getD u undef):=fun u=>by
        have:=hr u
        unfold look at this
        cases hu:Nat.beq k u with
        | true=>simp only [if_true];exact .junk _
        | false=>rw [hu] at this;simpa using this
      clear ih hr
      have go:∀ {l r:List (Nat × V)},ELe g l r→∀ u,Rel W hb H ok (look l u) (a.tmps.getD u undef)→Rel W hb H ok (look r u) (a.tmps.getD u undef):=by
        intro l r h
        induction h with
        | nil=>exact fun _ h=>h
        | @cons k x y l r hv _ ih =>
          intro u hu
          unfold look at hu ⊢
          cases hb2:Nat.beq k u with
          | true=>rw [hb2] at hu;exact qu4 G hv hu
          | false=>rw [hb2] at hu;exact ih u hu
      rename_i hl
      exact go hl t hk
end
end Go.Proofs.YtiegopnofbgoaaaGreatDoor.AWN

namespace Go.Proofs.YtiegopnofbgoaaaGreatDoor.AWN
open Go
theorem qm2 {objs:List AObj} {j:Nat} (h:objs.length ≤ j):qax objs j = .none:=by
  unfold qax;rw [List.getD_eq_getElem?_getD,List.getElem?_eq_none h];rfl
theorem heapOf_l {a b:List AObj} {j:Nat} (h:j < a.length):qax (a ++ b) j = qax a j:=by
  unfold qax;rw [List.getD_eq_getElem?_getD,List.getD_eq_getElem?_getD,List.getElem?_append_left h]
theorem quj {a b:List AObj} {j:Nat} (h:a.length ≤ j):qax (a ++ b) j = qax b (j - a.length):=by
  unfold qax;rw [List.getD_eq_getElem?_getD,List.getD_eq_getElem?_getD,List.getElem?_append_right h]
def qik (gs:List Nat):List AObj:=gs.map fun sz=>.row sz []
theorem qjc (gs:List Nat) {l l':List (Nat × V)} {objs objs':List AObj} {nt base:Nat} (hE:ELe (fun j=>objs.length ≤ j∧j < objs.length + gs.length) l l') (hH:HLe (fun j=>objs.length ≤ j∧j < objs.length + gs.length) objs objs') :
    Weak (St.of l objs nt base) (St.of l' (objs' ++ qik gs) nt base):=by
  intro w0 A okA hb a W hs
  have hlen:=hH.len
  let g:Nat→Prop:=fun j=>objs.length ≤ j∧j < objs.length + gs.length
  let hb2:Handle:=fun j=>if j < objs.length then hb j else none
  have hbl:∀ j,j < objs.length→hb2 j = hb j:=fun j hj=>by show (if _ then _ else _) = _;rw [if_pos hj]
  have hbg:∀ j,objs.length ≤ j→hb2 j = none:=fun j hj=>by show (if _ then _ else _) = _;rw [if_neg (by omega)]
  have hh:=hs.heap
  have e1:(St.of l objs nt base).heap = qax objs:=rfl
  have e2:(St.of l objs nt base).next = objs.length:=rfl
  rw [e1,e2] at hh
  have hnone:∀ j,objs.length ≤ j→qax objs j = .none:=fun j hj=>qm2 hj
  have H2l:∀ j,j < objs.length→qax (objs' ++ qik gs) j = qax objs' j:=fun j hj=>heapOf_l (by omega)
  have H2g:∀ j,objs.length ≤ j→(g j∧∃ sz,qax (objs' ++ qik gs) j = .row sz []) ∨ qax (objs' ++ qik gs) j = .none:=by
    intro j hj
    rw [quj (by omega)]
    by_cases hlt:j - objs'.length < gs.length
    · left
      refine ⟨⟨hj,by omega⟩,gs[j - objs'.length],?_⟩
      unfold qax qik
      simp [hlt]
    · right;exact qm2 (by simp [qik];omega)
  have ole:∀ j,OLe g (qax objs j) (qax objs' j):=fun j=>hH.get j
  have good:∀ b,okF w0 okA hb (qax objs) W b→okF w0 okA hb2 (qax (objs' ++ qik gs)) W b:=by
    intro b ⟨h1,h2,h3⟩
    refine ⟨h1,h2,fun j hj=>?_⟩
    by_cases hjl:j < objs.length
    · rw [hbl j hjl]
      refine h3 j fun hn=>hj ?_
      rw [H2l j hjl]
      have:=ole j
      rw [hn] at this
      cases h:qax objs' j with
      | none=>rfl
      | _=>rw [h] at this;cases this
    · rw [hbg j (by omega)];exact fun h=>nomatch h
  have mv:qga W W hb hb2 (qax objs) (qax (objs' ++ qik gs)) (okF w0 okA hb (qax objs) W) (okF w0 okA hb2 (qax (objs' ++ qik gs)) W) :=
    { good:=good,cell:=fun b o v _ h=>h,
      box:=fun j cs hj=>by
        have hjl:j < objs.length:=by
          rcases Nat.lt_or_ge j objs.length with h | h
          · exact h
          · rw [hnone j h] at hj;cases hj
        have:=ole j
        rw [hj] at this
        rw [H2l j hjl,hbl j hjl]
        cases h:qax objs' j with
        | box cs'=>exact ⟨cs',rfl,rfl⟩
        | none=>rw [h] at this;cases this
        | row sz es=>rw [h] at this;cases this
        | map kk es=>rw [h] at this;cases this
      row:=fun j sz es hj=>by
        have hjl:j < objs.length:=by
          rcases Nat.lt_or_ge j objs.length with h | h
          · exact h
          · rw [hnone j h] at hj;cases hj
        have:=ole j
        rw [hj] at this
        rw [H2l j hjl,hbl j hjl]
        generalize qax objs' j = z at *
        cases this
        exact ⟨es,rfl,Nat.le_refl _,fun _=>⟨rfl,fun _ _ _ h=>h⟩⟩
      map:=fun j kk es hj=>by
        have hjl:j < objs.length:=by
          rcases Nat.lt_or_ge j objs.length with h | h
          · exact h
          · rw [hnone j h] at hj;cases hj
        have:=ole j
        rw [hj] at this
        rw [H2l j hjl,hbl j hjl]
        generalize qax objs' j = z at *
        cases this
        exact ⟨es,rfl,rfl⟩ }
  have G:qsr g hb2 (qax (objs' ++ qik gs)) :=
    ⟨fun j hj=>by
      rcases H2g j hj.1 with h | h
      · exact h.2
      · exfalso
        rw [quj (by have:=hj.1;omega)] at h
        unfold qax qik at h
        have h1:=hj.1
        have h2:=hj.2
        have hlt:j - objs'.length < gs.length:=by omega
        simp [hlt] at h,fun j hj=>hbg j hj.1⟩
  refine ⟨hb2,hs.defers,hs.size,?_,?_,hs.base⟩
  · exact rel_ele G hE (fun t=>(hs.env t).mono mv)
  · refine { obj:=?_,inj:=?_,hnd:=?_,fresh:=?_,ext:=hh.ext,keep:=hh.keep.trans mv.toMovesR,lay:=hh.lay }
    · intro j
      by_cases hjl:j < objs.length
      · have hj:=hh.obj j
        unfold qge at hj ⊢
        show match qax (objs' ++ qik gs) j with
          | .none=>True
          | .box cs=>_
          | .row sz es=>_
          | .map k es=>_
        rw [H2l j hjl]
        have ho:=ole j
        generalize qax objs' j = z at *
        cases hz:qax objs j with
        | none=>rw [hz] at ho;cases ho;trivial
        | row sz es =>
          rw [hz] at ho hj
          cases ho
          simp only at hj ⊢
          obtain ⟨h0,hj⟩:=hj
          refine ⟨h0,?_⟩
          rcases hj with ⟨e1,e2⟩ | ⟨b,vals,T,fr,h1,h2,h3,h4,h5⟩
          · exact .inl ⟨e1,by rw [hbl j hjl];exact e2⟩
          · exact .inr ⟨b,vals,T,fr,by rw [hbl j hjl];exact h1,h2,h3,h4,fun i c hi hc=>(h5 i c hi hc).mono mv.toMoves⟩
        | map kk es =>
          rw [hz] at ho hj
          cases ho
          simp only at hj ⊢
          obtain ⟨b,ents,cl,h1,h2,h3,h4⟩:=hj
          exact ⟨b,ents,cl,by rw [hbl j hjl];exact h1,h2,h3,fun i e x he hx=>⟨(h4 i e x he hx).1,(h4 i e x he hx).2.mono mv.toMoves⟩⟩
        | box cs =>
          rw [hz] at ho hj
          simp only at hj
          obtain ⟨b,vals,T,fr,h1,h2,h3,h4,h5,h6⟩:=hj
          have key:∀ ds,LLe g cs ds→qx4 W hb2 (qax (objs' ++ qik gs)) (okF w0 okA hb2 (qax (objs' ++ qik gs)) W) j ds:=fun ds hd =>
            ⟨b,vals,T,fr,by rw [hbl j hjl];exact h1,h2,by rw [h3,hd.len],h4,h5,fun i hi=>qu3 G (hd.get i) ((h6 i hi).mono mv)⟩
          cases ho with
          | refl =>
            have rfl':∀ cs:List V,LLe g cs cs:=fun cs=>by
              induction cs with
              | nil=>exact .nil
              | cons x r ih=>exact .cons (.refl x) ih
            exact key _ (rfl' _)
          | box hl=>exact key _ hl
      · unfold qge
        show match qax (objs' ++ qik gs) j with
          | .none=>True
          | .box cs=>_
          | .row sz es=>_
          | .map k es=>_
        rcases H2g j (by omega) with ⟨_,sz,h⟩ | h
        · rw [h];exact ⟨fun e he=>(nomatch he),.inl ⟨rfl,hbg j (by omega)⟩⟩
        · rw [h];trivial
    · intro i j b hi hj hbi hbj
      have hil:i < objs.length:=by
        rcases Nat.lt_or_ge i objs.length with h | h
        · exact h
        · rw [hbg i h] at hbi;cases hbi
      have hjl:j < objs.length:=by
        rcases Nat.lt_or_ge j objs.length with h | h
        · exact h
        · rw [hbg j h] at hbj;cases hbj
      have nn:∀ i,i < objs.length→(St.of l' (objs' ++ qik gs) nt base).heap i ≠ .none→qax objs i ≠ .none:=by
        intro i hil hi hn
        apply hi
        show qax (objs' ++ qik gs) i = .none
        rw [H2l i hil]
        have:=ole i
        rw [hn] at this
        generalize qax objs' i = z at *
        cases this;rfl
      rw [hbl i hil] at hbi
      rw [hbl j hjl] at hbj
      exact hh.inj i j b (nn i hil hi) (nn j hjl hj) hbi hbj
    · intro j b hj hbj
      have hjl:j < objs.length:=by
        rcases Nat.lt_or_ge j objs.length with h | h
        · exact h
        · rw [hbg j h] at hbj;cases hbj
      rw [hbl j hjl] at hbj
      refine hh.hnd j b (fun hn=>hj ?_) hbj
      show qax (objs' ++ qik gs) j = .none
      rw [H2l j hjl]
      have:=ole j
      rw [hn] at this
      generalize qax objs' j = z at *
      cases this;rfl
    · intro j hj
      exact qm2 hj
end Go.Proofs.YtiegopnofbgoaaaGreatDoor.AWN

namespace Go.Proofs.YtiegopnofbgoaaaGreatDoor.AWN
open Go
section
variable {P:Program} {σ:St} {Q:Exit→St→Prop}
theorem qby {ι:Type} {x y:Code} (inv:ι→St) (I:ι→Prop) (hk:∀ s,I s→AW P y (inv s) Q) (h:(∀ s,I s→AW P y (inv s) Q)→AW P (.seq x y) σ Q):AW P (.seq x y) σ Q:=h hk
end
/-! ### Calls with values that say less -/
inductive ALe:List V→List V→Prop where
  | nil:ALe [] []
  | cons {x y:V} {l r:List V}:VLe (fun _=>False) x y→ALe l r→ALe (x :: l) (y :: r)
theorem ALe.len {l r:List V} (h:ALe l r):l.length = r.length:=by
  induction h with
  | nil=>rfl
  | cons _ _ ih=>simp [ih]
theorem ALe.get {l r:List V} (h:ALe l r):∀ i,VLe (fun _=>False) (l.getD i .junk) (r.getD i .junk):=by
  induction h with
  | nil=>intro i;exact .c (.refl _)
  | cons h _ ih =>
    intro i
    cases i with
    | zero=>simpa using h
    | succ i=>simpa using ih i
theorem acall_le {P:Program} {fr:Bool} {k:FuncId} {args args':List V} {objs:List AObj} {R:V→List AObj→List AObj→Prop} (hle:ALe args args') (h:qb1 P fr k args' objs R):qb1 P fr k args objs R :=
  fun W A hb okA vals h1 h2 h3 h4=>h W A hb okA vals h1 h2 h3 ⟨hle.len ▸ h4.1,fun i hi=>qu4 ⟨fun _ h=>h.elim,fun _ h=>h.elim⟩ (hle.get i) (h4.2 i hi)⟩
/-! ### Flat results -/
theorem qan:∀ o ∈ ([]:List AObj),o.flat:=fun _ h=>nomatch h
theorem qc8 {o:AObj} {l:List AObj} (h:o.flat) (h':∀ o ∈ l,o.flat):∀ p ∈ o :: l,p.flat:=fun p hp=>by
  rcases List.mem_cons.1 hp with rfl | hp
  · exact h
  · exact h' p hp
theorem qgt {α:Type} {f:α→List D} {sz:Nat} (hf:∀ x,∀ c ∈ f x,c.flat) (l:List α):(AObj.row sz (l.map f)).flat:=by
  intro e he c hc
  obtain ⟨x,_,rfl⟩:=List.mem_map.1 he
  exact hf x c hc
/-! ### Values written otherwise -/
section
variable {α:Type} {f:α→List D} {H:Nat→AObj} {n j sz:Nat} {p:Prop}
theorem or_append (l zs:List α) {ys:List (List D)} (hys:ys = zs.map f):OR.needH p (.row j (l.length + ys.length) 0 (l.length + ys.length)) (upd H j (.row sz (l.map f ++ ys))) n = OR.needH p (.row j (l ++ zs).length 0 (l ++ zs).length) (upd H j (.row sz ((l ++ zs).map f))) n:=by
  subst hys;simp
theorem qv1 {a b:Nat} {zs:List α} (h:room (a + zs.length) b):(a + (zs.map f).length) * b ≤ 140737488355328:=by rw [qb4];exact h
theorem all1 {e:List D} (h:e.length = sz):∀ y ∈ [e],y.length = sz:=by
  intro y hy;rw [List.mem_singleton.1 hy];exact h
theorem qei (l:List α):OR.val (.d (.int .i64 ((l.map f).length:Int))) = OR.val (.d (.int .i64 (l.length:Int))):=by rw [qb4]
theorem or_make {k:Nat} {x:α} {ds:List D} (h:ds = f x):OR.needH p (.row n k 0 k) (upd H n (.row sz (List.replicate k ds))) (n + 1) = OR.needH p (.row n (List.replicate k x).length 0 (List.replicate k x).length) (upd H n (.row sz ((List.replicate k x).map f))) (n + 1):=by
  subst h;simp
theorem make_need {z:Int} {b:Nat} (h:0 ≤ z∧room z.toNat b) (hb:0 < b):0 ≤ z∧z = z∧z * b ≤ 140737488355328∧0 < b:=by
  refine ⟨h.1,rfl,?_,hb⟩
  have h2:z.toNat * b ≤ 140737488355328:=h.2
  have e:((z.toNat:Nat):Int) = z:=by omega
  have h3:((z.toNat * b:Nat):Int) ≤ 140737488355328:=by omega
  rw [Int.natCast_mul,e] at h3;exact h3
theorem qnz {s k:FloatKind} {x y:Nat} (h:ql6 s k x = some y):(match ql6 s k x with
    | some r=>OR.val (.d (.fl k r))
    | none=>OR.pick (fun r=>r < 2 ^ k.format.width) (fun r=>.d (.fl k (canon k r)))) = OR.val (.d (.fl k y)):=by rw [h]
theorem qeq (x y:Int):OR.val (.d (.bool (x == y))) = OR.val (.d (.bool (decide (x = y)))):=rfl
theorem qlw (x y:Int):OR.val (.d (.bool (x != y))) = OR.val (.d (.bool (!(decide (x = y))))):=rfl
end
section
variable {ρ:Nat→Option Nat} {H:Nat→AObj} {sn:Bool}
theorem exC_rowL {j i L L':Nat} (h:ρ j = some i) (hL:L = L'):exC ρ H sn (.row j L 0 L) = some (.row i L' 0 L'):=by
  subst hL;simp only [exC,h]
theorem qpg {j i L L':Nat} (h:ρ j = some i) (hL:L = L'):exV ρ H sn (.row j L 0 L) = some (.row i L' 0 L'):=exC_rowL h hL
end
/-! ### Texts -/
def sub {α:Type} (l:List α) (a b:Int):List α:=(l.drop a.toNat).take (b.toNat - a.toNat)
/-! ### Parts of lists -/
section
variable {α:Type} {f:α→List D}
theorem qsh (l:List α) (a b:Nat):((l.map f).drop a).take b = ((l.drop a).take b).map f:=by rw [List.map_take,List.map_drop]
theorem or_dsub {p:Prop} {t:Bool} (l:List α) (a b:Int):OR.need p (.d (.sl t (((l.map f).drop a.toNat).take (b.toNat - a.toNat)))) = OR.need p (.d (.sl t ((sub l a b).map f))):=by rw [qsh];rfl
theorem dsub_need {sz:Nat} (hf:∀ x,(f x).length = sz) {l:List α} {a b:Int} (h:0 ≤ a∧a ≤ b∧b ≤ (l.length:Int)):0 ≤ a∧a ≤ b∧b ≤ ((l.map f).length:Int)∧∀ e ∈ l.map f,e.length = sz :=
  ⟨h.1,h.2.1,by rw [qb4];exact h.2.2,qo9 hf l⟩
theorem qwd {H:Nat→AObj} {j sz:Nat} {l:List α} {i:Int} {y:α} {d:List D} (h:d = f y):(some (upd H j (.row sz ((l.map f).set (0 + i.toNat) d))):Option (Nat→AObj)) = some (upd H j (.row sz ((l.set i.toNat y).map f))):=by
  subst h;rw [Nat.zero_add,List.map_set]
theorem map_set {l:List α} {k:Nat} {y:α}:(l.map f).set k (f y) = (l.set k y).map f:=by rw [List.map_set]
end
end Go.Proofs.YtiegopnofbgoaaaGreatDoor.AWN

namespace Go.Proofs.YtiegopnofbgoaaaGreatDoor.AWN
open Go
def qnn (P:Program) (k:FuncId) (args:List V) (v:V):Prop :=
  ∀ (W:World) (hb:Handle) (H:Nat→AObj) (ok:Nat→Prop) (vals:Array Value),RelL W hb H ok args vals→∃ cv W',(callFunc k vals).run P W = .ok (.value cv) W'∧qbc W W'∧Rel W hb H ok v cv
theorem qs9 {P:Program} {k:FuncId} {fn:Func} {e:Array Value→Sem Value} {args:List V} {v:V} (hf:P.funcs[k]? = some fn) (hn:(fn.name == "runtime.NumGoroutine") = false) (hb:fn.body.isNone = true) (h1:Extern.findNext fn = none) (h2:Extern.find fn = some e)
    (h:∀ (W:World) (hb:Handle) (H:Nat→AObj) (ok:Nat→Prop) (vals:Array Value),RelL W hb H ok args vals→∃ cv W',(e vals).run P W = .ok cv W'∧qbc W W'∧Rel W hb H ok v cv):qnn P k args v:=by
  intro W hb' H ok vals hr
  obtain ⟨cv,W',hc,hm,hv⟩:=h W hb' H ok vals hr
  refine ⟨cv,W',?_,hm,hv⟩
  simp only [callFunc,Sem.run_bind,run_program,Result.andThen_ok,hf,hn,hb,h1,h2,if_true,run_mark,Bool.false_eq_true,if_false,Sem.run_map,hc,Sem.run_pure]
section
variable {P:Program} {τ:Tab} {σ σ0:St} {ops:Array Oper} {rest:List Oper} {o:Oper} {Q:Exit→St→Prop} {id:List FR} {G:Prop} {rl:List Rec}
theorem ext_does (hτ:qfd P τ) {k:FuncId} {args:List V} {v:V} (h:qbu τ σ o.op = .call k args) (hx:qnn P k args v) {w0:World} {A:Args} {okA:Nat→Prop} {hb:Handle} {a:Act} {W:World} (hs:Sim w0 A okA hb σ a W) :
    Does P o a W (fun cv W'=>qbc W W'∧RelS w0 okA hb σ.heap W v cv):=by
  have ho:=qg7 hτ hs o
  rw [h] at ho
  obtain ⟨vals,hrun,hrel⟩:=ho
  obtain ⟨cv,W',h1,h2,h3⟩:=hx W hb σ.heap _ vals hrel
  exact ⟨cv,W',.inl (by rw [hrun,h1]),h2,h3⟩
theorem qpr (hτ:qfd P τ) {k:FuncId} {args:List V} {v:V} (hw:qcx ops σ o = some true) (hd:qhi σ o.dst = true) (h:qbu τ σ o.op = .call k args) (hx:qnn P k args v) (hK:AWL P ops rest (σ.putO o.dst v) Q):AWL P ops (o :: rest) σ Q :=
  qhh hw fun w0 A okA hb a W hs=>by
    obtain ⟨cv,W',hrun,s,hr⟩:=ext_does hτ h hx hs
    exact ⟨cv,W',hrun,hK w0 A okA hb _ W' (qhw (hs.same s) (hr.same s) _ hd)⟩
end
/-! ### Words of floats -/
theorem qpk {W:World} {hb:Handle} {H:Nat→AObj} {ok:Nat→Prop} {x:V} {vals:Array Value} (h:RelL W hb H ok [x] vals):∃ v,vals = #[v]∧Rel W hb H ok x v:=by
  obtain ⟨h1,h2⟩:=h
  refine ⟨vals[0]'(by simp at h1;omega),?_,?_⟩
  · apply Array.ext
    · simp at h1 ⊢;omega
    · intro i hi hj
      simp at hj
      subst hj;rfl
  · have:=h2 0 (by simp at h1;omega)
    have h0:0 < vals.size:=by simp at h1;omega
    simpa [Array.getD_eq_getD_getElem?,h0] using this
theorem bits_run {P:Program} {k:FloatKind} {i:IntKind} {e:Array Value→Sem Value} (he:∀ b,e #[.float k b] = pure (.int i b)) {x:Nat} (hx:isnan k x = false) {W:World} {hb:Handle} {H:Nat→AObj} {ok:Nat→Prop} {vals:Array Value}
    (h:RelL W hb H ok [.d (.fl k x)] vals):∃ cv W',(e vals).run P W = .ok cv W'∧qbc W W'∧Rel W hb H ok (.d (.int i x)) cv:=by
  obtain ⟨v,rfl,hr⟩:=qpk h
  obtain ⟨b,rfl,h1,h2⟩:=qod hr
  refine ⟨.int i b,W,by rw [he];rfl,qbc.refl W,?_⟩
  have:isnan k b = false:=by rw [← qit,h1];exact hx
  rw [qdw this] at h1
  subst h1;exact qhz _ _
theorem qp1 {P:Program} {k:FloatKind} {i:IntKind} {e:Array Value→Sem Value} (he:∀ n:Int,e #[.int i n] = pure (.float k n.toNat)) {n:Int} (hn:n.toNat < 2 ^ k.format.width) {W:World} {hb:Handle} {H:Nat→AObj} {ok:Nat→Prop} {vals:Array Value}
    (h:RelL W hb H ok [.d (.int i n)] vals):∃ cv W',(e vals).run P W = .ok cv W'∧qbc W W'∧Rel W hb H ok (.d (.fl k (canon k n.toNat))) cv:=by
  obtain ⟨v,rfl,hr⟩:=qpk h
  obtain rfl:=qi5 hr
  exact ⟨.float k n.toNat,W,by rw [he];rfl,qbc.refl W,qr0 rfl hn⟩
def qvy (x:Nat):Nat:=(FloatKind.f64.format.sqrt x).getD (qnan .f64)
theorem root_not_nan {n:Nat} {a d:Ieee.Datum} (h:a.root n = some d):d.isNaN = false:=by
  cases a with
  | nan s t=>cases h
  | infinity s =>
    simp only [Ieee.Datum.root] at h
    split at h
    · cases h
    · simp only [Option.some.injEq] at h;subst h;rfl
  | number s m i =>
    simp only [Ieee.Datum.root] at h
    split at h
    · simp only [Option.some.injEq] at h;subst h;rfl
    · split at h
      · cases h
      · simp only [Option.some.injEq] at h;subst h;rfl
theorem sqrt_run {P:Program} {x:Nat} {W:World} {hb:Handle} {H:Nat→AObj} {ok:Nat→Prop} {vals:Array Value}
    (h:RelL W hb H ok [.d (.fl .f64 x)] vals):∃ cv W',(Extern.MathSqrt.sqrt vals).run P W = .ok cv W'∧qbc W W'∧Rel W hb H ok (.d (.fl .f64 (qvy x))) cv:=by
  obtain ⟨v,rfl,hr⟩:=qpk h
  obtain ⟨b,rfl,h1,h2⟩:=qod hr
  have hsame:FloatKind.f64.format.sqrt b = FloatKind.f64.format.sqrt x:=by
    cases hn:isnan .f64 b with
    | false=>rw [← h1,qdw hn]
    | true =>
      obtain ⟨s,t,e⟩:=qir hn
      obtain ⟨s',t',e'⟩:=qir (show isnan .f64 x = true by rw [← h1,qit,hn])
      unfold Ieee.Format.sqrt
      rw [e,e'];rfl
  have e:Extern.MathSqrt.sqrt #[.float .f64 b] = (match FloatKind.f64.format.sqrt b with
    | some r=>pure (.float .f64 r)
    | none=>do pure (.float .f64 (← choose (.nanBits .f64 b b)))):=rfl
  rw [e]
  unfold qvy
  rw [← hsame]
  cases hq:FloatKind.f64.format.sqrt b with
  | some r =>
    have hr':isnan .f64 r = false∧r < 2 ^ FloatKind.f64.format.width:=by
      unfold Ieee.Format.sqrt at hq
      cases hd:(FloatKind.f64.format.read b).root (FloatKind.f64.format.fractionBits + 2) with
      | none=>rw [hd] at hq;cases hq
      | some d =>
        rw [hd] at hq
        simp only [Option.map_some,Option.some.injEq] at hq
        subst hq
        exact ⟨qk0 .f64 d (root_not_nan hd),FloatKind.f64.format.write_lt d⟩
    exact ⟨.float .f64 r,W,rfl,qbc.refl W,qr0 (qdw hr'.1) hr'.2⟩
  | none =>
    obtain ⟨r,W',g1,g2,g3,g4⟩:=qok P W (.nanBits .f64 b b) .f64 (.inl ⟨_,_,rfl⟩)
    refine ⟨.float .f64 r,W',?_,g2,qr0 (qjn g3) g4⟩
    simp only [Sem.run_bind,g1,Result.andThen_ok,Sem.run_pure]
end Go.Proofs.YtiegopnofbgoaaaGreatDoor.AWN

namespace Go.Proofs.YtiegopnofbgoaaaGreatDoor.AWN
open Go
def XOwes (P:Program) (σ:St) (o:Oper) (r:OR):Prop:=∀ w0 A okA hb a W,Sim w0 A okA hb σ a W→Owes P w0 A okA hb σ a W o r
def XSt (P:Program) (ops:Array Oper) (σ:St) (o:Oper) (r:OR):Prop:=∀ σ',(∀ t ∈ opT o.op,σ'.env t = σ.env t)→σ'.heap = σ.heap→XOwes P σ' o r
section
variable {P:Program} {τ:Tab} {σ σ0:St} {ops:Array Oper} {rest:List Oper} {o:Oper} {Q:Exit→St→Prop} {id:List FR} {G:Prop} {rl:List Rec}
theorem qxf {v:V} (hw:qcx ops σ o = some true) (hd:qhi σ o.dst = true) (hx:XSt P ops σ o (.val v)) (hK:AWL P ops rest (σ.putO o.dst v) Q):AWL P ops (o :: rest) σ Q :=
  qhh hw fun w0 A okA hb a W hs=>by
    obtain ⟨cv,W',hrun,s,hr⟩:=hx σ (fun _ _=>rfl) rfl w0 A okA hb a W hs
    exact ⟨cv,W',hrun,hK w0 A okA hb _ W' (qhw (hs.same s) (hr.same s) _ hd)⟩
theorem qsv {R:Nat→Prop} {k:Nat→V} (hw:qcx ops σ o = some true) (hd:qhi σ o.dst = true) (hx:XSt P ops σ o (.pick R k)) (hK:∀ r,R r→AWL P ops rest (σ.putO o.dst (k r)) Q):AWL P ops (o :: rest) σ Q :=
  qhh hw fun w0 A okA hb a W hs=>by
    obtain ⟨cv,W',hrun,r,hR,s,hr⟩:=hx σ (fun _ _=>rfl) rfl w0 A okA hb a W hs
    exact ⟨cv,W',hrun,hK r hR w0 A okA hb _ W' (qhw (hs.same s) (hr.same s) _ hd)⟩
theorem qva {s:(Operand→Value)→Sem Value} {r:OR} (hrun:∀ {a:Act} {W:World},(execOp a.eval o).run P W = ((s a.eval).run P W).andThen fun v w=>.ok (.value v) w) (hpl:r.plain = true)
    (h:∀ σ',(∀ t ∈ opT o.op,σ'.env t = σ.env t)→σ'.heap = σ.heap→∀ w0 A okA hb a W,Sim w0 A okA hb σ' a W→ORv P W (s a.eval) (RelS w0 okA hb σ'.heap W) r):XSt P ops σ o r :=
  fun σ' he hh w0 A okA hb a W hs=>qeu hrun (h σ' he hh w0 A okA hb a W hs) hpl
/-! ### Numbers -/
def f2i (s:FloatKind) (k:IntKind) (x:Nat):Option Int:=match (s.decode x).toInt .zero with
  | some n=>if k.min ≤ n∧n ≤ k.max then some n else none
  | none=>none
theorem qxk (hτ:qfd P τ) {s d:TypeId} {x:Operand} {sd dd:TD} {sk:FloatKind} {k:IntKind} {b:Nat} {z:Int} (ho:o.op = .convert s d x) (hs:τ s = some sd) (hd:τ d = some dd) (hsd:sd.desc = .float sk) (hdd:dd.desc = .int k) (hx:σ.ev x = .d (.fl sk b)) (hz:f2i sk k b = some z):XSt P ops σ o (.val (.d (.int k z))):=by
  refine qva (s:=fun ev=>convert s d (ev x)) (by intro a W;simp [execOp,ho]) rfl ?_
  intro σ' he hh w0 A okA hb a W hs'
  have hr:=qfr hs' x
  rw [qck (fun t ht=>he t (by rw [ho];exact ht)),hx] at hr
  obtain ⟨c,hc,h1,h2⟩:=qod hr
  have us:=qi6 hτ hs W
  have ud:=qi6 hτ hd W
  refine .pure' (cv:=.int k z) ?_ (qhz _ _)
  simp only [convert,Sem.run_bind,us,ud,hsd,hdd,hc,Result.andThen_ok]
  have hn:isnan sk c = false:=by
    cases hn:isnan sk c with
    | false=>rfl
    | true =>
      exfalso
      have h3:isnan sk b = true:=by rw [← h1,qit,hn]
      obtain ⟨sg,t,e⟩:=qir h3
      have e':sk.decode b = .nan sg t:=e
      unfold f2i at hz
      rw [e'] at hz
      simp [Ieee.Datum.toInt,Ieee.Datum.integral] at hz
  have hcb:c = b:=by rw [← h1,qdw hn]
  rw [hcb]
  unfold f2i at hz
  unfold Conv.floatToInt
  split at hz
  · rename_i n hn'
    split at hz
    · rename_i hb'
      simp only [Option.some.injEq] at hz
      subst hz
      simp only [hn',if_pos hb',Sem.run_pure]
    · cases hz
  · cases hz
/-! ### Bytes and texts -/
/-! ### Is a slice nil? -/
theorem qwf (hτ:qfd P τ) {t e pos:TypeId} {x y:Operand} {td:TD} {es:List (List D)} {fl:Bool} (ho:o.op = .binOp .eql t x y pos) (ht:τ t = some td) (htd:td.desc = .slice e) (hx:σ.ev x = .d (.sl fl es)) (hy:y = .const (.slice none 0 0)) :
    XSt P ops σ o (.pick (fun r=>r = 1→es = []) (fun r=>.d (.bool (r == 1)))):=by
  refine qva (s:=fun ev=>do eqGuard .eql t x y (ev x) (ev y);binOp .eql t (ev x) (ev y)) (by
    intro a W
    simp only [execOp,ho,Sem.run_bind,Sem.run_pure]) rfl ?_
  intro σ' he hh w0 A okA hb a W hs'
  have hr:=qfr hs' x
  rw [qck (fun u hu=>he u (by rw [ho];exact List.mem_append_left _ hu)),hx] at hr
  have ey:a.eval y = .slice none 0 0:=by rw [hy];rfl
  have ut:=qi6 hτ ht W
  rw [htd] at ut
  have key:∀ (u:Option Addr) (l c:Nat),(Op.equal t (.slice u l c) (.slice none 0 0)).run P W = .ok u.isNone W:=by
    intro u l c
    unfold Op.equal Op.maxDepth
    rw [show (10000:Nat) = 9999 + 1 from rfl,Op.equalIn]
    simp only [Sem.run_bind,ut,Result.andThen_ok]
    cases u <;> simp [Sem.run_pure]
  rw [ey]
  generalize a.eval x = v at hr
  cases hr with
  | d hr =>
    have g:∀ (u:Option Addr) (l c:Nat),(do eqGuard .eql t x y (.slice u l c) (.slice none 0 0);binOp .eql t (.slice u l c) (.slice none 0 0):Sem Value).run P W = .ok (.bool u.isNone) W:=by
      intro u l c
      simp only [Sem.run_bind,qr8 .eql t x y (.slice u l c) (.slice none 0 0) (by simp) (by simp),Result.andThen_ok]
      simp [binOp,key]
    cases hr with
    | slnil=>exact ⟨.bool true,W,g _ _ _,qbc.refl W,1,fun _=>rfl,qhv _⟩
    | sle=>exact ⟨.bool false,W,g _ _ _,qbc.refl W,0,fun h=>absurd h (by decide),qhv _⟩
    | sl=>exact ⟨.bool false,W,g _ _ _,qbc.refl W,0,fun h=>absurd h (by decide),qhv _⟩
end
end Go.Proofs.YtiegopnofbgoaaaGreatDoor.AWN

namespace Go.Proofs.YtiegopnofbgoaaaGreatDoor.AWN
open Go Go.RowKit
def bsOf (len:Nat) (zs:List Int):List Int:=zs.take len
theorem qsz {len:Nat} {zs:List Int} (h:∀ n ∈ zs,0 ≤ n∧n < 256):∀ n ∈ bsOf len zs,0 ≤ n∧n < 256:=fun n hn=>h n (List.mem_of_mem_take hn)
theorem qtk {W:World} {ok:Nat→Prop} {f:Int→List D} (hf:∀ n,f n = [.int .u8 n]) (hok:∀ b,b < W.heap.size→ok b) {a:Option Addr} {len cap:Nat} {zs:List Int} (h:(a = none∧len = 0∧cap = 0∧zs = []) ∨
    ∃ x,a = some x∧len ≤ cap∧cap ≤ maxLen∧zs.length = cap∧(∀ i,i < zs.length→W.cell? (x.add i) = some (.int .u8 (zs.getD i 0)))∧∀ n ∈ zs,0 ≤ n∧n < 256):RelD W ok (.sl false ((bsOf len zs).map f)) (.slice a len cap):=by
  rcases h with ⟨rfl,rfl,rfl,rfl⟩ | ⟨x,rfl,h1,h2,h3,h4,h5⟩
  · exact .slnil false
  · by_cases hc:cap = 0
    · have hl:len = 0:=by omega
      subst hc hl
      have:bsOf 0 zs = []:=by simp [bsOf]
      rw [this]
      exact .sle false x
    · have h0:=h4 0 (by omega)
      have hsp:x.spot = none:=by
        cases hs:x.spot with
        | none=>rfl
        | some s =>
          exfalso
          unfold World.cell? at h0
          simp only [Addr.add,hs] at h0
          split at h0 <;> simp [hs] at h0
      obtain ⟨b,o,sp⟩:=x
      simp only at hsp
      subst hsp
      have hbl:((bsOf len zs).map f).length = len:=by simp [bsOf];omega
      have hget:∀ i,i < len→((bsOf len zs).map f).getD i [] = [.int .u8 (zs.getD i 0)]:=by
        intro i hi
        have hil:i < zs.length:=by omega
        simp [bsOf,List.getD_eq_getElem?_getD,List.getElem?_take,hi,hil,hf]
      refine .sl (sz:=1) (fun i _=>.int .u8 (zs.getD i 0)) (fun _=>hok b (qtu h0)) hbl h1 (fun h=>nomatch h) (by omega) (fun i hi=>by rw [hget i hi];rfl) (fun i c hi hcc=>?_) (fun i c hi hcc=>?_)
      · have:=h4 i (by omega)
        have hc0:c = 0:=by omega
        subst hc0
        by_cases hi0:i = 0
        · subst hi0;simpa [Addr.add] using this
        · simpa [Addr.add,hi0] using this
      · have hc0:c = 0:=by omega
        subst hc0
        rw [hget i hi]
        exact .int _ _
theorem qfs (j:Nat):qax [] j = .none:=by simp [qax]
theorem top_of_acall {P:Program} {k:FuncId} {args:List V} {vals:Array Value} {W:World} (hlay:∀ g vs,qo7 g = some vs→∃ T fr,W.heap[g]? = some (.cells vs T fr)) (hc:qb1 P false k args [] (fun r o n=>r = .d (.bool true)∧o = []∧n = []))
    (hrel:RelL W (fun _=>none) (qax []) (okF W (fun _=>True) (fun _=>none) (qax []) W) args vals):Calls P k vals W (fun e W'=>e = .returned (.bool true)∧Below W.heap.size W W'):=by
  have hs:HSim W ⟨qax [],fun _=>none⟩ (fun _=>True) (fun _=>none) (qax []) ([]:List AObj).length W :=
    { obj:=fun j=>by unfold qge;rw [qfs];trivial,inj:=fun i j b hi=>absurd (qfs i) hi,hnd:=fun j b hj=>absurd (qfs j) hj,fresh:=fun j _=>qfs j,ext:=Ext.refl _ _,keep:=MovesR.refl _ _ _,lay:=fun g vs hg=>⟨hlay g vs hg,fun ⟨j,hj,_⟩=>hj (qfs j)⟩ }
  refine (hc W ⟨qax [],fun _=>none⟩ (fun _=>none) (fun _=>True) vals rfl rfl hs hrel).mono fun e W' ⟨v,r,o,n,hb',he,⟨hr,ho,hn⟩,_,hs',hv⟩=>?_
  subst hr
  have:=qjz hv
  subst this
  have hx:=hs'.ext
  exact ⟨he,hx.os,hx.tape,hx.output,hx.size,fun k hk=>hx.kept k hk (fun ⟨j,hj,_⟩=>hj (qfs j))⟩
end Go.Proofs.YtiegopnofbgoaaaGreatDoor.AWN

namespace Go.Proofs.YtiegopnofbgoaaaGreatDoor.AWN
open Go
section
variable {ρ:Nat→Option Nat} {H:Nat→AObj} {α:Type} {f:α→List D}
theorem exC_sub {j sz L off len:Nat} (l:List α) (hr:ρ j = none) (hj:H j = .row sz (l.map f)):exC ρ H true (.row j L off len) = some (.d (.sl false (((l.drop off).take len).map f))):=by
  simp only [exC,hr,hj]
  rw [qsh]
theorem qvw {j sz L off len:Nat} (l:List α) (hr:ρ j = none) (hj:H j = .row sz (l.map f)):exV ρ H true (.row j L off len) = some (.d (.sl false (((l.drop off).take len).map f))):=exC_sub l hr hj
theorem exP_sub {j sz L off len:Nat} (l:List α) (hr:ρ j = none) (hj:H j = .row sz (l.map f)) (hL:L = l.length) (h:off + len ≤ L):exP ρ H (.row j L off len):=by
  simp only [exP,hr,hj,qb4]
  exact ⟨hL.symm,h⟩
theorem qug {j sz L off len:Nat} (l:List α) (hr:ρ j = none) (hj:H j = .row sz (l.map f)) (hL:L = l.length) (h:off + len ≤ L):exVP ρ H (.row j L off len):=exP_sub l hr hj hL h
end
theorem acall_quiet {P:Program} {fr:Bool} {k:FuncId} {args:List V} {rv:V}
    (h:∀ (W:World) (hb:Handle) (H:Nat→AObj) (ok:Nat→Prop) (vals:Array Value),(∀ g vs,qo7 g = some vs→∃ T f,W.heap[g]? = some (.cells vs T f))→RelL W hb H ok args vals →
      Calls P k vals W (fun e W'=>∃ v,e = .returned v∧(∃ q os,W' = Sort.grow (W.drewN q) os)∧∀ hb H ok,Rel W' hb H ok rv v)) :
    qb1 P fr k args [] (fun v o n=>v = rv∧o = []∧n = []):=by
  intro W A hb okA vals h1 h2 h3 h4
  refine (h W hb _ _ vals (fun g vs hg=>(h3.lay g vs hg).1) h4).mono ?_
  rintro e W' ⟨v,rfl,⟨q,os,rfl⟩,hv⟩
  refine ⟨v,rv,[],[],hb,rfl,⟨rfl,rfl,rfl⟩,rfl,?_,hv _ _ _⟩
  refine { obj:=fun j=>?_,inj:=fun i j b hi=>absurd (qfs i) hi,hnd:=fun j b hj=>absurd (qfs j) hj,fresh:=fun j _=>qfs j,ext:=⟨fun i hi _=>?_,?_,rfl,rfl,rfl⟩,keep:=⟨fun j cs hj=>?_,fun j sz es hj=>?_,fun j kk es hj=>?_⟩,lay:=h3.lay }
  · unfold qge
    rw [show qax ([] ++ []) j = .none from qfs j];trivial
  · show (W.heap ++ os)[i]? = _
    rw [Array.getElem?_append_left hi]
  · show _ ≤ (W.heap ++ os).size
    rw [Array.size_append];omega
  · rw [h1,qfs] at hj;cases hj
  · rw [h1,qfs] at hj;cases hj
  · rw [h1,qfs] at hj;cases hj
end Go.Proofs.YtiegopnofbgoaaaGreatDoor.AWN

namespace Go.Proofs.YtiegopnofbgoaaaGreatDoor.AWN
open Go Go.Proofs.Tryz
def tz64 (x:Int):Option Int:=if x = 0 then some 64 else (getI deBr (IntKind.wrap .u64 (bits .and .u64 x (IntKind.wrap .u64 (-x)) * 285870213051353865) / 288230376151711744)).bind fun v=>some (RowKit.wrap64 v)
theorem tz_zero (W:World):Calls prog 68 #[.int .u64 0] W fun e w'=>e = .returned (.int .i64 64)∧w' = W:=by
  go_enter func68,ntmps68
  go_wp2
  go_ret
  exact ⟨rfl,rfl⟩
theorem tz_walk (W:World) (x:Int) (hx:x ≠ 0) (v:Int) (h64:0 ≤ IntKind.wrap .u64 (bits .and .u64 x (IntKind.wrap .u64 (-x)) * 285870213051353865) / 288230376151711744∧IntKind.wrap .u64 (bits .and .u64 x (IntKind.wrap .u64 (-x)) * 285870213051353865) / 288230376151711744 < 64)
    (hc:W.cell? ⟨2,(IntKind.wrap .u64 (bits .and .u64 x (IntKind.wrap .u64 (-x)) * 285870213051353865) / 288230376151711744).toNat,none⟩ = some (.int .u8 v)) :
    Calls prog 68 #[.int .u64 x] W fun e w'=>e = .returned (.int .i64 (RowKit.wrap64 v))∧w' = W:=by
  go_enter func68,ntmps68
  go_wp2
  go_ret
  exact ⟨rfl,rfl⟩
theorem tz64_does {x r:Int} (h:tz64 x = some r):∀ (W:World) (hb:Handle) (H:Nat→AObj) (ok:Nat→Prop) (vals:Array Value),(∀ g vs,qo7 g = some vs→∃ T f,W.heap[g]? = some (.cells vs T f))→RelL W hb H ok [.d (.int .u64 x)] vals →
    Calls prog 68 vals W (fun e W'=>∃ v,e = .returned v∧(∃ q os,W' = Sort.grow (W.drewN q) os)∧∀ hb H ok,Rel W' hb H ok (.d (.int .i64 r)) v):=by
  intro W hb H ok vals hl hr
  obtain ⟨v,rfl,h1⟩:=qpk hr
  obtain rfl:=qi5 h1
  have fin:∀ e w',(e = Ending.returned (.int .i64 r)∧w' = W)→∃ v,e = .returned v∧(∃ q os,w' = Sort.grow (W.drewN q) os)∧∀ hb H ok,Rel w' hb H ok (.d (.int .i64 r)) v:=by
    rintro e w' ⟨rfl,rfl⟩
    exact ⟨_,rfl,⟨0,#[],by simp [Sort.grow,World.drewN]⟩,fun _ _ _=>qhz _ _⟩
  unfold tz64 at h
  split at h
  · rename_i h0
    subst h0
    cases h
    exact (tz_zero W).mono fin
  · rename_i h0
    obtain ⟨v,e1,e2⟩:=qub h
    cases e2
    obtain ⟨g0,g1⟩:=qb8 e1
    obtain ⟨T,f,hm⟩:=hl 2 _ layMem_2
    have hlt:=(List.getElem?_eq_some_iff.1 g1).1
    have hlen:deBr.length = 64:=by decide
    refine (tz_walk W x h0 v ⟨g0,by omega⟩ ?_).mono fin
    unfold World.cell?
    simp only [hm]
    simp [g1]
end Go.Proofs.YtiegopnofbgoaaaGreatDoor.AWN

namespace Go.Proofs.YtiegopnofbgoaaaGreatDoor.AWN
open Go
theorem qru {w:World} {b off:Nat} {d:Array Int} {k:Nat}:(Sort.putRow (Value.int .i64) w b off d).heap[k]? = if b = k then (w.heap[k]?).map (Sort.onCells (Sort.putCells (Value.int .i64) off d)) else w.heap[k]?:=by
  unfold Sort.putRow Sort.mapBlock
  rw [Array.getElem?_modify]
theorem three_args {W:World} {hb:Handle} {H:Nat→AObj} {ok:Nat→Prop} {x y z:V} {vals:Array Value} (h:RelL W hb H ok [x,y,z] vals):∃ v u t,vals = #[v,u,t]∧Rel W hb H ok x v∧Rel W hb H ok y u∧Rel W hb H ok z t:=by
  obtain ⟨h1,h2⟩:=h
  have hs:vals.size = 3:=by simp at h1;omega
  refine ⟨vals[0],vals[1],vals[2],?_,?_,?_,?_⟩
  · apply Array.ext
    · simp;omega
    · intro i hi hj
      simp at hj
      have:i = 0 ∨ i = 1 ∨ i = 2:=by omega
      rcases this with rfl | rfl | rfl <;> rfl
  · have:=h2 0 (by omega)
    simpa [Array.getD_eq_getD_getElem?,hs] using this
  · have:=h2 1 (by omega)
    simpa [Array.getD_eq_getD_getElem?,hs] using this
  · have:=h2 2 (by omega)
    simpa [Array.getD_eq_getD_getElem?,hs] using this
theorem rel_row_full {W:World} {hb:Handle} {H:Nat→AObj} {ok:Nat→Prop} {j L sz:Nat} {es:List (List D)} {v:Value} (hj:H j = .row sz es) (hL:es.length = L) (h0:0 < L) (h:Rel W hb H ok (.row j L 0 L) v) :
    ∃ b cap bs,v = .slice (some ⟨b,0,none⟩) L cap∧hb j = some b∧(W.shape? b).map (·.2) = some bs∧L ≤ cap∧cap * sz ≤ bs∧cap ≤ maxLen:=by
  generalize hx:(V.row j L 0 L) = x at h
  cases h with
  | @row _ _ _ _ b _ cap bs _ e1 e2 e3 e4 e5 e6 e7 e8 e9 =>
    cases hx
    rw [hj] at e1;cases e1
    refine ⟨b,cap,bs,by rw [Nat.zero_mul],e3,e4,e6,by simpa using e7,e9⟩
  | rowEmpty e1 e2 e3=>cases hx;omega
  | rowNil e1 e2=>cases hx;omega
  | rowStale v e1 e2 e3=>cases hx;rw [hj] at e1;cases e1;omega
  | _=>cases hx
theorem acall_row_write {P:Program} {fr:Bool} {k:FuncId} {f:Int→List D} (hf:∀ x,f x = [.int .i64 x]) {l r:List Int} {i j:Int} {len':Nat} (h0:0 < l.length) (hlen:r.length = l.length) (hle:len' ≤ l.length)
    (hc:∀ (W:World) (b cap:Nat),Sort.Holds (Value.int .i64) W b 0 l.toArray→l.length ≤ cap→cap ≤ 9223372036854775807 →
      Calls P k #[.slice (some ⟨b,0,none⟩) l.length cap,.int .i64 i,.int .i64 j] W fun e w'=>e = .returned (.slice (some ⟨b,0,none⟩) len' cap)∧∃ q,w' = Sort.putRow (Value.int .i64) (Sort.ahead W q) b 0 r.toArray) :
    qb1 P fr k [.row 0 l.length 0 l.length,.d (.int .i64 i),.d (.int .i64 j)] [.row 1 (l.map f)] (fun v o n=>v = .row 0 l.length 0 len'∧o = [.row 1 (r.map f)]∧n = []):=by
  intro W A hb okA vals h1 h2 h3 h4
  obtain ⟨v,u,t,rfl,g1,g2,g3⟩:=three_args h4
  obtain rfl:=qi5 g2
  obtain rfl:=qi5 g3
  have hj:qax [AObj.row 1 (l.map f)] 0 = .row 1 (l.map f):=rfl
  have hjn:qax [AObj.row 1 (l.map f)] 0 ≠ .none:=by rw [hj];simp
  obtain ⟨b,cap,bs,rfl,e3,e4,e6,e7,e9⟩:=rel_row_full hj (qb4 l) h0 g1
  obtain ⟨q0,q⟩:=qrx h3 hj
  rcases q with ⟨q1,q2⟩ | ⟨b',cells,T,frz,p1,p2,p3,p4,p5⟩
  · rw [q2] at e3;cases e3
  obtain rfl:=Option.some.inj (p1.symm.trans e3)
  rw [qb4,Nat.mul_one] at p3
  have hget:∀ x,x < l.length→cells.getD x undef = .int .i64 (l.getD x 0):=by
    intro x hx
    have:=p5 x 0 (by simpa using hx) (by decide)
    have e1:((l.map f).getD x []).getD 0 .nilp = .int .i64 (l.getD x 0):=by simp [List.getD_eq_getElem?_getD,hx,hf]
    rw [e1] at this
    have:=quz this
    simpa using this
  have hH:Sort.Holds (Value.int .i64) W b' 0 l.toArray:=by
    intro x hx
    have hx:x < l.length:=by simpa using hx
    have hxc:x < cells.size:=by omega
    refine ⟨?_,?_⟩
    · rw [cell_of_heap p2,Nat.zero_add]
      have:=hget x hx
      rw [Array.getD_eq_getD_getElem?,Array.getElem?_eq_getElem hxc] at this
      rw [Array.getElem?_eq_getElem hxc]
      simp only [Option.getD_some] at this
      rw [this]
      simp [List.getD_eq_getElem?_getD,hx]
    · rw [Nat.zero_add]
      exact frozen_of_heap p2 (p4 x hxc)
  refine (hc W b' cap hH e6 e9).mono ?_
  rintro e W' ⟨rfl,q,rfl⟩
  -- what was written
  have hp:(Sort.putRow (Value.int .i64) (Sort.ahead W q) b' 0 r.toArray).heap[b']? = some (.cells (Sort.putCells (Value.int .i64) 0 r.toArray cells) T frz):=by
    rw [qru,if_pos rfl]
    show (W.heap[b']?).map _ = _
    rw [p2];rfl
  have hps:(Sort.putCells (Value.int .i64) 0 r.toArray cells).size = cells.size:=by simp [Sort.putCells]
  have s2:Upd W (Sort.putRow (Value.int .i64) (Sort.ahead W q) b' 0 r.toArray) b' (Sort.putCells (Value.int .i64) 0 r.toArray cells) :=
    ⟨fun x hx=>by rw [qru,if_neg (Ne.symm hx)];rfl,⟨cells,T,frz,p2,hp,hps⟩,by
      unfold Sort.putRow Sort.mapBlock
      show (Array.modify W.heap b' _).size = _
      simp,rfl,rfl,rfl⟩
  have hob:∀ cs',qax [AObj.row 1 (l.map f)] 0 = .box cs'→∃ cs'',AObj.row 1 (r.map f) = .box cs'':=fun _ he=>by rw [hj] at he;cases he
  have hrow:∀ sz es',qax [AObj.row 1 (l.map f)] 0 = .row sz es'→∃ es'',AObj.row 1 (r.map f) = .row sz es''∧es'.length ≤ es''.length:=fun sz es' he'=>by
    rw [hj] at he';cases he';exact ⟨_,rfl,by simp [hlen]⟩
  have mv:=qga.store (w0:=W) (okA:=okA) (hb:=hb) (H:=qax [AObj.row 1 (l.map f)]) (ob:=.row 1 (r.map f)) s2.g hjn p1 (by simp) hob hrow (fun _ _ he=>by rw [hj] at he;cases he)
  have hnew:upd (qax [AObj.row 1 (l.map f)]) 0 (.row 1 (r.map f)) = qax ([AObj.row 1 (r.map f)] ++ []):=by
    funext x
    by_cases hx:x = 0
    · subst hx;rw [upd_same];rfl
    · rw [upd_ne _ _ hx,List.append_nil,qm2 (by simp;omega),qm2 (by simp;omega)]
  have hval:∀ ok',qx5 (Sort.putRow (Value.int .i64) (Sort.ahead W q) b' 0 r.toArray) hb ok' 0 1 (r.map f):=by
    intro ok'
    refine ⟨fun y hy=>?_,.inr ⟨b',_,T,frz,p1,hp,?_,by rw [hps];exact p4,fun x c hx hcc=>?_⟩⟩
    · obtain ⟨z,_,rfl⟩:=List.mem_map.1 hy
      rw [hf];rfl
    · rw [qb4,hps,Nat.mul_one];omega
    · have hx:x < r.length:=by simpa using hx
      have hc0:c = 0:=by omega
      subst hc0
      have hxc:x < cells.size:=by omega
      have e1:((r.map f).getD x []).getD 0 .nilp = .int .i64 (r.getD x 0):=by simp [List.getD_eq_getElem?_getD,hx,hf]
      rw [e1]
      have e2:(Sort.putCells (Value.int .i64) 0 r.toArray cells).getD (x * 1 + 0) undef = .int .i64 (r.getD x 0):=by
        simp only [Nat.mul_one,Nat.add_zero]
        unfold Sort.putCells
        simp [Array.getD_eq_getD_getElem?,hxc,hx,List.getD_eq_getElem?_getD]
      rw [e2]
      exact .int _ _
  have hsim:HSim W A okA hb (qax ([AObj.row 1 (r.map f)] ++ [])) ([AObj.row 1 (r.map f)] ++ ([]:List AObj)).length (Sort.putRow (Value.int .i64) (Sort.ahead W q) b' 0 r.toArray):=by
    have:=h3.store s2.g hjn p1 (ob:=.row 1 (r.map f)) (by simp) hob hrow (fun _ _ he=>by rw [hj] at he;cases he) (by
      unfold qge
      rw [upd_same]
      exact hval _)
    rw [hnew] at this
    exact this
  have hsim2:HSim W A (if fr then noOk else okA) hb (qax ([AObj.row 1 (r.map f)] ++ [])) ([AObj.row 1 (r.map f)] ++ ([]:List AObj)).length (Sort.putRow (Value.int .i64) (Sort.ahead W q) b' 0 r.toArray):=by
    cases fr with
    | false=>exact hsim
    | true =>
      refine { hsim with obj:=fun x=>?_ }
      by_cases hx:x = 0
      · subst hx
        unfold qge
        rw [show qax ([AObj.row 1 (r.map f)] ++ []) 0 = .row 1 (r.map f) from rfl]
        exact hval _
      · unfold qge
        rw [qm2 (by simp;omega)];trivial
  refine ⟨_,.row 0 l.length 0 len',[.row 1 (r.map f)],[],hb,rfl,⟨rfl,rfl,rfl⟩,rfl,hsim2,?_⟩
  have:=Rel.row (W:=Sort.putRow (Value.int .i64) (Sort.ahead W q) b' 0 r.toArray) (hb:=hb) (H:=qax ([AObj.row 1 (r.map f)] ++ [])) (ok:=okF W (if fr then noOk else okA) hb (qax ([AObj.row 1 (r.map f)] ++ [])) (Sort.putRow (Value.int .i64) (Sort.ahead W q) b' 0 r.toArray))
    (j:=0) (L:=l.length) (off:=0) (len:=len') (cap:=cap) (sz:=1) (es:=r.map f) (b:=b') (bs:=bs) rfl (by rw [qb4,hlen]) p1 ?_ (by omega) (by omega) (by simpa using e7) ?_ e9
  · simpa using this
  · rw [qtp s2];exact e4
  · omega
def qs7 (l:List Int) (i j:Int):Option (List Int):=if 0 ≤ i∧i ≤ j∧j ≤ (l.length:Int)∧0 < l.length then some (l.take i.toNat ++ l.drop j.toNat ++ List.replicate (j.toNat - i.toNat) 0) else none
end Go.Proofs.YtiegopnofbgoaaaGreatDoor.AWN

namespace Go.Proofs.YtiegopnofbgoaaaGreatDoor.AWN
open Go Go.Shelf Go.Proofs.Tryz
def que:Go.Shelf.Ren:=⟨fun | 45=>83 | n=>n,fun | 22=>36 | 23=>2 | 3=>3 | 4=>4 | 0=>0 | n=>n,fun | n=>n⟩
theorem eDel:Go.Proofs.SlLaysE.n45 prog que:={
  mixed:=by kernel_rfl
  f45:=⟨Tryz.f83.name,by decide,Tryz.func83.trans (congrArg some (by kernel_rfl))⟩
  t0:=Tryz.underlying0
  a0:=Tryz.isAgg0
  z0:=Tryz.sizeOf0
  v0:=Tryz.zeroValue0
  t3:=Tryz.underlying3
  a3:=Tryz.isAgg3
  z3:=Tryz.sizeOf3
  v3:=Tryz.zeroValue3
  t4:=Tryz.underlying4
  a4:=Tryz.isAgg4
  z4:=Tryz.sizeOf4
  v4:=Tryz.zeroValue4
  t22:=Tryz.underlying36
  a22:=Tryz.isAgg36
  z22:=Tryz.sizeOf36
  v22:=Tryz.zeroValue36
  a23:=Tryz.isAgg2
  z23:=Tryz.sizeOf2 }
theorem delete_does {fr:Bool} {f:Int→List D} (hf:∀ x,f x = [.int .i64 x]) {l r:List Int} {i j:Int} (h:qs7 l i j = some r) :
    qb1 prog fr 83 [.row 0 l.length 0 l.length,.d (.int .i64 i),.d (.int .i64 j)] [.row 1 (l.map f)] (fun v o n=>v = .row 0 l.length 0 (l.length - (j.toNat - i.toNat))∧o = [.row 1 (r.map f)]∧n = []):=by
  unfold qs7 at h
  split at h
  · rename_i hc
    obtain ⟨c1,c2,c3,c4⟩:=hc
    cases h
    obtain ⟨a,rfl⟩:∃ a:Nat,i = a:=⟨i.toNat,by omega⟩
    obtain ⟨b,rfl⟩:∃ b:Nat,j = b:=⟨j.toNat,by omega⟩
    simp only [Int.toNat_natCast]
    refine acall_row_write hf c4 (by simp;omega) (by omega) fun W blk cap hH h1 h2=>?_
    obtain ⟨i0,hi0,hz⟩:∃ i0,prog.info? 2 = some i0∧i0.size = 1:=by
      cases hi:prog.info? 2 with
      | none=>exact absurd (show (prog.info? 2).isSome = true by kernel_rfl) (by rw [hi];decide)
      | some x=>exact ⟨x,rfl,by
          have:(prog.info? 2).map (·.size) = some 1:=by kernel_rfl
          rw [hi] at this
          exact Option.some.inj this⟩
    have e45:que.f 45 = 83:=rfl
    have:=AnyE.slices_Delete eDel (Value.int .i64) (fun _=>rfl) (0:Int) (fun w=>zeroValue2 w) i0 hi0 hz blk 0 cap a b l.toArray W hH (by simpa using h1) h2 (by omega) (by simp;omega)
    rw [e45] at this
    simpa using this
  · cases h
end Go.Proofs.YtiegopnofbgoaaaGreatDoor.AWN

namespace Go.Proofs.YtiegopnofbgoaaaGreatDoor.AWN
open Go
section
variable {P:Program} {τ:Tab} {ops:Array Oper} {σ:St} {o:Oper} {rest:List Oper} {Q:Exit→St→Prop}
end
end Go.Proofs.YtiegopnofbgoaaaGreatDoor.AWN

namespace Go.Proofs.YtiegopnofbgoaaaGreatDoor.AWN
open Go
section
variable {α:Type}
end
end Go.Proofs.YtiegopnofbgoaaaGreatDoor.AWN

namespace Go.Proofs.YtiegopnofbgoaaaGreatDoor.AWN
open Go
theorem qv4 {α β:Type} (f:α→β):∀ (zs l:List α) (o:Nat),setL (l.map f) o (zs.map f) = (setL l o zs).map f
  | [],l,o=>rfl
  | z :: r,l,o=>by
    rw [List.map_cons,setL,setL,← qv4 f r (l.set o z) (o + 1),List.map_set]
theorem qw7 {α:Type} {f:α→List D} {H:Nat→AObj} {n j sz:Nat} {p:Prop} (l zs:List α) (off len:Nat) {ys:List (List D)} (hys:ys = zs.map f) :
    OR.needH p (.d (.int .i64 ((min ys.length len:Nat):Int))) (upd H j (.row sz (setL (l.map f) off (ys.take (min ys.length len))))) n =
    OR.needH p (.d (.int .i64 ((min zs.length len:Nat):Int))) (upd H j (.row sz ((setL l off (zs.take (min zs.length len))).map f))) n:=by
  subst hys
  rw [List.length_map,← List.map_take,qv4]
/-! ### Elements of arrays -/
theorem aidx_need {α:Type} {l:List α} {i:Int} {x:α} {len:Nat} {cs:List V} (h:getI l i = some x) (hl:l.length = len) (hc:cs.length = len):0 ≤ i∧i < (len:Int)∧i < (cs.length:Int):=by
  obtain ⟨h1,h2⟩:=qb8 h
  have h3:i.toNat < l.length:=by
    rcases Nat.lt_or_ge i.toNat l.length with h | h
    · exact h
    · rw [List.getElem?_eq_none h] at h2;cases h2
  omega
theorem or_aidx {α:Type} {f:α→V} {p:Prop} {l:List α} {i:Int} {x:α} (h:getI l i = some x):OR.need p ((l.map f).getD i.toNat .junk) = OR.need p (f x):=by
  obtain ⟨h1,h2⟩:=qb8 h
  rw [List.getD_eq_getElem?_getD,List.getElem?_map,h2];rfl
end Go.Proofs.YtiegopnofbgoaaaGreatDoor.AWN

namespace Go.Proofs.YtiegopnofbgoaaaGreatDoor.AWN
open Go
def bndP {α:Type} (o:Option α) (F:α→Prop):Prop:=∃ x,o = some x∧F x
theorem qaz {α:Type} {o:Option α} {F:α→Prop} {C:Prop} (h:bndP o F) (k:∀ x,o = some x→F x→C):C:=let ⟨x,h1,h2⟩:=h;k x h1 h2
def grdP (p:Prop) (x:Prop):Prop:=p∧x
theorem qq0 {p x C:Prop} (h:grdP p x) (k:p→x→C):C:=k h.1 h.2
theorem qk2 {p:Prop} [Decidable p] {x y:Prop} (h:if p then x else y) (hc:decide p = true):x:=by
  have hp:p:=of_decide_eq_true hc
  rwa [if_pos hp] at h
theorem qk1 {p:Prop} [Decidable p] {x y:Prop} (h:if p then x else y) (hc:decide p = false):y:=by
  have hp:¬ p:=of_decide_eq_false hc
  rwa [if_neg hp] at h
theorem qin {b:Bool} {x y:Prop} (h:if b = true then x else y) (hc:b = true):x:=by rwa [if_pos hc] at h
theorem qim {b:Bool} {x y:Prop} (h:if b = true then x else y) (hc:b = false):y:=by
  subst hc
  simpa using h
def nrwP (s k:FloatKind) (x:Nat) (F:Nat→Prop):Prop:=match ql6 s k x with
  | some y=>F y
  | none=>∀ r,r < 2 ^ k.format.width→F (canon k r)
section
variable {P:Program} {τ:Tab} {σ:St} {ops:Array Oper} {rest:List Oper} {o:Oper} {Q:Exit→St→Prop}
theorem qnx (hτ:qfd P τ) {s k:FloatKind} {x:Nat} {F:Nat→Prop} (hF:nrwP s k x F) (hw:qcx ops σ o = some true) (hd:qhi σ o.dst = true)
    (h:qbu τ σ o.op = (match ql6 s k x with
      | some r=>OR.val (.d (.fl k r))
      | none=>OR.pick (fun r=>r < 2 ^ k.format.width) (fun r=>.d (.fl k (canon k r)))))
    (hK:∀ y,F y→AWL P ops rest (σ.putO o.dst (.d (.fl k y))) Q):AWL P ops (o :: rest) σ Q:=by
  unfold nrwP at hF
  cases hc:ql6 s k x with
  | some y =>
    rw [hc] at hF h
    exact qa1 hτ hw hd h (hK y hF)
  | none =>
    rw [hc] at hF h
    exact awl_pick hτ hw hd h fun r hr=>hK _ (hF r hr)
end
end Go.Proofs.YtiegopnofbgoaaaGreatDoor.AWN

namespace Go.Proofs.YtiegopnofbgoaaaGreatDoor.AWN
open Go Ieee
theorem qv5 (a b:Nat):a <<< b = a * 2 ^ b:=Nat.shiftLeft_eq a b
theorem cut_zero (neg:Bool) (n:Nat):Toward.even.cut neg n 0 = n:=by
  simp [Toward.cut,Nat.mod_one]
theorem qpe (neg:Bool) (n drop:Nat):Toward.even.cut neg n drop = n / 2 ^ drop + (decide (2 ^ drop < 2 * (n % 2 ^ drop)) || (2 ^ drop == 2 * (n % 2 ^ drop) && n / 2 ^ drop % 2 == 1)).toNat:=by
  by_cases h:drop ≤ n.log2 + 2
  · unfold Toward.cut
    rw [Nat.min_eq_left h]
    simp [qv5]
  · have hn:n < 2 ^ (n.log2 + 1):=Nat.lt_log2_self
    have h1:2 ^ (n.log2 + 2) ≤ 2 ^ drop:=Nat.pow_le_pow_right (by decide) (by omega)
    have h2:2 ^ (n.log2 + 2) = 2 * 2 ^ (n.log2 + 1):=by rw [Nat.pow_succ];omega
    have h3:n < 2 ^ (n.log2 + 2):=by omega
    have d1:n / 2 ^ drop = 0:=Nat.div_eq_of_lt (by omega)
    have d2:n % 2 ^ drop = n:=Nat.mod_eq_of_lt (by omega)
    have d3:n / 2 ^ (n.log2 + 2) = 0:=Nat.div_eq_of_lt h3
    have d4:n % 2 ^ (n.log2 + 2) = n:=Nat.mod_eq_of_lt h3
    unfold Toward.cut
    rw [Nat.min_eq_right (by omega),qv5,Nat.one_mul]
    simp only [d1,d2,d3,d4]
    have e1:decide (2 ^ (n.log2 + 2) < 2 * n) = false:=by simp;omega
    have e2:decide (2 ^ drop < 2 * n) = false:=by simp;omega
    rw [e1,e2]
    simp
theorem nearest_zero (f:Format) (neg:Bool) (p:Int):f.nearest neg 0 p = f.word neg 0:=by simp [Format.nearest]
def qi8 (f:Format) (m:Nat) (p:Int):Int:=max (p + m.log2 - f.fractionBits) f.leastPlace
def qmq (f:Format) (m:Nat) (p:Int):Nat:=Toward.even.cut false (m <<< (p - qi8 f m p).toNat) (qi8 f m p - p).toNat
theorem nearest_eq (f:Format) (neg:Bool) {m:Nat} (p:Int) (hm:m ≠ 0):f.nearest neg m p = f.word neg (min ((qi8 f m p - f.leastPlace).toNat * f.binade + qmq f m p) f.infRung):=by
  unfold Format.nearest
  rw [if_neg hm]
  dsimp only
  rw [show Toward.even.cut neg = Toward.even.cut false by funext a b;rw [qpe,qpe]]
  rfl
theorem cut_le (n drop M:Nat) (h:n ≤ M * 2 ^ drop):Toward.even.cut false n drop ≤ M:=by
  rw [qpe]
  have hp:=Nat.two_pow_pos drop
  have hdm:=Nat.div_add_mod n (2 ^ drop)
  have hml:=Nat.mod_lt n hp
  by_cases hr:n % 2 ^ drop = 0
  · have:n / 2 ^ drop ≤ M:=Nat.div_le_of_le_mul (by rw [Nat.mul_comm];exact h)
    have e1:decide (2 ^ drop < 2 * (n % 2 ^ drop)) = false:=by rw [hr];simp
    have e2:(2 ^ drop == 2 * (n % 2 ^ drop)) = false:=by rw [hr];simp
    rw [e1,e2]
    simpa using this
  · have:n / 2 ^ drop < M:=by
      rw [Nat.div_lt_iff_lt_mul hp]
      rcases Nat.lt_or_eq_of_le h with h' | h'
      · exact h'
      · exfalso;apply hr;rw [h'];exact Nat.mul_mod_left ..
    have hb:∀ b:Bool,b.toNat ≤ 1:=by intro b;cases b <;> decide
    have:=hb (decide (2 ^ drop < 2 * (n % 2 ^ drop)) || (2 ^ drop == 2 * (n % 2 ^ drop) && n / 2 ^ drop % 2 == 1))
    omega
theorem cut_ge (n drop M:Nat) (h:M * 2 ^ drop ≤ n):M ≤ Toward.even.cut false n drop:=by
  rw [qpe]
  have:M ≤ n / 2 ^ drop:=(Nat.le_div_iff_mul_le (Nat.two_pow_pos drop)).2 h
  omega
theorem kept_bounds (f:Format) {m:Nat} {p:Int} (hm:m ≠ 0):qmq f m p ≤ 2 * f.binade∧(f.leastPlace ≤ p + m.log2 - f.fractionBits→f.binade ≤ qmq f m p):=by
  unfold qmq
  have h1:=Nat.log2_self_le hm
  have h2:=@Nat.lt_log2_self m
  generalize hL:m.log2 = L at *
  have hlast:qi8 f m p = max (p + L - f.fractionBits) f.leastPlace:=by rw [qi8,hL]
  rw [hlast]
  generalize hlst:max (p + L - f.fractionBits:Int) f.leastPlace = last at *
  rw [qv5]
  have hb:2 * f.binade = 2 ^ (f.fractionBits + 1):=by rw [Format.binade,Nat.pow_succ];omega
  constructor
  · apply cut_le
    rw [hb]
    rw [← Nat.pow_add]
    have:m * 2 ^ (p - last).toNat ≤ 2 ^ (L + 1) * 2 ^ (p - last).toNat:=Nat.mul_le_mul_right _ (Nat.le_of_lt h2)
    refine Nat.le_trans this ?_
    rw [← Nat.pow_add]
    exact Nat.pow_le_pow_right (by decide) (by omega)
  · intro hle
    apply cut_ge
    rw [Format.binade,← Nat.pow_add]
    have:2 ^ L * 2 ^ (p - last).toNat ≤ m * 2 ^ (p - last).toNat:=Nat.mul_le_mul_right _ h1
    refine Nat.le_trans ?_ this
    rw [← Nat.pow_add]
    exact Nat.pow_le_pow_right (by decide) (by omega)
theorem kept_exact (f:Format) {m:Nat} {p:Int} (hm:m ≠ 0) (hs:m < 2 ^ (f.fractionBits + 1)) (hp:f.leastPlace ≤ p):qi8 f m p ≤ p∧qmq f m p = m * 2 ^ (p - qi8 f m p).toNat:=by
  have hL:m.log2 < f.fractionBits + 1:=(Nat.log2_lt hm).2 hs
  have h1:qi8 f m p ≤ p:=by unfold qi8;omega
  refine ⟨h1,?_⟩
  unfold qmq
  rw [show (qi8 f m p - p).toNat = 0 by omega,cut_zero,qv5]
def qjy (f:Format):Nat:=2 ^ f.exponentBits - 1
theorem read_nearest (f:Format) (hf:f.infRung < f.signWeight) (hr:0 < qjy f) (neg:Bool) {m:Nat} {p:Int} (hm:m ≠ 0) (hs:m < 2 ^ (f.fractionBits + 1)) (hp:f.leastPlace ≤ p) (hmax:(p + m.log2 - f.fractionBits - f.leastPlace + 1:Int) < qjy f) :
    f.read (f.nearest neg m p) = .number neg (m * 2 ^ (p - qi8 f m p).toNat) (qi8 f m p):=by
  obtain ⟨hle,hk⟩:=kept_exact f hm hs hp
  obtain ⟨b1,b2⟩:=kept_bounds f (p:=p) hm
  rw [nearest_eq f neg p hm]
  have hbp:0 < f.binade:=Nat.two_pow_pos _
  have hL:m.log2 < f.fractionBits + 1:=(Nat.log2_lt hm).2 hs
  have hkl:qmq f m p < 2 * f.binade:=by
    rw [hk]
    have h2:=@Nat.lt_log2_self m
    have:m * 2 ^ (p - qi8 f m p).toNat < 2 ^ (m.log2 + 1) * 2 ^ (p - qi8 f m p).toNat:=Nat.mul_lt_mul_of_pos_right h2 (Nat.two_pow_pos _)
    rw [← Nat.pow_add] at this
    have h3:2 * f.binade = 2 ^ (f.fractionBits + 1):=by rw [Format.binade,Nat.pow_succ];omega
    rw [h3]
    exact Nat.lt_of_lt_of_le this (Nat.pow_le_pow_right (by decide) (by unfold qi8;omega))
  have hrung:(qi8 f m p - f.leastPlace).toNat * f.binade + qmq f m p < f.infRung:=by
    have h0:(qi8 f m p - f.leastPlace).toNat + 2 ≤ qjy f ∨ qi8 f m p = f.leastPlace∧(qmq f m p < f.binade ∨ 2 ≤ qjy f):=by
      unfold qi8
      rcases Int.le_total (p + m.log2 - f.fractionBits) f.leastPlace with h | h
      · right
        refine ⟨by omega,?_⟩
        by_cases he:p + m.log2 - f.fractionBits = f.leastPlace
        · right;omega
        · left
          rw [hk]
          have h2:=@Nat.lt_log2_self m
          have:m * 2 ^ (p - qi8 f m p).toNat < 2 ^ (m.log2 + 1) * 2 ^ (p - qi8 f m p).toNat:=Nat.mul_lt_mul_of_pos_right h2 (Nat.two_pow_pos _)
          rw [← Nat.pow_add] at this
          refine Nat.lt_of_lt_of_le this ?_
          rw [Format.binade]
          exact Nat.pow_le_pow_right (by decide) (by unfold qi8;omega)
      · left;omega
    have hi:f.infRung = qjy f * f.binade:=rfl
    rw [hi]
    rcases h0 with h0 | ⟨h0,h1 | h1⟩
    · have:=Nat.mul_le_mul_right f.binade h0
      rw [Nat.add_mul] at this
      omega
    · rw [h0]
      simp only [Int.sub_self,Int.toNat_zero,Nat.zero_mul,Nat.zero_add]
      have:1 ≤ qjy f:=hr
      have:=Nat.mul_le_mul_right f.binade this
      omega
    · rw [h0]
      simp only [Int.sub_self,Int.toNat_zero,Nat.zero_mul,Nat.zero_add]
      have:=Nat.mul_le_mul_right f.binade h1
      omega
  rw [Nat.min_eq_left (Nat.le_of_lt hrung),qks _ _ _ (by omega)]
  rw [← hk]
  by_cases hb:qmq f m p < f.binade
  · have hl:qi8 f m p = f.leastPlace:=by
      rcases Int.le_total f.leastPlace (p + m.log2 - f.fractionBits) with h | h
      · exact absurd (b2 h) (by omega)
      · unfold qi8;omega
    rw [hl]
    simp only [Int.sub_self,Int.toNat_zero,Nat.zero_mul,Nat.zero_add]
    rw [if_pos hb]
  · have hge:f.binade ≤ qmq f m p:=by omega
    have e:(qi8 f m p - f.leastPlace).toNat * f.binade + qmq f m p = (qmq f m p - f.binade) + f.binade * ((qi8 f m p - f.leastPlace).toNat + 1):=by
      rw [Nat.mul_add,Nat.mul_comm];omega
    have hmod:((qi8 f m p - f.leastPlace).toNat * f.binade + qmq f m p) % f.binade = qmq f m p - f.binade:=by
      rw [e,Nat.add_mul_mod_self_left,Nat.mod_eq_of_lt (by omega)]
    have hdiv:((qi8 f m p - f.leastPlace).toNat * f.binade + qmq f m p) / f.binade = (qi8 f m p - f.leastPlace).toNat + 1:=by
      rw [e,Nat.add_mul_div_left _ _ hbp,Nat.div_eq_of_lt (by omega)];omega
    have hn:¬ (qi8 f m p - f.leastPlace).toNat * f.binade + qmq f m p < f.binade:=by omega
    rw [hmod,hdiv,if_neg hn,if_pos hrung]
    congr 1
    · omega
    · have:f.leastPlace ≤ qi8 f m p:=by unfold qi8;omega
      omega
end Go.Proofs.YtiegopnofbgoaaaGreatDoor.AWN

namespace Go.Proofs.YtiegopnofbgoaaaGreatDoor.AWN
open Go Ieee
structure qxc (f:Format):Prop where
  rung:f.infRung < f.signWeight
  most:0 < qjy f
theorem fmtOk (k:FloatKind):qxc k.format:=⟨k.format.infRung_lt,by cases k <;> decide⟩
structure Ex (f:Format) (m:Nat) (p:Int):Prop where
  size:m < 2 ^ (f.fractionBits + 1)
  least:f.leastPlace ≤ p
  most:(p + m.log2 - f.fractionBits - f.leastPlace + 1:Int) < qjy f
theorem read_ex {f:Format} (hf:qxc f) (neg:Bool) {m:Nat} {p:Int} (h:Ex f m p):∃ (a:Nat) (P:Int),f.read (f.nearest neg m p) = .number neg (m * 2 ^ a) P∧(m ≠ 0→P = p - a∧m.log2 + a ≤ f.fractionBits):=by
  by_cases hm:m = 0
  · subst hm
    refine ⟨0,f.leastPlace,?_,fun h=>absurd rfl h⟩
    rw [nearest_zero,qks _ _ _ (by have:=hf.rung;omega),if_pos (show 0 < f.binade from Nat.two_pow_pos _)]
  · have hL:m.log2 < f.fractionBits + 1:=(Nat.log2_lt hm).2 h.size
    have h1:qi8 f m p ≤ p:=by have:=h.least;unfold qi8;omega
    refine ⟨(p - qi8 f m p).toNat,qi8 f m p,read_nearest f hf.rung hf.most neg hm h.size h.least h.most,fun _=>⟨by omega,?_⟩⟩
    unfold qi8;omega
/-! ### Between 0 and 1 -/
end Go.Proofs.YtiegopnofbgoaaaGreatDoor.AWN

namespace Go.Proofs.YtiegopnofbgoaaaGreatDoor.AWN
open Go Ieee
end Go.Proofs.YtiegopnofbgoaaaGreatDoor.AWN

namespace Go.Proofs.YtiegopnofbgoaaaGreatDoor.AWN
open Go Ieee
theorem ex_read {f:Format} (h2:1 < qjy f) {w:Nat} {neg:Bool} {m:Nat} {p:Int} (h:f.read w = .number neg m p):Ex f m p:=by
  unfold Format.read at h
  simp only at h
  have hb:0 < f.binade:=Nat.two_pow_pos _
  have e2:2 ^ (f.fractionBits + 1) = 2 * f.binade:=by rw [Format.binade,Nat.pow_succ];omega
  split at h
  · rename_i hr
    injection h with h0 h1 h3
    subst h3;subst h1
    have hl:w % f.signWeight = 0 ∨ (w % f.signWeight).log2 < f.fractionBits:=by
      by_cases h0:w % f.signWeight = 0
      · exact .inl h0
      · exact .inr ((Nat.log2_lt h0).2 hr)
    refine ⟨by omega,Int.le_refl _,?_⟩
    rcases hl with hl | hl
    · rw [hl,show Nat.log2 0 = 0 from by decide];omega
    · omega
  · split at h
    · rename_i hr hi
      injection h with h0 h1 h3
      subst h3;subst h1
      have hm:=Nat.mod_lt (w % f.signWeight) hb
      have hd:w % f.signWeight / f.binade < qjy f:=(Nat.div_lt_iff_lt_mul hb).2 hi
      have hd0:1 ≤ w % f.signWeight / f.binade:=(Nat.le_div_iff_mul_le hb).2 (by omega)
      have hlo:(f.binade + w % f.signWeight % f.binade).log2 < f.fractionBits + 1:=(Nat.log2_lt (by omega)).2 (by omega)
      exact ⟨by omega,by omega,by omega⟩
    · split at h <;> cases h
theorem ex_wide {m:Nat} {p:Int} (h:Ex single m p):Ex double m p:=by
  obtain ⟨h1,h2,h3⟩:=h
  have e1:single.fractionBits = 23:=rfl
  have e2:double.fractionBits = 52:=rfl
  have e3:single.leastPlace = -149:=by decide
  have e4:double.leastPlace = -1074:=by decide
  have e5:qjy single = 255:=by decide
  have e6:qjy double = 2047:=by decide
  rw [e1,e3,e5] at h3
  rw [e3] at h2
  rw [e1] at h1
  exact ⟨by rw [e2];exact Nat.lt_of_lt_of_le h1 (by decide),by rw [e4];omega,by rw [e2,e4,e6];omega⟩
theorem sgl_ok:1 < qjy single:=by decide
theorem qtq (x:Nat):∃ r,ql6 .f32 .f64 x = some r∧isnan .f64 r = isnan .f32 x∧(∀ neg m p,single.read x = .number neg m p→r = double.nearest neg m p):=by
  unfold ql6
  rw [show fkEq .f32 .f64 = false from rfl,cond_false]
  have hd:FloatKind.f32.decode x = single.read x:=rfl
  rw [hd]
  cases h:single.read x with
  | nan s t =>
    refine ⟨qnan .f64,rfl,?_,fun _ _ _ h=>nomatch h⟩
    unfold isnan
    rw [show FloatKind.f32.format.read x = single.read x from rfl,h];show _ = true;decide
  | infinity s =>
    refine ⟨_,rfl,?_,fun _ _ _ h=>nomatch h⟩
    unfold isnan
    rw [show FloatKind.f32.format.read x = single.read x from rfl,h]
    cases s <;> decide
  | number s m p =>
    have hx:=ex_wide (ex_read sgl_ok h)
    obtain ⟨a,P,hr,_⟩:=read_ex (fmtOk .f64) s hx
    have hr':FloatKind.f64.decode (FloatKind.f64.encode (.number s m p)) = .number s (m * 2 ^ a) P:=hr
    refine ⟨FloatKind.f64.encode (.number s m p),?_,?_,fun neg m' p' he=>?_⟩
    · simp only [hr'];rfl
    · unfold isnan
      rw [show FloatKind.f32.format.read x = single.read x from rfl,h]
      have:FloatKind.f64.format.read (FloatKind.f64.encode (.number s m p)) = .number s (m * 2 ^ a) P:=hr
      rw [this];rfl
    · injection he with e1 e2 e3;subst e1;subst e2;subst e3;rfl
end Go.Proofs.YtiegopnofbgoaaaGreatDoor.AWN

namespace Go.Proofs.YtiegopnofbgoaaaGreatDoor.AWN
open Go Ieee
def rung (f:Format) (m:Nat) (p:Int):Nat:=if m = 0 then 0 else min ((qi8 f m p - f.leastPlace).toNat * f.binade + qmq f m p) f.infRung
def key (f:Format) (w:Nat):Int:=if w / f.signWeight % 2 = 1 then -((w % f.signWeight:Nat):Int) else ((w % f.signWeight:Nat):Int)
def Fin' (f:Format) (w:Nat):Prop:=∃ s m p,f.read w = .number s m p
structure FmtK (f:Format):Prop where
  rung:f.infRung < f.signWeight
  many:1 < qjy f
  low:f.leastPlace ≤ 0
end Go.Proofs.YtiegopnofbgoaaaGreatDoor.AWN

namespace Go.Proofs.YtiegopnofbgoaaaGreatDoor.AWN
open Go Ieee
structure W (f:Format) (w:Nat):Prop where
  lt:w < 2 * f.signWeight
  fin:Fin' f w
section
variable {f:Format} (hf:FmtK f)
include hf
end
end Go.Proofs.YtiegopnofbgoaaaGreatDoor.AWN

namespace Go.Proofs.YtiegopnofbgoaaaGreatDoor.AWN
open Go Ieee
section
variable {k:FloatKind} {x y:Nat} (hx:W k.format x) (hy:W k.format y)
include hx hy
end
section
variable {k:FloatKind} {x y lo hi:Nat} (hx:W k.format x) (hy:W k.format y) (hlo:W k.format lo) (hhi:W k.format hi)
include hx hy hlo hhi
end
end Go.Proofs.YtiegopnofbgoaaaGreatDoor.AWN

namespace Go.Proofs.YtiegopnofbgoaaaGreatDoor.AWN
open Go Ieee
section
variable {k:FloatKind}
theorem up (k:FloatKind):(0:Int) < ((2 ^ (-k.format.leastPlace).toNat:Nat):Int):=by have:=Nat.two_pow_pos (-k.format.leastPlace).toNat;omega
end
end Go.Proofs.YtiegopnofbgoaaaGreatDoor.AWN

namespace Go.Proofs.YtiegopnofbgoaaaGreatDoor.AWN
open Go Ieee
end Go.Proofs.YtiegopnofbgoaaaGreatDoor.AWN

namespace Go.Proofs.YtiegopnofbgoaaaGreatDoor.AWN
open Go Ieee
/-! ### Powers of two -/
def p2 (z:Int):Rat:=(2:Rat) ^ z
/-! ### A cut -/
end Go.Proofs.YtiegopnofbgoaaaGreatDoor.AWN

namespace Go.Proofs.YtiegopnofbgoaaaGreatDoor.AWN
open Go Ieee
def ulp:FloatKind→Rat
  | .f32=>1 / 16777216
  | .f64=>1 / 9007199254740992
def tiny:Rat:=1 / 1000000000000000000000000000000
def huge:Rat:=1000000000000000000000000000000
abbrev FW (k:FloatKind) (w:Nat):Prop:=W k.format w
end Go.Proofs.YtiegopnofbgoaaaGreatDoor.AWN

namespace Go.Proofs.YtiegopnofbgoaaaGreatDoor.AWN
open Go Ieee
section
variable {k:FloatKind} {x y:Nat} (hx:FW k x) (hy:FW k y) {M:Rat} (hM:M ≤ huge)
include hx hy hM
end
/-! ### Order -/
section
variable {k:FloatKind} {x y:Nat} (hx:FW k x) (hy:FW k y)
include hx hy
end
/-! ### Quotients -/
end Go.Proofs.YtiegopnofbgoaaaGreatDoor.AWN

namespace Go.Proofs.YtiegopnofbgoaaaGreatDoor.AWN
open Go Ieee
def er (k:FloatKind) (M:Rat):Rat:=M * ulp k + tiny
section
variable {k:FloatKind} {x y:Nat} {a b c d lo hi M:Rat}
end
/-! ### Sums with nought -/
/-! ### Roots -/
end Go.Proofs.YtiegopnofbgoaaaGreatDoor.AWN

namespace Go.Proofs.YtiegopnofbgoaaaGreatDoor.AWN
open Go Ieee
structure Cq where
  re:Rat
  im:Rat
instance : Add Cq:=⟨fun x y=>⟨x.re + y.re,x.im + y.im⟩⟩
instance : Sub Cq:=⟨fun x y=>⟨x.re - y.re,x.im - y.im⟩⟩
instance : Neg Cq:=⟨fun x=>⟨-x.re,-x.im⟩⟩
instance : Mul Cq:=⟨fun x y=>⟨x.re * y.re - x.im * y.im,x.re * y.im + x.im * y.re⟩⟩
def n2 (x:Cq):Rat:=x.re * x.re + x.im * x.im
end Go.Proofs.YtiegopnofbgoaaaGreatDoor.AWN
