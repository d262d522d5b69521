/- Return: from a body to a contract. -/
import Derived.Test.YtiegopnofbgoaaaGreatFnRecsA
import Derived.Orders
import Derived.Test.YtiegopnofbgoaaaGreatProg
import Derived.KernelRfl
import Derived.Laws.BytesString
import Derived.Below
import Derived.RowKit
import Derived.Sort.Grow
import Derived.Sort.Row
import Derived.Shelf.Strings.Builder1
import Derived.Lib.Builder
import Derived.Lib.AppendStr
import Derived.BigCall
import Derived.Lib.OthersKept
import Derived.Lib.OwnKind
import Derived.LoopTactic
import Derived.Deep.RegionHeld3
set_option linter.unusedVariables false
set_option linter.unusedSimpArgs false
set_option linter.unusedSectionVars false
namespace Go.Proofs.YtiegopnofbgoaaaGreat.AWN
open Go
/-! ### Data without slices: related whatever memory may be read -/
def D.flat:D→Prop
  | .sl _ es=>es = []
  | _=>True
def V.qf9:V→Prop
  | .d x=>x.flat
  | .rop cs _=>cs = []
  | .func _ a c=>a = []∧c = []
  | .agg _=>False
  | .tup _=>False
  | _=>True
def V.qiq:V→Prop
  | .agg cs=>∀ c ∈ cs,c.qf9
  | v=>v.qf9
def V.flat:V→Prop
  | .tup vs=>∀ v ∈ vs,v.qiq
  | v=>v.qiq
def AObj.flat:AObj→Prop
  | .none=>True
  | .box cs=>∀ c ∈ cs,c.qf9
  | .row _ es=>∀ e ∈ es,∀ c ∈ e,c.flat
  | .map _ es=>∀ e ∈ es,e.2.flat
section
variable {P:Program} {τ:Tab} {W:World} {hb hb':Handle} {H H':Nat→AObj} {ok ok':Nat→Prop}
theorem RelD.flat {x:D} {v:Value} (h:RelD W ok x v) (hf:x.flat):RelD W ok' x v:=by
  cases h with
  | bool b=>exact .bool b
  | int k n=>exact .int k n
  | fl h1 h2=>exact .fl h1 h2
  | cx h1 h2 h3 h4=>exact .cx h1 h2 h3 h4
  | str s=>exact .str s
  | slnil t=>exact .slnil t
  | sle t a=>exact .sle t a
  | nils=>exact .nils
  | nilp=>exact .nilp
  | nilf=>exact .nilf
  | nilm=>exact .nilm
  | sl sz vals h1 h2 h3 h4 hm h5 h6 h7 =>
    have he:_ = []:=hf
    subst he
    simp at h2
    subst h2
    exact .sl sz vals (fun h=>absurd rfl h) rfl h3 h4 hm (fun i hi=>by omega) (fun i c hi=>by omega) (fun i c hi=>by omega)
theorem Rel.qf9 {x:V} {v:Value} (h:Rel W hb H ok x v) (hf:x.qf9):Rel W hb H ok' x v:=by
  cases h with
  | junk v=>exact .junk v
  | und=>exact .und
  | d h=>exact .d (h.flat hf)
  | agg=>exact hf.elim
  | tup=>exact hf.elim
  | ptr h1 h2=>exact .ptr h1 h2
  | eptr h1 h2 h3=>exact .eptr h1 h2 h3
  | eptrStale v h1 h2 h3=>exact .eptrStale _ h1 h2 h3
  | @rop cs b o off vals h1 h2 h3 =>
    have hc:cs = []:=hf
    subst hc;exact .rop vals (fun h=>absurd rfl h) h2 (fun c hc=>by simp at hc)
  | row h1 h2 h3 h4 h5 h6 h7 h8 h9=>exact .row h1 h2 h3 h4 h5 h6 h7 h8 h9
  | rowEmpty h1 h2 h3=>exact .rowEmpty h1 h2 h3
  | rowNil h1 h2=>exact .rowNil h1 h2
  | rowStale v h1 h2 h3=>exact .rowStale _ h1 h2 h3
  | func h1 h2 h3 h4 =>
    obtain ⟨rfl,rfl⟩:=hf
    exact .func h1 h2 (fun i hi=>by rw [← h1] at hi;simp at hi) (fun i hi=>by rw [← h2] at hi;simp at hi)
  | mref h1 h2=>exact .mref h1 h2
theorem Rel.qiq {x:V} {v:Value} (h:Rel W hb H ok x v) (hf:x.qiq):Rel W hb H ok' x v:=by
  by_cases hx:∃ cs,x = .agg cs
  · obtain ⟨cs,rfl⟩:=hx
    cases h with
    | agg e1 e2 =>
      refine .agg e1 (fun i hi=>?_)
      have hl:i < cs.length:=by omega
      have:=e2 i hi
      rw [List.getD_eq_getElem?_getD,List.getElem?_eq_getElem hl] at *
      exact this.qf9 (hf _ (List.getElem_mem hl))
  · refine h.qf9 ?_
    cases x <;> first | exact hf | exact absurd ⟨_,rfl⟩ hx
theorem Rel.flat {x:V} {v:Value} (h:Rel W hb H ok x v) (hf:x.flat):Rel W hb H ok' x v:=by
  by_cases hx:∃ cs,x = .tup cs
  · obtain ⟨cs,rfl⟩:=hx
    cases h with
    | tup e1 e2 =>
      refine .tup e1 (fun i hi=>?_)
      have hl:i < cs.length:=by omega
      have:=e2 i hi
      rw [List.getD_eq_getElem?_getD,List.getElem?_eq_getElem hl] at *
      exact this.qiq (hf _ (List.getElem_mem hl))
  · refine h.qiq ?_
    cases x <;> first | exact hf | exact absurd ⟨_,rfl⟩ hx
theorem qh5.flat {j:Nat} (h:qh5 W hb H ok j) (hf:(H j).flat):qh5 W hb H ok' j:=by
  unfold qh5 at *
  cases hj:H j with
  | none=>trivial
  | box cs =>
    rw [hj] at h hf
    obtain ⟨b,vals,T,fr,h1,h2,h3,h4,h5,h6⟩:=h
    refine ⟨b,vals,T,fr,h1,h2,h3,h4,h5,fun i hi=>?_⟩
    have hl:i < cs.length:=by omega
    have:=h6 i hi
    rw [List.getD_eq_getElem?_getD,List.getElem?_eq_getElem hl] at *
    exact this.qf9 (hf _ (List.getElem_mem hl))
  | row sz es =>
    rw [hj] at h hf
    obtain ⟨h0,h⟩:=h
    refine ⟨h0,?_⟩
    rcases h with h | ⟨b,vals,T,fr,h1,h2,h3,h4,h5⟩
    · exact .inl h
    · refine .inr ⟨b,vals,T,fr,h1,h2,h3,h4,fun i c hi hc=>?_⟩
      have:=h5 i c hi hc
      have he:es.getD i [] = es[i]:=by rw [List.getD_eq_getElem?_getD,List.getElem?_eq_getElem hi];rfl
      have hl:c < es[i].length:=by rw [h0 _ (List.getElem_mem hi)];exact hc
      have hd:es[i].getD c .nilp = es[i][c]:=by rw [List.getD_eq_getElem?_getD,List.getElem?_eq_getElem hl];rfl
      exact this.flat (by rw [he,hd];exact hf _ (List.getElem_mem hi) _ (List.getElem_mem hl))
  | map k es =>
    rw [hj] at h hf
    obtain ⟨b,ents,cl,h1,h2,h3,h4⟩:=h
    exact ⟨b,ents,cl,h1,h2,h3,fun i e x he hx=>⟨(h4 i e x he hx).1,(h4 i e x he hx).2.flat (hf x (List.mem_of_getElem? hx))⟩⟩
/-! ### What a body returns -/
def qtw (τ:Tab) (σ:St):ResultVar→Option V
  | .tmp t=>some (σ.env t)
  | .cell x t=>match τ t with
    | some td=>match σ.env x with
      | .ptr j off=>match σ.heap j with
        | .box cs=>qp6 td cs off
        | _=>none
      | _=>none
    | none=>none
def resV (τ:Tab) (rs:List ResultVar) (σ:St):Option V :=
  match mapO (qtw τ σ) rs with
  | some [v]=>some v
  | some vs=>some (.tup vs)
  | none=>none
theorem resOne_run (hτ:qfl P τ) {w0:World} {A:Args} {okA:Nat→Prop} {σ:St} {a:Act} (h:Sim w0 A okA hb σ a W) {r:ResultVar} {v:V} (hr:qtw τ σ r = some v) :
    ∃ cv,(match r with
      | .tmp t=>(pure (a.tmps.getD t undef):Sem Value)
      | .cell x t=>do loadVar t (← asAddr (a.tmps.getD x undef))).run P W = .ok cv W∧RelS w0 okA hb σ.heap W v cv:=by
  cases r with
  | tmp t =>
    simp only [qtw,Option.some.injEq] at hr
    subst hr
    exact ⟨_,rfl,h.env t⟩
  | cell x t =>
    simp only [qtw] at hr
    split at hr
    · rename_i td ht
      split at hr
      · rename_i j off hx
        split at hr
        · rename_i cs hj
          have he:=h.env x
          rw [hx] at he
          obtain ⟨b,hu,e2⟩:∃ b,a.tmps.getD x undef = .pointer (some ⟨b,off,none⟩)∧hb j = some b:=by
            generalize a.tmps.getD x undef = u at *
            cases he with
            | ptr e1 e2=>exact ⟨_,rfl,e2⟩
          simp only [hu]
          clear he hu
          · obtain ⟨b,vals,T,fr,g1,g2,g3,g4,g5,g6⟩:=qwd h.heap hj
            have hbb:=Option.some.inj (g1.symm.trans e2)
            subst hbb
            have hi:=qox hτ ht
            have hz:=qk3 hτ ht
            have hc:∀ c,c < cs.length→W.cell? ⟨b,c,none⟩ = some (vals.getD c undef):=fun c hc=>by rw [cell_of_heap g2];exact qf7 (by omega)
            unfold qp6 at hr
            cases hagg:qpa td.desc with
            | true =>
              rw [hagg] at hr
              simp only [cond_true] at hr
              cases hle:Nat.ble (off + td.size) cs.length with
              | false=>rw [hle] at hr;cases hr
              | true =>
                rw [hle] at hr
                simp only [cond_true,Option.some.injEq] at hr
                subst hr
                have hle':off + td.size ≤ cs.length:=by simpa using hle
                refine ⟨.agg ((List.range td.size).map fun j=>vals.getD (off + j) undef).toArray,?_,?_⟩
                · simp only [asAddr,Sem.run_bind,Sem.run_pure,Result.andThen_ok,loadVar,hi,hagg,if_true,hz]
                  rw [run_loadCells W _ td.size (fun j=>vals.getD (off + j) undef) (fun j hj=>by rw [addr_add];exact hc (off + j) (by omega))]
                  rfl
                · refine .agg (by simp;omega) (fun i hi'=>?_)
                  have hi2:i < td.size:=by simpa using hi'
                  rw [qfk _ _ _ _ _ hi2,qo2 (fun j=>vals.getD (off + j) undef) _ _ hi2]
                  exact g6 _ (by omega)
            | false =>
              rw [hagg] at hr
              simp only [cond_false] at hr
              have hlt:off < cs.length:=(List.getElem?_eq_some_iff.1 hr).1
              refine ⟨vals.getD off undef,?_,?_⟩
              · have hcc:=hc off hlt
                simp only [asAddr,Sem.run_bind,Sem.run_pure,Result.andThen_ok,loadVar,hi,hagg,Bool.false_eq_true,if_false,run_load,hcc]
              · have:=g6 off (by omega)
                rwa [getD_some hr] at this
        · cases hr
      · cases hr
    · cases hr
def qx2 (a:Act) (r:ResultVar):Sem Value:=match r with
  | .tmp t=>(pure (a.tmps.getD t undef):Sem Value)
  | .cell x t=>do loadVar t (← asAddr (a.tmps.getD x undef))
theorem qsr (hτ:qfl P τ) {w0:World} {A:Args} {okA:Nat→Prop} {σ:St} {a:Act} (h:Sim w0 A okA hb σ a W):∀ (rs:List ResultVar) (vs:List V),mapO (qtw τ σ) rs = some vs →
    ∃ cvs:List Value,(rs.mapM (qx2 a)).run P W = .ok cvs W∧RelL W hb σ.heap (okF w0 okA hb σ.heap W) vs cvs.toArray
  | [],vs,he=>by simp [mapO] at he;subst he;exact ⟨[],rfl,rfl,fun i hi=>by simp at hi⟩
  | r :: rs,vs,he=>by
    unfold mapO at he
    split at he
    · rename_i y s hy hs
      simp only [Option.some.injEq] at he
      subst he
      obtain ⟨cv,e1,e2⟩:=resOne_run hτ h hy
      obtain ⟨cvs,e3,e4⟩:=qsr hτ h rs s hs
      refine ⟨cv :: cvs,?_,by simp [e4.1],fun i hi=>?_⟩
      · rw [List.mapM_cons]
        have e1':(qx2 a r).run P W = .ok cv W:=e1
        simp only [Sem.run_bind,e1',e3,Result.andThen_ok,Sem.run_pure]
      · cases i with
        | zero=>simpa using e2
        | succ i =>
          have:=e4.2 i (by simpa using hi)
          simpa using this
    · cases he
theorem resV_run (hτ:qfl P τ) {w0:World} {A:Args} {okA:Nat→Prop} {σ:St} {a:Act} {fn:Func} (h:Sim w0 A okA hb σ a W) {v:V} (hr:resV τ fn.results.toList σ = some v):∃ cv,(results fn a.tmps).run P W = .ok cv W∧RelS w0 okA hb σ.heap W v cv:=by
  unfold resV at hr
  have hrun:∀ cvs:List Value,(fn.results.toList.mapM (qx2 a)).run P W = .ok cvs W→(results fn a.tmps).run P W = .ok (if h:cvs.toArray.size = 1 then cvs.toArray[0] else .tuple cvs.toArray) W:=by
    intro cvs hc
    unfold results
    rw [Array.mapM_eq_mapM_toList]
    simp only [Sem.run_bind,Sem.run_map]
    refine Eq.trans (congrArg (fun z=>Result.andThen z _) (congrArg (fun z=>Result.andThen z _) hc)) ?_
    rfl
  split at hr
  · rename_i v' hv
    simp only [Option.some.injEq] at hr;subst hr
    obtain ⟨cvs,e1,e2⟩:=qsr hτ h _ _ hv
    have hl:cvs.length = 1:=by have:=e2.1;simpa using this.symm
    obtain ⟨c,rfl⟩:=List.length_eq_one_iff.1 hl
    exact ⟨c,hrun [c] e1,by simpa using e2.2 0 (by simp)⟩
  · rename_i vs hne hv
    simp only [Option.some.injEq] at hr;subst hr
    obtain ⟨cvs,e1,e2⟩:=qsr hτ h _ _ hv
    have hl:cvs.toArray.size ≠ 1:=by
      intro h1
      rw [← e2.1] at h1
      obtain ⟨x,hx⟩:=List.length_eq_one_iff.1 h1
      exact hne x hx
    exact ⟨.tuple cvs.toArray,by rw [hrun cvs e1,dif_neg hl],.tup e2.1 e2.2⟩
  · cases hr
def St.enter (args:List V) (objs:List AObj) (nt:Nat):St:={ env:=fun t=>args.getD t .und,heap:=qb3 objs,next:=objs.length,nt:=nt,base:=objs.length }
def RetQ (τ:Tab) (rs:List ResultVar) (fr:Bool) (m:Nat) (R:V→List AObj→List AObj→Prop):Exit→St→Prop:=fun e σ =>
  (e = .normal ∨ e = .ret)∧∃ rv ex r objs' new,resV τ rs σ = some rv∧ex.Nodup∧(∀ x ∈ ex,m ≤ x) ∧
    exV (qdn (List.range m ++ ex)) σ.heap true rv = some r∧exVP (qdn (List.range m ++ ex)) σ.heap rv ∧
    mapO (fun j=>exO (qdn (List.range m ++ ex)) σ.heap true (σ.heap j)) (List.range m ++ ex) = some (objs' ++ new)∧objs'.length = m∧(∀ j ∈ List.range m ++ ex,exOP (qdn (List.range m ++ ex)) σ.heap (σ.heap j)) ∧
    (fr = true→r.flat∧∀ o ∈ objs' ++ new,o.flat)∧R r objs' new
theorem qaj (hτ:qfl P τ) {k:FuncId} {fn:Func} {c:Code} {args:List V} {objs:List AObj} {fr:Bool} {R:V→List AObj→List AObj→Prop} (hf:P.funcs[k]? = some fn) (hbd:fn.body = some c) (hn:args.length ≤ fn.ntmps) (hlive:∀ o ∈ objs,o ≠ .none)
    (h:AW P c (St.enter args objs fn.ntmps) (RetQ τ fn.results.toList fr objs.length R)):qax P fr k args objs R:=by
  intro W A hb okA vals hA0 hA1 hsim hrel
  refine calls_of_wp hf hbd ?_
  have hs:Sim W A okA hb (St.enter args objs fn.ntmps) { tmps:=vals ++ Array.replicate (fn.ntmps - vals.size) undef,defers:=[] } W:=by
    refine ⟨rfl,?_,fun t=>?_,hsim,fun j hj=>?_⟩
    rotate_left 2
    · rw [hA0];unfold qb3
      rw [List.getD_eq_getElem?_getD,List.getElem?_eq_none hj];rfl
    · show (vals ++ Array.replicate (fn.ntmps - vals.size) undef).size = fn.ntmps
      have:=hrel.1
      simp;omega
    · show Rel W hb (qb3 objs) _ (args.getD t .und) _
      by_cases ht:t < vals.size
      · have hl:t < args.length:=by rw [hrel.1];exact ht
        have e1:(vals ++ Array.replicate (fn.ntmps - vals.size) undef).getD t undef = vals.getD t undef:=by
          rw [Array.getD_eq_getD_getElem?,Array.getElem?_append_left ht,← Array.getD_eq_getD_getElem?]
        have e2:args.getD t .und = args.getD t .junk:=by
          rw [List.getD_eq_getElem?_getD,List.getElem?_eq_getElem hl,List.getD_eq_getElem?_getD,List.getElem?_eq_getElem hl];rfl
        rw [e1,e2]
        exact hrel.2 t ht
      · have e1:(vals ++ Array.replicate (fn.ntmps - vals.size) undef).getD t undef = undef:=by
          rw [Array.getD_eq_getD_getElem?,Array.getElem?_append_right (by omega)]
          by_cases h2:t - vals.size < fn.ntmps - vals.size
          · simp [Array.getElem?_replicate,h2]
          · simp [Array.getElem?_replicate,h2]
        have e2:args.getD t .und = .und:=by
          rw [List.getD_eq_getElem?_getD,List.getElem?_eq_none (by rw [hrel.1];omega)];rfl
        rw [e1,e2]
        exact .und
  refine Code.wp_mono (fun e a W' ⟨hb1,σ,hq,hs1⟩=>?_) (h W A okA hb _ W hs)
  obtain ⟨he,rv,ex,r,objs',new,q1,q2,q2',q3,q3',q4,q5,q6,q7,q8⟩:=hq
  obtain ⟨cv,r1,r2⟩:=resV_run (fn:=fn) hτ hs1 q1
  -- the names that go out
  let nm:=List.range objs.length ++ ex
  have hnm:nm = List.range objs.length ++ ex:=rfl
  have hnn:nm.Nodup:=List.nodup_append.2 ⟨List.nodup_range,q2,fun x hx y hy=>by
    have:=q2' y hy
    simp at hx;omega⟩
  obtain ⟨m1,m2⟩:=qm4 q4
  have hml:nm.length = (objs' ++ new).length:=by rw [m1]
  let hb2:Handle:=fun i=>match nm[i]? with
    | some j=>hb1 j
    | none=>none
  have hbj:∀ i j,nm[i]? = some j→hb2 i = hb1 j:=by intro i j hij;show (match nm[i]? with | some j=>hb1 j | none=>none) = _;rw [hij]
  have hnone:∀ i,nm.length ≤ i→qb3 (objs' ++ new) i = .none:=by
    intro i hi
    unfold qb3
    rw [List.getD_eq_getElem?_getD,List.getElem?_eq_none (by omega)];rfl
  have hin:∀ i,qb3 (objs' ++ new) i ≠ .none→∃ j,nm[i]? = some j:=by
    intro i hi
    rcases Nat.lt_or_ge i nm.length with hl | hl
    · exact ⟨nm[i],List.getElem?_eq_getElem hl⟩
    · exact absurd (hnone i hl) hi
  have hobj:∀ i j,nm[i]? = some j→∃ y,exO (qdn nm) σ.heap true (σ.heap j) = some y∧qb3 (objs' ++ new) i = y:=by
    intro i j hij
    obtain ⟨y,e1,e2⟩:=m2 i j hij
    exact ⟨y,e1,by unfold qb3;exact getD_some e2 _⟩
  have hlv:∀ j ∈ nm,σ.heap j ≠ .none:=by
    intro j hj e
    obtain ⟨i,hi,ei⟩:=List.getElem_of_mem hj
    obtain ⟨y,e1,_⟩:=m2 i nm[i] (List.getElem?_eq_getElem hi)
    rw [ei,e] at e1;simp [exO] at e1
  -- an object that does not go out lies in new memory
  have hloc:∀ j b,σ.heap j ≠ .none→j ∉ nm→hb1 j = some b→W.heap.size ≤ b:=by
    intro j b hj hjn hjb
    rcases (hs1.heap.hnd j b hj hjb).2 with ⟨h1,_⟩ | h1
    · rw [hA0] at h1
      refine absurd ?_ hjn
      rw [hnm]
      refine List.mem_append_left _ ?_
      rcases Nat.lt_or_ge j objs.length with h2 | h2
      · simpa using h2
      · exfalso;apply h1
        unfold qb3
        rw [List.getD_eq_getElem?_getD,List.getElem?_eq_none h2];rfl
    · exact h1
  have N:qr4 W' (qdn nm) hb1 hb2 σ.heap (qb3 (objs' ++ new)) (okF W okA hb1 σ.heap W') (okF W okA hb2 (qb3 (objs' ++ new)) W') true:=by
    refine ⟨fun b hb'=>⟨hb'.1,hb'.2.1,fun i hi e=>?_⟩,fun j i cs hj hcs=>?_,fun j i sz es hj hes=>?_,fun j i kk es hj hes=>?_,fun _ j b hj hne hbjj=>?_,hs1.heap.obj⟩
    · obtain ⟨j,hij⟩:=hin i hi
      rw [hbj i j hij] at e
      exact hb'.2.2 j (hlv j (List.mem_of_getElem? hij)) e
    · have hij:=qgp hj
      obtain ⟨y,e1,e2⟩:=hobj i j hij
      refine ⟨hbj i j hij,?_⟩
      rw [hcs] at e1
      simp only [exO] at e1
      split at e1
      · simp only [Option.some.injEq] at e1;subst e1;exact ⟨_,e2⟩
      · cases e1
    · have hij:=qgp hj
      obtain ⟨y,e1,e2⟩:=hobj i j hij
      refine ⟨hbj i j hij,?_⟩
      rw [hes] at e1
      simp only [exO,Option.some.injEq] at e1
      rw [e2,← e1]
    · have hij:=qgp hj
      obtain ⟨y,e1,e2⟩:=hobj i j hij
      refine ⟨hbj i j hij,?_⟩
      rw [hes] at e1
      simp only [exO,Option.some.injEq] at e1
      rw [e2,← e1]
    · have hnmj:=ql5 hj
      refine ⟨(hs1.heap.hnd j b hne hbjj).1,.inr (hloc j b hne hnmj hbjj),fun i hi e=>?_⟩
      obtain ⟨j',hij⟩:=hin i hi
      rw [hbj i j' hij] at e
      have:=hs1.heap.inj j j' b hne (hlv j' (List.mem_of_getElem? hij)) hbjj e
      subst this
      exact hnmj (List.mem_of_getElem? hij)
  have hix:∀ i j,nm[i]? = some j→qdn nm j = some i:=by
    intro i j hij
    cases hx:qdn nm j with
    | none=>exact absurd (List.mem_of_getElem? hij) (ql5 hx)
    | some i'=>rw [qml hnn (qgp hx) hij]
  have hrel2:RelS W okA hb2 (qb3 (objs' ++ new)) W' r cv:=qoj N r2 q3 q3'
  have hobj2:∀ i,qh5 W' hb2 (qb3 (objs' ++ new)) (okF W okA hb2 (qb3 (objs' ++ new)) W') i:=by
    intro i
    by_cases hi:qb3 (objs' ++ new) i = .none
    · unfold qh5;rw [hi];trivial
    · obtain ⟨j,hij⟩:=hin i hi
      obtain ⟨y,e1,e2⟩:=hobj i j hij
      exact qqb N (hix i j hij) e1 (q6 j (List.mem_of_getElem? hij)) e2 (hbj i j hij)
  have hm0:∀ i,i < objs.length→nm[i]? = some i:=by
    intro i hi
    rw [hnm,List.getElem?_append_left (by simpa using hi),List.getElem?_range hi]
  have hsim2:HSim W A (if fr then noOk else okA) hb2 (qb3 (objs' ++ new)) (objs' ++ new).length W':=by
    refine { obj:=fun i=>?_,inj:=fun i k b hi hk hbi hbk=>?_,hnd:=fun i b hi hbi=>?_,fresh:=fun i hi=>hnone i (by omega),ext:=hs1.heap.ext,keep:=?_,lay:=hs1.heap.lay }
    · cases fr with
      | false=>exact hobj2 i
      | true =>
        refine (hobj2 i).flat ?_
        rcases Nat.lt_or_ge i (objs' ++ new).length with hl | hl
        · unfold qb3
          rw [List.getD_eq_getElem?_getD,List.getElem?_eq_getElem hl]
          exact (q7 rfl).2 _ (List.getElem_mem hl)
        · rw [hnone i (by omega)];trivial
    · obtain ⟨j,hij⟩:=hin i hi
      obtain ⟨j',hkj⟩:=hin k hk
      rw [hbj i j hij] at hbi
      rw [hbj k j' hkj] at hbk
      have:=hs1.heap.inj j j' b (hlv j (List.mem_of_getElem? hij)) (hlv j' (List.mem_of_getElem? hkj)) hbi hbk
      subst this
      exact qml hnn hij hkj
    · obtain ⟨j,hij⟩:=hin i hi
      rw [hbj i j hij] at hbi
      obtain ⟨h1,h2⟩:=hs1.heap.hnd j b (hlv j (List.mem_of_getElem? hij)) hbi
      refine ⟨h1,h2.imp (fun ⟨h3,h4⟩=>?_) id⟩
      have hjl:j < objs.length:=by
        rw [hA0] at h3
        rcases Nat.lt_or_ge j objs.length with h5 | h5
        · exact h5
        · exfalso;apply h3
          unfold qb3
          rw [List.getD_eq_getElem?_getD,List.getElem?_eq_none h5];rfl
      have:=qml hnn hij (hm0 j hjl)
      subst this
      exact ⟨h3,h4⟩
    · have hlt:∀ j,A.H0 j ≠ .none→j < objs.length:=by
        intro j hj
        rw [hA0] at hj
        rcases Nat.lt_or_ge j objs.length with h5 | h5
        · exact h5
        · exfalso;apply hj
          unfold qb3
          rw [List.getD_eq_getElem?_getD,List.getElem?_eq_none h5];rfl
      refine ⟨fun j cs hj=>?_,fun j sz es hj=>?_,fun j kk es hj=>?_⟩
      · have hij:=hm0 j (hlt j (by rw [hj];simp))
        obtain ⟨cs',e1,e2⟩:=hs1.heap.keep.box j cs hj
        obtain ⟨y,e3,e4⟩:=hobj j j hij
        rw [e1] at e3
        simp only [exO] at e3
        split at e3
        · simp only [Option.some.injEq] at e3;subst e3
          exact ⟨_,e4,(hbj j j hij).trans e2⟩
        · cases e3
      · have hij:=hm0 j (hlt j (by rw [hj];simp))
        obtain ⟨es',e1,e0,e2⟩:=hs1.heap.keep.row j sz es hj
        obtain ⟨y,e3,e4⟩:=hobj j j hij
        rw [e1] at e3
        simp only [exO,Option.some.injEq] at e3;subst e3
        exact ⟨_,e4,e0,fun hl=>⟨(hbj j j hij).trans (e2 hl).1,(e2 hl).2⟩⟩
      · have hij:=hm0 j (hlt j (by rw [hj];simp))
        obtain ⟨es',e1,e2⟩:=hs1.heap.keep.map j kk es hj
        obtain ⟨y,e3,e4⟩:=hobj j j hij
        rw [e1] at e3
        simp only [exO,Option.some.injEq] at e3;subst e3
        exact ⟨_,e4,(hbj j j hij).trans e2⟩
  have fin:∃ v r objs' new hb',Ending.returned cv = .returned v∧R r objs' new∧objs'.length = objs.length ∧
      HSim W A (if fr then noOk else okA) hb' (qb3 (objs' ++ new)) (objs' ++ new).length W'∧RelS W (if fr then noOk else okA) hb' (qb3 (objs' ++ new)) W' r v :=
    ⟨cv,r,objs',new,hb2,rfl,q8,q5,hsim2,by
      cases fr with
      | false=>exact hrel2
      | true=>exact hrel2.flat (q7 rfl).1⟩
  rcases he with rfl | rfl
  · exact ⟨hs1.defers,cv,r1,fin⟩
  · exact ⟨hs1.defers,cv,r1,fin⟩
end
end Go.Proofs.YtiegopnofbgoaaaGreat.AWN

namespace Go.Proofs.YtiegopnofbgoaaaGreat.AWN
open Go
def One (P:Program) (ops:Array Oper) (o:Oper) (σ:St) (S:St→Prop):Prop :=
  ∀ w0 A okA hb a W,Sim w0 A okA hb σ a W→∀ (Q:Exit→Act→World→Prop) (K:Act→World→Prop),
    (∀ σ' hb' a' W',S σ'→Sim w0 A okA hb' σ' a' W'→K a' W')→if Region.wanted o (yielded ops a.tmps) then o.wp P a W K Q else K (a.put o.dst undef) W
section
variable {P:Program} {τ:Tab} {σ:St} {ops:Array Oper} {o:Oper}
theorem qkg {S:St→Prop} (hw:qcq ops σ o = some true) (h:∀ w0 A okA hb a W,Sim w0 A okA hb σ a W→Does P o a W (fun cv W'=>∃ σ' hb',S σ'∧Sim w0 A okA hb' σ' (a.put o.dst cv) W')):One P ops o σ S:=by
  intro w0 A okA hb a W hs Q K hK
  have hwn:=qmr hs hw
  obtain ⟨cv,W',hrun,σ',hb',h1,h2⟩:=h w0 A okA hb a W hs
  rw [if_pos hwn]
  unfold Oper.wp
  rcases hrun with hrun | ⟨hrun,rfl⟩
  · rw [hrun];exact hK σ' hb' _ _ h1 h2
  · rw [hrun];exact hK σ' hb' _ _ h1 h2
theorem one_skip (hw:qcq ops σ o = some false) (hd:qhy σ o.dst = true):One P ops o σ (· = σ.putO o.dst .und):=by
  intro w0 A okA hb a W hs Q K hK
  have hwn:=qmr hs hw
  rw [if_neg (by simp [hwn])]
  exact hK _ hb _ _ rfl (qih hs .und _ hd)
theorem one_val (hτ:qfl P τ) {v:V} (hw:qcq ops σ o = some true) (hd:qhy σ o.dst = true) (h:qbp τ σ o.op = .val v):One P ops o σ (· = σ.putO o.dst v) :=
  qkg hw fun w0 A okA hb a W hs=>by
    have:=qh3 hτ hs o
    rw [h] at this
    obtain ⟨cv,W',hrun,s,hr⟩:=this
    exact ⟨cv,W',hrun,_,hb,rfl,qih (hs.same s) (hr.same s) _ hd⟩
theorem one_need (hτ:qfl P τ) {v:V} {p:Prop} (hw:qcq ops σ o = some true) (hd:qhy σ o.dst = true) (h:qbp τ σ o.op = .need p v) (hp:p):One P ops o σ (· = σ.putO o.dst v) :=
  qkg hw fun w0 A okA hb a W hs=>by
    have:=qh3 hτ hs o
    rw [h] at this
    obtain ⟨cv,W',hrun,s,hr⟩:=this hp
    exact ⟨cv,W',hrun,_,hb,rfl,qih (hs.same s) (hr.same s) _ hd⟩
theorem one_elem (hτ:qfl P τ) {v:V} {p:Prop} {es:List (List D)} {i:Nat} {k:List D→Option V} {e:List D} (hw:qcq ops σ o = some true) (hd:qhy σ o.dst = true) (h:qbp τ σ o.op = .elem p es i k) (hp:p) (he:es[i]? = some e) (hv:k e = some v):One P ops o σ (· = σ.putO o.dst v) :=
  qkg hw fun w0 A okA hb a W hs=>by
    have:=qh3 hτ hs o
    rw [h] at this
    obtain ⟨cv,W',hrun,s,hr⟩:=this e v hp he hv
    exact ⟨cv,W',hrun,_,hb,rfl,qih (hs.same s) (hr.same s) _ hd⟩
theorem qq8 {H:Nat→AObj} {n:Nat} {d:Option Nat} (hd:qhy σ d = true):qhy ({ σ with heap:=H,next:=n }:St) d = true:=by cases d <;> exact hd
theorem one_valH (hτ:qfl P τ) {v:V} {H:Nat→AObj} {n:Nat} (hw:qcq ops σ o = some true) (hd:qhy σ o.dst = true) (h:qbp τ σ o.op = .valH v H n):One P ops o σ (· = ({ σ with heap:=H,next:=n }:St).putO o.dst v) :=
  qkg hw fun w0 A okA hb a W hs=>by
    have:=qh3 hτ hs o
    rw [h] at this
    obtain ⟨cv,W',hrun,hb',s,hr⟩:=this
    exact ⟨cv,W',hrun,_,hb',rfl,qih s hr _ (qq8 hd)⟩
theorem one_needH (hτ:qfl P τ) {v:V} {p:Prop} {H:Nat→AObj} {n:Nat} (hw:qcq ops σ o = some true) (hd:qhy σ o.dst = true) (h:qbp τ σ o.op = .needH p v H n) (hp:p):One P ops o σ (· = ({ σ with heap:=H,next:=n }:St).putO o.dst v) :=
  qkg hw fun w0 A okA hb a W hs=>by
    have:=qh3 hτ hs o
    rw [h] at this
    obtain ⟨cv,W',hrun,hb',s,hr⟩:=this hp
    exact ⟨cv,W',hrun,_,hb',rfl,qih s hr _ (qq8 hd)⟩
theorem one_elemH (hτ:qfl P τ) {p:Prop} {es:List (List D)} {i:Nat} {k:List D→Option (Nat→AObj)} {e:List D} {H:Nat→AObj} (hw:qcq ops σ o = some true) (hd:qhy σ o.dst = true) (h:qbp τ σ o.op = .elemH p es i k) (hp:p) (he:es[i]? = some e) (hv:k e = some H) :
    One P ops o σ (· = ({ σ with heap:=H,next:=σ.next }:St).putO o.dst .und) :=
  qkg hw fun w0 A okA hb a W hs=>by
    have:=qh3 hτ hs o
    rw [h] at this
    obtain ⟨cv,W',hrun,hb',s,rfl⟩:=this e H hp he hv
    exact ⟨undef,W',hrun,_,hb',rfl,qih (σ:={ σ with heap:=H,next:=σ.next }) s .und _ (qq8 hd)⟩
theorem qvj (hτ:qfl P τ) (fr:Bool) (js:List Nat) {k:FuncId} {args args':List V} {objs:List AObj} {R:V→List AObj→List AObj→Prop} (hw:qcq ops σ o = some true) (hd:qhy σ o.dst = true) (h:qbp τ σ o.op = .call k args) (hfn:qn3 P k)
    (hargs:mapO (exV (qdn js) σ.heap fr) args = some args') (hobjs:mapO (fun j=>exO (qdn js) σ.heap fr (σ.heap j)) js = some objs) (hnd:js.Nodup) (hpa:∀ v ∈ args,exVP (qdn js) σ.heap v) (hpo:∀ j ∈ js,exOP (qdn js) σ.heap (σ.heap j))
    (hc:qax P fr k args' objs R):One P ops o σ (fun σ'=>∃ r objs' new,R r objs' new∧objs'.length = js.length∧σ' = (σ.after js objs' new).putO o.dst (renV (σ.names js new.length) r)):=by
  intro w0 A okA hb a W hs Q K hK
  have hwn:=qmr hs hw
  have ho:=qh3 hτ hs o
  rw [h] at ho
  obtain ⟨vals,hrun,hrel⟩:=ho
  obtain ⟨c1,c2,c3⟩:=qwf hs.heap hnd hobjs hpo
  obtain ⟨m1,m2⟩:=qm4 hobjs
  rw [if_pos hwn]
  unfold Oper.wp
  rw [hrun,hfn]
  simp only [Oper.upon]
  have hrel':=qlx c2 (fun a b c=>qoj c2 a b c) hrel hargs hpa
  refine (hc W ⟨qb3 objs,fun i=>match js[i]? with
    | some j=>hb j
    | none=>none⟩ _ _ vals rfl rfl c1 hrel').mono fun e W' hpost=>?_
  obtain ⟨v,r,objs',new,hb',rfl,hR,hl,hsim,hrv⟩:=hpost
  simp only
  have hbj:∀ (i j:Nat),js[i]? = some j→(match js[i]? with | some j=>hb j | none=>none) = hb j:=fun i j hij=>by rw [hij]
  have hobj:∀ i j,js[i]? = some j→∃ y,exO (qdn js) σ.heap fr (σ.heap j) = some y∧qb3 objs i = y:=by
    intro i j hij
    obtain ⟨y,e1,e2⟩:=m2 i j hij
    exact ⟨y,e1,by unfold qb3;exact getD_some e2 _⟩
  obtain ⟨hb'',hout⟩:=qv2 (a:=a) hs.heap (fr:=fr) (objs:=objs) hnd c3 hbj m1 (okc:=fun b=>b < W.heap.size∧(okF w0 okA hb σ.heap W b ∨ (fr = true∧∃ j,σ.heap j ≠ .none∧j ∉ js∧hb j = some b)))
    (fun b hfr hb1=>by
      rcases hb1.2 with h1 | ⟨h1,_⟩
      · exact h1
      · rw [hfr] at h1;cases h1)
    (Ac:=⟨qb3 objs,_⟩) rfl rfl
    (fun i j cs hij hj=>by
      obtain ⟨y,e1,e2⟩:=hobj i j hij
      rw [hj] at e1
      simp only [exO] at e1
      split at e1
      · simp only [Option.some.injEq] at e1;subst e1;exact ⟨_,e2⟩
      · cases e1)
    (fun i j sz es hij hj=>by
      obtain ⟨y,e1,e2⟩:=hobj i j hij
      rw [hj] at e1
      simp only [exO,Option.some.injEq] at e1
      rw [e2,← e1])
    (fun i j kk es hij hj=>by
      obtain ⟨y,e1,e2⟩:=hobj i j hij
      rw [hj] at e1
      simp only [exO,Option.some.injEq] at e1
      rw [e2,← e1]) hl hsim
  obtain ⟨s1,s2⟩:=hout hs
  have hr2:=qs2 s2 hrv
  exact hK _ hb'' _ W' ⟨r,objs',new,hR,by rw [hl,m1],rfl⟩ (qih s1 hr2 _ (by cases hdd:o.dst <;> rw [hdd] at hd <;> exact hd))
/-! ### What a step depends on -/
def opdT:Operand→List Nat
  | .tmp t=>[t]
  | _=>[]
def opT:Op→List Nat
  | .move x | .assign x | .box _ x | .load _ x | .nilCheck x | .unOp _ _ x | .convert _ _ x | .fieldAddr _ x _ | .field _ x _ | .extract x _=>opdT x
  | .pick c a b=>opdT c ++ opdT a ++ opdT b
  | .build _ parts | .buildSlice _ _ parts=>parts.toList.flatMap fun p=>opdT p.2
  | .makeSlice _ x v | .store _ x v | .binOp _ _ x v _ | .indexAddr _ x v | .index _ x v=>opdT x ++ opdT v
  | .makeFunc _ first caps=>first.toList.flatMap opdT ++ caps.toList.flatMap opdT
  | .slice _ x lo hi mx=>opdT x ++ (lo.map opdT).getD [] ++ (hi.map opdT).getD [] ++ (mx.map opdT).getD []
  | .call c=>(match c.callee with
    | .value f=>opdT f
    | _=>[]) ++ c.args.toList.flatMap opdT
  | .lookup _ x i _=>opdT x ++ opdT i
  | .mapUpdate _ m k x=>opdT m ++ opdT k ++ opdT x
  | _=>[]
theorem qc0 {σ σ':St} {x:Operand} (h:∀ t ∈ opdT x,σ'.env t = σ.env t):σ'.ev x = σ.ev x:=by
  cases x with
  | tmp t=>exact h t (by simp [opdT])
  | _=>rfl
theorem qub {σ σ':St} (l:List Operand) (h:∀ t ∈ l.flatMap opdT,σ'.env t = σ.env t):l.map σ'.ev = l.map σ.ev:=by
  refine List.map_congr_left fun x hx=>qc0 fun t ht=>h t (List.mem_flatMap.2 ⟨x,hx,ht⟩)
theorem qv7 {σ σ':St} (l:List (Nat × Operand)) (h:∀ t ∈ l.flatMap (fun p=>opdT p.2),σ'.env t = σ.env t):l.map (fun p=>(p.1,σ'.ev p.2)) = l.map (fun p=>(p.1,σ.ev p.2)):=by
  refine List.map_congr_left fun x hx=>?_
  rw [qc0 fun t ht=>h t (List.mem_flatMap.2 ⟨x,hx,ht⟩)]
theorem qwm {σ σ':St} (x:Option Operand) (h:∀ t ∈ (x.map opdT).getD [],σ'.env t = σ.env t):x.map σ'.ev = x.map σ.ev:=by
  cases x with
  | none=>rfl
  | some x=>simp only [Option.map_some];rw [qc0 (by simpa using h)]
theorem qnv {σ σ':St} {op:Op} (h:∀ t ∈ opT op,σ'.env t = σ.env t) (hh:σ'.heap = σ.heap) (hn:σ'.next = σ.next):qbp τ σ' op = qbp τ σ op:=by
  have app:∀ {l1 l2:List Nat},(∀ t ∈ l1 ++ l2,σ'.env t = σ.env t)→(∀ t ∈ l1,σ'.env t = σ.env t)∧∀ t ∈ l2,σ'.env t = σ.env t :=
    fun h=>⟨fun t ht=>h t (List.mem_append_left _ ht),fun t ht=>h t (List.mem_append_right _ ht)⟩
  cases op
  case move x=>simp only [qbp];rw [qc0 h]
  case assign x=>simp only [qbp];rw [qc0 h]
  case pick c a b=>simp only [qbp];obtain ⟨h1,h3⟩:=app h;obtain ⟨h1,h2⟩:=app h1;rw [qc0 h1,qc0 h2,qc0 h3]
  case box t x=>simp only [qbp];rw [qc0 h,hh,hn]
  case alloc t=>simp only [qbp];rw [hh,hn]
  case build t parts=>simp only [qbp];rw [qv7 _ h]
  case buildSlice t len parts=>simp only [qbp];rw [qv7 _ h,hh,hn]
  case makeSlice t x v=>simp only [qbp];obtain ⟨h1,h2⟩:=app h;rw [qc0 h1,qc0 h2,hh,hn]
  case load t x=>simp only [qbp];rw [qc0 h,hh]
  case store t x v=>simp only [qbp];obtain ⟨h1,h2⟩:=app h;rw [qc0 h1,qc0 h2,hh,hn]
  case nilCheck x=>simp only [qbp];rw [qc0 h,hh]
  case binOp op t x y _=>simp only [qbp];obtain ⟨h1,h2⟩:=app h;rw [qc0 h1,qc0 h2]
  case unOp op _ x=>simp only [qbp];rw [qc0 h]
  case convert s d x=>simp only [qbp];rw [qc0 h]
  case makeFunc f first caps =>
    obtain ⟨h1,h2⟩:=app h
    cases f <;> simp only [qbp]
    rw [qub _ h1,qub _ h2]
  case slice t x lo hi mx =>
    simp only [qbp]
    obtain ⟨h1,h4⟩:=app h
    obtain ⟨h1,h3⟩:=app h1
    obtain ⟨h1,h2⟩:=app h1
    rw [qc0 h1,qwm _ h2,qwm _ h3,qwm _ h4,hh]
  case fieldAddr s x f=>simp only [qbp];rw [qc0 h,hh]
  case field s x f=>simp only [qbp];rw [qc0 h]
  case indexAddr t x i=>simp only [qbp];obtain ⟨h1,h2⟩:=app h;rw [qc0 h1,qc0 h2,hh]
  case index t x i=>simp only [qbp];obtain ⟨h1,h2⟩:=app h;rw [qc0 h1,qc0 h2]
  case extract x i=>simp only [qbp];rw [qc0 h]
  case call c =>
    obtain ⟨h1,h2⟩:=app h
    simp only [qbp]
    rw [qub _ h2,hh,hn]
    cases hc:c.callee with
    | value f =>
      simp only [hc] at h1
      simp only
      rw [qc0 h1]
    | _=>rfl
  case makeMap t r=>cases r <;> simp only [qbp];rw [hh,hn]
  case lookup t x i ok=>simp only [qbp];obtain ⟨h1,h2⟩:=app h;rw [qc0 h1,qc0 h2,hh]
  case mapUpdate t m k x=>simp only [qbp];obtain ⟨h1,h3⟩:=app h;obtain ⟨h1,h2⟩:=app h1;rw [qc0 h1,qc0 h2,qc0 h3,hh,hn]
  all_goals rfl
def V.nm:V→List Nat
  | .ptr j _ | .eptr j _ _ _ | .row j _ _ _ | .mref j=>[j]
  | _=>[]
def qss (σ:St):Op→Option (List Nat)
  | .load _ x | .fieldAddr _ x _ | .indexAddr _ x _ | .slice _ x _ _ _ | .lookup _ x _ _=>some (σ.ev x).nm
  | .move _ | .assign _ | .pick _ _ _ | .build _ _ | .binOp _ _ _ _ _ | .unOp _ _ _ | .convert _ _ _ | .makeFunc _ _ _ | .field _ _ _ | .index _ _ _ | .extract _ _=>some []
  | .nilCheck x=>some (match σ.ev x with | .eptr j _ _ _=>[j] | _=>[])
  | .call c=>match c.callee with
    | .builtin .len | .builtin .complex | .builtin .real | .builtin .imag | .builtin .max | .builtin .min=>some (c.args.toList.flatMap fun x=>(σ.ev x).nm)
    | _=>none
  | _=>none
theorem loadV_nm {H H':Nat→AObj} {td:TD} {x:V} (h:∀ j ∈ x.nm,H' j = H j):qsj H' td x = qsj H td x:=by
  cases x with
  | ptr j off=>simp only [qsj];rw [h j (by simp [V.nm])]
  | eptr j L i off=>simp only [qsj];rw [h j (by simp [V.nm])]
  | _=>rfl
theorem ptrAdd_nm {H H':Nat→AObj} {n:Nat} {x:V} (h:∀ j ∈ x.nm,H' j = H j):qpd H' x n = qpd H x n:=by
  cases x with
  | ptr j off=>rfl
  | eptr j L i off=>simp only [qpd];rw [h j (by simp [V.nm])]
  | _=>rfl
theorem indexAddrV_nm {H H':Nat→AObj} {t:TypeId} {x i:V} (h:∀ j ∈ x.nm,H' j = H j):qkj τ H' t x i = qkj τ H t x i:=by
  unfold qkj
  rcases τ t with _ | ⟨desc,a1,a2,a3⟩
  · rfl
  · cases i with
    | d y =>
      cases y with
      | int k n =>
        cases desc with
        | slice et =>
          cases x with
          | row j L off len=>dsimp only;rw [h j (by simp [V.nm])]
          | d z=>cases z <;> rfl
          | _=>rfl
        | _=>cases x <;> rfl
      | _=>rfl
    | _=>rfl
theorem sliceV_nm {H H':Nat→AObj} {t:TypeId} {x:V} {lo hi mx:Option V} (h:∀ j ∈ x.nm,H' j = H j):qpg τ H' t x lo hi mx = qpg τ H t x lo hi mx:=by
  unfold qpg
  rcases τ t with _ | ⟨desc,a1,a2,a3⟩
  · rfl
  · rcases qqk lo with _ | lo
    · rfl
    · rcases qqk hi with _ | hi
      · rfl
      · cases mx with
        | some _=>rfl
        | none =>
          cases desc with
          | slice et =>
            cases x with
            | row j L off len=>dsimp only;rw [h j (by simp [V.nm])]
            | d z=>cases z <;> rfl
            | _=>rfl
          | _ =>
            cases x with
            | d z=>cases z <;> rfl
            | _=>rfl
theorem lenV_nm {H H':Nat→AObj} {t:TypeId} {x:V} (h:∀ j ∈ x.nm,H' j = H j):lenV τ H' t x = lenV τ H t x:=by
  unfold lenV
  rcases τ t with _ | ⟨desc,a1,a2,a3⟩
  · rfl
  · cases x with
    | row j L off len=>cases desc <;> first | rfl | (dsimp only;rw [h j (by simp [V.nm])])
    | d z=>cases desc <;> cases z <;> rfl
    | _=>cases desc <;> rfl
theorem ql4 {H H':Nat→AObj} {n n':Nat} {b:Builtin} {ts:Array TypeId} {args:List V} (hb:b = .len ∨ b = .complex ∨ b = .real ∨ b = .imag ∨ b = .max ∨ b = .min) (h:∀ j ∈ args.flatMap V.nm,H' j = H j):qnn τ H' n' b ts args = qnn τ H n b ts args:=by
  rcases hb with rfl | rfl | rfl | rfl | rfl | rfl
  · rcases args with _ | ⟨x,_ | ⟨y,r⟩⟩
    · rfl
    · simp only [qnn]
      split
      · exact lenV_nm (by simpa using h)
      · rfl
    · rfl
  all_goals (unfold qnn;split <;> first | rfl | (rename_i hb;cases hb;done) | contradiction | trivial)
theorem lookupV_nm {H H':Nat→AObj} {t:TypeId} {x i:V} {ok:Bool} (h:∀ j ∈ x.nm,H' j = H j):qqg τ H' t x i ok = qqg τ H t x i ok:=by
  unfold qqg
  cases mapT τ t with
  | none=>rfl
  | some p =>
    obtain ⟨k,ed⟩:=p
    cases x with
    | mref j=>cases i with
      | d y=>cases y with
        | int k' n=>dsimp only;rw [h j (by simp [V.nm])]
        | _=>rfl
      | _=>rfl
    | _=>rfl
theorem step_ro {σ σ':St} {op:Op} {J:List Nat} (hr:qss σ op = some J) (h:∀ t ∈ opT op,σ'.env t = σ.env t) (hh:∀ j ∈ J,σ'.heap j = σ.heap j):qbp τ σ' op = qbp τ σ op:=by
  have e:=qnv (τ:=τ) (σ:=σ) (σ':={ σ with env:=σ'.env }) h rfl rfl
  rw [← e]
  have hx:∀ x,(∀ t ∈ opdT x,σ'.env t = σ.env t)→(σ.ev x).nm = (σ'.ev x).nm:=fun x h=>by rw [qc0 h]
  have app:∀ {l1 l2:List Nat},(∀ t ∈ l1 ++ l2,σ'.env t = σ.env t)→(∀ t ∈ l1,σ'.env t = σ.env t)∧∀ t ∈ l2,σ'.env t = σ.env t :=
    fun h=>⟨fun t ht=>h t (List.mem_append_left _ ht),fun t ht=>h t (List.mem_append_right _ ht)⟩
  have evE:∀ x,({ σ with env:=σ'.env }:St).ev x = σ'.ev x:=fun x=>by cases x <;> rfl
  have evL:(({ σ with env:=σ'.env }:St).ev) = σ'.ev:=funext evE
  have nmE:∀ x,(∀ t ∈ opdT x,σ'.env t = σ.env t)→some (σ.ev x).nm = some J→∀ j ∈ (σ'.ev x).nm,σ'.heap j = σ.heap j:=fun x h hr j hj=>hh j (by rw [← Option.some.inj hr,hx x h];exact hj)
  cases op <;> simp only [qss] at hr <;> try (first | cases hr;done | skip)
  case load t x =>
    simp only [qbp,evE]
    cases τ t with
    | none=>rfl
    | some td=>exact loadV_nm (nmE x h hr)
  case fieldAddr s x f =>
    simp only [qbp,evE]
    split
    · rw [ptrAdd_nm (nmE x h hr)]
    · rfl
  case indexAddr t x i=>simp only [qbp,evE];exact indexAddrV_nm (nmE x (app h).1 hr)
  case lookup t x i ok=>simp only [qbp,evE];exact lookupV_nm (nmE x (app h).1 hr)
  case nilCheck x =>
    simp only [qbp,evE]
    rw [← qc0 h] at hr
    cases hv:σ'.ev x with
    | eptr j L i off =>
      rw [hv] at hr
      dsimp only
      rw [hh j (by rw [← Option.some.inj hr];simp)]
    | _=>rfl
  case slice t x lo hi mx=>simp only [qbp,evE,evL];exact sliceV_nm (nmE x (app (app (app h).1).1).1 hr)
  case call c =>
    simp only [qbp,evL]
    have hnm:some (c.args.toList.flatMap fun x=>(σ.ev x).nm) = some J→∀ j ∈ (c.args.toList.map σ'.ev).flatMap V.nm,σ'.heap j = σ.heap j:=by
      intro hr j hj
      refine hh j ?_
      rw [← Option.some.inj hr]
      simp only [List.mem_flatMap,List.mem_map] at hj ⊢
      obtain ⟨_,⟨x,hx1,rfl⟩,hj⟩:=hj
      exact ⟨x,hx1,by rw [hx x fun t ht=>(app h).2 t (List.mem_flatMap.2 ⟨x,hx1,ht⟩)];exact hj⟩
    split at hr
    · rename_i hc;rw [hc];exact ql4 (by simp) (hnm hr)
    · rename_i hc;rw [hc];exact ql4 (by simp) (hnm hr)
    · rename_i hc;rw [hc];exact ql4 (by simp) (hnm hr)
    · rename_i hc;rw [hc];exact ql4 (by simp) (hnm hr)
    · rename_i hc;rw [hc];exact ql4 (by simp) (hnm hr)
    · rename_i hc;rw [hc];exact ql4 (by simp) (hnm hr)
    · cases hr
  case makeFunc f first caps=>cases f <;> simp only [qbp,evL] <;> rfl
  all_goals (simp only [qbp,evE,evL])
end
end Go.Proofs.YtiegopnofbgoaaaGreat.AWN

namespace Go.Proofs.YtiegopnofbgoaaaGreat.AWN
open Go
structure Rec where
  i:Nat
  mem:Bool
  J:List Nat
  nd:Bool
def looks (ops:Array Oper) (o:Oper):List Nat:=opT o.op ++ (match o.guard with
  | some (j,_)=>match ops[j]? with
    | some o'=>match o'.dst with
      | some d=>[d]
      | none=>[]
    | none=>[]
  | none=>[])
def qxg (P:Program) (ops:Array Oper) (σ:St) (o:Oper) (v:V) (J:List Nat):Prop :=
  ∀ σ',σ'.nt = σ.nt→(∀ t ∈ looks ops o,σ'.env t = σ.env t)→(∀ j ∈ J,σ'.heap j = σ.heap j)→One P ops o σ' (· = σ'.putO o.dst v)
def St.set (σ:St) (H:Nat→AObj) (n:Nat):St:={ σ with heap:=H,next:=n }
def qu6 (P:Program) (ops:Array Oper) (σ:St) (o:Oper) (v:V) (H:Nat→AObj) (n:Nat):Prop :=
  ∀ σ',σ'.nt = σ.nt→(∀ t ∈ looks ops o,σ'.env t = σ.env t)→σ'.heap = σ.heap→σ'.next = σ.next→One P ops o σ' (· = (σ'.set H n).putO o.dst v)
structure FR where
  r:Rec
  dst:Option Nat
  v:V
  H:Nat→AObj
  n:Nat
def app (σ:St) (f:FR):St:=bif f.r.mem then (σ.set f.H f.n).putO f.dst f.v else σ.putO f.dst f.v
abbrev apps (σ:St) (l:List FR):St:=l.foldl app σ
def Fact (P:Program) (ops:Array Oper) (σ:St) (f:FR):Prop:=∃ o,ops[f.r.i]? = some o∧f.dst = o.dst ∧
  ((f.r.mem = false∧qxg P ops σ o f.v f.r.J) ∨ (f.r.mem = true∧(qu6 P ops σ o f.v f.H f.n ∨ f.r.nd = true)∧∀ j ∈ f.r.J,f.H j = σ.heap j))
def Hist (P:Program) (ops:Array Oper) (fs0:List FR) (σ0:St) (rs:List Rec) (σ:St):Prop :=
  ∃ gs:List FR,(fs0 ++ gs).map (·.r) = rs.reverse∧σ = apps σ0 (fs0 ++ gs)∧∀ a f b,fs0 ++ gs = a ++ f :: b→Fact P ops (apps σ0 a) f
theorem Hist.nil {P:Program} {ops:Array Oper} {σ0:St}:Hist P ops [] σ0 [] σ0:=⟨[],rfl,rfl,fun a f b e=>by cases a <;> cases e⟩
theorem Hist.cons {P:Program} {ops:Array Oper} {fs0:List FR} {σ0:St} {rs:List Rec} {σ:St} (f:FR) (h:Hist P ops fs0 σ0 rs σ) (hf:Fact P ops σ f):Hist P ops fs0 σ0 (f.r :: rs) (app σ f):=by
  obtain ⟨gs,e1,e2,e3⟩:=h
  refine ⟨gs ++ [f],by rw [← List.append_assoc,List.map_append,e1];simp,by rw [← List.append_assoc,apps,List.foldl_append,← show σ = List.foldl app σ0 (fs0 ++ gs) from e2];rfl,fun a g b e=>?_⟩
  rw [← List.append_assoc] at e
  rcases List.eq_nil_or_concat b with rfl | ⟨b',x,rfl⟩
  · have e':a ++ [g] = (fs0 ++ gs) ++ [f]:=e.symm
    obtain ⟨e4,e5⟩:=List.append_inj' e' rfl
    cases e5
    rw [e4,← e2];exact hf
  · have e':(a ++ g :: b') ++ [x] = (fs0 ++ gs) ++ [f]:=by rw [e];simp
    obtain ⟨e4,e5⟩:=List.append_inj' e' rfl
    exact e3 a g b' e4.symm
section
variable {P:Program} {τ:Tab} {σ σ0:St} {ops:Array Oper} {o:Oper} {w0:World} {A:Args} {okA:Nat→Prop} {Q:Exit→St→Prop}
def aft (ops:Array Oper) (i j:Nat):Bool:=match ops[i]? with
  | some o=>o.after.any fun e=>Region.binds .any e && Nat.beq e.on j
  | none=>false
inductive Reach (ops:Array Oper):Nat→Nat→Prop where
  | one {i j:Nat}:aft ops i j = true→Reach ops i j
  | more {i k j:Nat}:aft ops i k = true→Reach ops k j→Reach ops i j
def qxa (ms:List Nat) (m:Nat) (e:Edge):Nat:=bif Region.binds .any e then (m ||| 2 ^ e.on) ||| ms.getD e.on 0 else m
def qvf (ms:List Nat) (o:Oper):Nat:=o.after.toList.foldl (qxa ms) 0
def masks:List Oper→List Nat→List Nat
  | [],ms=>ms
  | o :: l,ms=>masks l (ms ++ [qvf ms o])
def aftT (ms:List Nat) (i j:Nat):Bool:=(ms.getD i 0).testBit j
def qn8 (ops:Array Oper) (i:Nat):Option Nat:=match ops[i]? with
  | some o=>o.dst
  | none=>none
def qmg (ops:Array Oper) (i:Nat):List Nat:=match ops[i]? with
  | some o=>looks ops o
  | none=>[]
def hasD:Option Nat→List Nat→Bool
  | some d,l=>l.any (Nat.beq d)
  | none,_=>false
def qxd:Option Nat→Option Nat→Bool
  | some d,some e=>Nat.beq d e
  | _,_=>false
def ql3 (D ms:List Nat) (ops:Array Oper) (r s:Rec):Bool :=
  !Nat.beq r.i s.i && !aft ops r.i s.i && (aftT ms s.i r.i || D.any (Nat.beq r.i) || (!hasD (qn8 ops r.i) (qmg ops s.i) && !hasD (qn8 ops s.i) (qmg ops r.i) && !qxd (qn8 ops r.i) (qn8 ops s.i) && !r.mem
    && (!s.mem || r.J.all fun j=>s.J.any (Nat.beq j))))
def qp5 (D ms:List Nat) (ops:Array Oper):List Rec→Bool
  | []=>true
  | r :: l=>l.all (ql3 D ms ops r) && qp5 D ms ops l
def qvo (ops:Array Oper) (r:Rec):Bool:=match ops[r.i]? with
  | some o=>o.after.all fun e=>!Region.binds .any e || (Nat.blt e.on ops.size && !Nat.beq e.on r.i)
  | none=>false
def qts (D:List Nat) (ops:Array Oper) (rs:List Rec):Bool :=
  qp5 D (masks ops.toList []) ops rs.reverse && rs.all (qvo ops) && rs.all fun r=>!r.nd || D.any (Nat.beq r.i)
def qrw (D:List Nat) (ops:Array Oper) (rs:List Rec):Bool :=
  qts D ops rs && (List.range ops.size).all (fun i=>rs.any fun r=>Nat.beq r.i i)
abbrev qyb (ops:Array Oper) (rs:List Rec):Bool:=qrw [] ops rs
theorem qrs {ms:List Nat} {i:Nat} {o:Oper} (ho:ops[i]? = some o) (hms:∀ k j,(ms.getD k 0).testBit j = true→Reach ops k j):∀ (l:List Edge) (m:Nat),(∀ e ∈ l,e ∈ o.after.toList)→(∀ j,m.testBit j = true→Reach ops i j)→∀ j,(l.foldl (qxa ms) m).testBit j = true→Reach ops i j
  | [],_,_,hm,j,h=>hm j h
  | e :: l,m,hl,hm,j,h=>by
    refine qrs ho hms l (qxa ms m e) (fun x hx=>hl x (List.mem_cons_of_mem _ hx)) (fun j hj=>?_) j h
    unfold qxa at hj
    cases hb:Region.binds .any e with
    | false=>rw [hb] at hj;exact hm j hj
    | true =>
      rw [hb] at hj
      simp only [cond_true,Nat.testBit_or,Bool.or_eq_true] at hj
      have hd:aft ops i e.on = true:=by
        unfold aft
        rw [ho]
        exact Array.any_eq_true'.2 ⟨e,Array.mem_toList_iff.1 (hl e (List.mem_cons_self ..)),by simp [hb]⟩
      rcases hj with (hj | hj) | hj
      · exact hm j hj
      · have:e.on = j:=by
          rw [Nat.testBit_two_pow] at hj
          simpa using hj
        rw [← this];exact .one hd
      · exact .more hd (hms _ _ hj)
theorem qrt:∀ (l:List Oper) (ms:List Nat),(∀ k,l[k]? = ops[ms.length + k]?)→(∀ k j,(ms.getD k 0).testBit j = true→Reach ops k j)→∀ k j,((masks l ms).getD k 0).testBit j = true→Reach ops k j
  | [],ms,_,h,k,j,hk=>h k j hk
  | o :: l,ms,hl,h,k,j,hk=>by
    have ho:ops[ms.length]? = some o:=by simpa using (hl 0).symm
    refine qrt l (ms ++ [qvf ms o]) (fun k=>?_) (fun k j hkj=>?_) k j hk
    · have:=hl (k + 1)
      simp only [List.getElem?_cons_succ] at this
      rw [this,List.length_append,List.length_singleton];congr 1;omega
    · rw [List.getD_eq_getElem?_getD,List.getElem?_append] at hkj
      split at hkj
      · rw [← List.getD_eq_getElem?_getD] at hkj;exact h k j hkj
      · by_cases hk0:k - ms.length = 0
        · rw [hk0] at hkj
          have:k = ms.length:=by omega
          subst this
          exact qrs ho h _ 0 (fun _ he=>he) (fun j hj=>by simp at hj) j (by
            have e:[qvf ms o][0]?.getD 0 = qvf ms o:=rfl
            rw [e] at hkj;exact hkj)
        · rw [List.getElem?_eq_none (by simp;omega)] at hkj
          simp at hkj
theorem qpw {i j:Nat} (h:aftT (masks ops.toList []) i j = true):Reach ops i j :=
  qrt ops.toList [] (by simp) (fun k j h=>by simp at h) i j h
theorem qpe {L:Nat→Prop} (hdc:∀ i j,L i→aft ops i j = true→L j) {i j:Nat} (h:Reach ops i j) (hi:L i):L j:=by
  induction h with
  | one h=>exact hdc _ _ hi h
  | more h _ ih=>exact ih (hdc _ _ hi h)
theorem qqq {L:Nat→Prop} (hdc:∀ i j,L i→aft ops i j = true→L j) {i j:Nat} (h:Reach ops i j) (hi:∀ k,aft ops i k = true→L k):L j:=by
  cases h with
  | one h=>exact hi _ h
  | more h h2=>exact qpe hdc h2 (hi _ h)
theorem qkk {D ms:List Nat}:∀ {l a b c:List Rec} {r s:Rec},qp5 D ms ops l = true→l = a ++ r :: (b ++ s :: c)→ql3 D ms ops r s = true
  | [],a,b,c,r,s,h,e=>by cases a <;> cases e
  | x :: l,[],b,c,r,s,h,e=>by
    cases e
    simp only [qp5,Bool.and_eq_true] at h
    exact List.all_eq_true.1 h.1 s (by simp)
  | x :: l,y :: a,b,c,r,s,h,e=>by
    cases e
    simp only [qp5,Bool.and_eq_true] at h
    exact qkk h.2 rfl
/-! ### Folds -/
theorem app_nt (f:FR):(app σ f).nt = σ.nt:=by
  unfold app;cases f.r.mem <;> cases hd:f.dst <;> rfl
theorem qq1:∀ (l:List FR) (σ:St),(apps σ l).nt = σ.nt
  | [],_=>rfl
  | f :: l,σ=>(qq1 l (app σ f)).trans (app_nt f)
theorem qs9 (f:FR) (t:Nat):(app σ f).env t = if f.dst = some t then f.v else σ.env t:=by
  unfold app
  cases f.r.mem <;> cases hd:f.dst with
  | none=>simp [St.putO,St.set]
  | some d =>
    simp only [St.putO,St.put,St.set,cond_true,cond_false,Option.some.injEq]
    by_cases h:t = d
    · subst h;rw [upd_same,if_pos rfl]
    · rw [upd_ne _ _ h,if_neg (Ne.symm h)]
theorem qlr (f:FR):(app σ f).heap = (if f.r.mem = true then f.H else σ.heap)∧(app σ f).next = if f.r.mem = true then f.n else σ.next:=by
  unfold app;cases f.r.mem <;> cases hd:f.dst <;> exact ⟨rfl,rfl⟩
theorem qnp (p:FR→Bool) (t:Nat):∀ (l:List FR) (σ σ':St),σ.env t = σ'.env t→(∀ f ∈ l,f.dst = some t→p f = true)→(apps σ (l.filter p)).env t = (apps σ' l).env t
  | [],σ,σ',h,_=>h
  | f :: l,σ,σ',h,hp=>by
    have hl:=fun f hf=>hp f (List.mem_cons_of_mem _ hf)
    by_cases hpf:p f = true
    · rw [List.filter_cons_of_pos hpf]
      exact qnp p t l (app σ f) (app σ' f) (by rw [qs9,qs9,h]) hl
    · rw [List.filter_cons_of_neg hpf]
      refine qnp p t l σ (app σ' f) ?_ hl
      rw [qs9,if_neg (fun e=>hpf (hp f (List.mem_cons_self ..) e))];exact h
theorem qmw (p:FR→Bool):∀ (l:List FR) (σ σ':St),σ.heap = σ'.heap→σ.next = σ'.next→(∀ f ∈ l,f.r.mem = true→p f = true)→(apps σ (l.filter p)).heap = (apps σ' l).heap∧(apps σ (l.filter p)).next = (apps σ' l).next
  | [],σ,σ',h,k,_=>⟨h,k⟩
  | f :: l,σ,σ',h,k,hp=>by
    have hl:=fun f hf=>hp f (List.mem_cons_of_mem _ hf)
    by_cases hpf:p f = true
    · rw [List.filter_cons_of_pos hpf]
      exact qmw p l (app σ f) (app σ' f) (by rw [(qlr f).1,(qlr f).1,h]) (by rw [(qlr f).2,(qlr f).2,k]) hl
    · rw [List.filter_cons_of_neg hpf]
      have hm:¬ f.r.mem = true:=fun e=>hpf (hp f (List.mem_cons_self ..) e)
      exact qmw p l σ (app σ' f) (by rw [(qlr f).1,if_neg hm];exact h) (by rw [(qlr f).2,if_neg hm];exact k) hl
theorem qwl (t:Nat):∀ (l:List FR) (σ:St),(∀ f ∈ l,f.dst ≠ some t)→(apps σ l).env t = σ.env t
  | [],_,_=>rfl
  | f :: l,σ,h=>by
    show (apps (app σ f) l).env t = _
    rw [qwl t l _ fun g hg=>h g (List.mem_cons_of_mem _ hg),qs9,if_neg (h f (List.mem_cons_self ..))]
theorem put_comm {d e:Nat} {x y:V} (h:d ≠ e):(σ.put d x).put e y = (σ.put e y).put d x:=by
  unfold St.put
  congr 1
  funext t
  show upd (upd σ.env d x) e y t = upd (upd σ.env e y) d x t
  by_cases h1:t = d
  · subst h1;rw [upd_ne _ _ h,upd_same,upd_same]
  · by_cases h2:t = e
    · subst h2;rw [upd_same,upd_ne _ _ (Ne.symm h),upd_same]
    · rw [upd_ne _ _ h2,upd_ne _ _ h1,upd_ne _ _ h1,upd_ne _ _ h2]
theorem app_comm {f g:FR} (hf:f.r.mem = false) (hd:∀ d,f.dst = some d→g.dst ≠ some d):app (app σ f) g = app (app σ g) f:=by
  unfold app
  rw [hf]
  simp only [cond_false]
  cases hfd:f.dst with
  | none=>cases g.r.mem <;> rfl
  | some d =>
    cases hgd:g.dst with
    | none=>cases g.r.mem <;> rfl
    | some e =>
      have hne:d ≠ e:=fun h=>by subst h;exact hd d hfd hgd
      cases g.r.mem
      · simp only [St.putO,cond_false];exact put_comm hne
      · simp only [St.putO,cond_true];exact put_comm (σ:=σ.set g.H g.n) hne
theorem qt5 {f:FR} (hf:f.r.mem = false):∀ (l:List FR) (σ:St),(∀ g ∈ l,∀ d,f.dst = some d→g.dst ≠ some d)→apps (app σ f) l = app (apps σ l) f
  | [],_,_=>rfl
  | g :: l,σ,h=>by
    show apps (app (app σ f) g) l = app (apps (app σ g) l) f
    rw [app_comm hf (h g (List.mem_cons_self ..)),qt5 hf l _ fun k hk=>h k (List.mem_cons_of_mem _ hk)]
theorem qp2 {d:Nat} {l:List Nat} {x:Option Nat} (h:hasD x l = false) (hd:d ∈ l):x ≠ some d:=by
  rintro rfl
  simp only [hasD,List.any_eq_false] at h
  exact h d hd (by simp)
theorem sameD_false {x y:Option Nat} (h:qxd x y = false) {d:Nat} (hx:x = some d):y ≠ some d:=by
  rintro rfl
  subst hx
  simp [qxd] at h
def atL (σ0:St) (fs:List FR) (L:Array Bool):St:=apps σ0 (fs.filter fun f=>L.getD f.r.i false)
theorem qoe {i j:Nat} {o:Oper} (ho:ops[i]? = some o):aft ops i j = true ↔ ∃ e ∈ o.after,Region.binds .any e = true∧e.on = j:=by
  unfold aft
  rw [ho]
  simp only [Array.any_eq_true']
  constructor
  · rintro ⟨e,he,h⟩
    simp only [Bool.and_eq_true] at h
    exact ⟨e,he,h.1,by simpa using h.2⟩
  · rintro ⟨e,he,h1,h2⟩
    exact ⟨e,he,by simp [h1,h2]⟩
theorem qls (L:Array Bool) (i j:Nat) (h:i < L.size):(L.setIfInBounds i true).getD j false = if j = i then true else L.getD j false:=by
  rw [Array.getD_eq_getD_getElem?,Array.getElem?_setIfInBounds]
  by_cases hj:i = j
  · subst hj;simp [h]
  · rw [if_neg hj,if_neg (Ne.symm hj),← Array.getD_eq_getD_getElem?]
theorem qw6 {fs a b:List FR} {s:FR} {L:Array Bool} (hfs:fs = a ++ s :: b) (hs:s.r.i < L.size) (hun:L.getD s.r.i false = false) (hne:∀ f ∈ a ++ b,f.r.i ≠ s.r.i)
    (hro:(∃ f ∈ b,L.getD f.r.i false = true)→s.r.mem = false) (hd:∀ f ∈ b,L.getD f.r.i false = true→∀ d,s.dst = some d→f.dst ≠ some d) :
    atL σ0 fs (L.setIfInBounds s.r.i true) = app (atL σ0 fs L) s:=by
  have hfil:∀ l:List FR,(∀ f ∈ l,f.r.i ≠ s.r.i)→(l.filter fun f=>(L.setIfInBounds s.r.i true).getD f.r.i false) = l.filter fun f=>L.getD f.r.i false:=fun l hl =>
    List.filter_congr fun f hf=>by rw [qls _ _ _ hs,if_neg (hl f hf)]
  unfold atL
  rw [hfs,List.filter_append,List.filter_append,List.filter_cons_of_pos (by rw [qls _ _ _ hs,if_pos rfl]),List.filter_cons_of_neg (by simp [hun]),
    hfil a (fun f hf=>hne f (List.mem_append_left _ hf)),hfil b (fun f hf=>hne f (List.mem_append_right _ hf))]
  unfold apps
  rw [List.foldl_append,List.foldl_append,List.foldl_cons]
  by_cases hb:∃ f ∈ b,L.getD f.r.i false = true
  · exact qt5 (hro hb) _ _ fun g hg d hsd=>hd g (List.mem_filter.1 hg).1 (List.mem_filter.1 hg).2 d hsd
  · have:(b.filter fun f=>L.getD f.r.i false) = []:=List.filter_eq_nil_iff.2 fun f hf h=>hb ⟨f,hf,h⟩
    rw [this];rfl
theorem heap_kept {fs a:List FR} {s:FR} {J:List Nat} (hro:s.r.mem = false) (hfact:∀ x f y,fs = x ++ f :: y→Fact P ops (apps σ0 x) f) (p:FR→Bool) :
    ∀ (b:List FR),(∃ y,fs = a ++ s :: (b ++ y)) →
      (∀ x f y,b = x ++ f :: y→f.r.mem = true→p f = true→(∀ j ∈ J,j ∈ f.r.J)∧∀ g ∈ x,g.r.mem = true→p g = true)→(∀ f ∈ b,True) →
      ∀ (σ:St),(∀ j ∈ J,σ.heap j = (apps σ0 a).heap j)→∀ j ∈ J,(apps σ (b.filter p)).heap j = (apps σ0 a).heap j:=by
  intro b hy hb _ σ hσ
  -- from the right
  have key:∀ (n:Nat) (b:List FR),b.length = n→(∃ y,fs = a ++ s :: (b ++ y)) →
      (∀ x f y,b = x ++ f :: y→f.r.mem = true→p f = true→(∀ j ∈ J,j ∈ f.r.J)∧∀ g ∈ x,g.r.mem = true→p g = true) →
      (∀ j ∈ J,(apps σ (b.filter p)).heap j = (apps σ0 a).heap j)∧((∀ g ∈ b,g.r.mem = true→p g = true)→∀ j ∈ J,(apps σ0 (a ++ s :: b)).heap j = (apps σ0 a).heap j):=by
    intro n
    induction n with
    | zero =>
      intro b hn _ _
      obtain rfl:=List.length_eq_zero_iff.1 hn
      refine ⟨hσ,fun _ j _=>?_⟩
      rw [apps,List.foldl_append]
      show (app (apps σ0 a) s).heap j = _
      rw [(qlr s).1,if_neg (by simp [hro])]
    | succ n ih0 =>
      intro b0 hn ⟨y,hy⟩ hb
      obtain ⟨b,f,rfl⟩:∃ b f,b0 = b ++ [f]:=by
        rcases List.eq_nil_or_concat b0 with rfl | ⟨b,f,rfl⟩
        · cases hn
        · exact ⟨b,f,by simp⟩
      have ih:=ih0 b (by simpa using hn)
      have hb':∀ x g z,b = x ++ g :: z→g.r.mem = true→p g = true→(∀ j ∈ J,j ∈ g.r.J)∧∀ k ∈ x,k.r.mem = true→p k = true:=fun x g z e=>hb x g (z ++ [f]) (by rw [e];simp)
      obtain ⟨i1,i2⟩:=ih ⟨f :: y,by rw [hy];simp⟩ hb'
      have hmem:f.r.mem = true→p f = true→∀ j ∈ J,f.H j = (apps σ0 a).heap j:=by
        intro hm hp j hj
        obtain ⟨h1,h2⟩:=hb b f [] rfl hm hp
        obtain ⟨o,_,_,hff⟩:=hfact (a ++ s :: b) f y (by rw [hy];simp)
        rcases hff with ⟨h3,_⟩ | ⟨_,_,h3⟩
        · rw [h3] at hm;cases hm
        · rw [h3 j (h1 j hj)];exact i2 h2 j hj
      refine ⟨fun j hj=>?_,fun hall j hj=>?_⟩
      · rw [List.filter_append,apps,List.foldl_append]
        by_cases hp:p f = true
        · rw [List.filter_cons_of_pos hp]
          show (app (apps σ (b.filter p)) f).heap j = _
          rw [(qlr f).1]
          by_cases hm:f.r.mem = true
          · rw [if_pos hm];exact hmem hm hp j hj
          · rw [if_neg hm];exact i1 j hj
        · rw [List.filter_cons_of_neg hp]
          exact i1 j hj
      · have e:a ++ s :: (b ++ [f]) = (a ++ s :: b) ++ [f]:=by simp
        rw [e,apps,List.foldl_append]
        show (app (apps σ0 (a ++ s :: b)) f).heap j = _
        rw [(qlr f).1]
        by_cases hm:f.r.mem = true
        · rw [if_pos hm];exact hmem hm (hall f (by simp) hm) j hj
        · rw [if_neg hm];exact i2 (fun g hg=>hall g (List.mem_append_left _ hg)) j hj
  exact (key _ b rfl hy hb).1
end
end Go.Proofs.YtiegopnofbgoaaaGreat.AWN

namespace Go.Proofs.YtiegopnofbgoaaaGreat.AWN
open Go
section
variable {P:Program} {τ:Tab} {σ σ0:St} {ops:Array Oper} {o:Oper} {w0:World} {A:Args} {okA:Nat→Prop} {Q:Exit→St→Prop}
theorem qri {α:Type} (p q:α→Bool):∀ (l:List α),(∀ x ∈ l,q x = true→p x = true)→(∃ x ∈ l,p x = true∧q x = false)→(l.filter q).length < (l.filter p).length
  | [],_,h=>by obtain ⟨x,hx,_⟩:=h;cases hx
  | y :: l,hq,h=>by
    have hle:∀ l:List α,(∀ x ∈ l,q x = true→p x = true)→(l.filter q).length ≤ (l.filter p).length:=by
      intro l
      induction l with
      | nil=>intro _;exact Nat.le_refl _
      | cons z l ih =>
        intro hz
        have:=ih fun x hx=>hz x (List.mem_cons_of_mem _ hx)
        cases hqz:q z with
        | true=>rw [List.filter_cons_of_pos hqz,List.filter_cons_of_pos (hz z (List.mem_cons_self ..) hqz)];simpa using this
        | false =>
          rw [List.filter_cons_of_neg (by simp [hqz])]
          cases hpz:p z with
          | true=>rw [List.filter_cons_of_pos hpz];simp;omega
          | false=>rw [List.filter_cons_of_neg (by simp [hpz])];exact this
    have hql:=fun x hx=>hq x (List.mem_cons_of_mem _ hx)
    obtain ⟨x,hx,h1,h2⟩:=h
    rcases List.mem_cons.1 hx with rfl | hx
    · rw [List.filter_cons_of_pos h1,List.filter_cons_of_neg (by simp [h2])]
      have:=hle l hql
      simp;omega
    · have:=qri p q l hql ⟨x,hx,h1,h2⟩
      cases hqz:q y with
      | true=>rw [List.filter_cons_of_pos hqz,List.filter_cons_of_pos (hq y (List.mem_cons_self ..) hqz)];simpa using this
      | false =>
        rw [List.filter_cons_of_neg (by simp [hqz])]
        cases hpz:p y with
        | true=>rw [List.filter_cons_of_pos hpz];simp;omega
        | false=>rw [List.filter_cons_of_neg (by simp [hpz])];exact this
structure Wk (P:Program) (ops:Array Oper) (σ0:St) (D:List Nat) (fs:List FR):Prop where
  fact:∀ a f b,fs = a ++ f :: b→Fact P ops (apps σ0 a) f
  pairs:qp5 D (masks ops.toList []) ops (fs.map (·.r)) = true
  self:∀ s ∈ fs,qvo ops s.r = true
  nds:∀ s ∈ fs,s.r.nd = true→s.r.i ∈ D
def Down (ops:Array Oper) (L:Array Bool):Prop:=L.size = ops.size∧∀ i j,L.getD i false = true→aft ops i j = true→L.getD j false = true
def Has (D:List Nat) (L:Array Bool):Prop:=∀ d ∈ D,L.getD d false = true
def Within (fs:List FR) (L:Array Bool):Prop:=∀ i,L.getD i false = true→∃ s ∈ fs,s.r.i = i
def qvx (ops:Array Oper) (L:Array Bool):Nat:=((List.range ops.size).filter fun i=>!L.getD i false).length
theorem qlv {D:List Nat} {rs:List Rec} {fs:List FR} (hmap:fs.map (·.r) = rs.reverse) (hfact:∀ a f b,fs = a ++ f :: b→Fact P ops (apps σ0 a) f) (hok:qts D ops rs = true):Wk P ops σ0 D fs:=by
  simp only [qts,Bool.and_eq_true] at hok
  have hin:∀ s ∈ fs,s.r ∈ rs:=fun s hs=>by
    have:s.r ∈ fs.map (·.r):=List.mem_map.2 ⟨s,hs,rfl⟩
    rw [hmap] at this
    simpa using this
  refine ⟨hfact,by rw [hmap];exact hok.1.1,fun s hs=>List.all_eq_true.1 hok.1.2 _ (hin s hs),fun s hs hn=>?_⟩
  have:=List.all_eq_true.1 hok.2 _ (hin s hs)
  rw [hn,Bool.not_true,Bool.false_or] at this
  obtain ⟨d,hd,e⟩:=List.any_eq_true.1 this
  rw [show s.r.i = d by simpa using e];exact hd
theorem qnx {L:Array Bool} {i:Nat} (hL:L.size = ops.size) (hi:i < ops.size) (hun:L.getD i false = false) {fuel:Nat} (h:qvx ops L ≤ fuel + 1):qvx ops (L.setIfInBounds i true) ≤ fuel:=by
  refine Nat.le_of_lt_succ (Nat.lt_of_lt_of_le (qri _ _ (List.range ops.size) (fun f hf h=>?_) ⟨i,List.mem_range.2 hi,by simp [hun],by rw [qls _ _ _ (by omega),if_pos rfl];rfl⟩) h)
  rw [qls _ _ _ (by omega)] at h
  by_cases hfi:f = i
  · rw [if_pos hfi] at h;simp at h
  · rw [if_neg hfi] at h;exact h
theorem qpk {L:Array Bool} {i:Nat} (hL:Down ops L) (hi:i < ops.size) (hdep:∀ j,aft ops i j = true→L.getD j false = true):Down ops (L.setIfInBounds i true):=by
  refine ⟨by rw [Array.size_setIfInBounds];exact hL.1,fun k j hk haf=>?_⟩
  have hs:=hL.1
  rw [qls _ _ _ (by omega)] at hk ⊢
  by_cases hj:j = i
  · rw [if_pos hj]
  · rw [if_neg hj]
    by_cases his:k = i
    · subst his;exact hdep j haf
    · rw [if_neg his] at hk;exact hL.2 k j hk haf
theorem qsg {D:List Nat} {L:Array Bool} {i:Nat} (hi:i < L.size) (h:Has D L):Has D (L.setIfInBounds i true):=fun d hd=>by
  rw [qls _ _ _ hi]
  split
  · rfl
  · exact h d hd
theorem qlu {L:Array Bool} {i:Nat} (hL:Down ops L) (hi:i ∈ Region.ready .any ops L):i < ops.size∧L.getD i false = false∧∀ j,aft ops i j = true→L.getD j false = true:=by
  obtain ⟨h0,o,ho,hafter⟩:=mem_ready.1 hi
  have hlt:=(Array.getElem?_eq_some_iff.1 ho).1
  have hs:=hL.1
  refine ⟨hlt,?_,fun j hj=>?_⟩
  · rw [Array.getD_eq_getD_getElem?,Array.getElem?_eq_getElem (by omega)] at h0 ⊢
    exact h0
  · obtain ⟨ed,h1,h2,rfl⟩:=(qoe ho).1 hj
    exact hafter ed h1 h2
theorem ready_of {L:Array Bool} {i:Nat} (hL:Down ops L) (hi:i < ops.size) (hun:L.getD i false = false) (hdep:∀ j,aft ops i j = true→L.getD j false = true):i ∈ Region.ready .any ops L:=by
  have hs:=hL.1
  refine mem_ready.2 ⟨?_,ops[i],Array.getElem?_eq_getElem hi,fun ed hed hbd=>?_⟩
  · rw [Array.getD_eq_getD_getElem?,Array.getElem?_eq_getElem (by omega)] at hun ⊢
    exact hun
  · exact hdep _ ((qoe (Array.getElem?_eq_getElem hi)).2 ⟨ed,hed,hbd,rfl⟩)
theorem qs8 {D:List Nat} {fs:List FR} (hw:Wk P ops σ0 D fs) {fuel:Nat} {L:Array Bool} {a:Act} {W:World} {hb:Handle} (hL:Down ops L) (hD:Has D L) (hs:Sim w0 A okA hb (atL σ0 fs L) a W) {s:FR} (hsm:s ∈ fs) (hi:s.r.i ∈ Region.ready .any ops L)
    (hK:∀ a' W' hb',Sim w0 A okA hb' (atL σ0 fs (L.setIfInBounds s.r.i true)) a' W'→wpAny P .any ops (lift w0 A okA Q) fuel (L.setIfInBounds s.r.i true) a' W') :
    wpOp P ops (lift w0 A okA Q) s.r.i (wpAny P .any ops (lift w0 A okA Q) fuel (L.setIfInBounds s.r.i true)) a W:=by
  have hpairs:=hw.pairs
  have pairA:∀ {a b:List FR} {s r:FR},fs = a ++ s :: b→r ∈ a→ql3 D (masks ops.toList []) ops r.r s.r = true:=by
    intro a b s r e hr
    obtain ⟨x,y,rfl⟩:=List.append_of_mem hr
    refine qkk (a:=x.map (·.r)) (b:=y.map (·.r)) (c:=b.map (·.r)) hpairs ?_
    rw [e];simp
  have pairB:∀ {a b:List FR} {s r:FR},fs = a ++ s :: b→r ∈ b→ql3 D (masks ops.toList []) ops s.r r.r = true:=by
    intro a b s r e hr
    obtain ⟨x,y,rfl⟩:=List.append_of_mem hr
    refine qkk (a:=a.map (·.r)) (b:=x.map (·.r)) (c:=y.map (·.r)) hpairs ?_
    rw [e];simp
  have hfact:=hw.fact
  have opS:∀ s ∈ fs,∃ o,ops[s.r.i]? = some o∧s.dst = o.dst:=by
    intro s hs
    obtain ⟨x,y,e⟩:=List.append_of_mem hs
    obtain ⟨o,h1,h2,_⟩:=hfact x s y e
    exact ⟨o,h1,h2⟩
  have dstS:∀ s ∈ fs,qn8 ops s.r.i = s.dst:=by
    intro s hs
    obtain ⟨o,h1,h2⟩:=opS s hs
    unfold qn8;rw [h1,h2]
  have ltS:∀ s ∈ fs,s.r.i < ops.size:=by
    intro s hs
    obtain ⟨o,h1,_⟩:=opS s hs
    exact (Array.getElem?_eq_some_iff.1 h1).1
  obtain ⟨hlt,hun,hdep⟩:=qlu hL hi
  have hdc:=hL.2
  have hDm:∀ {i:Nat},D.any (Nat.beq i) = true→L.getD i false = true:=fun {i} h=>by
    obtain ⟨d,hd,e⟩:=List.any_eq_true.1 h
    rw [show i = d by simpa using e];exact hD d hd
  obtain ⟨x,y,e⟩:=List.append_of_mem hsm
  obtain ⟨o,ho',hdst,hf⟩:=hfact x s y e
  have ho:ops[s.r.i]? = some o:=ho'
  have hdepT:∀ j,aftT (masks ops.toList []) s.r.i j = true→L.getD j false = true:=fun j hj=>qqq (L:=fun k=>L.getD k false = true) (fun i j h1 h2=>hdc i j h1 h2) (qpw hj) hdep
  have hdcT:∀ i j,L.getD i false = true→aftT (masks ops.toList []) i j = true→L.getD j false = true:=fun i j hi hj=>qpe (L:=fun k=>L.getD k false = true) (fun i j h1 h2=>hdc i j h1 h2) (qpw hj) hi
  -- those behind it that have come up do not wait for it
  have hB:∀ g ∈ y,L.getD g.r.i false = true→(hasD (qn8 ops s.r.i) (qmg ops g.r.i) = false∧hasD (qn8 ops g.r.i) (qmg ops s.r.i) = false∧qxd (qn8 ops s.r.i) (qn8 ops g.r.i) = false∧s.r.mem = false∧(g.r.mem = false ∨ ∀ j ∈ s.r.J,j ∈ g.r.J)):=by
    intro g hg hl
    have hp:=pairB e hg
    have hna:aftT (masks ops.toList []) g.r.i s.r.i = false:=by
      cases h:aftT (masks ops.toList []) g.r.i s.r.i with
      | false=>rfl
      | true=>rw [hdcT _ _ hl h] at hun;cases hun
    have hnd:D.any (Nat.beq s.r.i) = false:=by
      cases h:D.any (Nat.beq s.r.i) with
      | false=>rfl
      | true=>rw [hDm h] at hun;cases hun
    simp only [ql3,hna,hnd,Bool.false_or,Bool.and_eq_true,Bool.not_eq_true',Bool.or_eq_true] at hp
    obtain ⟨_,⟨⟨⟨p1,p2⟩,p3⟩,p4⟩,p5⟩:=hp
    refine ⟨p1,p2,p3,p4,p5.imp id fun h j hj=>?_⟩
    have:=List.all_eq_true.1 h j hj
    obtain ⟨k,hk,e⟩:=List.any_eq_true.1 this
    rw [show j = k by simpa using e];exact hk
  have hA:∀ g ∈ x,L.getD g.r.i false = true ∨ (hasD (qn8 ops g.r.i) (qmg ops s.r.i) = false∧g.r.mem = false):=by
    intro g hg
    have hp:=pairA e hg
    cases h:aftT (masks ops.toList []) s.r.i g.r.i with
    | true=>exact .inl (hdepT _ h)
    | false =>
      simp only [ql3,h,Bool.false_or,Bool.and_eq_true,Bool.not_eq_true',Bool.or_eq_true] at hp
      rcases hp.2 with hd | hp
      · exact .inl (hDm hd)
      · exact .inr ⟨hp.1.1.1.1,hp.1.2⟩
  have hgm:∀ g ∈ x ++ y,g ∈ fs:=fun g hg=>by
    rw [e]
    rcases List.mem_append.1 hg with hg | hg <;> simp [hg]
  have hne:∀ g ∈ x ++ y,g.r.i ≠ s.r.i:=by
    intro g hg
    rcases List.mem_append.1 hg with hg | hg
    · have hp:=pairA e hg
      simp only [ql3,Bool.and_eq_true,Bool.not_eq_true'] at hp
      have:=hp.1.1
      intro h;rw [h] at this;simp at this
    · have hp:=pairB e hg
      simp only [ql3,Bool.and_eq_true,Bool.not_eq_true'] at hp
      have:=hp.1.1
      intro h;rw [h] at this;simp at this
  have hX:atL σ0 fs L = apps (apps σ0 (x.filter fun f=>L.getD f.r.i false)) (y.filter fun f=>L.getD f.r.i false):=by
    unfold atL apps
    rw [e,List.filter_append,List.filter_cons_of_neg (by simp [hun]),List.foldl_append]
  have hlk:qmg ops s.r.i = looks ops o:=by unfold qmg;rw [ho]
  have henv:∀ t ∈ looks ops o,(atL σ0 fs L).env t = (apps σ0 x).env t:=by
    intro t ht
    rw [← hlk] at ht
    rw [hX,qwl t _ _ fun g hg=>by
      obtain ⟨hg1,hg2⟩:=List.mem_filter.1 hg
      have:=(hB g hg1 hg2).2.1
      rw [dstS g (hgm g (List.mem_append_right _ hg1))] at this
      exact qp2 this ht]
    exact qnp _ t x σ0 σ0 rfl fun g hg hgd=>by
      rcases hA g hg with h | ⟨h,_⟩
      · exact h
      · rw [dstS g (hgm g (List.mem_append_left _ hg))] at h
        exact absurd hgd (qp2 h ht)
  have hnt:(atL σ0 fs L).nt = (apps σ0 x).nt:=by unfold atL;rw [qq1,qq1]
  have hheapA:=qmw (fun f:FR=>L.getD f.r.i false) x σ0 σ0 rfl rfl fun g hg hm=>by
    rcases hA g hg with h | ⟨_,h⟩
    · exact h
    · rw [h] at hm;cases hm
  -- the step
  have hone:One P ops o (atL σ0 fs L) (· = app (atL σ0 fs L) s):=by
    rcases hf with ⟨hm,hf⟩ | ⟨hm,hf,hk⟩
    · have h1:app (atL σ0 fs L) s = (atL σ0 fs L).putO o.dst s.v:=by unfold app;rw [hm,hdst];rfl
      rw [h1]
      refine hf _ hnt henv fun j hj=>?_
      rw [hX]
      refine heap_kept hm hfact (fun f:FR=>L.getD f.r.i false) y ⟨[],by rw [e];simp⟩ (fun x' f y' ey hfm hfl=>⟨fun j hj=>?_,fun g hg hgm'=>?_⟩) (fun _ _=>trivial) _ (fun j hj=>by rw [hheapA.1]) j hj
      · rcases (hB f (by rw [ey];simp) hfl).2.2.2.2 with h | h
        · rw [h] at hfm;cases hfm
        · exact h j hj
      · -- an earlier change of memory: waited for
        have e2:fs = (x ++ s :: x') ++ f :: y':=by rw [e,ey];simp
        have hp:=pairA e2 (r:=g) (by simp [hg])
        cases h:aftT (masks ops.toList []) f.r.i g.r.i with
        | true=>exact hdcT _ _ hfl h
        | false =>
          simp only [ql3,h,Bool.false_or,Bool.and_eq_true,Bool.not_eq_true',Bool.or_eq_true] at hp
          rcases hp.2 with hd | hp
          · exact hDm hd
          · rw [hp.1.2] at hgm';cases hgm'
    · replace hf:qu6 P ops (apps σ0 x) o s.v s.H s.n:=hf.resolve_right fun hn=>by
        rw [hD _ (hw.nds s hsm hn)] at hun;cases hun
      have hnil:(y.filter fun f=>L.getD f.r.i false) = []:=List.filter_eq_nil_iff.2 fun g hg h=>by
        have:=(hB g hg h).2.2.2.1
        rw [hm] at this;cases this
      have h1:app (atL σ0 fs L) s = ((atL σ0 fs L).set s.H s.n).putO o.dst s.v:=by unfold app;rw [hm,hdst];rfl
      rw [h1]
      rw [hnil] at hX
      refine hf _ hnt henv ?_ ?_
      · rw [hX];exact hheapA.1
      · rw [hX];exact hheapA.2
  have hset:=qw6 (σ0:=σ0) e (by rw [hL.1];exact hlt) hun hne (fun ⟨g,hg,hl⟩=>(hB g hg hl).2.2.2.1) (fun g hg hl d hd=>by
    have:=(hB g hg hl).2.2.1
    rw [dstS s hsm,dstS g (hgm g (List.mem_append_right _ hg))] at this
    exact sameD_false this hd)
  have:=hone w0 A okA hb a W hs (lift w0 A okA Q) (wpAny P .any ops (lift w0 A okA Q) fuel (L.setIfInBounds s.r.i true))
    (fun σ' hb' a' W' hσ' hs'=>hK a' W' hb' (by rw [hset,← hσ'];exact hs'))
  unfold wpOp
  simp only [ho]
  split
  · rename_i hw;rw [if_pos hw] at this;exact .inl this
  · rename_i hw;rw [if_neg hw] at this;exact this
theorem qxh {D:List Nat} {fs:List FR} (hw:Wk P ops σ0 D fs) {L:Array Bool} (hL:Down ops L) (hD:Has D L) (hcl:∀ s ∈ fs,∀ j,aft ops s.r.i j = true→∃ r ∈ fs,r.r.i = j) (hr:Region.ready .any ops L = []):∀ s ∈ fs,L.getD s.r.i false = true:=by
  have hpairs:=hw.pairs
  have pairA:∀ {a b:List FR} {s r:FR},fs = a ++ s :: b→r ∈ a→ql3 D (masks ops.toList []) ops r.r s.r = true:=by
    intro a b s r e hr
    obtain ⟨x,y,rfl⟩:=List.append_of_mem hr
    refine qkk (a:=x.map (·.r)) (b:=y.map (·.r)) (c:=b.map (·.r)) hpairs ?_
    rw [e];simp
  have pairB:∀ {a b:List FR} {s r:FR},fs = a ++ s :: b→r ∈ b→ql3 D (masks ops.toList []) ops s.r r.r = true:=by
    intro a b s r e hr
    obtain ⟨x,y,rfl⟩:=List.append_of_mem hr
    refine qkk (a:=a.map (·.r)) (b:=x.map (·.r)) (c:=y.map (·.r)) hpairs ?_
    rw [e];simp
  have hfact:=hw.fact
  have selfS:=hw.self
  have opS:∀ s ∈ fs,∃ o,ops[s.r.i]? = some o∧s.dst = o.dst:=by
    intro s hs
    obtain ⟨x,y,e⟩:=List.append_of_mem hs
    obtain ⟨o,h1,h2,_⟩:=hfact x s y e
    exact ⟨o,h1,h2⟩
  have dstS:∀ s ∈ fs,qn8 ops s.r.i = s.dst:=by
    intro s hs
    obtain ⟨o,h1,h2⟩:=opS s hs
    unfold qn8;rw [h1,h2]
  have ltS:∀ s ∈ fs,s.r.i < ops.size:=by
    intro s hs
    obtain ⟨o,h1,_⟩:=opS s hs
    exact (Array.getElem?_eq_some_iff.1 h1).1
  -- the first that has not
  have key:∀ (n:Nat) (a b:List FR),a.length = n→fs = a ++ b→(∀ s ∈ a,L.getD s.r.i false = true)→∀ s ∈ fs,L.getD s.r.i false = true:=by
    intro n a b
    induction b generalizing a n with
    | nil=>intro _ e h s hs;rw [e] at hs;simp at hs;exact h s hs
    | cons s b ih =>
      intro hn e h
      have hsm:s ∈ fs:=by rw [e];simp
      have hls:L.getD s.r.i false = true:=by
        cases hc:L.getD s.r.i false with
        | true=>rfl
        | false =>
          exfalso
          obtain ⟨o,ho,hd⟩:=opS s hsm
          have hlt:=ltS s hsm
          have hm:s.r.i ∈ Region.ready .any ops L:=by
            refine mem_ready.2 ⟨?_,o,ho,fun ed hed hbd=>?_⟩
            · rw [Array.getD_eq_getD_getElem?,Array.getElem?_eq_getElem (by rw [hL.1];exact hlt)] at hc ⊢
              exact hc
            · have hso:=selfS s hsm
              unfold qvo at hso
              rw [ho] at hso
              simp only [Array.all_eq_true_iff_forall_mem] at hso
              have:=hso ed hed
              simp only [hbd,Bool.not_true,Bool.false_or,Bool.and_eq_true] at this
              have hon:ed.on < ops.size:=by simpa [Nat.blt_eq] using this.1
              have hne:ed.on ≠ s.r.i:=fun h=>by have h2:=this.2;rw [h] at h2;simp at h2
              have haf:aft ops s.r.i ed.on = true:=(qoe ho).2 ⟨ed,hed,hbd,rfl⟩
              obtain ⟨r,hrm,hri⟩:=hcl s hsm _ haf
              rw [e] at hrm
              rcases List.mem_append.1 hrm with hra | hrb
              · rw [← hri];exact h r hra
              · rcases List.mem_cons.1 hrb with rfl | hrb
                · exact absurd hri.symm hne
                · have:=pairB e hrb
                  simp only [ql3,Bool.and_eq_true,Bool.not_eq_true'] at this
                  rw [hri] at this
                  rw [this.1.2] at haf;cases haf
          rw [hr] at hm;cases hm
      exact ih _ (a ++ [s]) rfl (by rw [e];simp) (fun x hx=>by
        rcases List.mem_append.1 hx with hx | hx
        · exact h x hx
        · simp at hx;subst hx;exact hls)
  exact key 0 [] fs rfl rfl (fun s hs=>by cases hs)
def Cont (P:Program) (ops:Array Oper) (σ0:St) (Q:Exit→St→Prop) (D:List Nat) (fs:List FR):Prop :=
  ∀ (w0:World) (A:Args) (okA:Nat→Prop) (fuel:Nat) (L:Array Bool) (a:Act) (W:World) (hb:Handle),Down ops L→Has D L→Within fs L→Sim w0 A okA hb (atL σ0 fs L) a W→qvx ops L ≤ fuel→wpAny P .any ops (lift w0 A okA Q) fuel L a W
def Bran (P:Program) (ops:Array Oper) (σ0:St) (Q:Exit→St→Prop) (D:List Nat) (fs:List FR) (m:Nat):Prop :=
  ∀ (w0:World) (A:Args) (okA:Nat→Prop) (fuel:Nat) (L:Array Bool) (a:Act) (W:World) (hb:Handle),Down ops L→Has D L→Within fs L→m ∈ Region.ready .any ops L→Sim w0 A okA hb (atL σ0 fs L) a W→qvx ops L ≤ fuel + 1 →
    wpOp P ops (lift w0 A okA Q) m (wpAny P .any ops (lift w0 A okA Q) fuel (L.setIfInBounds m true)) a W
theorem qny {fs:List FR} {L:Array Bool} {i:Nat} (hi:i < L.size) (h:Within fs L) (hs:∃ s ∈ fs,s.r.i = i):Within fs (L.setIfInBounds i true):=fun j hj=>by
  rw [qls _ _ _ hi] at hj
  by_cases hji:j = i
  · subst hji;exact hs
  · rw [if_neg hji] at hj;exact h j hj
theorem cont_leaf {D:List Nat} {fs:List FR} (hw:Wk P ops σ0 D fs) (hall:∀ i,i < ops.size→∃ s ∈ fs,s.r.i = i) (hQ:Q .normal (apps σ0 fs)):Cont P ops σ0 Q D fs:=by
  intro w0 A okA fuel
  have hcl:∀ s ∈ fs,∀ j,aft ops s.r.i j = true→∃ r ∈ fs,r.r.i = j:=by
    intro s hs j hj
    have hso:=hw.self s hs
    unfold qvo at hso
    obtain ⟨x,y,e⟩:=List.append_of_mem hs
    obtain ⟨o,ho,_⟩:=hw.fact x s y e
    rw [ho] at hso
    simp only [Array.all_eq_true_iff_forall_mem] at hso
    obtain ⟨ed,h1,h2,rfl⟩:=(qoe ho).1 hj
    have:=hso ed h1
    simp only [h2,Bool.not_true,Bool.false_or,Bool.and_eq_true] at this
    exact hall _ (by simpa [Nat.blt_eq] using this.1)
  have fin:∀ L:Array Bool,(∀ s ∈ fs,L.getD s.r.i false = true)→atL σ0 fs L = apps σ0 fs:=by
    intro L h
    unfold atL
    rw [List.filter_eq_self.2 h]
  induction fuel with
  | zero =>
    intro L a W hb hL hD hin hs hlen
    have hz:∀ i,i < ops.size→L.getD i false = true:=by
      intro i hi
      have h0:=List.length_eq_zero_iff.1 (Nat.le_zero.1 hlen)
      have:=List.filter_eq_nil_iff.1 h0 i (List.mem_range.2 hi)
      simpa using this
    have hz':∀ s ∈ fs,L.getD s.r.i false = true:=fun s hs'=>by
      obtain ⟨x,y,e⟩:=List.append_of_mem hs'
      obtain ⟨o,ho,_⟩:=hw.fact x s y e
      exact hz _ (Array.getElem?_eq_some_iff.1 ho).1
    refine ⟨?_,hb,_,hQ,by rw [← fin L hz'];exact hs⟩
    refine List.eq_nil_iff_forall_not_mem.2 fun i hi=>?_
    obtain ⟨h1,h2,_⟩:=qlu hL hi
    rw [hz i h1] at h2;cases h2
  | succ fuel ih =>
    intro L a W hb hL hD hin hs hlen
    refine ⟨fun hr=>⟨hb,_,hQ,by rw [← fin L (qxh hw hL hD hcl hr)];exact hs⟩,fun i hi=>?_⟩
    obtain ⟨h1,h2,h3⟩:=qlu hL hi
    obtain ⟨s,hsm,rfl⟩:=hall i h1
    exact qs8 hw hL hD hs hsm hi fun a' W' hb' hs'=>ih _ a' W' hb' (qpk hL h1 h3) (qsg (by rw [hL.1];exact h1) hD) (qny (by rw [hL.1];exact h1) hin ⟨s,hsm,rfl⟩) hs' (qnx hL.1 h1 h2 hlen)
theorem cont_fork {D:List Nat} {fs:List FR} {ms:List Nat} (hw:Wk P ops σ0 D fs) (hcl:∀ s ∈ fs,∀ j,aft ops s.r.i j = true→∃ r ∈ fs,r.r.i = j) (hout:∀ i,i < ops.size→(∃ s ∈ fs,s.r.i = i) ∨ i ∈ ms ∨ ∃ j,aft ops i j = true∧¬ ∃ s ∈ fs,s.r.i = j)
    (hmay:∃ m,m < ops.size∧(¬ ∃ s ∈ fs,s.r.i = m)∧∀ j,aft ops m j = true→∃ s ∈ fs,s.r.i = j) (hB:∀ m ∈ ms,Bran P ops σ0 Q D fs m):Cont P ops σ0 Q D fs:=by
  intro w0 A okA fuel
  obtain ⟨m,hm1,hm2,hm3⟩:=hmay
  induction fuel with
  | zero =>
    intro L a W hb hL hD hin hs hlen
    exfalso
    have h0:=List.length_eq_zero_iff.1 (Nat.le_zero.1 hlen)
    have:=List.filter_eq_nil_iff.1 h0 m (List.mem_range.2 hm1)
    exact hm2 (hin m (by simpa using this))
  | succ fuel ih =>
    intro L a W hb hL hD hin hs hlen
    refine ⟨fun hr=>?_,fun i hi=>?_⟩
    · exfalso
      have hall:=qxh hw hL hD hcl hr
      have hun:L.getD m false = false:=by
        cases h:L.getD m false with
        | false=>rfl
        | true=>exact absurd (hin m h) hm2
      have:=ready_of hL hm1 hun fun j hj=>by
        obtain ⟨s,h1,rfl⟩:=hm3 j hj
        exact hall s h1
      rw [hr] at this;cases this
    · obtain ⟨h1,h2,h3⟩:=qlu hL hi
      rcases hout i h1 with ⟨s,hsm,rfl⟩ | hms | ⟨j,hj1,hj2⟩
      · exact qs8 hw hL hD hs hsm hi fun a' W' hb' hs'=>ih _ a' W' hb' (qpk hL h1 h3) (qsg (by rw [hL.1];exact h1) hD) (qny (by rw [hL.1];exact h1) hin ⟨s,hsm,rfl⟩) hs' (qnx hL.1 h1 h2 hlen)
      · exact hB i hms w0 A okA fuel L a W hb hL hD hin hi hs hlen
      · exact absurd (hin j (h3 j hj1)) hj2
theorem qsa {fs gs:List FR} {L:Array Bool} (h:∀ g ∈ gs,L.getD g.r.i false = false):atL σ0 (fs ++ gs) L = atL σ0 fs L:=by
  unfold atL
  have e:gs.filter (fun f=>L.getD f.r.i false) = []:=List.filter_eq_nil_iff.2 fun g hg h'=>by rw [h g hg] at h';cases h'
  rw [List.filter_append,e,List.append_nil]
theorem qxx {D:List Nat} {fs gs:List FR} (hw:Wk P ops σ0 D (fs ++ gs)) {L:Array Bool} (hin:Within fs L):∀ g ∈ gs,L.getD g.r.i false = false:=by
  intro g hg
  cases h:L.getD g.r.i false with
  | false=>rfl
  | true =>
    exfalso
    obtain ⟨s,hs,e⟩:=hin _ h
    obtain ⟨x,y,rfl⟩:=List.append_of_mem hs
    obtain ⟨x',y',rfl⟩:=List.append_of_mem hg
    have:=qkk (a:=x.map (·.r)) (b:=(y ++ x').map (·.r)) (c:=y'.map (·.r)) (r:=s.r) (s:=g.r) hw.pairs (by simp)
    simp only [ql3,Bool.and_eq_true,Bool.not_eq_true'] at this
    have:=this.1.1
    rw [e] at this;simp at this
theorem qod {fs gs:List FR} {L:Array Bool} (h:Within fs L):Within (fs ++ gs) L:=fun i hi=>by
  obtain ⟨s,hs,e⟩:=h i hi
  exact ⟨s,List.mem_append_left _ hs,e⟩
theorem qq7 {D:List Nat} {fs gs:List FR} (hw:Wk P ops σ0 D (fs ++ gs)) (h:Cont P ops σ0 Q D (fs ++ gs)):Cont P ops σ0 Q D fs:=fun w0 A okA fuel L a W hb hL hD hin hs hlen =>
  h w0 A okA fuel L a W hb hL hD (qod hin) (by rw [qsa (qxx hw hin)];exact hs) hlen
theorem bran_first {D:List Nat} {fs:List FR} {s:FR} (hw:Wk P ops σ0 D (fs ++ [s])) (h:Cont P ops σ0 Q (s.r.i :: D) (fs ++ [s])):Bran P ops σ0 Q D fs s.r.i:=by
  intro w0 A okA fuel L a W hb hL hD hin hi hs hlen
  obtain ⟨h1,h2,h3⟩:=qlu hL hi
  have hlt:s.r.i < L.size:=by rw [hL.1];exact h1
  refine qs8 hw hL hD (by rw [qsa (qxx hw hin)];exact hs) (by simp) hi fun a' W' hb' hs'=>h w0 A okA fuel _ a' W' hb' (qpk hL h1 h3) (fun d hd=>?_) (qny hlt (qod hin) ⟨s,by simp,rfl⟩) hs' (qnx hL.1 h1 h2 hlen)
  rcases List.mem_cons.1 hd with rfl | hd
  · rw [qls _ _ _ hlt,if_pos rfl]
  · exact qsg hlt hD d hd
def NdFact (P:Program) (ops:Array Oper) (σ:St) (o:Oper) (J:List Nat) (G:V→(Nat→AObj)→Nat→Prop):Prop :=
  (∀ σ',σ'.nt = σ.nt→(∀ t ∈ looks ops o,σ'.env t = σ.env t)→σ'.heap = σ.heap→σ'.next = σ.next→One P ops o σ' fun σ''=>∃ v H n,G v H n∧σ'' = (σ'.set H n).putO o.dst v)∧∀ v H n,G v H n→∀ j ∈ J,H j = σ.heap j
theorem bran_nd {D:List Nat} {fs:List FR} {i:Nat} {J:List Nat} {G:V→(Nat→AObj)→Nat→Prop} (ho:ops[i]? = some o) (hfd:∀ g ∈ fs,qn8 ops g.r.i = g.dst) (hpA:∀ g ∈ fs,ql3 D (masks ops.toList []) ops g.r ⟨i,true,J,true⟩ = true) (hnd:NdFact P ops (apps σ0 fs) o J G)
    (h:∀ v H n,G v H n→Cont P ops σ0 Q (i :: D) (fs ++ [⟨⟨i,true,J,true⟩,o.dst,v,H,n⟩])):Bran P ops σ0 Q D fs i:=by
  intro w0 A okA fuel L a W hb hL hD hin hi hs hlen
  obtain ⟨h1,h2,h3⟩:=qlu hL hi
  have hlt:i < L.size:=by rw [hL.1];exact h1
  have hDm:∀ {i:Nat},D.any (Nat.beq i) = true→L.getD i false = true:=fun {i} h=>by
    obtain ⟨d,hd,e⟩:=List.any_eq_true.1 h
    rw [show i = d by simpa using e];exact hD d hd
  have hdepT:∀ j,aftT (masks ops.toList []) i j = true→L.getD j false = true:=fun j hj=>qqq (L:=fun k=>L.getD k false = true) (fun i j h1 h2=>hL.2 i j h1 h2) (qpw hj) h3
  have hA:∀ g ∈ fs,L.getD g.r.i false = true ∨ (hasD (qn8 ops g.r.i) (qmg ops i) = false∧g.r.mem = false):=by
    intro g hg
    have hp:=hpA g hg
    cases h:aftT (masks ops.toList []) i g.r.i with
    | true=>exact .inl (hdepT _ h)
    | false =>
      simp only [ql3,h,Bool.false_or,Bool.and_eq_true,Bool.not_eq_true',Bool.or_eq_true] at hp
      rcases hp.2 with hd | hp
      · exact .inl (hDm hd)
      · exact .inr ⟨hp.1.1.1.1,hp.1.2⟩
  have hne:∀ g ∈ fs,g.r.i ≠ i:=by
    intro g hg
    have hp:=hpA g hg
    simp only [ql3,Bool.and_eq_true,Bool.not_eq_true'] at hp
    have:=hp.1.1
    intro h;rw [h] at this;simp at this
  have hlk:qmg ops i = looks ops o:=by unfold qmg;rw [ho]
  have henv:∀ t ∈ looks ops o,(atL σ0 fs L).env t = (apps σ0 fs).env t:=by
    intro t ht
    rw [← hlk] at ht
    exact qnp _ t fs σ0 σ0 rfl fun g hg hgd=>by
      rcases hA g hg with h | ⟨h,_⟩
      · exact h
      · rw [hfd g hg] at h
        exact absurd hgd (qp2 h ht)
  have hnt:(atL σ0 fs L).nt = (apps σ0 fs).nt:=by unfold atL;rw [qq1,qq1]
  have hheap:=qmw (fun f:FR=>L.getD f.r.i false) fs σ0 σ0 rfl rfl fun g hg hm=>by
    rcases hA g hg with h | ⟨_,h⟩
    · exact h
    · rw [h] at hm;cases hm
  have hone:=hnd.1 (atL σ0 fs L) hnt henv hheap.1 hheap.2
  have:=hone w0 A okA hb a W hs (lift w0 A okA Q) (wpAny P .any ops (lift w0 A okA Q) fuel (L.setIfInBounds i true))
    (fun σ' hb' a' W' ⟨v,H,n,hG,hσ'⟩ hs'=>by
      have hset:=qw6 (σ0:=σ0) (fs:=fs ++ [⟨⟨i,true,J,true⟩,o.dst,v,H,n⟩]) (a:=fs) (s:=⟨⟨i,true,J,true⟩,o.dst,v,H,n⟩) (b:=[]) (L:=L) rfl hlt h2 (fun f hf=>hne f (by simpa using hf)) (fun ⟨f,hf,_⟩=>nomatch hf) (fun f hf=>nomatch hf)
      rw [qsa (fs:=fs) (gs:=[⟨⟨i,true,J,true⟩,o.dst,v,H,n⟩]) (L:=L) (fun g hg=>by simp at hg;subst hg;exact h2)] at hset
      refine h v H n hG w0 A okA fuel _ a' W' hb' (qpk hL h1 h3) (fun d hd=>?_) (qny hlt (qod hin) ⟨⟨⟨i,true,J,true⟩,o.dst,v,H,n⟩,by simp,rfl⟩) ?_ (qnx hL.1 h1 h2 hlen)
      · rcases List.mem_cons.1 hd with rfl | hd
        · rw [qls _ _ _ hlt,if_pos rfl]
        · exact qsg hlt hD d hd
      · rw [hset]
        have e:app (atL σ0 fs L) ⟨⟨i,true,J,true⟩,o.dst,v,H,n⟩ = ((atL σ0 fs L).set H n).putO o.dst v:=rfl
        rw [e,← hσ'];exact hs')
  unfold wpOp
  simp only [ho]
  split
  · rename_i hw;rw [if_pos hw] at this;exact .inl this
  · rename_i hw;rw [if_neg hw] at this;exact this
theorem qxl {rs:List Rec} {fs:List FR} (hmap:fs.map (·.r) = rs.reverse) {i:Nat}:(rs.any fun r=>Nat.beq r.i i) = true ↔ ∃ s ∈ fs,s.r.i = i:=by
  constructor
  · intro h
    obtain ⟨r,hr,e⟩:=List.any_eq_true.1 h
    have hr':r ∈ fs.map (·.r):=by rw [hmap];simpa using hr
    obtain ⟨s,hs,rfl⟩:=List.mem_map.1 hr'
    exact ⟨s,hs,by simpa using e⟩
  · rintro ⟨s,hs,rfl⟩
    have:s.r ∈ rs:=by
      have h:s.r ∈ fs.map (·.r):=List.mem_map.2 ⟨s,hs,rfl⟩
      rw [hmap] at h
      simpa using h
    exact List.any_eq_true.2 ⟨_,this,by simp⟩
theorem qwr {D:List Nat} {rs:List Rec} {fs:List FR} (hmap:fs.map (·.r) = rs.reverse) (hfact:∀ a f b,fs = a ++ f :: b→Fact P ops (apps σ0 a) f) (hok:qrw D ops rs = true) (hQ:Q .normal (apps σ0 fs)):Cont P ops σ0 Q D fs:=by
  simp only [qrw,Bool.and_eq_true] at hok
  refine cont_leaf (qlv hmap hfact hok.1) (fun i hi=>(qxl hmap).1 ?_) hQ
  exact List.all_eq_true.1 hok.2 i (by simpa using hi)
def qpx (ops:Array Oper) (i:Nat) (p:Nat→Bool):Bool:=match ops[i]? with
  | some o=>o.after.all fun e=>!Region.binds .any e || p e.on
  | none=>true
theorem qpy {i:Nat} {p:Nat→Bool} (h:qpx ops i p = true) {j:Nat} (hj:aft ops i j = true):p j = true:=by
  unfold aft at hj
  unfold qpx at h
  cases ho:ops[i]? with
  | none=>rw [ho] at hj;cases hj
  | some o =>
    rw [ho] at hj h
    obtain ⟨x,hx,e⟩:=Array.any_eq_true'.1 hj
    simp only [Array.all_eq_true_iff_forall_mem] at h
    have:=h x hx
    simp only [Bool.and_eq_true] at e
    rw [e.1] at this
    rw [show j = x.on from (by simpa using e.2:x.on = j).symm]
    simpa using this
theorem afters_not {i:Nat} {p:Nat→Bool} (h:qpx ops i p = false):∃ j,aft ops i j = true∧p j = false:=by
  unfold qpx at h
  cases ho:ops[i]? with
  | none=>rw [ho] at h;cases h
  | some o =>
    rw [ho] at h
    simp only at h
    obtain ⟨k,hk,e⟩:=Array.all_eq_false.1 h
    refine ⟨o.after[k].on,(qoe ho).2 ⟨o.after[k],Array.getElem_mem hk,?_,rfl⟩,?_⟩
    · cases hb:Region.binds .any o.after[k] with
      | true=>rfl
      | false=>simp [hb] at e
    · cases hp:p o.after[k].on with
      | false=>rfl
      | true=>simp [hp] at e
def qvi (D:List Nat) (ops:Array Oper) (rs:List Rec) (ms:List Nat):Bool :=
  qts D ops rs && (rs.all fun r=>qpx ops r.i fun j=>rs.any fun q=>Nat.beq q.i j) && ((List.range ops.size).all fun i=>(rs.any fun r=>Nat.beq r.i i) || ms.any (Nat.beq i) || !qpx ops i fun j=>rs.any fun q=>Nat.beq q.i j)
    && ms.any fun m=>Nat.blt m ops.size && !(rs.any fun r=>Nat.beq r.i m) && qpx ops m fun j=>rs.any fun q=>Nat.beq q.i j
theorem fork_of {D:List Nat} {rs:List Rec} {fs:List FR} {ms:List Nat} (hmap:fs.map (·.r) = rs.reverse) (hfact:∀ a f b,fs = a ++ f :: b→Fact P ops (apps σ0 a) f) (hok:qvi D ops rs ms = true) (hB:∀ m ∈ ms,Bran P ops σ0 Q D fs m):Cont P ops σ0 Q D fs:=by
  simp only [qvi,Bool.and_eq_true] at hok
  obtain ⟨⟨⟨h1,h2⟩,h3⟩,h4⟩:=hok
  have ex:=fun {i:Nat}=>qxl (i:=i) hmap
  refine cont_fork (qlv hmap hfact h1) (fun s hs j hj=>?_) (fun i hi=>?_) ?_ hB
  · have:s.r ∈ rs:=by
      have h:s.r ∈ fs.map (·.r):=List.mem_map.2 ⟨s,hs,rfl⟩
      rw [hmap] at h
      simpa using h
    exact ex.1 (qpy (List.all_eq_true.1 h2 _ this) hj)
  · have:=List.all_eq_true.1 h3 i (by simpa using hi)
    simp only [Bool.or_eq_true,Bool.not_eq_true'] at this
    rcases this with (h | h) | h
    · exact .inl (ex.1 h)
    · obtain ⟨m,hm,e⟩:=List.any_eq_true.1 h
      rw [show i = m by simpa using e];exact .inr (.inl hm)
    · obtain ⟨j,hj1,hj2⟩:=afters_not h
      refine .inr (.inr ⟨j,hj1,fun hh=>?_⟩)
      rw [ex.2 hh] at hj2;cases hj2
  · obtain ⟨m,_,h⟩:=List.any_eq_true.1 h4
    simp only [Bool.and_eq_true,Bool.not_eq_true'] at h
    refine ⟨m,by simpa [Nat.blt_eq] using h.1.1,fun hh=>?_,fun j hj=>ex.1 (qpy h.2 hj)⟩
    rw [ex.2 hh] at h;exact absurd h.1.2 (by simp)
theorem qwa {id:Nat} (hm:P.follows .mixedOrders = true) (h:Cont P ops σ Q [] []):AW P (.region id ops true) σ Q:=by
  intro w0 A okA hb a W hs
  have hf:∀ i,(Array.replicate ops.size false).getD i false = false:=fun i=>by
    rw [Array.getD_eq_getD_getElem?,Array.getElem?_replicate]
    split <;> rfl
  refine wp_region_any hm (h w0 A okA _ _ _ _ hb ⟨by simp,fun i j hi=>?_⟩ (fun d hd=>nomatch hd) (fun i hi=>?_) ?_ ?_)
  · rw [hf] at hi;cases hi
  · rw [hf] at hi;cases hi
  · exact hs.same (qbd.drew W)
  · refine Nat.le_trans (List.length_filter_le _ _) ?_
    simp
theorem aw_any {rs:List Rec} {σf:St} {id:Nat} (hm:P.follows .mixedOrders = true) (h:Hist P ops [] σ rs σf) (hok:qyb ops rs = true) (hQ:Q .normal σf):AW P (.region id ops true) σ Q:=by
  obtain ⟨fs,h1,h2,h3⟩:=h
  rw [List.nil_append] at h1 h2 h3
  subst h2
  have hw:=qwr h1 h3 hok hQ
  simp only [qrw,Bool.and_eq_true] at hok
  exact qwa hm (qq7 (gs:=fs) (qlv h1 h3 hok.1) hw)
end
end Go.Proofs.YtiegopnofbgoaaaGreat.AWN

namespace Go.Proofs.YtiegopnofbgoaaaGreat.AWN
open Go
def look:List (Nat × V)→Nat→V
  | [],_=>.junk
  | (k,v) :: r,t=>bif Nat.beq k t then v else look r t
def St.of (l:List (Nat × V)) (objs:List AObj) (nt base:Nat):St:={ env:=look l,heap:=qb3 objs,next:=objs.length,nt:=nt,base:=base }
def qwk (σ:St) (ρ:Nat→Option Nat) (sn:Bool):List (Nat × V)→Prop
  | []=>True
  | (t,v) :: r=>exV ρ σ.heap sn (σ.env t) = some v∧exVP ρ σ.heap (σ.env t)∧qwk σ ρ sn r
def qra (ks:List Nat):Nat→Bool
  | 0=>true
  | n + 1=>(match ks[n]? with
    | some k=>Nat.beq k n
    | none=>false) && qra ks n
theorem qq3 {ks:List Nat}:∀ {n:Nat},qra ks n = true→∀ j,j < n→ks[j]? = some j
  | 0,_,j,h=>by omega
  | n + 1,h,j,hj=>by
    simp only [qra,Bool.and_eq_true] at h
    by_cases hjn:j = n
    · subst hjn
      have h1:=h.1
      split at h1
      · rename_i k hk;rw [hk];simpa using h1
      · cases h1
    · exact qq3 h.2 j (by omega)
section
variable {P:Program} {τ:Tab} {σ:St} {ops:Array Oper} {o:Oper} {Q:Exit→St→Prop}
theorem qve {w0:World} {A:Args} {okA:Nat→Prop} {hb hb2:Handle} {H2:Nat→AObj} {ok':Nat→Prop} {W:World} {a:Act} {ρ:Nat→Option Nat} {sn:Bool} (hs:Sim w0 A okA hb σ a W) (N:qr4 W ρ hb hb2 σ.heap H2 (okF w0 okA hb σ.heap W) ok' sn) :
    ∀ {l:List (Nat × V)},qwk σ ρ sn l→∀ t,Rel W hb2 H2 ok' (look l t) (a.tmps.getD t undef)
  | [],_,t=>.junk _
  | (k,v) :: r,h,t=>by
    obtain ⟨h1,h2,h3⟩:=h
    unfold look
    cases hk:Nat.beq k t with
    | true =>
      have:=Nat.eq_of_beq_eq_true hk
      subst this
      exact qoj N (hs.env k) h1 h2
    | false=>exact qve hs N h3 t
theorem weak_of (ks:List Nat) {objs:List AObj} {l:List (Nat × V)} (hbase:qra ks σ.base = true) (hnd:ks.Nodup) (hobjs:mapO (fun j=>exO (qdn ks) σ.heap true (σ.heap j)) ks = some objs)
    (hpo:∀ j ∈ ks,exOP (qdn ks) σ.heap (σ.heap j)) (henv:qwk σ (qdn ks) true l):Weak σ (St.of l objs σ.nt σ.base):=by
  intro w0 A okA hb a W hs
  obtain ⟨m1,m2⟩:=qm4 hobjs
  have hml:ks.length = objs.length:=by rw [m1]
  let hb2:Handle:=fun i=>match ks[i]? with
    | some j=>hb j
    | none=>none
  have hbj:∀ i j,ks[i]? = some j→hb2 i = hb j:=by intro i j hij;show (match ks[i]? with | some j=>hb j | none=>none) = _;rw [hij]
  have hnone:∀ i,objs.length ≤ i→qb3 objs i = .none:=by
    intro i hi
    unfold qb3
    rw [List.getD_eq_getElem?_getD,List.getElem?_eq_none (by omega)];rfl
  have hin:∀ i,qb3 objs i ≠ .none→∃ j,ks[i]? = some j:=by
    intro i hi
    rcases Nat.lt_or_ge i ks.length with hl | hl
    · exact ⟨ks[i],List.getElem?_eq_getElem hl⟩
    · exact absurd (hnone i (by omega)) hi
  have hobj:∀ i j,ks[i]? = some j→∃ y,exO (qdn ks) σ.heap true (σ.heap j) = some y∧qb3 objs i = y:=by
    intro i j hij
    obtain ⟨y,e1,e2⟩:=m2 i j hij
    exact ⟨y,e1,by unfold qb3;exact getD_some e2 _⟩
  have hlv:∀ j ∈ ks,σ.heap j ≠ .none:=by
    intro j hj e
    obtain ⟨i,hi,ei⟩:=List.getElem_of_mem hj
    obtain ⟨y,e1,_⟩:=m2 i ks[i] (List.getElem?_eq_getElem hi)
    rw [ei,e] at e1;simp [exO] at e1
  have hltb:∀ j,A.H0 j ≠ .none→j < σ.base:=by
    intro j hj
    rcases Nat.lt_or_ge j σ.base with h | h
    · exact h
    · exact absurd (hs.base j h) hj
  have hm0:∀ j,A.H0 j ≠ .none→ks[j]? = some j:=fun j hj=>qq3 hbase j (hltb j hj)
  have hloc:∀ j b,σ.heap j ≠ .none→j ∉ ks→hb j = some b→w0.heap.size ≤ b:=by
    intro j b hj hjn hjb
    rcases (hs.heap.hnd j b hj hjb).2 with ⟨h1,_⟩ | h1
    · exact absurd (List.mem_of_getElem? (hm0 j h1)) hjn
    · exact h1
  have N:qr4 W (qdn ks) hb hb2 σ.heap (qb3 objs) (okF w0 okA hb σ.heap W) (okF w0 okA hb2 (qb3 objs) W) true:=by
    refine ⟨fun b hb'=>⟨hb'.1,hb'.2.1,fun i hi e=>?_⟩,fun j i cs hj hcs=>?_,fun j i sz es hj hes=>?_,fun j i kk es hj hes=>?_,fun _ j b hj hne hbjj=>?_,hs.heap.obj⟩
    · obtain ⟨j,hij⟩:=hin i hi
      rw [hbj i j hij] at e
      exact hb'.2.2 j (hlv j (List.mem_of_getElem? hij)) e
    · have hij:=qgp hj
      obtain ⟨y,e1,e2⟩:=hobj i j hij
      refine ⟨hbj i j hij,?_⟩
      rw [hcs] at e1
      simp only [exO] at e1
      split at e1
      · simp only [Option.some.injEq] at e1;subst e1;exact ⟨_,e2⟩
      · cases e1
    · have hij:=qgp hj
      obtain ⟨y,e1,e2⟩:=hobj i j hij
      refine ⟨hbj i j hij,?_⟩
      rw [hes] at e1
      simp only [exO,Option.some.injEq] at e1
      rw [e2,← e1]
    · have hij:=qgp hj
      obtain ⟨y,e1,e2⟩:=hobj i j hij
      refine ⟨hbj i j hij,?_⟩
      rw [hes] at e1
      simp only [exO,Option.some.injEq] at e1
      rw [e2,← e1]
    · have hnmj:=ql5 hj
      refine ⟨(hs.heap.hnd j b hne hbjj).1,.inr (hloc j b hne hnmj hbjj),fun i hi e=>?_⟩
      obtain ⟨j',hij⟩:=hin i hi
      rw [hbj i j' hij] at e
      have:=hs.heap.inj j j' b hne (hlv j' (List.mem_of_getElem? hij)) hbjj e
      subst this
      exact hnmj (List.mem_of_getElem? hij)
  have hix:∀ i j,ks[i]? = some j→qdn ks j = some i:=by
    intro i j hij
    cases hx:qdn ks j with
    | none=>exact absurd (List.mem_of_getElem? hij) (ql5 hx)
    | some i'=>rw [qml hnd (qgp hx) hij]
  refine ⟨hb2,hs.defers,hs.size,qve hs N henv,?_,hs.base⟩
  refine { obj:=fun i=>?_,inj:=fun i k b hi hk hbi hbk=>?_,hnd:=fun i b hi hbi=>?_,fresh:=fun i hi=>hnone i hi,ext:=hs.heap.ext,keep:=⟨fun j cs hj=>?_,fun j sz es hj=>?_,fun j kk es hj=>?_⟩,lay:=hs.heap.lay }
  · by_cases hi:qb3 objs i = .none
    · show qh5 W hb2 (qb3 objs) _ i
      unfold qh5;rw [hi];trivial
    · obtain ⟨j,hij⟩:=hin i hi
      obtain ⟨y,e1,e2⟩:=hobj i j hij
      exact qqb N (hix i j hij) e1 (hpo j (List.mem_of_getElem? hij)) e2 (hbj i j hij)
  · obtain ⟨j,hij⟩:=hin i hi
    obtain ⟨j',hkj⟩:=hin k hk
    rw [hbj i j hij] at hbi
    rw [hbj k j' hkj] at hbk
    have:=hs.heap.inj j j' b (hlv j (List.mem_of_getElem? hij)) (hlv j' (List.mem_of_getElem? hkj)) hbi hbk
    subst this
    exact qml hnd hij hkj
  · obtain ⟨j,hij⟩:=hin i hi
    rw [hbj i j hij] at hbi
    obtain ⟨h1,h2⟩:=hs.heap.hnd j b (hlv j (List.mem_of_getElem? hij)) hbi
    refine ⟨h1,h2.imp (fun ⟨h3,h4⟩=>?_) id⟩
    have:=qml hnd hij (hm0 j h3)
    subst this
    exact ⟨h3,h4⟩
  · have hij:=hm0 j (by rw [hj];simp)
    obtain ⟨cs',e1,e2⟩:=hs.heap.keep.box j cs hj
    obtain ⟨y,e3,e4⟩:=hobj j j hij
    rw [e1] at e3
    simp only [exO] at e3
    split at e3
    · simp only [Option.some.injEq] at e3;subst e3
      exact ⟨_,e4,(hbj j j hij).trans e2⟩
    · cases e3
  · have hij:=hm0 j (by rw [hj];simp)
    obtain ⟨es',e1,e0,e2⟩:=hs.heap.keep.row j sz es hj
    obtain ⟨y,e3,e4⟩:=hobj j j hij
    rw [e1] at e3
    simp only [exO,Option.some.injEq] at e3;subst e3
    exact ⟨_,e4,e0,fun hl=>⟨(hbj j j hij).trans (e2 hl).1,(e2 hl).2⟩⟩
  · have hij:=hm0 j (by rw [hj];simp)
    obtain ⟨es',e1,e2⟩:=hs.heap.keep.map j kk es hj
    obtain ⟨y,e3,e4⟩:=hobj j j hij
    rw [e1] at e3
    simp only [exO,Option.some.injEq] at e3;subst e3
    exact ⟨_,e4,(hbj j j hij).trans e2⟩
/-! ### Walking a region that draws its order -/
def Any (P:Program) (ops:Array Oper) (id:List FR) (σ0:St) (Q:Prop) (rs:List Rec) (σ:St):Prop:=Hist P ops id σ0 rs σ→Q
variable {id:List FR} {σ0:St} {rs:List Rec} {G:Prop} {num:Nat} {DD:List Nat}
theorem qd4 (h:Any P ops [] σ (AW P (.region num ops true) σ Q) [] σ):AW P (.region num ops true) σ Q:=h .nil
theorem qcs (hm:P.follows .mixedOrders = true) (hok:qyb ops rs = true) (hQ:Q .normal σ):Any P ops [] σ0 (AW P (.region num ops true) σ0 Q) rs σ:=fun h=>aw_any hm h hok hQ
theorem qi9 (hm:P.follows .mixedOrders = true) (h:Any P ops [] σ (Cont P ops σ Q [] []) [] σ):AW P (.region num ops true) σ Q:=qwa hm (h .nil)
theorem qhc (hok:qrw DD ops rs = true) (hQ:Q .normal σ):Any P ops id σ0 (Cont P ops σ0 Q DD id) rs σ:=fun ⟨gs,e1,e2,e3⟩=>by
  subst e2
  have hw:=qwr e1 e3 hok hQ
  simp only [qrw,Bool.and_eq_true] at hok
  exact qq7 (qlv e1 e3 hok.1) hw
def AllB:List Nat→(Nat→Prop)→Prop
  | [],_=>True
  | m :: l,p=>p m∧AllB l p
theorem qt4 {p:Nat→Prop}:∀ {l:List Nat},AllB l p→∀ m ∈ l,p m
  | [],_,m,h=>nomatch h
  | a :: l,⟨h1,h2⟩,m,h=>by
    rcases List.mem_cons.1 h with rfl | h
    · exact h1
    · exact qt4 h2 m h
theorem qg1 (ms:List Nat) (hok:qvi DD ops rs ms = true) (hB:∀ fs:List FR,fs.map (·.r) = rs.reverse→AllB ms fun m=>Any P ops fs σ0 (Bran P ops σ0 Q DD fs m) rs σ):Any P ops id σ0 (Cont P ops σ0 Q DD id) rs σ:=fun ⟨gs,e1,e2,e3⟩=>by
  have hc:Cont P ops σ0 Q DD (id ++ gs):=fork_of e1 e3 hok fun m hm=>qt4 (hB _ e1) m hm ⟨[],by rw [List.append_nil];exact e1,by rw [List.append_nil];exact e2,by rw [List.append_nil];exact e3⟩
  simp only [qvi,Bool.and_eq_true] at hok
  exact qq7 (qlv e1 e3 hok.1.1.1) hc
theorem qpz {r:Rec} {fs:List FR} (hfs:fs.map (·.r) = rs.reverse) (hok:qts DD ops (r :: rs) = true) (h:∀ fs,Any P ops fs σ0 (Cont P ops σ0 Q (r.i :: DD) fs) (r :: rs) σ):Any P ops fs σ0 (Bran P ops σ0 Q DD fs r.i) (r :: rs) σ:=fun ⟨gs,e1,e2,e3⟩=>by
  have hl:gs.map (·.r) = [r]:=by
    rw [List.map_append,hfs,List.reverse_cons] at e1
    exact List.append_cancel_left e1
  match gs,hl with
  | [s],hl =>
    have hs:s.r = r:=by simpa using hl
    subst hs
    exact bran_first (qlv e1 e3 hok) (h _ ⟨[],by rw [List.append_nil];exact e1,by rw [List.append_nil];exact e2,by rw [List.append_nil];exact e3⟩)
theorem qgo {σ':St} (h:∀ t ∈ looks ops o,σ'.env t = σ.env t):qcq ops σ' o = qcq ops σ o:=by
  unfold qcq
  cases hg:o.guard with
  | none=>rfl
  | some g =>
    obtain ⟨j,want⟩:=g
    simp only
    have:qs7 ops σ' j = qs7 ops σ j:=by
      unfold qs7
      cases ho:ops[j]? with
      | none=>rfl
      | some o' =>
        simp only
        cases hd:o'.dst with
        | none=>rfl
        | some d =>
          simp only
          rw [h d (by simp [looks,hg,ho,hd])]
    rw [this]
theorem qk5 {σ':St} (h:σ'.nt = σ.nt) {d:Option Nat} (hd:qhy σ d = true):qhy σ' d = true:=by
  cases d with
  | none=>rfl
  | some d=>simpa [qhy,h] using hd
theorem qky {σ':St} (h:∀ t ∈ looks ops o,σ'.env t = σ.env t):∀ t ∈ opT o.op,σ'.env t = σ.env t:=fun t ht=>h t (List.mem_append_left _ ht)
theorem quv {v:V} {J:List Nat} (i:Nat) (ho:ops[i]? = some o) (hf:qxg P ops σ o v J) (hK:Any P ops id σ0 G (⟨i,false,J,false⟩ :: rs) (σ.putO o.dst v)):Any P ops id σ0 G rs σ:=fun h =>
  hK (.cons ⟨⟨i,false,J,false⟩,o.dst,v,σ.heap,0⟩ h ⟨o,ho,rfl,.inl ⟨rfl,hf⟩⟩)
theorem qq0 {v:V} {J:List Nat} {H:Nat→AObj} {n:Nat} (i:Nat) (ho:ops[i]? = some o) (hf:qu6 P ops σ o v H n) (hJ:∀ j ∈ J,H j = σ.heap j) (hK:Any P ops id σ0 G (⟨i,true,J,false⟩ :: rs) ((σ.set H n).putO o.dst v)):Any P ops id σ0 G rs σ:=fun h =>
  hK (.cons ⟨⟨i,true,J,false⟩,o.dst,v,H,n⟩ h ⟨o,ho,rfl,.inr ⟨rfl,.inl hf,hJ⟩⟩)
def roIn (σ:St) (op:Op) (J:List Nat):Bool:=match qss σ op with
  | some K=>K.all fun j=>J.any (Nat.beq j)
  | none=>false
theorem roIn_spec {op:Op} {J:List Nat} (h:roIn σ op J = true):∃ K,qss σ op = some K∧∀ j ∈ K,j ∈ J:=by
  unfold roIn at h
  split at h
  · rename_i K hK
    refine ⟨K,hK,fun j hj=>?_⟩
    obtain ⟨k,hk,e⟩:=List.any_eq_true.1 (List.all_eq_true.1 h j hj)
    rw [show j = k by simpa using e];exact hk
  · cases h
theorem qr2 {σ':St} {op:Op} {J:List Nat} (hr:roIn σ op J = true) (h:∀ t ∈ opT op,σ'.env t = σ.env t) (hh:∀ j ∈ J,σ'.heap j = σ.heap j):qbp τ σ' op = qbp τ σ op:=by
  obtain ⟨K,h1,h2⟩:=roIn_spec hr
  exact step_ro h1 h fun j hj=>hh j (h2 j hj)
theorem qaz (i:Nat) (ho:ops[i]? = some o) (hw:qcq ops σ o = some false) (hd:qhy σ o.dst = true) (hK:Any P ops id σ0 G (⟨i,false,[],false⟩ :: rs) (σ.putO o.dst .und)):Any P ops id σ0 G rs σ :=
  quv i ho (fun σ' hn he _=>one_skip (by rw [qgo he,hw]) (qk5 hn hd)) hK
theorem qab (hτ:qfl P τ) {v:V} (J:List Nat) (i:Nat) (ho:ops[i]? = some o) (hw:qcq ops σ o = some true) (hd:qhy σ o.dst = true) (hr:roIn σ o.op J = true) (h:qbp τ σ o.op = .val v) (hK:Any P ops id σ0 G (⟨i,false,J,false⟩ :: rs) (σ.putO o.dst v)):Any P ops id σ0 G rs σ :=
  quv i ho (fun σ' hn he hh=>one_val hτ (by rw [qgo he,hw]) (qk5 hn hd) (by rw [qr2 hr (qky he) hh,h])) hK
theorem qfj (hτ:qfl P τ) {v:V} {p:Prop} (J:List Nat) (i:Nat) (ho:ops[i]? = some o) (hw:qcq ops σ o = some true) (hd:qhy σ o.dst = true) (hr:roIn σ o.op J = true) (h:qbp τ σ o.op = .need p v) (hp:p) (hK:Any P ops id σ0 G (⟨i,false,J,false⟩ :: rs) (σ.putO o.dst v)):Any P ops id σ0 G rs σ :=
  quv i ho (fun σ' hn he hh=>one_need hτ (by rw [qgo he,hw]) (qk5 hn hd) (by rw [qr2 hr (qky he) hh,h]) hp) hK
theorem qka (hτ:qfl P τ) {v:V} {p:Prop} {es:List (List D)} {ix:Nat} {k:List D→Option V} {e:List D} (J:List Nat) (i:Nat) (ho:ops[i]? = some o) (hw:qcq ops σ o = some true) (hd:qhy σ o.dst = true) (hr:roIn σ o.op J = true) (h:qbp τ σ o.op = .elem p es ix k) (hp:p) (he:es[ix]? = some e) (hv:k e = some v)
    (hK:Any P ops id σ0 G (⟨i,false,J,false⟩ :: rs) (σ.putO o.dst v)):Any P ops id σ0 G rs σ :=
  quv i ho (fun σ' hn hee hh=>one_elem hτ (by rw [qgo hee,hw]) (qk5 hn hd) (by rw [qr2 hr (qky hee) hh,h]) hp he hv) hK
theorem any_valH (hτ:qfl P τ) (J:List Nat) {v:V} {H:Nat→AObj} {n:Nat} (i:Nat) (ho:ops[i]? = some o) (hw:qcq ops σ o = some true) (hd:qhy σ o.dst = true) (h:qbp τ σ o.op = .valH v H n) (hJ:∀ j ∈ J,H j = σ.heap j) (hK:Any P ops id σ0 G (⟨i,true,J,false⟩ :: rs) ((σ.set H n).putO o.dst v)):Any P ops id σ0 G rs σ :=
  qq0 i ho (fun σ' hn he hh hx=>one_valH hτ (by rw [qgo he,hw]) (qk5 hn hd) (by rw [qnv (qky he) hh hx,h])) hJ hK
theorem any_needH (hτ:qfl P τ) (J:List Nat) {v:V} {p:Prop} {H:Nat→AObj} {n:Nat} (i:Nat) (ho:ops[i]? = some o) (hw:qcq ops σ o = some true) (hd:qhy σ o.dst = true) (h:qbp τ σ o.op = .needH p v H n) (hp:p) (hJ:∀ j ∈ J,H j = σ.heap j) (hK:Any P ops id σ0 G (⟨i,true,J,false⟩ :: rs) ((σ.set H n).putO o.dst v)):Any P ops id σ0 G rs σ :=
  qq0 i ho (fun σ' hn he hh hx=>one_needH hτ (by rw [qgo he,hw]) (qk5 hn hd) (by rw [qnv (qky he) hh hx,h]) hp) hJ hK
theorem any_elemH (hτ:qfl P τ) (J:List Nat) {p:Prop} {es:List (List D)} {ix:Nat} {k:List D→Option (Nat→AObj)} {e:List D} {H:Nat→AObj} (i:Nat) (ho:ops[i]? = some o) (hw:qcq ops σ o = some true) (hd:qhy σ o.dst = true) (h:qbp τ σ o.op = .elemH p es ix k) (hp:p) (he:es[ix]? = some e) (hv:k e = some H) (hJ:∀ j ∈ J,H j = σ.heap j)
    (hK:Any P ops id σ0 G (⟨i,true,J,false⟩ :: rs) ((σ.set H σ.next).putO o.dst .und)):Any P ops id σ0 G rs σ :=
  qq0 i ho (fun σ' hn hee hh hx=>by
    have:=one_elemH (P:=P) (ops:=ops) hτ (by rw [qgo hee,hw]) (qk5 hn hd) (by rw [qnv (qky hee) hh hx,h]) hp he hv
    rw [hx] at this;exact this) hJ hK
theorem any_call (hτ:qfl P τ) (fr:Bool) (js J:List Nat) {k:FuncId} {args args':List V} {objs:List AObj} {r0:V} {o0 n0:List AObj} (i:Nat) (ho:ops[i]? = some o) (hw:qcq ops σ o = some true) (hd:qhy σ o.dst = true) (h:qbp τ σ o.op = .call k args) (hfn:qn3 P k)
    (hargs:mapO (exV (qdn js) σ.heap fr) args = some args') (hobjs:mapO (fun j=>exO (qdn js) σ.heap fr (σ.heap j)) js = some objs) (hnd:js.Nodup) (hpa:∀ v ∈ args,exVP (qdn js) σ.heap v) (hpo:∀ j ∈ js,exOP (qdn js) σ.heap (σ.heap j))
    (hc:qax P fr k args' objs fun r o n=>r = r0∧o = o0∧n = n0) (hJ:∀ j ∈ J,(σ.after js o0 n0).heap j = σ.heap j)
    (hK:Any P ops id σ0 G (⟨i,true,J,false⟩ :: rs) ((σ.set (σ.after js o0 n0).heap (σ.after js o0 n0).next).putO o.dst (renV (σ.names js n0.length) r0))):Any P ops id σ0 G rs σ :=
  qq0 i ho (fun σ' hn he hh hx w0 A okA hb a W hs Qc Kc hKc=>by
    refine qvj (P:=P) (ops:=ops) (σ:=σ') hτ fr js (by rw [qgo he,hw]) (qk5 hn hd) (by rw [qnv (qky he) hh hx,h]) hfn (by rw [hh];exact hargs) (by rw [hh];exact hobjs) hnd (by rw [hh];exact hpa) (by rw [hh];exact hpo) hc w0 A okA hb a W hs Qc Kc ?_
    rintro σ'' hb' a' W' ⟨r,o',n',⟨rfl,rfl,rfl⟩,_,rfl⟩ hs'
    refine hKc _ hb' a' W' ?_ hs'
    have:σ'.names js n'.length = σ.names js n'.length:=by unfold St.names;rw [hx]
    unfold St.after St.set
    rw [this,hh,hx]) hJ hK
theorem any_callN (hτ:qfl P τ) (fr:Bool) (js J:List Nat) {k:FuncId} {args args':List V} {objs:List AObj} {R:V→List AObj→List AObj→Prop} {fs:List FR} {i:Nat} (hfs:fs.map (·.r) = rs.reverse) (hok:(rs.all fun q=>ql3 DD (masks ops.toList []) ops q ⟨i,true,J,true⟩) = true)
    (ho:ops[i]? = some o) (hw:qcq ops σ o = some true) (hd:qhy σ o.dst = true) (h:qbp τ σ o.op = .call k args) (hfn:qn3 P k)
    (hargs:mapO (exV (qdn js) σ.heap fr) args = some args') (hobjs:mapO (fun j=>exO (qdn js) σ.heap fr (σ.heap j)) js = some objs) (hnd:js.Nodup) (hpa:∀ v ∈ args,exVP (qdn js) σ.heap v) (hpo:∀ j ∈ js,exOP (qdn js) σ.heap (σ.heap j))
    (hc:qax P fr k args' objs R) (hJ:∀ r o' n',R r o' n'→o'.length = js.length→∀ j ∈ J,(σ.after js o' n').heap j = σ.heap j)
    (hK:∀ r o' n',R r o' n'→o'.length = js.length→∀ fs',Any P ops fs' σ0 (Cont P ops σ0 Q (i :: DD) fs') (⟨i,true,J,true⟩ :: rs) ((σ.set (σ.after js o' n').heap (σ.after js o' n').next).putO o.dst (renV (σ.names js n'.length) r))) :
    Any P ops fs σ0 (Bran P ops σ0 Q DD fs i) rs σ:=fun ⟨gs,e1,e2,e3⟩=>by
  have hg:gs = []:=by
    rw [List.map_append,hfs] at e1
    have:gs.map (·.r) = []:=by simpa using e1
    exact List.map_eq_nil_iff.1 this
  subst hg
  rw [List.append_nil] at e1 e2 e3
  subst e2
  have opS:∀ s ∈ fs,qn8 ops s.r.i = s.dst:=fun s hs=>by
    obtain ⟨x,y,e⟩:=List.append_of_mem hs
    obtain ⟨o,h1,h2,_⟩:=e3 x s y e
    unfold qn8;rw [h1,h2]
  refine bran_nd (J:=J) (G:=fun v H n=>∃ r o' n',R r o' n'∧o'.length = js.length∧v = renV (((apps σ0 fs)).names js n'.length) r∧H = ((apps σ0 fs).after js o' n').heap∧n = ((apps σ0 fs).after js o' n').next) ho opS (fun g hg=>List.all_eq_true.1 hok _ ?_) ⟨fun σ' hn he hh hx w0 A okA hb a W hs Qc Kc hKc=>?_,?_⟩ ?_
  · have h:g.r ∈ fs.map (·.r):=List.mem_map.2 ⟨g,hg,rfl⟩
    rw [e1] at h
    simpa using h
  · refine qvj (P:=P) (ops:=ops) (σ:=σ') hτ fr js (by rw [qgo he,hw]) (qk5 hn hd) (by rw [qnv (qky he) hh hx,h]) hfn (by rw [hh];exact hargs) (by rw [hh];exact hobjs) hnd (by rw [hh];exact hpa) (by rw [hh];exact hpo) hc w0 A okA hb a W hs Qc Kc ?_
    rintro σ'' hb' a' W' ⟨r,o',n',hR,hl,rfl⟩ hs'
    refine hKc _ hb' a' W' ⟨_,_,_,⟨r,o',n',hR,hl,rfl,rfl,rfl⟩,?_⟩ hs'
    have:σ'.names js n'.length = (apps σ0 fs).names js n'.length:=by unfold St.names;rw [hx]
    unfold St.after St.set
    rw [this,hh,hx]
  · rintro v H n ⟨r,o',n',hR,hl,rfl,rfl,rfl⟩
    exact hJ r o' n' hR hl
  · rintro v H n ⟨r,o',n',hR,hl,rfl,rfl,rfl⟩
    refine hK r o' n' hR hl _ ⟨[],?_,?_,?_⟩
    · rw [List.append_nil,List.map_append,e1,List.reverse_cons];rfl
    · rw [List.append_nil]
      show _ = List.foldl app σ0 (fs ++ [_])
      rw [List.foldl_append];rfl
    · rw [List.append_nil]
      intro a f b e
      rcases List.eq_nil_or_concat b with rfl | ⟨b',x,rfl⟩
      · obtain ⟨e4,e5⟩:=List.append_inj' e rfl
        cases e5
        subst e4
        exact ⟨o,ho,rfl,.inr ⟨rfl,.inr rfl,hJ r o' n' hR hl⟩⟩
      · rw [show a ++ f :: b'.concat x = (a ++ f :: b') ++ [x] by simp] at e
        obtain ⟨e4,_⟩:=List.append_inj' e rfl
        exact e3 a f b' e4
end
end Go.Proofs.YtiegopnofbgoaaaGreat.AWN

namespace Go.Proofs.YtiegopnofbgoaaaGreat.AWN
open Go
def qw5 (ρ:Nat→Option Nat) (H:Nat→AObj):List V→Prop
  | []=>True
  | v :: r=>exVP ρ H v∧qw5 ρ H r
def qtr (ρ:Nat→Option Nat) (H:Nat→AObj):List Nat→Prop
  | []=>True
  | j :: r=>exOP ρ H (H j)∧qtr ρ H r
theorem qof {ρ:Nat→Option Nat} {H:Nat→AObj}:∀ {l:List V},qw5 ρ H l→∀ v ∈ l,exVP ρ H v
  | [],_,_,h=>nomatch h
  | x :: r,⟨h1,h2⟩,v,h=>by
    rcases List.mem_cons.1 h with rfl | h
    · exact h1
    · exact qof h2 v h
theorem qmm {ρ:Nat→Option Nat} {H:Nat→AObj}:∀ {l:List Nat},qtr ρ H l→∀ j ∈ l,exOP ρ H (H j)
  | [],_,_,h=>nomatch h
  | x :: r,⟨h1,h2⟩,v,h=>by
    rcases List.mem_cons.1 h with rfl | h
    · exact h1
    · exact qmm h2 v h
def qpb (H H':Nat→AObj):List Nat→Prop
  | []=>True
  | j :: r=>H' j = H j∧qpb H H' r
theorem ql7 {H H':Nat→AObj}:∀ {l:List Nat},qpb H H' l→∀ j ∈ l,H' j = H j
  | [],_,_,h=>nomatch h
  | x :: r,⟨h1,h2⟩,v,h=>by
    rcases List.mem_cons.1 h with rfl | h
    · exact h1
    · exact ql7 h2 v h
section
variable {P:Program} {τ:Tab} {σ σ0:St} {ops:Array Oper} {rest:List Oper} {o:Oper} {Q:Exit→St→Prop} {id:List FR} {G:Prop} {rl:List Rec}
theorem qac (hτ:qfl P τ) (fr:Bool) (js:List Nat) {k:FuncId} {args args':List V} {objs:List AObj} {R:V→List AObj→List AObj→Prop} (hw:qcq ops σ o = some true) (hd:qhy σ o.dst = true) (h:qbp τ σ o.op = .call k args) (hfn:qn3 P k)
    (hargs:mapO (exV (qdn js) σ.heap fr) args = some args') (hobjs:mapO (fun j=>exO (qdn js) σ.heap fr (σ.heap j)) js = some objs) (hnd:js.Nodup) (hpa:qw5 (qdn js) σ.heap args) (hpo:qtr (qdn js) σ.heap js)
    (hc:qax P fr k args' objs R) (hK:∀ r objs' new,R r objs' new→objs'.length = js.length→AWL P ops rest ((σ.after js objs' new).putO o.dst (renV (σ.names js new.length) r)) Q):AWL P ops (o :: rest) σ Q :=
  awl_call hτ fr js hw hd h hfn hargs hobjs hnd (qof hpa) (qmm hpo) hc hK
theorem qcy (hτ:qfl P τ) (fr:Bool) (js J:List Nat) {k:FuncId} {args args':List V} {objs:List AObj} {r0:V} {o0 n0:List AObj} (i:Nat) (ho:ops[i]? = some o) (hw:qcq ops σ o = some true) (hd:qhy σ o.dst = true) (h:qbp τ σ o.op = .call k args) (hfn:qn3 P k)
    (hargs:mapO (exV (qdn js) σ.heap fr) args = some args') (hobjs:mapO (fun j=>exO (qdn js) σ.heap fr (σ.heap j)) js = some objs) (hnd:js.Nodup) (hpa:qw5 (qdn js) σ.heap args) (hpo:qtr (qdn js) σ.heap js)
    (hc:qax P fr k args' objs fun r o n=>r = r0∧o = o0∧n = n0) (hJ:qpb σ.heap (σ.after js o0 n0).heap J)
    (hK:Any P ops id σ0 G (⟨i,true,J,false⟩ :: rl) ((σ.set (σ.after js o0 n0).heap (σ.after js o0 n0).next).putO o.dst (renV (σ.names js n0.length) r0))):Any P ops id σ0 G rl σ :=
  any_call hτ fr js J i ho hw hd h hfn hargs hobjs hnd (qof hpa) (qmm hpo) hc (ql7 hJ) hK
theorem qdb (hτ:qfl P τ) (fr:Bool) (js J:List Nat) {k:FuncId} {args args':List V} {objs:List AObj} {R:V→List AObj→List AObj→Prop} {DD:List Nat} {Q:Exit→St→Prop} {fs:List FR} {i:Nat} (hfs:fs.map (·.r) = rl.reverse) (hok:(rl.all fun q=>ql3 DD (masks ops.toList []) ops q ⟨i,true,J,true⟩) = true)
    (ho:ops[i]? = some o) (hw:qcq ops σ o = some true) (hd:qhy σ o.dst = true) (h:qbp τ σ o.op = .call k args) (hfn:qn3 P k)
    (hargs:mapO (exV (qdn js) σ.heap fr) args = some args') (hobjs:mapO (fun j=>exO (qdn js) σ.heap fr (σ.heap j)) js = some objs) (hnd:js.Nodup) (hpa:qw5 (qdn js) σ.heap args) (hpo:qtr (qdn js) σ.heap js)
    (hc:qax P fr k args' objs R) (hJ:∀ r o' n',R r o' n'→o'.length = js.length→qpb σ.heap (σ.after js o' n').heap J)
    (hK:∀ r o' n',R r o' n'→o'.length = js.length→∀ fs',Any P ops fs' σ0 (Cont P ops σ0 Q (i :: DD) fs') (⟨i,true,J,true⟩ :: rl) ((σ.set (σ.after js o' n').heap (σ.after js o' n').next).putO o.dst (renV (σ.names js n'.length) r))) :
    Any P ops fs σ0 (Bran P ops σ0 Q DD fs i) rl σ :=
  any_callN hτ fr js J hfs hok ho hw hd h hfn hargs hobjs hnd (qof hpa) (qmm hpo) hc (fun r o' n' hr hl=>ql7 (hJ r o' n' hr hl)) hK
theorem qbj (hτ:qfl P τ) (J:List Nat) {v:V} {H:Nat→AObj} {n:Nat} (i:Nat) (ho:ops[i]? = some o) (hw:qcq ops σ o = some true) (hd:qhy σ o.dst = true) (h:qbp τ σ o.op = .valH v H n) (hJ:qpb σ.heap H J) (hK:Any P ops id σ0 G (⟨i,true,J,false⟩ :: rl) ((σ.set H n).putO o.dst v)):Any P ops id σ0 G rl σ :=
  any_valH hτ J i ho hw hd h (ql7 hJ) hK
theorem qjr (hτ:qfl P τ) (J:List Nat) {v:V} {p:Prop} {H:Nat→AObj} {n:Nat} (i:Nat) (ho:ops[i]? = some o) (hw:qcq ops σ o = some true) (hd:qhy σ o.dst = true) (h:qbp τ σ o.op = .needH p v H n) (hp:p) (hJ:qpb σ.heap H J) (hK:Any P ops id σ0 G (⟨i,true,J,false⟩ :: rl) ((σ.set H n).putO o.dst v)):Any P ops id σ0 G rl σ :=
  any_needH hτ J i ho hw hd h hp (ql7 hJ) hK
theorem any_elemHP (hτ:qfl P τ) (J:List Nat) {p:Prop} {es:List (List D)} {ix:Nat} {k:List D→Option (Nat→AObj)} {e:List D} {H:Nat→AObj} (i:Nat) (ho:ops[i]? = some o) (hw:qcq ops σ o = some true) (hd:qhy σ o.dst = true) (h:qbp τ σ o.op = .elemH p es ix k) (hp:p) (he:es[ix]? = some e) (hv:k e = some H) (hJ:qpb σ.heap H J)
    (hK:Any P ops id σ0 G (⟨i,true,J,false⟩ :: rl) ((σ.set H σ.next).putO o.dst .und)):Any P ops id σ0 G rl σ :=
  any_elemH hτ J i ho hw hd h hp he hv (ql7 hJ) hK
theorem qlc (t:Nat) {b:Bool} (h:σ.env t = .d (.bool b)) (ht:b = true→Any P ops id σ0 G rl (σ.put t (.d (.bool true)))) (hf:b = false→Any P ops id σ0 G rl (σ.put t (.d (.bool false)))):Any P ops id σ0 G rl σ:=by
  cases b
  · have:=hf rfl;rwa [qpr h] at this
  · have:=ht rfl;rwa [qpr h] at this
theorem qbk (ks:List Nat) {objs:List AObj} {l:List (Nat × V)} (hbase:qra ks σ.base = true) (hnd:ks.Nodup) (hobjs:mapO (fun j=>exO (qdn ks) σ.heap true (σ.heap j)) ks = some objs)
    (hpo:qtr (qdn ks) σ.heap ks) (henv:qwk σ (qdn ks) true l):Weak σ (St.of l objs σ.nt σ.base):=weak_of ks hbase hnd hobjs (qmm hpo) henv
end
section
variable {P:Program} {τ:Tab} {σ:St} {rs:List ResultVar} {fr:Bool} {R:V→List AObj→List AObj→Prop} {e:Exit}
theorem qb0 {m:Nat} (he:e = .normal ∨ e = .ret) (ex:List Nat) {rv r:V} {objs' new:List AObj} (h:resV τ rs σ = some rv) (hnd:ex.Nodup) (hm:∀ x ∈ ex,m ≤ x) (hr:exV (qdn (List.range m ++ ex)) σ.heap true rv = some r) (hp:exVP (qdn (List.range m ++ ex)) σ.heap rv)
    (ho:mapO (fun j=>exO (qdn (List.range m ++ ex)) σ.heap true (σ.heap j)) (List.range m ++ ex) = some (objs' ++ new)) (hl:objs'.length = m) (hpo:qtr (qdn (List.range m ++ ex)) σ.heap (List.range m ++ ex))
    (hf:fr = true→r.flat∧∀ o ∈ objs' ++ new,o.flat) (hR:R r objs' new):RetQ τ rs fr m R e σ :=
  ⟨he,rv,ex,r,objs',new,h,hnd,hm,hr,hp,ho,hl,qmm hpo,hf,hR⟩
end
end Go.Proofs.YtiegopnofbgoaaaGreat.AWN

namespace Go.Proofs.YtiegopnofbgoaaaGreat.AWN
open Go Go.Proofs.Tryz
def TiOk (t:TypeId) (td:TD):Prop:=prog.underlying t = some td.desc∧∃ i,prog.info? t = some i∧i.size = td.size∧i.bytes = td.bytes∧i.zero = some td.zero
theorem tiOk {t:TypeId} {td:TD} (h:prog.underlying t = some td.desc) (h':(prog.info? t).map (fun i=>(i.size,i.bytes,i.zero)) = some (td.size,td.bytes,some td.zero)):TiOk t td:=by
  refine ⟨h,?_⟩
  cases hi:prog.info? t with
  | none=>rw [hi] at h';cases h'
  | some i =>
    rw [hi] at h'
    simp only [Option.map_some,Option.some.injEq,Prod.mk.injEq] at h'
    exact ⟨i,rfl,h'.1,h'.2.1,h'.2.2⟩
theorem ti1:(prog.info? 1).map (fun i=>(i.size,i.bytes,i.zero)) = some (1,8,some (.nilFunc)):=by kernel_rfl
theorem ti2:(prog.info? 2).map (fun i=>(i.size,i.bytes,i.zero)) = some (1,8,some (.int .i64 0)):=by kernel_rfl
theorem ti3:(prog.info? 3).map (fun i=>(i.size,i.bytes,i.zero)) = some (1,8,some (.int .i64 0)):=by kernel_rfl
theorem ti4:(prog.info? 4).map (fun i=>(i.size,i.bytes,i.zero)) = some (1,1,some (.bool false)):=by kernel_rfl
theorem ti5:(prog.info? 5).map (fun i=>(i.size,i.bytes,i.zero)) = some (1,1,some (.int .u8 0)):=by kernel_rfl
theorem ti6:(prog.info? 6).map (fun i=>(i.size,i.bytes,i.zero)) = some (1,1,some (.int .u8 0)):=by kernel_rfl
theorem ti7:(prog.info? 7).map (fun i=>(i.size,i.bytes,i.zero)) = some (4,24,some (.agg #[.int .i64 0,.int .i64 0,.bool false,.int .u8 0])):=by kernel_rfl
theorem ti8:(prog.info? 8).map (fun i=>(i.size,i.bytes,i.zero)) = some (4,24,some (.agg #[.int .i64 0,.int .i64 0,.bool false,.int .u8 0])):=by kernel_rfl
theorem ti9:(prog.info? 9).map (fun i=>(i.size,i.bytes,i.zero)) = some (1,16,some (.string ⟨#[]⟩)):=by kernel_rfl
theorem ti10:(prog.info? 10).map (fun i=>(i.size,i.bytes,i.zero)) = some (1,16,some (.string ⟨#[]⟩)):=by kernel_rfl
theorem ti11:(prog.info? 11).map (fun i=>(i.size,i.bytes,i.zero)) = some (1,16,some (.string ⟨#[]⟩)):=by kernel_rfl
theorem ti12:(prog.info? 12).map (fun i=>(i.size,i.bytes,i.zero)) = some (1,8,some (.int .u64 0)):=by kernel_rfl
theorem ti13:(prog.info? 13).map (fun i=>(i.size,i.bytes,i.zero)) = some (2,24,some (.agg #[.string ⟨#[]⟩,.int .u64 0])):=by kernel_rfl
theorem ti14:(prog.info? 14).map (fun i=>(i.size,i.bytes,i.zero)) = some (2,24,some (.agg #[.string ⟨#[]⟩,.int .u64 0])):=by kernel_rfl
theorem ti15:(prog.info? 15).map (fun i=>(i.size,i.bytes,i.zero)) = some (1,8,some (.pointer none)):=by kernel_rfl
theorem ti16:(prog.info? 16).map (fun i=>(i.size,i.bytes,i.zero)) = some (1,8,some (.pointer none)):=by kernel_rfl
theorem ti17:(prog.info? 17).map (fun i=>(i.size,i.bytes,i.zero)) = some (1,8,some (.pointer none)):=by kernel_rfl
theorem ti18:(prog.info? 18).map (fun i=>(i.size,i.bytes,i.zero)) = some (1,8,some (.agg #[.pointer none])):=by kernel_rfl
theorem ti19:(prog.info? 19).map (fun i=>(i.size,i.bytes,i.zero)) = some (1,8,some (.agg #[.pointer none])):=by kernel_rfl
theorem ti21:(prog.info? 21).map (fun i=>(i.size,i.bytes,i.zero)) = some (1,4,some (.int .i32 0)):=by kernel_rfl
theorem ti22:(prog.info? 22).map (fun i=>(i.size,i.bytes,i.zero)) = some (1,24,some (.slice none 0 0)):=by kernel_rfl
theorem ti23:(prog.info? 23).map (fun i=>(i.size,i.bytes,i.zero)) = some (1,8,some (.nilFunc)):=by kernel_rfl
theorem ti24:(prog.info? 24).map (fun i=>(i.size,i.bytes,i.zero)) = some (1,8,some (.complex .f32 0 0)):=by kernel_rfl
theorem ti25:(prog.info? 25).map (fun i=>(i.size,i.bytes,i.zero)) = some (3,24,some (.agg #[.complex .f32 0 0,.complex .f32 0 0,.complex .f32 0 0])):=by kernel_rfl
theorem ti26:(prog.info? 26).map (fun i=>(i.size,i.bytes,i.zero)) = some (3,24,some (.agg #[.complex .f32 0 0,.complex .f32 0 0,.complex .f32 0 0])):=by kernel_rfl
theorem ti27:(prog.info? 27).map (fun i=>(i.size,i.bytes,i.zero)) = some (1,24,some (.slice none 0 0)):=by kernel_rfl
theorem ti28:(prog.info? 28).map (fun i=>(i.size,i.bytes,i.zero)) = some (4,48,some (.agg #[.complex .f32 0 0,.complex .f32 0 0,.complex .f32 0 0,.slice none 0 0])):=by kernel_rfl
theorem ti29:(prog.info? 29).map (fun i=>(i.size,i.bytes,i.zero)) = some (4,48,some (.agg #[.complex .f32 0 0,.complex .f32 0 0,.complex .f32 0 0,.slice none 0 0])):=by kernel_rfl
theorem ti30:(prog.info? 30).map (fun i=>(i.size,i.bytes,i.zero)) = some (1,24,some (.slice none 0 0)):=by kernel_rfl
theorem ti31:(prog.info? 31).map (fun i=>(i.size,i.bytes,i.zero)) = some (5,72,some (.agg #[.complex .f32 0 0,.complex .f32 0 0,.complex .f32 0 0,.slice none 0 0,.slice none 0 0])):=by kernel_rfl
theorem ti32:(prog.info? 32).map (fun i=>(i.size,i.bytes,i.zero)) = some (5,72,some (.agg #[.complex .f32 0 0,.complex .f32 0 0,.complex .f32 0 0,.slice none 0 0,.slice none 0 0])):=by kernel_rfl
theorem ti33:(prog.info? 33).map (fun i=>(i.size,i.bytes,i.zero)) = some (1,24,some (.slice none 0 0)):=by kernel_rfl
theorem ti34:(prog.info? 34).map (fun i=>(i.size,i.bytes,i.zero)) = some (6,96,some (.agg #[.complex .f32 0 0,.complex .f32 0 0,.complex .f32 0 0,.slice none 0 0,.slice none 0 0,.slice none 0 0])):=by kernel_rfl
theorem ti35:(prog.info? 35).map (fun i=>(i.size,i.bytes,i.zero)) = some (6,96,some (.agg #[.complex .f32 0 0,.complex .f32 0 0,.complex .f32 0 0,.slice none 0 0,.slice none 0 0,.slice none 0 0])):=by kernel_rfl
theorem ti36:(prog.info? 36).map (fun i=>(i.size,i.bytes,i.zero)) = some (1,8,some (.nilFunc)):=by kernel_rfl
theorem ti38:(prog.info? 38).map (fun i=>(i.size,i.bytes,i.zero)) = some (1,8,some (.nilFunc)):=by kernel_rfl
theorem ti40:(prog.info? 40).map (fun i=>(i.size,i.bytes,i.zero)) = some (1,8,some (.nilFunc)):=by kernel_rfl
theorem ti41:(prog.info? 41).map (fun i=>(i.size,i.bytes,i.zero)) = some (1,8,some (.nilFunc)):=by kernel_rfl
theorem ti43:(prog.info? 43).map (fun i=>(i.size,i.bytes,i.zero)) = some (1,8,some (.nilFunc)):=by kernel_rfl
theorem ti44:(prog.info? 44).map (fun i=>(i.size,i.bytes,i.zero)) = some (1,8,some (.nilFunc)):=by kernel_rfl
theorem ti45:(prog.info? 45).map (fun i=>(i.size,i.bytes,i.zero)) = some (1,8,some (.nilFunc)):=by kernel_rfl
theorem ti46:(prog.info? 46).map (fun i=>(i.size,i.bytes,i.zero)) = some (1,8,some (.nilFunc)):=by kernel_rfl
theorem ti47:(prog.info? 47).map (fun i=>(i.size,i.bytes,i.zero)) = some (1,8,some (.nilFunc)):=by kernel_rfl
theorem ti49:(prog.info? 49).map (fun i=>(i.size,i.bytes,i.zero)) = some (1,8,some (.nilFunc)):=by kernel_rfl
theorem ti51:(prog.info? 51).map (fun i=>(i.size,i.bytes,i.zero)) = some (1,8,some (.pointer none)):=by kernel_rfl
theorem ti52:(prog.info? 52).map (fun i=>(i.size,i.bytes,i.zero)) = some (1,8,some (.nilFunc)):=by kernel_rfl
theorem ti53:(prog.info? 53).map (fun i=>(i.size,i.bytes,i.zero)) = some (1,8,some (.nilFunc)):=by kernel_rfl
theorem ti54:(prog.info? 54).map (fun i=>(i.size,i.bytes,i.zero)) = some (1,8,some (.nilFunc)):=by kernel_rfl
theorem ti55:(prog.info? 55).map (fun i=>(i.size,i.bytes,i.zero)) = some (1,24,some (.slice none 0 0)):=by kernel_rfl
theorem ti56:(prog.info? 56).map (fun i=>(i.size,i.bytes,i.zero)) = some (4,64,some (.agg #[.slice none 0 0,.slice none 0 0,.int .i64 0,.bool false])):=by kernel_rfl
theorem ti57:(prog.info? 57).map (fun i=>(i.size,i.bytes,i.zero)) = some (4,64,some (.agg #[.slice none 0 0,.slice none 0 0,.int .i64 0,.bool false])):=by kernel_rfl
theorem ti60:(prog.info? 60).map (fun i=>(i.size,i.bytes,i.zero)) = some (1,8,some (.nilFunc)):=by kernel_rfl
theorem ti61:(prog.info? 61).map (fun i=>(i.size,i.bytes,i.zero)) = some (1,8,some (.nilFunc)):=by kernel_rfl
theorem ti62:(prog.info? 62).map (fun i=>(i.size,i.bytes,i.zero)) = some (1,8,some (.nilFunc)):=by kernel_rfl
theorem ti64:(prog.info? 64).map (fun i=>(i.size,i.bytes,i.zero)) = some (1,8,some (.nilFunc)):=by kernel_rfl
theorem ti66:(prog.info? 66).map (fun i=>(i.size,i.bytes,i.zero)) = some (1,8,some (.nilFunc)):=by kernel_rfl
theorem ti67:(prog.info? 67).map (fun i=>(i.size,i.bytes,i.zero)) = some (1,8,some (.pointer none)):=by kernel_rfl
theorem ti68:(prog.info? 68).map (fun i=>(i.size,i.bytes,i.zero)) = some (1,8,some (.pointer none)):=by kernel_rfl
theorem ti69:(prog.info? 69).map (fun i=>(i.size,i.bytes,i.zero)) = some (1,8,some (.nilFunc)):=by kernel_rfl
theorem ti70:(prog.info? 70).map (fun i=>(i.size,i.bytes,i.zero)) = some (1,8,some (.nilFunc)):=by kernel_rfl
theorem ti71:(prog.info? 71).map (fun i=>(i.size,i.bytes,i.zero)) = some (1,8,some (.nilFunc)):=by kernel_rfl
theorem ti72:(prog.info? 72).map (fun i=>(i.size,i.bytes,i.zero)) = some (1,8,some (.nilFunc)):=by kernel_rfl
theorem ti73:(prog.info? 73).map (fun i=>(i.size,i.bytes,i.zero)) = some (1,8,some (.nilFunc)):=by kernel_rfl
theorem ti75:(prog.info? 75).map (fun i=>(i.size,i.bytes,i.zero)) = some (5,40,some (.agg #[.int .i64 0,.int .i64 0,.complex .f32 0 0,.complex .f32 0 0,.int .i64 0])):=by kernel_rfl
theorem ti76:(prog.info? 76).map (fun i=>(i.size,i.bytes,i.zero)) = some (1,8,some (.nilFunc)):=by kernel_rfl
theorem ti78:(prog.info? 78).map (fun i=>(i.size,i.bytes,i.zero)) = some (1,8,some (.nilFunc)):=by kernel_rfl
theorem ti79:(prog.info? 79).map (fun i=>(i.size,i.bytes,i.zero)) = some (1,8,some (.nilFunc)):=by kernel_rfl
theorem ti81:(prog.info? 81).map (fun i=>(i.size,i.bytes,i.zero)) = some (1,8,some (.int .u64 0)):=by kernel_rfl
theorem ti82:(prog.info? 82).map (fun i=>(i.size,i.bytes,i.zero)) = some (3,40,some (.agg #[.slice none 0 0,.int .i64 0,.int .u64 0])):=by kernel_rfl
theorem ti83:(prog.info? 83).map (fun i=>(i.size,i.bytes,i.zero)) = some (3,40,some (.agg #[.slice none 0 0,.int .i64 0,.int .u64 0])):=by kernel_rfl
theorem ti84:(prog.info? 84).map (fun i=>(i.size,i.bytes,i.zero)) = some (1,8,some (.nilFunc)):=by kernel_rfl
theorem ti85:(prog.info? 85).map (fun i=>(i.size,i.bytes,i.zero)) = some (1,8,some (.nilFunc)):=by kernel_rfl
theorem ti87:(prog.info? 87).map (fun i=>(i.size,i.bytes,i.zero)) = some (1,8,some (.pointer none)):=by kernel_rfl
theorem ti89:(prog.info? 89).map (fun i=>(i.size,i.bytes,i.zero)) = some (2,32,some (.agg #[.pointer none,.slice none 0 0])):=by kernel_rfl
theorem ti90:(prog.info? 90).map (fun i=>(i.size,i.bytes,i.zero)) = some (1,24,some (.slice none 0 0)):=by kernel_rfl
theorem ti95:(prog.info? 95).map (fun i=>(i.size,i.bytes,i.zero)) = some (1,8,some (.nilFunc)):=by kernel_rfl
theorem ti98:(prog.info? 98).map (fun i=>(i.size,i.bytes,i.zero)) = some (8,64,some (.agg #[.int .i64 0,.complex .f32 0 0,.complex .f32 0 0,.int .i64 0,.complex .f32 0 0,.complex .f32 0 0,.complex .f32 0 0,.int .i64 0])):=by kernel_rfl
theorem ti101:(prog.info? 101).map (fun i=>(i.size,i.bytes,i.zero)) = some (1,8,some (.int .u64 0)):=by kernel_rfl
theorem ti104:(prog.info? 104).map (fun i=>(i.size,i.bytes,i.zero)) = some (1,8,some (.nilFunc)):=by kernel_rfl
theorem ti105:(prog.info? 105).map (fun i=>(i.size,i.bytes,i.zero)) = some (1,8,some (.nilFunc)):=by kernel_rfl
theorem ti106:(prog.info? 106).map (fun i=>(i.size,i.bytes,i.zero)) = some (3,32,some (.agg #[.string ⟨#[]⟩,.int .i64 0,.bool false])):=by kernel_rfl
theorem ti107:(prog.info? 107).map (fun i=>(i.size,i.bytes,i.zero)) = some (3,32,some (.agg #[.string ⟨#[]⟩,.int .i64 0,.bool false])):=by kernel_rfl
theorem ti108:(prog.info? 108).map (fun i=>(i.size,i.bytes,i.zero)) = some (1,8,some (.nilFunc)):=by kernel_rfl
theorem ti111:(prog.info? 111).map (fun i=>(i.size,i.bytes,i.zero)) = some (1,8,some (.nilFunc)):=by kernel_rfl
theorem ti115:(prog.info? 115).map (fun i=>(i.size,i.bytes,i.zero)) = some (1,8,some (.nilFunc)):=by kernel_rfl
theorem ti117:(prog.info? 117).map (fun i=>(i.size,i.bytes,i.zero)) = some (1,8,some (.nilFunc)):=by kernel_rfl
theorem ti124:(prog.info? 124).map (fun i=>(i.size,i.bytes,i.zero)) = some (1,8,some (.nilFunc)):=by kernel_rfl
theorem ti125:(prog.info? 125).map (fun i=>(i.size,i.bytes,i.zero)) = some (1,4,some (.float .f32 0)):=by kernel_rfl
theorem ti128:(prog.info? 128).map (fun i=>(i.size,i.bytes,i.zero)) = some (1,8,some (.pointer none)):=by kernel_rfl
theorem ti130:(prog.info? 130).map (fun i=>(i.size,i.bytes,i.zero)) = some (1,8,some (.pointer none)):=by kernel_rfl
theorem ti131:(prog.info? 131).map (fun i=>(i.size,i.bytes,i.zero)) = some (1,8,some (.pointer none)):=by kernel_rfl
theorem ti139:(prog.info? 139).map (fun i=>(i.size,i.bytes,i.zero)) = some (1,8,some (.pointer none)):=by kernel_rfl
theorem ti147:(prog.info? 147).map (fun i=>(i.size,i.bytes,i.zero)) = some (1,4,some (.int .u32 0)):=by kernel_rfl
theorem ti151:(prog.info? 151).map (fun i=>(i.size,i.bytes,i.zero)) = some (1,8,some (.float .f64 0)):=by kernel_rfl
theorem ti154:(prog.info? 154).map (fun i=>(i.size,i.bytes,i.zero)) = some (1,8,some (.nilFunc)):=by kernel_rfl
theorem ti155:(prog.info? 155).map (fun i=>(i.size,i.bytes,i.zero)) = some (1,24,some (.slice none 0 0)):=by kernel_rfl
theorem ti157:(prog.info? 157).map (fun i=>(i.size,i.bytes,i.zero)) = some (1,8,some (.nilFunc)):=by kernel_rfl
theorem ti162:(prog.info? 162).map (fun i=>(i.size,i.bytes,i.zero)) = some (1,16,some (.complex .f64 0 0)):=by kernel_rfl
theorem ti165:(prog.info? 165).map (fun i=>(i.size,i.bytes,i.zero)) = some (1,8,some (.nilFunc)):=by kernel_rfl
theorem ti169:(prog.info? 169).map (fun i=>(i.size,i.bytes,i.zero)) = some (1,8,some (.nilFunc)):=by kernel_rfl
theorem ti171:(prog.info? 171).map (fun i=>(i.size,i.bytes,i.zero)) = some (1,24,some (.slice none 0 0)):=by kernel_rfl
theorem ti173:(prog.info? 173).map (fun i=>(i.size,i.bytes,i.zero)) = some (1,8,some (.nilFunc)):=by kernel_rfl
theorem ti178:(prog.info? 178).map (fun i=>(i.size,i.bytes,i.zero)) = some (4,40,some (.agg #[.pointer none,.pointer none,.pointer none,.string ⟨#[]⟩])):=by kernel_rfl
theorem ti179:(prog.info? 179).map (fun i=>(i.size,i.bytes,i.zero)) = some (4,40,some (.agg #[.pointer none,.pointer none,.pointer none,.string ⟨#[]⟩])):=by kernel_rfl
theorem ti184:(prog.info? 184).map (fun i=>(i.size,i.bytes,i.zero)) = some (1,1,some (.int .u8 0)):=by kernel_rfl
theorem ti185:(prog.info? 185).map (fun i=>(i.size,i.bytes,i.zero)) = some (1,1,some (.int .u8 0)):=by kernel_rfl
theorem ti186:(prog.info? 186).map (fun i=>(i.size,i.bytes,i.zero)) = some (1,8,some (.nilFunc)):=by kernel_rfl
theorem ti187:(prog.info? 187).map (fun i=>(i.size,i.bytes,i.zero)) = some (1,4,some (.int .i32 0)):=by kernel_rfl
theorem ti188:(prog.info? 188).map (fun i=>(i.size,i.bytes,i.zero)) = some (1,4,some (.int .i32 0)):=by kernel_rfl
theorem ti189:(prog.info? 189).map (fun i=>(i.size,i.bytes,i.zero)) = some (11,48,some (.agg #[.int .u64 0,.int .u64 0,.int .u32 0,.int .u8 0,.int .u8 0,.int .u8 0,.int .u8 0,.nilFunc,.pointer none,.int .i32 0,.int .i32 0])):=by kernel_rfl
theorem ti190:(prog.info? 190).map (fun i=>(i.size,i.bytes,i.zero)) = some (11,48,some (.agg #[.int .u64 0,.int .u64 0,.int .u32 0,.int .u8 0,.int .u8 0,.int .u8 0,.int .u8 0,.nilFunc,.pointer none,.int .i32 0,.int .i32 0])):=by kernel_rfl
def td1:TD:=⟨(TypeDesc.func #[] #[] false),1,8,.nilFunc⟩
def td2:TD:=⟨(TypeDesc.int IntKind.i64),1,8,.int .i64 0⟩
def td3:TD:=⟨(TypeDesc.int IntKind.i64),1,8,.int .i64 0⟩
def td4:TD:=⟨TypeDesc.bool,1,1,.bool false⟩
def td5:TD:=⟨(TypeDesc.int IntKind.u8),1,1,.int .u8 0⟩
def td6:TD:=⟨(TypeDesc.int IntKind.u8),1,1,.int .u8 0⟩
def td7:TD:=⟨(TypeDesc.struct #[{ name:= "x",type:=2,offset:=0,embedded:=false,tag:= "",pkgPath:= "runtime",byteOffset:=0 },{ name:= "y",type:=3,offset:=1,embedded:=false,tag:= "",pkgPath:= "runtime",byteOffset:=8 },{ name:= "signed",type:=4,offset:=2,embedded:=false,tag:= "",pkgPath:= "runtime",byteOffset:=16 },{ name:= "code",type:=6,offset:=3,embedded:=false,tag:= "",pkgPath:= "runtime",byteOffset:=17 }]),4,24,.agg #[.int .i64 0,.int .i64 0,.bool false,.int .u8 0]⟩
def td8:TD:=⟨(TypeDesc.struct #[{ name:= "x",type:=2,offset:=0,embedded:=false,tag:= "",pkgPath:= "runtime",byteOffset:=0 },{ name:= "y",type:=3,offset:=1,embedded:=false,tag:= "",pkgPath:= "runtime",byteOffset:=8 },{ name:= "signed",type:=4,offset:=2,embedded:=false,tag:= "",pkgPath:= "runtime",byteOffset:=16 },{ name:= "code",type:=6,offset:=3,embedded:=false,tag:= "",pkgPath:= "runtime",byteOffset:=17 }]),4,24,.agg #[.int .i64 0,.int .i64 0,.bool false,.int .u8 0]⟩
def td9:TD:=⟨TypeDesc.string,1,16,.string ⟨#[]⟩⟩
def td10:TD:=⟨TypeDesc.string,1,16,.string ⟨#[]⟩⟩
def td11:TD:=⟨TypeDesc.string,1,16,.string ⟨#[]⟩⟩
def td12:TD:=⟨(TypeDesc.int IntKind.u64),1,8,.int .u64 0⟩
def td13:TD:=⟨(TypeDesc.struct #[{ name:= "msg",type:=9,offset:=0,embedded:=false,tag:= "",pkgPath:= "runtime",byteOffset:=0 },{ name:= "addr",type:=12,offset:=1,embedded:=false,tag:= "",pkgPath:= "runtime",byteOffset:=16 }]),2,24,.agg #[.string ⟨#[]⟩,.int .u64 0]⟩
def td14:TD:=⟨(TypeDesc.struct #[{ name:= "msg",type:=9,offset:=0,embedded:=false,tag:= "",pkgPath:= "runtime",byteOffset:=0 },{ name:= "addr",type:=12,offset:=1,embedded:=false,tag:= "",pkgPath:= "runtime",byteOffset:=16 }]),2,24,.agg #[.string ⟨#[]⟩,.int .u64 0]⟩
def td15:TD:=⟨(TypeDesc.pointer 179),1,8,.pointer none⟩
def td16:TD:=⟨(TypeDesc.pointer 182),1,8,.pointer none⟩
def td17:TD:=⟨(TypeDesc.pointer 190),1,8,.pointer none⟩
def td18:TD:=⟨(TypeDesc.struct #[{ name:= "typ",type:=17,offset:=0,embedded:=false,tag:= "",pkgPath:= "internal/runtime/maps",byteOffset:=0 }]),1,8,.agg #[.pointer none]⟩
def td19:TD:=⟨(TypeDesc.struct #[{ name:= "typ",type:=17,offset:=0,embedded:=false,tag:= "",pkgPath:= "internal/runtime/maps",byteOffset:=0 }]),1,8,.agg #[.pointer none]⟩
def td21:TD:=⟨(TypeDesc.int IntKind.i32),1,4,.int .i32 0⟩
def td22:TD:=⟨(TypeDesc.slice 5),1,24,.slice none 0 0⟩
def td23:TD:=⟨(TypeDesc.func #[22,22] #[4] false),1,8,.nilFunc⟩
def td24:TD:=⟨(TypeDesc.complex FloatKind.f32),1,8,.complex .f32 0 0⟩
def td25:TD:=⟨(TypeDesc.struct #[{ name:= "A",type:=24,offset:=0,embedded:=false,tag:= "",pkgPath:= "",byteOffset:=0 },{ name:= "B",type:=24,offset:=1,embedded:=false,tag:= "",pkgPath:= "",byteOffset:=8 },{ name:= "C",type:=24,offset:=2,embedded:=false,tag:= "",pkgPath:= "",byteOffset:=16 }]),3,24,.agg #[.complex .f32 0 0,.complex .f32 0 0,.complex .f32 0 0]⟩
def td26:TD:=⟨(TypeDesc.struct #[{ name:= "A",type:=24,offset:=0,embedded:=false,tag:= "",pkgPath:= "",byteOffset:=0 },{ name:= "B",type:=24,offset:=1,embedded:=false,tag:= "",pkgPath:= "",byteOffset:=8 },{ name:= "C",type:=24,offset:=2,embedded:=false,tag:= "",pkgPath:= "",byteOffset:=16 }]),3,24,.agg #[.complex .f32 0 0,.complex .f32 0 0,.complex .f32 0 0]⟩
def td27:TD:=⟨(TypeDesc.slice 98),1,24,.slice none 0 0⟩
def td28:TD:=⟨(TypeDesc.struct #[{ name:= "Source",type:=26,offset:=0,embedded:=false,tag:= "",pkgPath:= "",byteOffset:=0 },{ name:= "Buses",type:=27,offset:=3,embedded:=false,tag:= "",pkgPath:= "",byteOffset:=24 }]),4,48,.agg #[.complex .f32 0 0,.complex .f32 0 0,.complex .f32 0 0,.slice none 0 0]⟩
def td29:TD:=⟨(TypeDesc.struct #[{ name:= "Source",type:=26,offset:=0,embedded:=false,tag:= "",pkgPath:= "",byteOffset:=0 },{ name:= "Buses",type:=27,offset:=3,embedded:=false,tag:= "",pkgPath:= "",byteOffset:=24 }]),4,48,.agg #[.complex .f32 0 0,.complex .f32 0 0,.complex .f32 0 0,.slice none 0 0]⟩
def td30:TD:=⟨(TypeDesc.slice 75),1,24,.slice none 0 0⟩
def td31:TD:=⟨(TypeDesc.struct #[{ name:= "Feeder",type:=29,offset:=0,embedded:=false,tag:= "",pkgPath:= "",byteOffset:=0 },{ name:= "Ties",type:=30,offset:=4,embedded:=false,tag:= "",pkgPath:= "",byteOffset:=48 }]),5,72,.agg #[.complex .f32 0 0,.complex .f32 0 0,.complex .f32 0 0,.slice none 0 0,.slice none 0 0]⟩
def td32:TD:=⟨(TypeDesc.struct #[{ name:= "Feeder",type:=29,offset:=0,embedded:=false,tag:= "",pkgPath:= "",byteOffset:=0 },{ name:= "Ties",type:=30,offset:=4,embedded:=false,tag:= "",pkgPath:= "",byteOffset:=48 }]),5,72,.agg #[.complex .f32 0 0,.complex .f32 0 0,.complex .f32 0 0,.slice none 0 0,.slice none 0 0]⟩
def td33:TD:=⟨(TypeDesc.slice 57),1,24,.slice none 0 0⟩
def td34:TD:=⟨(TypeDesc.struct #[{ name:= "Grid",type:=32,offset:=0,embedded:=false,tag:= "",pkgPath:= "",byteOffset:=0 },{ name:= "Flows",type:=33,offset:=5,embedded:=false,tag:= "",pkgPath:= "",byteOffset:=72 }]),6,96,.agg #[.complex .f32 0 0,.complex .f32 0 0,.complex .f32 0 0,.slice none 0 0,.slice none 0 0,.slice none 0 0]⟩
def td35:TD:=⟨(TypeDesc.struct #[{ name:= "Grid",type:=32,offset:=0,embedded:=false,tag:= "",pkgPath:= "",byteOffset:=0 },{ name:= "Flows",type:=33,offset:=5,embedded:=false,tag:= "",pkgPath:= "",byteOffset:=72 }]),6,96,.agg #[.complex .f32 0 0,.complex .f32 0 0,.complex .f32 0 0,.slice none 0 0,.slice none 0 0,.slice none 0 0]⟩
def td36:TD:=⟨(TypeDesc.func #[22] #[35] false),1,8,.nilFunc⟩
def td38:TD:=⟨(TypeDesc.func #[35] #[9,4] false),1,8,.nilFunc⟩
def td40:TD:=⟨(TypeDesc.func #[9] #[35,4] false),1,8,.nilFunc⟩
def td41:TD:=⟨(TypeDesc.func #[32] #[9,4] false),1,8,.nilFunc⟩
def td43:TD:=⟨(TypeDesc.func #[9] #[32,4] false),1,8,.nilFunc⟩
def td44:TD:=⟨(TypeDesc.func #[35] #[4] false),1,8,.nilFunc⟩
def td45:TD:=⟨(TypeDesc.func #[35,35] #[4] false),1,8,.nilFunc⟩
def td46:TD:=⟨(TypeDesc.func #[32,32] #[4] false),1,8,.nilFunc⟩
def td47:TD:=⟨(TypeDesc.func #[22,2,2] #[2] false),1,8,.nilFunc⟩
def td49:TD:=⟨(TypeDesc.func #[9] #[35,2,4] false),1,8,.nilFunc⟩
def td51:TD:=⟨(TypeDesc.pointer 83),1,8,.pointer none⟩
def td52:TD:=⟨(TypeDesc.func #[22] #[51] false),1,8,.nilFunc⟩
def td53:TD:=⟨(TypeDesc.func #[51] #[35] false),1,8,.nilFunc⟩
def td54:TD:=⟨(TypeDesc.func #[32] #[9] false),1,8,.nilFunc⟩
def td55:TD:=⟨(TypeDesc.slice 26),1,24,.slice none 0 0⟩
def td56:TD:=⟨(TypeDesc.struct #[{ name:= "Voltages",type:=55,offset:=0,embedded:=false,tag:= "",pkgPath:= "",byteOffset:=0 },{ name:= "Currents",type:=55,offset:=1,embedded:=false,tag:= "",pkgPath:= "",byteOffset:=24 },{ name:= "Rounds",type:=2,offset:=2,embedded:=false,tag:= "",pkgPath:= "",byteOffset:=48 },{ name:= "Rests",type:=4,offset:=3,embedded:=false,tag:= "",pkgPath:= "",byteOffset:=56 }]),4,64,.agg #[.slice none 0 0,.slice none 0 0,.int .i64 0,.bool false]⟩
def td57:TD:=⟨(TypeDesc.struct #[{ name:= "Voltages",type:=55,offset:=0,embedded:=false,tag:= "",pkgPath:= "",byteOffset:=0 },{ name:= "Currents",type:=55,offset:=1,embedded:=false,tag:= "",pkgPath:= "",byteOffset:=24 },{ name:= "Rounds",type:=2,offset:=2,embedded:=false,tag:= "",pkgPath:= "",byteOffset:=48 },{ name:= "Rests",type:=4,offset:=3,embedded:=false,tag:= "",pkgPath:= "",byteOffset:=56 }]),4,64,.agg #[.slice none 0 0,.slice none 0 0,.int .i64 0,.bool false]⟩
def td60:TD:=⟨(TypeDesc.func #[2,9] #[2,4] false),1,8,.nilFunc⟩
def td61:TD:=⟨(TypeDesc.func #[2,3] #[9] false),1,8,.nilFunc⟩
def td62:TD:=⟨(TypeDesc.func #[32] #[4] false),1,8,.nilFunc⟩
def td64:TD:=⟨(TypeDesc.func #[9] #[32,3,4] false),1,8,.nilFunc⟩
def td66:TD:=⟨(TypeDesc.func #[67,68] #[4] false),1,8,.nilFunc⟩
def td67:TD:=⟨(TypeDesc.pointer 29),1,8,.pointer none⟩
def td68:TD:=⟨(TypeDesc.pointer 57),1,8,.pointer none⟩
def td69:TD:=⟨(TypeDesc.func #[57] #[4] false),1,8,.nilFunc⟩
def td70:TD:=⟨(TypeDesc.func #[33,33,71] #[4] false),1,8,.nilFunc⟩
def td71:TD:=⟨(TypeDesc.func #[57,57] #[4] false),1,8,.nilFunc⟩
def td72:TD:=⟨(TypeDesc.func #[29,29] #[4] false),1,8,.nilFunc⟩
def td73:TD:=⟨(TypeDesc.func #[30,30,76] #[4] false),1,8,.nilFunc⟩
def td75:TD:=⟨(TypeDesc.struct #[{ name:= "A",type:=2,offset:=0,embedded:=false,tag:= "",pkgPath:= "",byteOffset:=0 },{ name:= "B",type:=2,offset:=1,embedded:=false,tag:= "",pkgPath:= "",byteOffset:=8 },{ name:= "Own",type:=24,offset:=2,embedded:=false,tag:= "",pkgPath:= "",byteOffset:=16 },{ name:= "Shared",type:=24,offset:=3,embedded:=false,tag:= "",pkgPath:= "",byteOffset:=24 },{ name:= "Most",type:=2,offset:=4,embedded:=false,tag:= "",pkgPath:= "",byteOffset:=32 }]),5,40,.agg #[.int .i64 0,.int .i64 0,.complex .f32 0 0,.complex .f32 0 0,.int .i64 0]⟩
def td76:TD:=⟨(TypeDesc.func #[75,75] #[4] false),1,8,.nilFunc⟩
def td78:TD:=⟨(TypeDesc.func #[9,2] #[57,4] false),1,8,.nilFunc⟩
def td79:TD:=⟨(TypeDesc.func #[2,2,2] #[4] false),1,8,.nilFunc⟩
def td81:TD:=⟨(TypeDesc.int IntKind.u64),1,8,.int .u64 0⟩
def td82:TD:=⟨(TypeDesc.struct #[{ name:= "code",type:=22,offset:=0,embedded:=false,tag:= "",pkgPath:= "loop.example/g01212/spec",byteOffset:=0 },{ name:= "at",type:=3,offset:=1,embedded:=false,tag:= "",pkgPath:= "loop.example/g01212/spec",byteOffset:=24 },{ name:= "seed",type:=81,offset:=2,embedded:=false,tag:= "",pkgPath:= "loop.example/g01212/spec",byteOffset:=32 }]),3,40,.agg #[.slice none 0 0,.int .i64 0,.int .u64 0]⟩
def td83:TD:=⟨(TypeDesc.struct #[{ name:= "code",type:=22,offset:=0,embedded:=false,tag:= "",pkgPath:= "loop.example/g01212/spec",byteOffset:=0 },{ name:= "at",type:=3,offset:=1,embedded:=false,tag:= "",pkgPath:= "loop.example/g01212/spec",byteOffset:=24 },{ name:= "seed",type:=81,offset:=2,embedded:=false,tag:= "",pkgPath:= "loop.example/g01212/spec",byteOffset:=32 }]),3,40,.agg #[.slice none 0 0,.int .i64 0,.int .u64 0]⟩
def td84:TD:=⟨(TypeDesc.func #[51] #[32] false),1,8,.nilFunc⟩
def td85:TD:=⟨(TypeDesc.func #[2] #[2] false),1,8,.nilFunc⟩
def td87:TD:=⟨(TypeDesc.pointer 89),1,8,.pointer none⟩
def td89:TD:=⟨(TypeDesc.struct #[{ name:= "addr",type:=87,offset:=0,embedded:=false,tag:= "",pkgPath:= "strings",byteOffset:=0 },{ name:= "buf",type:=22,offset:=1,embedded:=false,tag:= "",pkgPath:= "strings",byteOffset:=8 }]),2,32,.agg #[.pointer none,.slice none 0 0]⟩
def td90:TD:=⟨(TypeDesc.slice 9),1,24,.slice none 0 0⟩
def td95:TD:=⟨(TypeDesc.func #[90] #[] true),1,8,.nilFunc⟩
def td98:TD:=⟨(TypeDesc.struct #[{ name:= "Parent",type:=2,offset:=0,embedded:=false,tag:= "",pkgPath:= "",byteOffset:=0 },{ name:= "Own",type:=24,offset:=1,embedded:=false,tag:= "",pkgPath:= "",byteOffset:=8 },{ name:= "Shared",type:=24,offset:=2,embedded:=false,tag:= "",pkgPath:= "",byteOffset:=16 },{ name:= "Kind",type:=2,offset:=3,embedded:=false,tag:= "",pkgPath:= "",byteOffset:=24 },{ name:= "Load",type:=26,offset:=4,embedded:=false,tag:= "",pkgPath:= "",byteOffset:=32 },{ name:= "Customers",type:=2,offset:=7,embedded:=false,tag:= "",pkgPath:= "",byteOffset:=56 }]),8,64,.agg #[.int .i64 0,.complex .f32 0 0,.complex .f32 0 0,.int .i64 0,.complex .f32 0 0,.complex .f32 0 0,.complex .f32 0 0,.int .i64 0]⟩
def td101:TD:=⟨(TypeDesc.int IntKind.u64),1,8,.int .u64 0⟩
def td104:TD:=⟨(TypeDesc.func #[2] #[4] false),1,8,.nilFunc⟩
def td105:TD:=⟨(TypeDesc.func #[75] #[4] false),1,8,.nilFunc⟩
def td106:TD:=⟨(TypeDesc.struct #[{ name:= "s",type:=9,offset:=0,embedded:=false,tag:= "",pkgPath:= "loop.example/g01212/impl",byteOffset:=0 },{ name:= "at",type:=3,offset:=1,embedded:=false,tag:= "",pkgPath:= "loop.example/g01212/impl",byteOffset:=16 },{ name:= "short",type:=4,offset:=2,embedded:=false,tag:= "",pkgPath:= "loop.example/g01212/impl",byteOffset:=24 }]),3,32,.agg #[.string ⟨#[]⟩,.int .i64 0,.bool false]⟩
def td107:TD:=⟨(TypeDesc.struct #[{ name:= "s",type:=9,offset:=0,embedded:=false,tag:= "",pkgPath:= "loop.example/g01212/impl",byteOffset:=0 },{ name:= "at",type:=3,offset:=1,embedded:=false,tag:= "",pkgPath:= "loop.example/g01212/impl",byteOffset:=16 },{ name:= "short",type:=4,offset:=2,embedded:=false,tag:= "",pkgPath:= "loop.example/g01212/impl",byteOffset:=24 }]),3,32,.agg #[.string ⟨#[]⟩,.int .i64 0,.bool false]⟩
def td108:TD:=⟨(TypeDesc.func #[9,9] #[4] false),1,8,.nilFunc⟩
def td111:TD:=⟨(TypeDesc.func #[] #[98] false),1,8,.nilFunc⟩
def td115:TD:=⟨(TypeDesc.func #[26,26] #[4] false),1,8,.nilFunc⟩
def td117:TD:=⟨(TypeDesc.func #[98,98] #[4] false),1,8,.nilFunc⟩
def td124:TD:=⟨(TypeDesc.func #[67,2,125] #[57] false),1,8,.nilFunc⟩
def td125:TD:=⟨(TypeDesc.float FloatKind.f32),1,4,.float .f32 0⟩
def td128:TD:=⟨(TypeDesc.pointer 5),1,8,.pointer none⟩
def td130:TD:=⟨(TypeDesc.pointer 75),1,8,.pointer none⟩
def td131:TD:=⟨(TypeDesc.pointer 107),1,8,.pointer none⟩
def td139:TD:=⟨(TypeDesc.pointer 98),1,8,.pointer none⟩
def td147:TD:=⟨(TypeDesc.int IntKind.u32),1,4,.int .u32 0⟩
def td151:TD:=⟨(TypeDesc.float FloatKind.f64),1,8,.float .f64 0⟩
def td154:TD:=⟨(TypeDesc.func #[67,55] #[55] false),1,8,.nilFunc⟩
def td155:TD:=⟨(TypeDesc.slice 125),1,24,.slice none 0 0⟩
def td157:TD:=⟨(TypeDesc.func #[26,26] #[26] false),1,8,.nilFunc⟩
def td162:TD:=⟨(TypeDesc.complex FloatKind.f64),1,16,.complex .f64 0 0⟩
def td165:TD:=⟨(TypeDesc.func #[2] #[125] false),1,8,.nilFunc⟩
def td169:TD:=⟨(TypeDesc.func #[24] #[125] false),1,8,.nilFunc⟩
def td171:TD:=⟨(TypeDesc.slice 2),1,24,.slice none 0 0⟩
def td173:TD:=⟨(TypeDesc.func #[] #[151] false),1,8,.nilFunc⟩
def td178:TD:=⟨(TypeDesc.struct #[{ name:= "_interface",type:=17,offset:=0,embedded:=false,tag:= "",pkgPath:= "runtime",byteOffset:=0 },{ name:= "concrete",type:=17,offset:=1,embedded:=false,tag:= "",pkgPath:= "runtime",byteOffset:=8 },{ name:= "asserted",type:=17,offset:=2,embedded:=false,tag:= "",pkgPath:= "runtime",byteOffset:=16 },{ name:= "missingMethod",type:=9,offset:=3,embedded:=false,tag:= "",pkgPath:= "runtime",byteOffset:=24 }]),4,40,.agg #[.pointer none,.pointer none,.pointer none,.string ⟨#[]⟩]⟩
def td179:TD:=⟨(TypeDesc.struct #[{ name:= "_interface",type:=17,offset:=0,embedded:=false,tag:= "",pkgPath:= "runtime",byteOffset:=0 },{ name:= "concrete",type:=17,offset:=1,embedded:=false,tag:= "",pkgPath:= "runtime",byteOffset:=8 },{ name:= "asserted",type:=17,offset:=2,embedded:=false,tag:= "",pkgPath:= "runtime",byteOffset:=16 },{ name:= "missingMethod",type:=9,offset:=3,embedded:=false,tag:= "",pkgPath:= "runtime",byteOffset:=24 }]),4,40,.agg #[.pointer none,.pointer none,.pointer none,.string ⟨#[]⟩]⟩
def td184:TD:=⟨(TypeDesc.int IntKind.u8),1,1,.int .u8 0⟩
def td185:TD:=⟨(TypeDesc.int IntKind.u8),1,1,.int .u8 0⟩
def td186:TD:=⟨(TypeDesc.func #[144,144] #[4] false),1,8,.nilFunc⟩
def td187:TD:=⟨(TypeDesc.int IntKind.i32),1,4,.int .i32 0⟩
def td188:TD:=⟨(TypeDesc.int IntKind.i32),1,4,.int .i32 0⟩
def td189:TD:=⟨(TypeDesc.struct #[{ name:= "Size_",type:=12,offset:=0,embedded:=false,tag:= "",pkgPath:= "",byteOffset:=0 },{ name:= "PtrBytes",type:=12,offset:=1,embedded:=false,tag:= "",pkgPath:= "",byteOffset:=8 },{ name:= "Hash",type:=147,offset:=2,embedded:=false,tag:= "",pkgPath:= "",byteOffset:=16 },{ name:= "TFlag",type:=184,offset:=3,embedded:=false,tag:= "",pkgPath:= "",byteOffset:=20 },{ name:= "Align_",type:=5,offset:=4,embedded:=false,tag:= "",pkgPath:= "",byteOffset:=21 },{ name:= "FieldAlign_",type:=5,offset:=5,embedded:=false,tag:= "",pkgPath:= "",byteOffset:=22 },{ name:= "Kind_",type:=185,offset:=6,embedded:=false,tag:= "",pkgPath:= "",byteOffset:=23 },{ name:= "Equal",type:=186,offset:=7,embedded:=false,tag:= "",pkgPath:= "",byteOffset:=24 },{ name:= "GCData",type:=128,offset:=8,embedded:=false,tag:= "",pkgPath:= "",byteOffset:=32 },{ name:= "Str",type:=187,offset:=9,embedded:=false,tag:= "",pkgPath:= "",byteOffset:=40 },{ name:= "PtrToThis",type:=188,offset:=10,embedded:=false,tag:= "",pkgPath:= "",byteOffset:=44 }]),11,48,.agg #[.int .u64 0,.int .u64 0,.int .u32 0,.int .u8 0,.int .u8 0,.int .u8 0,.int .u8 0,.nilFunc,.pointer none,.int .i32 0,.int .i32 0]⟩
def td190:TD:=⟨(TypeDesc.struct #[{ name:= "Size_",type:=12,offset:=0,embedded:=false,tag:= "",pkgPath:= "",byteOffset:=0 },{ name:= "PtrBytes",type:=12,offset:=1,embedded:=false,tag:= "",pkgPath:= "",byteOffset:=8 },{ name:= "Hash",type:=147,offset:=2,embedded:=false,tag:= "",pkgPath:= "",byteOffset:=16 },{ name:= "TFlag",type:=184,offset:=3,embedded:=false,tag:= "",pkgPath:= "",byteOffset:=20 },{ name:= "Align_",type:=5,offset:=4,embedded:=false,tag:= "",pkgPath:= "",byteOffset:=21 },{ name:= "FieldAlign_",type:=5,offset:=5,embedded:=false,tag:= "",pkgPath:= "",byteOffset:=22 },{ name:= "Kind_",type:=185,offset:=6,embedded:=false,tag:= "",pkgPath:= "",byteOffset:=23 },{ name:= "Equal",type:=186,offset:=7,embedded:=false,tag:= "",pkgPath:= "",byteOffset:=24 },{ name:= "GCData",type:=128,offset:=8,embedded:=false,tag:= "",pkgPath:= "",byteOffset:=32 },{ name:= "Str",type:=187,offset:=9,embedded:=false,tag:= "",pkgPath:= "",byteOffset:=40 },{ name:= "PtrToThis",type:=188,offset:=10,embedded:=false,tag:= "",pkgPath:= "",byteOffset:=44 }]),11,48,.agg #[.int .u64 0,.int .u64 0,.int .u32 0,.int .u8 0,.int .u8 0,.int .u8 0,.int .u8 0,.nilFunc,.pointer none,.int .i32 0,.int .i32 0]⟩
inductive TT where
  | leaf
  | node (k:Nat) (v:TD) (l r:TT)
def qwo:TT→TypeId→Option TD
  | .leaf,_=>none
  | .node k v l r,t=>bif Nat.beq t k then some v else bif Nat.ble t k then qwo l t else qwo r t
def allT:TT→Prop
  | .leaf=>True
  | .node k v l r=>TiOk k v∧allT l∧allT r
theorem qse:∀ {x:TT},allT x→qfl prog (qwo x)
  | .leaf,_=>fun t td h=>by cases h
  | .node k v l r,h=>fun t td ht=>by
    unfold qwo at ht
    cases hk:Nat.beq t k with
    | true =>
      rw [hk] at ht
      simp only [cond_true,Option.some.injEq] at ht
      subst ht
      rw [Nat.eq_of_beq_eq_true hk]
      have h1:=h.1
      unfold TiOk at h1
      exact h1
    | false =>
      rw [hk] at ht
      cases hl:Nat.ble t k with
      | true=>rw [hl] at ht;exact qse h.2.1 t td ht
      | false=>rw [hl] at ht;exact qse h.2.2 t td ht
def tabT:TT:=(.node 66 td66 (.node 29 td29 (.node 14 td14 (.node 7 td7 (.node 4 td4 (.node 2 td2 (.node 1 td1 .leaf .leaf) (.node 3 td3 .leaf .leaf)) (.node 6 td6 (.node 5 td5 .leaf .leaf) .leaf)) (.node 11 td11 (.node 9 td9 (.node 8 td8 .leaf .leaf) (.node 10 td10 .leaf .leaf)) (.node 13 td13 (.node 12 td12 .leaf .leaf) .leaf))) (.node 22 td22 (.node 18 td18 (.node 16 td16 (.node 15 td15 .leaf .leaf) (.node 17 td17 .leaf .leaf)) (.node 21 td21 (.node 19 td19 .leaf .leaf) .leaf)) (.node 26 td26 (.node 24 td24 (.node 23 td23 .leaf .leaf) (.node 25 td25 .leaf .leaf)) (.node 28 td28 (.node 27 td27 .leaf .leaf) .leaf)))) (.node 46 td46 (.node 36 td36 (.node 33 td33 (.node 31 td31 (.node 30 td30 .leaf .leaf) (.node 32 td32 .leaf .leaf)) (.node 35 td35 (.node 34 td34 .leaf .leaf) .leaf)) (.node 43 td43 (.node 40 td40 (.node 38 td38 .leaf .leaf) (.node 41 td41 .leaf .leaf)) (.node 45 td45 (.node 44 td44 .leaf .leaf) .leaf))) (.node 55 td55 (.node 52 td52 (.node 49 td49 (.node 47 td47 .leaf .leaf) (.node 51 td51 .leaf .leaf)) (.node 54 td54 (.node 53 td53 .leaf .leaf) .leaf)) (.node 61 td61 (.node 57 td57 (.node 56 td56 .leaf .leaf) (.node 60 td60 .leaf .leaf)) (.node 64 td64 (.node 62 td62 .leaf .leaf) .leaf))))) (.node 111 td111 (.node 83 td83 (.node 73 td73 (.node 70 td70 (.node 68 td68 (.node 67 td67 .leaf .leaf) (.node 69 td69 .leaf .leaf)) (.node 72 td72 (.node 71 td71 .leaf .leaf) .leaf)) (.node 79 td79 (.node 76 td76 (.node 75 td75 .leaf .leaf) (.node 78 td78 .leaf .leaf)) (.node 82 td82 (.node 81 td81 .leaf .leaf) .leaf))) (.node 98 td98 (.node 89 td89 (.node 85 td85 (.node 84 td84 .leaf .leaf) (.node 87 td87 .leaf .leaf)) (.node 95 td95 (.node 90 td90 .leaf .leaf) .leaf)) (.node 106 td106 (.node 104 td104 (.node 101 td101 .leaf .leaf) (.node 105 td105 .leaf .leaf)) (.node 108 td108 (.node 107 td107 .leaf .leaf) .leaf)))) (.node 162 td162 (.node 131 td131 (.node 125 td125 (.node 117 td117 (.node 115 td115 .leaf .leaf) (.node 124 td124 .leaf .leaf)) (.node 130 td130 (.node 128 td128 .leaf .leaf) .leaf)) (.node 154 td154 (.node 147 td147 (.node 139 td139 .leaf .leaf) (.node 151 td151 .leaf .leaf)) (.node 157 td157 (.node 155 td155 .leaf .leaf) .leaf))) (.node 184 td184 (.node 173 td173 (.node 169 td169 (.node 165 td165 .leaf .leaf) (.node 171 td171 .leaf .leaf)) (.node 179 td179 (.node 178 td178 .leaf .leaf) .leaf)) (.node 188 td188 (.node 186 td186 (.node 185 td185 .leaf .leaf) (.node 187 td187 .leaf .leaf)) (.node 190 td190 (.node 189 td189 .leaf .leaf) .leaf))))))
abbrev tab:Tab:=qwo tabT
theorem hτ:qfl prog tab:=qse (show allT tabT from ⟨tiOk underlying66 ti66,⟨tiOk underlying29 ti29,⟨tiOk underlying14 ti14,⟨tiOk underlying7 ti7,⟨tiOk underlying4 ti4,⟨tiOk underlying2 ti2,⟨tiOk underlying1 ti1,trivial,trivial⟩,⟨tiOk underlying3 ti3,trivial,trivial⟩⟩,⟨tiOk underlying6 ti6,⟨tiOk underlying5 ti5,trivial,trivial⟩,trivial⟩⟩,⟨tiOk underlying11 ti11,⟨tiOk underlying9 ti9,⟨tiOk underlying8 ti8,trivial,trivial⟩,⟨tiOk underlying10 ti10,trivial,trivial⟩⟩,⟨tiOk underlying13 ti13,⟨tiOk underlying12 ti12,trivial,trivial⟩,trivial⟩⟩⟩,⟨tiOk underlying22 ti22,⟨tiOk underlying18 ti18,⟨tiOk underlying16 ti16,⟨tiOk underlying15 ti15,trivial,trivial⟩,⟨tiOk underlying17 ti17,trivial,trivial⟩⟩,⟨tiOk underlying21 ti21,⟨tiOk underlying19 ti19,trivial,trivial⟩,trivial⟩⟩,⟨tiOk underlying26 ti26,⟨tiOk underlying24 ti24,⟨tiOk underlying23 ti23,trivial,trivial⟩,⟨tiOk underlying25 ti25,trivial,trivial⟩⟩,⟨tiOk underlying28 ti28,⟨tiOk underlying27 ti27,trivial,trivial⟩,trivial⟩⟩⟩⟩,⟨tiOk underlying46 ti46,⟨tiOk underlying36 ti36,⟨tiOk underlying33 ti33,⟨tiOk underlying31 ti31,⟨tiOk underlying30 ti30,trivial,trivial⟩,⟨tiOk underlying32 ti32,trivial,trivial⟩⟩,⟨tiOk underlying35 ti35,⟨tiOk underlying34 ti34,trivial,trivial⟩,trivial⟩⟩,⟨tiOk underlying43 ti43,⟨tiOk underlying40 ti40,⟨tiOk underlying38 ti38,trivial,trivial⟩,⟨tiOk underlying41 ti41,trivial,trivial⟩⟩,⟨tiOk underlying45 ti45,⟨tiOk underlying44 ti44,trivial,trivial⟩,trivial⟩⟩⟩,⟨tiOk underlying55 ti55,⟨tiOk underlying52 ti52,⟨tiOk underlying49 ti49,⟨tiOk underlying47 ti47,trivial,trivial⟩,⟨tiOk underlying51 ti51,trivial,trivial⟩⟩,⟨tiOk underlying54 ti54,⟨tiOk underlying53 ti53,trivial,trivial⟩,trivial⟩⟩,⟨tiOk underlying61 ti61,⟨tiOk underlying57 ti57,⟨tiOk underlying56 ti56,trivial,trivial⟩,⟨tiOk underlying60 ti60,trivial,trivial⟩⟩,⟨tiOk underlying64 ti64,⟨tiOk underlying62 ti62,trivial,trivial⟩,trivial⟩⟩⟩⟩⟩,⟨tiOk underlying111 ti111,⟨tiOk underlying83 ti83,⟨tiOk underlying73 ti73,⟨tiOk underlying70 ti70,⟨tiOk underlying68 ti68,⟨tiOk underlying67 ti67,trivial,trivial⟩,⟨tiOk underlying69 ti69,trivial,trivial⟩⟩,⟨tiOk underlying72 ti72,⟨tiOk underlying71 ti71,trivial,trivial⟩,trivial⟩⟩,⟨tiOk underlying79 ti79,⟨tiOk underlying76 ti76,⟨tiOk underlying75 ti75,trivial,trivial⟩,⟨tiOk underlying78 ti78,trivial,trivial⟩⟩,⟨tiOk underlying82 ti82,⟨tiOk underlying81 ti81,trivial,trivial⟩,trivial⟩⟩⟩,⟨tiOk underlying98 ti98,⟨tiOk underlying89 ti89,⟨tiOk underlying85 ti85,⟨tiOk underlying84 ti84,trivial,trivial⟩,⟨tiOk underlying87 ti87,trivial,trivial⟩⟩,⟨tiOk underlying95 ti95,⟨tiOk underlying90 ti90,trivial,trivial⟩,trivial⟩⟩,⟨tiOk underlying106 ti106,⟨tiOk underlying104 ti104,⟨tiOk underlying101 ti101,trivial,trivial⟩,⟨tiOk underlying105 ti105,trivial,trivial⟩⟩,⟨tiOk underlying108 ti108,⟨tiOk underlying107 ti107,trivial,trivial⟩,trivial⟩⟩⟩⟩,⟨tiOk underlying162 ti162,⟨tiOk underlying131 ti131,⟨tiOk underlying125 ti125,⟨tiOk underlying117 ti117,⟨tiOk underlying115 ti115,trivial,trivial⟩,⟨tiOk underlying124 ti124,trivial,trivial⟩⟩,⟨tiOk underlying130 ti130,⟨tiOk underlying128 ti128,trivial,trivial⟩,trivial⟩⟩,⟨tiOk underlying154 ti154,⟨tiOk underlying147 ti147,⟨tiOk underlying139 ti139,trivial,trivial⟩,⟨tiOk underlying151 ti151,trivial,trivial⟩⟩,⟨tiOk underlying157 ti157,⟨tiOk underlying155 ti155,trivial,trivial⟩,trivial⟩⟩⟩,⟨tiOk underlying184 ti184,⟨tiOk underlying173 ti173,⟨tiOk underlying169 ti169,⟨tiOk underlying165 ti165,trivial,trivial⟩,⟨tiOk underlying171 ti171,trivial,trivial⟩⟩,⟨tiOk underlying179 ti179,⟨tiOk underlying178 ti178,trivial,trivial⟩,trivial⟩⟩,⟨tiOk underlying188 ti188,⟨tiOk underlying186 ti186,⟨tiOk underlying185 ti185,trivial,trivial⟩,⟨tiOk underlying187 ti187,trivial,trivial⟩⟩,⟨tiOk underlying190 ti190,⟨tiOk underlying189 ti189,trivial,trivial⟩,trivial⟩⟩⟩⟩⟩⟩)
theorem mixed:prog.follows .mixedOrders = true:=by kernel_rfl
end Go.Proofs.YtiegopnofbgoaaaGreat.AWN

namespace Go.Proofs.YtiegopnofbgoaaaGreat.AWN
open Go
/-! ### Partial values -/
theorem bnd_some {α β:Type} {o:Option α} {f:α→Option β} {r:β} (h:o.bind f = some r):∃ a,o = some a∧f a = some r:=by
  cases o with
  | none=>cases h
  | some a=>exact ⟨a,rfl,h⟩
theorem qag {α β:Type} {o:Option α} {f:α→Option β} {r:β} {C:Prop} (h:o.bind f = some r) (k:∀ a,o = some a→f a = some r→C):C :=
  have ⟨a,h1,h2⟩:=bnd_some h
  k a h1 h2
def grd {α:Type} (p:Prop) [Decidable p] (x:Option α):Option α:=if p then x else none
theorem qvb {α:Type} {p:Prop} [Decidable p] {x:Option α} {r:α} (h:grd p x = some r):p∧x = some r:=by
  unfold grd at h
  split at h
  · rename_i hp;exact ⟨hp,h⟩
  · cases h
theorem qcr {α:Type} {p:Prop} [Decidable p] {x:Option α} {r:α} {C:Prop} (h:grd p x = some r) (k:p→x = some r→C):C:=k (qvb h).1 (qvb h).2
def getI {α:Type} (l:List α) (i:Int):Option α:=if 0 ≤ i then l[i.toNat]? else none
theorem qcw {α:Type} {l:List α} {i:Int} {x:α} (h:getI l i = some x):0 ≤ i∧l[i.toNat]? = some x:=by
  unfold getI at h
  split at h
  · rename_i hp;exact ⟨hp,h⟩
  · cases h
theorem if_t {α:Type} {p:Prop} [Decidable p] {x y:Option α} {r:α} (h:(if p then x else y) = some r) (hc:decide p = true):x = some r:=by
  rw [if_pos (of_decide_eq_true hc)] at h;exact h
theorem if_f {α:Type} {p:Prop} [Decidable p] {x y:Option α} {r:α} (h:(if p then x else y) = some r) (hc:decide p = false):y = some r:=by
  rw [if_neg (of_decide_eq_false hc)] at h;exact h
theorem qcv {α:Type} {b:Bool} {x y:Option α} {r:α} (h:(if b = true then x else y) = some r) (hc:b = true):x = some r:=by
  rw [if_pos hc] at h;exact h
theorem qcu {α:Type} {b:Bool} {x y:Option α} {r:α} (h:(if b = true then x else y) = some r) (hc:b = false):y = some r:=by
  rw [if_neg (by rw [hc];decide)] at h;exact h
theorem qi4 {b:Bool} (h:(!b) = true):b = false:=by cases b <;> simp_all
theorem qi3 {b:Bool} (h:(!b) = false):b = true:=by cases b <;> simp_all
def room (n b:Nat):Prop:=n * b ≤ 140737488355328
instance (n b:Nat):Decidable (room n b):=by unfold room;infer_instance
abbrev w64 (n:Int):Int:=IntKind.wrap .i64 n
structure Cx where
  re:Nat
  im:Nat
deriving DecidableEq
abbrev Str:=List UInt8
def bstr (s:Str):ByteArray:=⟨s.toArray⟩
/-! ### Lists of cells -/
section
variable {α:Type} {f:α→List D}
theorem map_get {l:List α} {k:Nat} {x:α} (h:l[k]? = some x):(l.map f)[k]? = some (f x):=by simp [h]
theorem qe7 {l:List α} {i:Int} {x:α} (h:getI l i = some x):(l.map f)[i.toNat]? = some (f x):=map_get (qcw h).2
theorem qco (l:List α):(l.map f).length = l.length:=List.length_map ..
theorem qnh {l:List α} {i:Int} {x:α} (h:getI l i = some x):(l.map f)[0 + i.toNat]? = some (f x):=by rw [Nat.zero_add];exact qe7 h
theorem qlt {l:List α} {i:Int} {x:α} (h:getI l i = some x):0 ≤ i∧i < (l.length:Int)∧0 + l.length ≤ l.length∧(l.map f).length = l.length:=by
  obtain ⟨h1,h2⟩:=qcw h
  have h3:i.toNat < l.length:=by
    rcases Nat.lt_or_ge i.toNat l.length with h4 | h4
    · exact h4
    · rw [List.getElem?_eq_none h4] at h2;cases h2
  refine ⟨h1,by omega,by omega,qco l⟩
theorem qon {sz:Nat} (hf:∀ x,(f x).length = sz) (l:List α):∀ y ∈ l.map f,y.length = sz:=by
  intro y hy
  obtain ⟨x,_,rfl⟩:=List.mem_map.1 hy
  exact hf x
theorem qx3 {L:Nat} (l:List α) (h:l.length = L):((l.map f).drop 0).take L = l.map f:=by
  subst h;simp [List.take_of_length_le]
end
theorem qc9 {α β:Type} {f:α→Option β}:mapO f [] = some []:=rfl
theorem qak {α β:Type} {f:α→Option β} {x:α} {l:List α} {y:β} {r:List β} (h:f x = some y) (h':mapO f l = some r):mapO f (x :: l) = some (y :: r):=by
  unfold mapO;rw [h,h']
section
variable {ρ:Nat→Option Nat} {H:Nat→AObj} {α:Type} {f:α→List D}
theorem qbx {j sz L:Nat} (l:List α) (hr:ρ j = none) (hj:H j = .row sz (l.map f)) (hL:L = l.length):exC ρ H true (.row j L 0 L) = some (.d (.sl false (l.map f))):=by
  subst hL
  simp only [exC,hr,hj]
  rw [qx3 l rfl]
theorem qm8 {j sz L:Nat} (l:List α) (hr:ρ j = none) (hj:H j = .row sz (l.map f)) (hL:L = l.length):exV ρ H true (.row j L 0 L) = some (.d (.sl false (l.map f))):=qbx l hr hj hL
theorem qby {j sz L:Nat} (l:List α) (hr:ρ j = none) (hj:H j = .row sz (l.map f)) (hL:L = l.length):exP ρ H (.row j L 0 L):=by
  subst hL
  simp [exP,hr,hj]
theorem qld {j sz L:Nat} (l:List α) (hr:ρ j = none) (hj:H j = .row sz (l.map f)) (hL:L = l.length):exVP ρ H (.row j L 0 L):=qby l hr hj hL
theorem exA_agg {cs ds:List V} (h:mapO (exC ρ H true) cs = some ds):exA ρ H true (.agg cs) = some (.agg ds):=by simp only [exA,h]
theorem qke {cs ds:List V} (h:mapO (exC ρ H true) cs = some ds):exV ρ H true (.agg cs) = some (.agg ds):=exA_agg h
theorem qqa {cs ds:List V} (h:mapO (exC ρ H true) cs = some ds):exO ρ H true (.box cs) = some (.box ds):=by simp only [exO,h]
end
/-! ### Relaxed states -/
inductive DLe:D→D→Prop where
  | refl (x:D):DLe x x
  | nil:DLe .nils (.sl false [])
  | flag (t:Bool) (es:List (List D)):DLe (.sl t es) (.sl false es)
theorem RelD.le {W:World} {ok:Nat→Prop} {x y:D} {v:Value} (h:DLe x y) (hr:RelD W ok x v):RelD W ok y v:=by
  cases h with
  | refl=>exact hr
  | nil=>cases hr;exact .slnil false
  | flag t es =>
    cases hr with
    | slnil=>exact .slnil false
    | sle t a=>exact .sle false a
    | sl sz vals h1 h2 h3 h4 h5 h6 h7 h8=>exact .sl sz vals h1 h2 h3 (fun h=>nomatch h) h5 h6 h7 h8
inductive CLe (g:Nat→Prop):V→V→Prop where
  | refl (x:V):CLe g x x
  | d {x y:D}:DLe x y→CLe g (.d x) (.d y)
  | ghost {j:Nat}:g j→CLe g (.d .nils) (.row j 0 0 0)
  | junk (x:V):CLe g x .junk
inductive LLe (g:Nat→Prop):List V→List V→Prop where
  | nil:LLe g [] []
  | cons {x y:V} {l r:List V}:CLe g x y→LLe g l r→LLe g (x :: l) (y :: r)
inductive VLe (g:Nat→Prop):V→V→Prop where
  | c {x y:V}:CLe g x y→VLe g x y
  | agg {l r:List V}:LLe g l r→VLe g (.agg l) (.agg r)
inductive OLe (g:Nat→Prop):AObj→AObj→Prop where
  | refl (o:AObj):OLe g o o
  | box {l r:List V}:LLe g l r→OLe g (.box l) (.box r)
inductive ELe (g:Nat→Prop):List (Nat × V)→List (Nat × V)→Prop where
  | nil:ELe g [] []
  | cons {t:Nat} {x y:V} {l r:List (Nat × V)}:VLe g x y→ELe g l r→ELe g ((t,x) :: l) ((t,y) :: r)
inductive HLe (g:Nat→Prop):List AObj→List AObj→Prop where
  | nil:HLe g [] []
  | cons {x y:AObj} {l r:List AObj}:OLe g x y→HLe g l r→HLe g (x :: l) (y :: r)
theorem LLe.len {g:Nat→Prop} {l r:List V} (h:LLe g l r):l.length = r.length:=by
  induction h with
  | nil=>rfl
  | cons _ _ ih=>simp [ih]
theorem HLe.len {g:Nat→Prop} {l r:List AObj} (h:HLe g l r):l.length = r.length:=by
  induction h with
  | nil=>rfl
  | cons _ _ ih=>simp [ih]
theorem LLe.get {g:Nat→Prop} {l r:List V} (h:LLe g l r):∀ i,CLe g (l.getD i .junk) (r.getD i .junk):=by
  induction h with
  | nil=>intro i;exact .refl _
  | cons h _ ih =>
    intro i
    cases i with
    | zero=>simpa using h
    | succ i=>simpa using ih i
theorem HLe.get {g:Nat→Prop} {l r:List AObj} (h:HLe g l r):∀ i,OLe g (l.getD i .none) (r.getD i .none):=by
  induction h with
  | nil=>intro i;exact .refl _
  | cons h _ ih =>
    intro i
    cases i with
    | zero=>simpa using h
    | succ i=>simpa using ih i
structure qt1 (g:Nat→Prop) (hb:Handle) (H:Nat→AObj):Prop where
  row:∀ j,g j→∃ sz,H j = .row sz []
  none:∀ j,g j→hb j = none
section
variable {W:World} {hb:Handle} {H:Nat→AObj} {ok:Nat→Prop} {g:Nat→Prop}
theorem qul (G:qt1 g hb H) {x y:V} {v:Value} (h:CLe g x y) (hr:Rel W hb H ok x v):Rel W hb H ok y v:=by
  cases h with
  | refl=>exact hr
  | d h=>cases hr with | d hr=>exact .d (hr.le h)
  | ghost h =>
    cases hr with
    | d hr =>
      cases hr
      obtain ⟨sz,e⟩:=G.row _ h
      exact .rowNil e (G.none _ h)
  | junk=>exact .junk _
theorem qx0 (G:qt1 g hb H) {cs ds:List V} {c:Array Value} (h:LLe g cs ds) (hr:cs.length = c.size∧∀ i,i < c.size→Rel W hb H ok (cs.getD i .junk) (c.getD i undef)):ds.length = c.size∧∀ i,i < c.size→Rel W hb H ok (ds.getD i .junk) (c.getD i undef) :=
  ⟨h.len ▸ hr.1,fun i hi=>qul G (h.get i) (hr.2 i hi)⟩
theorem qx1 (G:qt1 g hb H) {x y:V} {v:Value} (h:VLe g x y) (hr:Rel W hb H ok x v):Rel W hb H ok y v:=by
  cases h with
  | c h=>exact qul G h hr
  | agg h=>cases hr with | agg h1 h2=>exact .agg (qx0 G h ⟨h1,h2⟩).1 (qx0 G h ⟨h1,h2⟩).2
theorem rel_ele (G:qt1 g hb H) {a:Act}:∀ {l r:List (Nat × V)},ELe g l r→(∀ t,Rel W hb H ok (look l t) (a.tmps.getD t undef))→∀ t,Rel W hb H ok (look r t) (a.tmps.getD t undef):=by
  intro l r h
  induction h with
  | nil=>exact fun h=>h
  | @cons k x y l r hv _ ih =>
    intro hr t
    have hk:=hr t
    unfold look at hk ⊢
    cases hb':Nat.beq k t with
    | true=>rw [hb'] at hk;exact qx1 G hv hk
    | false =>
      rw [hb'] at hk
      -- look in the rest
      have:∀ u,Rel W hb H ok (if Nat.beq k u then .junk else look l u) (a.tmps.getD u undef):=fun u=>by
        have:=hr u
        unfold look at this
        cases hu:Nat.beq k u with
        | true=>simp only [if_true];exact .junk _
        | false=>rw [hu] at this;simpa using this
      clear ih hr
      have go:∀ {l r:List (Nat × V)},ELe g l r→∀ u,Rel W hb H ok (look l u) (a.tmps.getD u undef)→Rel W hb H ok (look r u) (a.tmps.getD u undef):=by
        intro l r h
        induction h with
        | nil=>exact fun _ h=>h
        | @cons k x y l r hv _ ih =>
          intro u hu
          unfold look at hu ⊢
          cases hb2:Nat.beq k u with
          | true=>rw [hb2] at hu;exact qx1 G hv hu
          | false=>rw [hb2] at hu;exact ih u hu
      rename_i hl
      exact go hl t hk
end
end Go.Proofs.YtiegopnofbgoaaaGreat.AWN

namespace Go.Proofs.YtiegopnofbgoaaaGreat.AWN
open Go
theorem qqe {objs:List AObj} {j:Nat} (h:objs.length ≤ j):qb3 objs j = .none:=by
  unfold qb3;rw [List.getD_eq_getElem?_getD,List.getElem?_eq_none h];rfl
theorem heapOf_l {a b:List AObj} {j:Nat} (h:j < a.length):qb3 (a ++ b) j = qb3 a j:=by
  unfold qb3;rw [List.getD_eq_getElem?_getD,List.getD_eq_getElem?_getD,List.getElem?_append_left h]
theorem qvc {a b:List AObj} {j:Nat} (h:a.length ≤ j):qb3 (a ++ b) j = qb3 b (j - a.length):=by
  unfold qb3;rw [List.getD_eq_getElem?_getD,List.getD_eq_getElem?_getD,List.getElem?_append_right h]
def qjd (gs:List Nat):List AObj:=gs.map fun sz=>.row sz []
theorem qe3 (gs:List Nat) {l l':List (Nat × V)} {objs objs':List AObj} {nt base:Nat} (hE:ELe (fun j=>objs.length ≤ j∧j < objs.length + gs.length) l l') (hH:HLe (fun j=>objs.length ≤ j∧j < objs.length + gs.length) objs objs') :
    Weak (St.of l objs nt base) (St.of l' (objs' ++ qjd gs) nt base):=by
  intro w0 A okA hb a W hs
  have hlen:=hH.len
  let g:Nat→Prop:=fun j=>objs.length ≤ j∧j < objs.length + gs.length
  let hb2:Handle:=fun j=>if j < objs.length then hb j else none
  have hbl:∀ j,j < objs.length→hb2 j = hb j:=fun j hj=>by show (if _ then _ else _) = _;rw [if_pos hj]
  have hbg:∀ j,objs.length ≤ j→hb2 j = none:=fun j hj=>by show (if _ then _ else _) = _;rw [if_neg (by omega)]
  have hh:=hs.heap
  have e1:(St.of l objs nt base).heap = qb3 objs:=rfl
  have e2:(St.of l objs nt base).next = objs.length:=rfl
  rw [e1,e2] at hh
  have hnone:∀ j,objs.length ≤ j→qb3 objs j = .none:=fun j hj=>qqe hj
  have H2l:∀ j,j < objs.length→qb3 (objs' ++ qjd gs) j = qb3 objs' j:=fun j hj=>heapOf_l (by omega)
  have H2g:∀ j,objs.length ≤ j→(g j∧∃ sz,qb3 (objs' ++ qjd gs) j = .row sz []) ∨ qb3 (objs' ++ qjd gs) j = .none:=by
    intro j hj
    rw [qvc (by omega)]
    by_cases hlt:j - objs'.length < gs.length
    · left
      refine ⟨⟨hj,by omega⟩,gs[j - objs'.length],?_⟩
      unfold qb3 qjd
      simp [hlt]
    · right;exact qqe (by simp [qjd];omega)
  have ole:∀ j,OLe g (qb3 objs j) (qb3 objs' j):=fun j=>hH.get j
  have good:∀ b,okF w0 okA hb (qb3 objs) W b→okF w0 okA hb2 (qb3 (objs' ++ qjd gs)) W b:=by
    intro b ⟨h1,h2,h3⟩
    refine ⟨h1,h2,fun j hj=>?_⟩
    by_cases hjl:j < objs.length
    · rw [hbl j hjl]
      refine h3 j fun hn=>hj ?_
      rw [H2l j hjl]
      have:=ole j
      rw [hn] at this
      cases h:qb3 objs' j with
      | none=>rfl
      | _=>rw [h] at this;cases this
    · rw [hbg j (by omega)];exact fun h=>nomatch h
  have mv:qgt W W hb hb2 (qb3 objs) (qb3 (objs' ++ qjd gs)) (okF w0 okA hb (qb3 objs) W) (okF w0 okA hb2 (qb3 (objs' ++ qjd gs)) W) :=
    { good:=good,cell:=fun b o v _ h=>h,
      box:=fun j cs hj=>by
        have hjl:j < objs.length:=by
          rcases Nat.lt_or_ge j objs.length with h | h
          · exact h
          · rw [hnone j h] at hj;cases hj
        have:=ole j
        rw [hj] at this
        rw [H2l j hjl,hbl j hjl]
        cases h:qb3 objs' j with
        | box cs'=>exact ⟨cs',rfl,rfl⟩
        | none=>rw [h] at this;cases this
        | row sz es=>rw [h] at this;cases this
        | map kk es=>rw [h] at this;cases this
      row:=fun j sz es hj=>by
        have hjl:j < objs.length:=by
          rcases Nat.lt_or_ge j objs.length with h | h
          · exact h
          · rw [hnone j h] at hj;cases hj
        have:=ole j
        rw [hj] at this
        rw [H2l j hjl,hbl j hjl]
        generalize qb3 objs' j = z at *
        cases this
        exact ⟨es,rfl,Nat.le_refl _,fun _=>⟨rfl,fun _ _ _ h=>h⟩⟩
      map:=fun j kk es hj=>by
        have hjl:j < objs.length:=by
          rcases Nat.lt_or_ge j objs.length with h | h
          · exact h
          · rw [hnone j h] at hj;cases hj
        have:=ole j
        rw [hj] at this
        rw [H2l j hjl,hbl j hjl]
        generalize qb3 objs' j = z at *
        cases this
        exact ⟨es,rfl,rfl⟩ }
  have G:qt1 g hb2 (qb3 (objs' ++ qjd gs)) :=
    ⟨fun j hj=>by
      rcases H2g j hj.1 with h | h
      · exact h.2
      · exfalso
        rw [qvc (by have:=hj.1;omega)] at h
        unfold qb3 qjd at h
        have h1:=hj.1
        have h2:=hj.2
        have hlt:j - objs'.length < gs.length:=by omega
        simp [hlt] at h,fun j hj=>hbg j hj.1⟩
  refine ⟨hb2,hs.defers,hs.size,?_,?_,hs.base⟩
  · exact rel_ele G hE (fun t=>(hs.env t).mono mv)
  · refine { obj:=?_,inj:=?_,hnd:=?_,fresh:=?_,ext:=hh.ext,keep:=hh.keep.trans mv.toMovesR,lay:=hh.lay }
    · intro j
      by_cases hjl:j < objs.length
      · have hj:=hh.obj j
        unfold qh5 at hj ⊢
        show match qb3 (objs' ++ qjd gs) j with
          | .none=>True
          | .box cs=>_
          | .row sz es=>_
          | .map k es=>_
        rw [H2l j hjl]
        have ho:=ole j
        generalize qb3 objs' j = z at *
        cases hz:qb3 objs j with
        | none=>rw [hz] at ho;cases ho;trivial
        | row sz es =>
          rw [hz] at ho hj
          cases ho
          simp only at hj ⊢
          obtain ⟨h0,hj⟩:=hj
          refine ⟨h0,?_⟩
          rcases hj with ⟨e1,e2⟩ | ⟨b,vals,T,fr,h1,h2,h3,h4,h5⟩
          · exact .inl ⟨e1,by rw [hbl j hjl];exact e2⟩
          · exact .inr ⟨b,vals,T,fr,by rw [hbl j hjl];exact h1,h2,h3,h4,fun i c hi hc=>(h5 i c hi hc).mono mv.toMoves⟩
        | map kk es =>
          rw [hz] at ho hj
          cases ho
          simp only at hj ⊢
          obtain ⟨b,ents,cl,h1,h2,h3,h4⟩:=hj
          exact ⟨b,ents,cl,by rw [hbl j hjl];exact h1,h2,h3,fun i e x he hx=>⟨(h4 i e x he hx).1,(h4 i e x he hx).2.mono mv.toMoves⟩⟩
        | box cs =>
          rw [hz] at ho hj
          simp only at hj
          obtain ⟨b,vals,T,fr,h1,h2,h3,h4,h5,h6⟩:=hj
          have key:∀ ds,LLe g cs ds→qxy W hb2 (qb3 (objs' ++ qjd gs)) (okF w0 okA hb2 (qb3 (objs' ++ qjd gs)) W) j ds:=fun ds hd =>
            ⟨b,vals,T,fr,by rw [hbl j hjl];exact h1,h2,by rw [h3,hd.len],h4,h5,fun i hi=>qul G (hd.get i) ((h6 i hi).mono mv)⟩
          cases ho with
          | refl =>
            have rfl':∀ cs:List V,LLe g cs cs:=fun cs=>by
              induction cs with
              | nil=>exact .nil
              | cons x r ih=>exact .cons (.refl x) ih
            exact key _ (rfl' _)
          | box hl=>exact key _ hl
      · unfold qh5
        show match qb3 (objs' ++ qjd gs) j with
          | .none=>True
          | .box cs=>_
          | .row sz es=>_
          | .map k es=>_
        rcases H2g j (by omega) with ⟨_,sz,h⟩ | h
        · rw [h];exact ⟨fun e he=>(nomatch he),.inl ⟨rfl,hbg j (by omega)⟩⟩
        · rw [h];trivial
    · intro i j b hi hj hbi hbj
      have hil:i < objs.length:=by
        rcases Nat.lt_or_ge i objs.length with h | h
        · exact h
        · rw [hbg i h] at hbi;cases hbi
      have hjl:j < objs.length:=by
        rcases Nat.lt_or_ge j objs.length with h | h
        · exact h
        · rw [hbg j h] at hbj;cases hbj
      have nn:∀ i,i < objs.length→(St.of l' (objs' ++ qjd gs) nt base).heap i ≠ .none→qb3 objs i ≠ .none:=by
        intro i hil hi hn
        apply hi
        show qb3 (objs' ++ qjd gs) i = .none
        rw [H2l i hil]
        have:=ole i
        rw [hn] at this
        generalize qb3 objs' i = z at *
        cases this;rfl
      rw [hbl i hil] at hbi
      rw [hbl j hjl] at hbj
      exact hh.inj i j b (nn i hil hi) (nn j hjl hj) hbi hbj
    · intro j b hj hbj
      have hjl:j < objs.length:=by
        rcases Nat.lt_or_ge j objs.length with h | h
        · exact h
        · rw [hbg j h] at hbj;cases hbj
      rw [hbl j hjl] at hbj
      refine hh.hnd j b (fun hn=>hj ?_) hbj
      show qb3 (objs' ++ qjd gs) j = .none
      rw [H2l j hjl]
      have:=ole j
      rw [hn] at this
      generalize qb3 objs' j = z at *
      cases this;rfl
    · intro j hj
      exact qqe hj
end Go.Proofs.YtiegopnofbgoaaaGreat.AWN

namespace Go.Proofs.YtiegopnofbgoaaaGreat.AWN
open Go
section
variable {P:Program} {σ:St} {Q:Exit→St→Prop}
theorem qbn {ι:Type} {x y:Code} (inv:ι→St) (I:ι→Prop) (hk:∀ s,I s→AW P y (inv s) Q) (h:(∀ s,I s→AW P y (inv s) Q)→AW P (.seq x y) σ Q):AW P (.seq x y) σ Q:=h hk
end
/-! ### Calls with values that say less -/
/-! ### Flat results -/
theorem qct:∀ o ∈ ([]:List AObj),o.flat:=fun _ h=>nomatch h
theorem qbl {o:AObj} {l:List AObj} (h:o.flat) (h':∀ o ∈ l,o.flat):∀ p ∈ o :: l,p.flat:=fun p hp=>by
  rcases List.mem_cons.1 hp with rfl | hp
  · exact h
  · exact h' p hp
theorem qdy {α:Type} {f:α→List D} {sz:Nat} (hf:∀ x,∀ c ∈ f x,c.flat) (l:List α):(AObj.row sz (l.map f)).flat:=by
  intro e he c hc
  obtain ⟨x,_,rfl⟩:=List.mem_map.1 he
  exact hf x c hc
/-! ### Values written otherwise -/
section
variable {α:Type} {f:α→List D} {H:Nat→AObj} {n j sz:Nat} {p:Prop}
theorem or_append (l zs:List α) {ys:List (List D)} (hys:ys = zs.map f):OR.needH p (.row j (l.length + ys.length) 0 (l.length + ys.length)) (upd H j (.row sz (l.map f ++ ys))) n = OR.needH p (.row j (l ++ zs).length 0 (l ++ zs).length) (upd H j (.row sz ((l ++ zs).map f))) n:=by
  subst hys;simp
theorem qps {a b:Nat} {zs:List α} (h:room (a + zs.length) b):(a + (zs.map f).length) * b ≤ 140737488355328:=by rw [qco];exact h
theorem all1 {e:List D} (h:e.length = sz):∀ y ∈ [e],y.length = sz:=by
  intro y hy;rw [List.mem_singleton.1 hy];exact h
theorem qf1 (l:List α):OR.val (.d (.int .i64 ((l.map f).length:Int))) = OR.val (.d (.int .i64 (l.length:Int))):=by rw [qco]
theorem qog {s k:FloatKind} {x y:Nat} (h:qmu s k x = some y):(match qmu s k x with
    | some r=>OR.val (.d (.fl k r))
    | none=>OR.pick (fun r=>r < 2 ^ k.format.width) (fun r=>.d (.fl k (canon k r)))) = OR.val (.d (.fl k y)):=by rw [h]
theorem qim (x y:Int):OR.val (.d (.bool (x == y))) = OR.val (.d (.bool (decide (x = y)))):=rfl
theorem qop (x y:Int):OR.val (.d (.bool (x != y))) = OR.val (.d (.bool (!(decide (x = y))))):=rfl
end
section
variable {ρ:Nat→Option Nat} {H:Nat→AObj} {sn:Bool}
theorem exC_rowL {j i L L':Nat} (h:ρ j = some i) (hL:L = L'):exC ρ H sn (.row j L 0 L) = some (.row i L' 0 L'):=by
  subst hL;simp only [exC,h]
theorem exV_rowL {j i L L':Nat} (h:ρ j = some i) (hL:L = L'):exV ρ H sn (.row j L 0 L) = some (.row i L' 0 L'):=exC_rowL h hL
end
/-! ### Texts -/
theorem qjh (s:Str):(bstr s).size = s.length:=rfl
theorem qt8 (s:ByteArray):∀ (k i:Nat) (r:List UInt8),s.size - i = k→ByteArray.toList.loop s i r = r.reverse ++ s.data.toList.drop i
  | 0,i,r,h=>by
    have hs:s.data.toList.length = s.size:=by rw [Array.length_toList];rfl
    rw [ByteArray.toList.loop,if_neg (by omega),List.drop_eq_nil_of_le (by omega)];simp
  | k + 1,i,r,h=>by
    have hs:s.data.toList.length = s.size:=by rw [Array.length_toList];rfl
    have hi:i < s.data.toList.length:=by omega
    rw [ByteArray.toList.loop,if_pos (by omega),qt8 s k (i + 1) _ (by omega),List.drop_eq_getElem_cons hi]
    have:s.get! i = s.data.toList[i]:=by
      have h3:i < s.data.size:=by rw [← Array.length_toList];exact hi
      show s.data[i]! = _
      rw [getElem!_pos s.data i h3];simp
    rw [this];simp
theorem qq4 (s:Str):(bstr s).toList = s:=by
  unfold ByteArray.toList
  rw [qt8 _ _ 0 [] rfl]
  simp [bstr]
theorem qwx (x y:Str):OR.val (.d (.bool ((bstr x).toList == (bstr y).toList))) = OR.val (.d (.bool (decide (x = y)))):=by
  rw [qq4,qq4]
  congr 3
  by_cases h:x = y
  · subst h;simp
  · rw [decide_eq_false h];simp [h]
theorem qtt (x y:Str):OR.val (.d (.bool (!((bstr x).toList == (bstr y).toList)))) = OR.val (.d (.bool (!(decide (x = y))))):=by
  have:=qwx x y
  simp only [OR.val.injEq,V.d.injEq,D.bool.injEq] at this
  rw [this]
theorem qio (x y:Str):bstr x ++ bstr y = bstr (x ++ y):=by
  apply ByteArray.ext
  simp [bstr]
theorem qql {p:Prop} (x y:Str):OR.need p (.d (.str (bstr x ++ bstr y))) = OR.need p (.d (.str (bstr (x ++ y)))):=by rw [qio]
def sub {α:Type} (l:List α) (a b:Int):List α:=(l.drop a.toNat).take (b.toNat - a.toNat)
theorem bstr_sub (s:Str) (a b:Nat):(bstr s).extract a b = bstr ((s.drop a).take (b - a)):=by
  apply ByteArray.ext
  simp [bstr,ByteArray.data_extract]
theorem qm5 {p:Prop} (s:Str) (a b:Int):OR.need p (.d (.str ((bstr s).extract a.toNat b.toNat))) = OR.need p (.d (.str (bstr (sub s a b)))):=by rw [bstr_sub];rfl
theorem qr0 {s:Str} {i:Int} {c:UInt8} (h:getI s i = some c):0 ≤ i∧i < ((bstr s).size:Int):=by
  have:=qlt (f:=fun _=>[]) h
  exact ⟨this.1,this.2.1⟩
theorem qug {p:Prop} {s:Str} {i:Int} {c:UInt8} (h:getI s i = some c):OR.need p (.d (.int .u8 (bAt (bstr s) i.toNat))) = OR.need p (.d (.int .u8 (c.toNat:Int))):=by
  obtain ⟨h1,h2⟩:=qcw h
  have:bAt (bstr s) i.toNat = (c.toNat:Int):=by
    unfold bAt bstr
    have h3:s.toArray.getD i.toNat 0 = c:=by simp [Array.getD_eq_getD_getElem?,h2]
    rw [h3]
  rw [this]
/-! ### Parts of lists -/
section
variable {α:Type} {f:α→List D}
theorem map_sub (l:List α) (a b:Nat):((l.map f).drop a).take b = ((l.drop a).take b).map f:=by rw [List.map_take,List.map_drop]
theorem or_dsub {p:Prop} {t:Bool} (l:List α) (a b:Int):OR.need p (.d (.sl t (((l.map f).drop a.toNat).take (b.toNat - a.toNat)))) = OR.need p (.d (.sl t ((sub l a b).map f))):=by rw [map_sub];rfl
theorem dsub_need {sz:Nat} (hf:∀ x,(f x).length = sz) {l:List α} {a b:Int} (h:0 ≤ a∧a ≤ b∧b ≤ (l.length:Int)):0 ≤ a∧a ≤ b∧b ≤ ((l.map f).length:Int)∧∀ e ∈ l.map f,e.length = sz :=
  ⟨h.1,h.2.1,by rw [qco];exact h.2.2,qon hf l⟩
theorem set_val {H:Nat→AObj} {j sz:Nat} {l:List α} {i:Int} {y:α} {d:List D} (h:d = f y):(some (upd H j (.row sz ((l.map f).set (0 + i.toNat) d))):Option (Nat→AObj)) = some (upd H j (.row sz ((l.set i.toNat y).map f))):=by
  subst h;rw [Nat.zero_add,List.map_set]
theorem map_set {l:List α} {k:Nat} {y:α}:(l.map f).set k (f y) = (l.set k y).map f:=by rw [List.map_set]
end
end Go.Proofs.YtiegopnofbgoaaaGreat.AWN

namespace Go.Proofs.YtiegopnofbgoaaaGreat.AWN
open Go
def qo6 (P:Program) (k:FuncId) (args:List V) (v:V):Prop :=
  ∀ (W:World) (hb:Handle) (H:Nat→AObj) (ok:Nat→Prop) (vals:Array Value),RelL W hb H ok args vals→∃ cv W',(callFunc k vals).run P W = .ok (.value cv) W'∧qbd W W'∧Rel W hb H ok v cv
theorem qsd {P:Program} {k:FuncId} {fn:Func} {e:Array Value→Sem Value} {args:List V} {v:V} (hf:P.funcs[k]? = some fn) (hn:(fn.name == "runtime.NumGoroutine") = false) (hb:fn.body.isNone = true) (h1:Extern.findNext fn = none) (h2:Extern.find fn = some e)
    (h:∀ (W:World) (hb:Handle) (H:Nat→AObj) (ok:Nat→Prop) (vals:Array Value),RelL W hb H ok args vals→∃ cv W',(e vals).run P W = .ok cv W'∧qbd W W'∧Rel W hb H ok v cv):qo6 P k args v:=by
  intro W hb' H ok vals hr
  obtain ⟨cv,W',hc,hm,hv⟩:=h W hb' H ok vals hr
  refine ⟨cv,W',?_,hm,hv⟩
  simp only [callFunc,Sem.run_bind,run_program,Result.andThen_ok,hf,hn,hb,h1,h2,if_true,run_mark,Bool.false_eq_true,if_false,Sem.run_map,hc,Sem.run_pure]
section
variable {P:Program} {τ:Tab} {σ σ0:St} {ops:Array Oper} {rest:List Oper} {o:Oper} {Q:Exit→St→Prop} {id:List FR} {G:Prop} {rl:List Rec}
theorem ext_does (hτ:qfl P τ) {k:FuncId} {args:List V} {v:V} (h:qbp τ σ o.op = .call k args) (hx:qo6 P k args v) {w0:World} {A:Args} {okA:Nat→Prop} {hb:Handle} {a:Act} {W:World} (hs:Sim w0 A okA hb σ a W) :
    Does P o a W (fun cv W'=>qbd W W'∧RelS w0 okA hb σ.heap W v cv):=by
  have ho:=qh3 hτ hs o
  rw [h] at ho
  obtain ⟨vals,hrun,hrel⟩:=ho
  obtain ⟨cv,W',h1,h2,h3⟩:=hx W hb σ.heap _ vals hrel
  exact ⟨cv,W',.inl (by rw [hrun,h1]),h2,h3⟩
theorem qo7 (hτ:qfl P τ) {k:FuncId} {args:List V} {v:V} (hw:qcq ops σ o = some true) (hd:qhy σ o.dst = true) (h:qbp τ σ o.op = .call k args) (hx:qo6 P k args v) (hK:AWL P ops rest (σ.putO o.dst v) Q):AWL P ops (o :: rest) σ Q :=
  qin hw fun w0 A okA hb a W hs=>by
    obtain ⟨cv,W',hrun,s,hr⟩:=ext_does hτ h hx hs
    exact ⟨cv,W',hrun,hK w0 A okA hb _ W' (qih (hs.same s) (hr.same s) _ hd)⟩
end
/-! ### Words of floats -/
theorem qpq {W:World} {hb:Handle} {H:Nat→AObj} {ok:Nat→Prop} {x:V} {vals:Array Value} (h:RelL W hb H ok [x] vals):∃ v,vals = #[v]∧Rel W hb H ok x v:=by
  obtain ⟨h1,h2⟩:=h
  refine ⟨vals[0]'(by simp at h1;omega),?_,?_⟩
  · apply Array.ext
    · simp at h1 ⊢;omega
    · intro i hi hj
      simp at hj
      subst hj;rfl
  · have:=h2 0 (by simp at h1;omega)
    have h0:0 < vals.size:=by simp at h1;omega
    simpa [Array.getD_eq_getD_getElem?,h0] using this
theorem bits_run {P:Program} {k:FloatKind} {i:IntKind} {e:Array Value→Sem Value} (he:∀ b,e #[.float k b] = pure (.int i b)) {x:Nat} (hx:isnan k x = false) {W:World} {hb:Handle} {H:Nat→AObj} {ok:Nat→Prop} {vals:Array Value}
    (h:RelL W hb H ok [.d (.fl k x)] vals):∃ cv W',(e vals).run P W = .ok cv W'∧qbd W W'∧Rel W hb H ok (.d (.int i x)) cv:=by
  obtain ⟨v,rfl,hr⟩:=qpq h
  obtain ⟨b,rfl,h1,h2⟩:=qou hr
  refine ⟨.int i b,W,by rw [he];rfl,qbd.refl W,?_⟩
  have:isnan k b = false:=by rw [← qjl,h1];exact hx
  rw [qdx this] at h1
  subst h1;exact qg8 _ _
theorem qp9 {P:Program} {k:FloatKind} {i:IntKind} {e:Array Value→Sem Value} (he:∀ n:Int,e #[.int i n] = pure (.float k n.toNat)) {n:Int} (hn:n.toNat < 2 ^ k.format.width) {W:World} {hb:Handle} {H:Nat→AObj} {ok:Nat→Prop} {vals:Array Value}
    (h:RelL W hb H ok [.d (.int i n)] vals):∃ cv W',(e vals).run P W = .ok cv W'∧qbd W W'∧Rel W hb H ok (.d (.fl k (canon k n.toNat))) cv:=by
  obtain ⟨v,rfl,hr⟩:=qpq h
  obtain rfl:=qjo hr
  exact ⟨.float k n.toNat,W,by rw [he];rfl,qbd.refl W,qr7 rfl hn⟩
def qwp (x:Nat):Nat:=(FloatKind.f64.format.sqrt x).getD (qnan .f64)
theorem root_not_nan {n:Nat} {a d:Ieee.Datum} (h:a.root n = some d):d.isNaN = false:=by
  cases a with
  | nan s t=>cases h
  | infinity s =>
    simp only [Ieee.Datum.root] at h
    split at h
    · cases h
    · simp only [Option.some.injEq] at h;subst h;rfl
  | number s m i =>
    simp only [Ieee.Datum.root] at h
    split at h
    · simp only [Option.some.injEq] at h;subst h;rfl
    · split at h
      · cases h
      · simp only [Option.some.injEq] at h;subst h;rfl
theorem sqrt_run {P:Program} {x:Nat} {W:World} {hb:Handle} {H:Nat→AObj} {ok:Nat→Prop} {vals:Array Value}
    (h:RelL W hb H ok [.d (.fl .f64 x)] vals):∃ cv W',(Extern.MathSqrt.sqrt vals).run P W = .ok cv W'∧qbd W W'∧Rel W hb H ok (.d (.fl .f64 (qwp x))) cv:=by
  obtain ⟨v,rfl,hr⟩:=qpq h
  obtain ⟨b,rfl,h1,h2⟩:=qou hr
  have hsame:FloatKind.f64.format.sqrt b = FloatKind.f64.format.sqrt x:=by
    cases hn:isnan .f64 b with
    | false=>rw [← h1,qdx hn]
    | true =>
      obtain ⟨s,t,e⟩:=qji hn
      obtain ⟨s',t',e'⟩:=qji (show isnan .f64 x = true by rw [← h1,qjl,hn])
      unfold Ieee.Format.sqrt
      rw [e,e'];rfl
  have e:Extern.MathSqrt.sqrt #[.float .f64 b] = (match FloatKind.f64.format.sqrt b with
    | some r=>pure (.float .f64 r)
    | none=>do pure (.float .f64 (← choose (.nanBits .f64 b b)))):=rfl
  rw [e]
  unfold qwp
  rw [← hsame]
  cases hq:FloatKind.f64.format.sqrt b with
  | some r =>
    have hr':isnan .f64 r = false∧r < 2 ^ FloatKind.f64.format.width:=by
      unfold Ieee.Format.sqrt at hq
      cases hd:(FloatKind.f64.format.read b).root (FloatKind.f64.format.fractionBits + 2) with
      | none=>rw [hd] at hq;cases hq
      | some d =>
        rw [hd] at hq
        simp only [Option.map_some,Option.some.injEq] at hq
        subst hq
        exact ⟨ql1 .f64 d (root_not_nan hd),FloatKind.f64.format.write_lt d⟩
    exact ⟨.float .f64 r,W,rfl,qbd.refl W,qr7 (qdx hr'.1) hr'.2⟩
  | none =>
    obtain ⟨r,W',g1,g2,g3,g4⟩:=qp0 P W (.nanBits .f64 b b) .f64 (.inl ⟨_,_,rfl⟩)
    refine ⟨.float .f64 r,W',?_,g2,qr7 (qkh g3) g4⟩
    simp only [Sem.run_bind,g1,Result.andThen_ok,Sem.run_pure]
end Go.Proofs.YtiegopnofbgoaaaGreat.AWN

namespace Go.Proofs.YtiegopnofbgoaaaGreat.AWN
open Go
def XOwes (P:Program) (σ:St) (o:Oper) (r:OR):Prop:=∀ w0 A okA hb a W,Sim w0 A okA hb σ a W→Owes P w0 A okA hb σ a W o r
def XSt (P:Program) (ops:Array Oper) (σ:St) (o:Oper) (r:OR):Prop:=∀ σ',(∀ t ∈ opT o.op,σ'.env t = σ.env t)→σ'.heap = σ.heap→XOwes P σ' o r
section
variable {P:Program} {τ:Tab} {σ σ0:St} {ops:Array Oper} {rest:List Oper} {o:Oper} {Q:Exit→St→Prop} {id:List FR} {G:Prop} {rl:List Rec}
theorem qxz {v:V} (hw:qcq ops σ o = some true) (hd:qhy σ o.dst = true) (hx:XSt P ops σ o (.val v)) (hK:AWL P ops rest (σ.putO o.dst v) Q):AWL P ops (o :: rest) σ Q :=
  qin hw fun w0 A okA hb a W hs=>by
    obtain ⟨cv,W',hrun,s,hr⟩:=hx σ (fun _ _=>rfl) rfl w0 A okA hb a W hs
    exact ⟨cv,W',hrun,hK w0 A okA hb _ W' (qih (hs.same s) (hr.same s) _ hd)⟩
theorem qq2 {R:Nat→Prop} {k:Nat→V} (hw:qcq ops σ o = some true) (hd:qhy σ o.dst = true) (hx:XSt P ops σ o (.pick R k)) (hK:∀ r,R r→AWL P ops rest (σ.putO o.dst (k r)) Q):AWL P ops (o :: rest) σ Q :=
  qin hw fun w0 A okA hb a W hs=>by
    obtain ⟨cv,W',hrun,r,hR,s,hr⟩:=hx σ (fun _ _=>rfl) rfl w0 A okA hb a W hs
    exact ⟨cv,W',hrun,hK r hR w0 A okA hb _ W' (qih (hs.same s) (hr.same s) _ hd)⟩
theorem any_x (J:List Nat) {v:V} (i:Nat) (ho:ops[i]? = some o) (hw:qcq ops σ o = some true) (hd:qhy σ o.dst = true) (hx:XSt P ops σ o (.val v)) (hJ:qpb σ.heap σ.heap J) (hK:Any P ops id σ0 G (⟨i,true,J,false⟩ :: rl) ((σ.set σ.heap σ.next).putO o.dst v)):Any P ops id σ0 G rl σ :=
  qq0 i ho (fun σ' hn he hh hx'=>by
    have:One P ops o σ' (· = σ'.putO o.dst v):=qkg (by rw [qgo he,hw]) fun w0 A okA hb a W hs=>by
      obtain ⟨cv,W',hrun,s,hr⟩:=hx σ' (qky he) hh w0 A okA hb a W hs
      exact ⟨cv,W',hrun,_,hb,rfl,qih (hs.same s) (hr.same s) _ (qk5 hn hd)⟩
    have e:σ'.set σ.heap σ.next = σ':=by unfold St.set;rw [← hh,← hx']
    rw [e];exact this) (ql7 hJ) hK
theorem qsz {s:(Operand→Value)→Sem Value} {r:OR} (hrun:∀ {a:Act} {W:World},(execOp a.eval o).run P W = ((s a.eval).run P W).andThen fun v w=>.ok (.value v) w) (hpl:r.plain = true)
    (h:∀ σ',(∀ t ∈ opT o.op,σ'.env t = σ.env t)→σ'.heap = σ.heap→∀ w0 A okA hb a W,Sim w0 A okA hb σ' a W→ORv P W (s a.eval) (RelS w0 okA hb σ'.heap W) r):XSt P ops σ o r :=
  fun σ' he hh w0 A okA hb a W hs=>qf6 hrun (h σ' he hh w0 A okA hb a W hs) hpl
/-! ### Numbers -/
def f2i (s:FloatKind) (k:IntKind) (x:Nat):Option Int:=match (s.decode x).toInt .zero with
  | some n=>if k.min ≤ n∧n ≤ k.max then some n else none
  | none=>none
theorem qyi (hτ:qfl P τ) {s d:TypeId} {x:Operand} {sd dd:TD} {sk:FloatKind} {k:IntKind} {b:Nat} {z:Int} (ho:o.op = .convert s d x) (hs:τ s = some sd) (hd:τ d = some dd) (hsd:sd.desc = .float sk) (hdd:dd.desc = .int k) (hx:σ.ev x = .d (.fl sk b)) (hz:f2i sk k b = some z):XSt P ops σ o (.val (.d (.int k z))):=by
  refine qsz (s:=fun ev=>convert s d (ev x)) (by intro a W;simp [execOp,ho]) rfl ?_
  intro σ' he hh w0 A okA hb a W hs'
  have hr:=qfi hs' x
  rw [qc0 (fun t ht=>he t (by rw [ho];exact ht)),hx] at hr
  obtain ⟨c,hc,h1,h2⟩:=qou hr
  have us:=qiz hτ hs W
  have ud:=qiz hτ hd W
  refine .pure' (cv:=.int k z) ?_ (qg8 _ _)
  simp only [convert,Sem.run_bind,us,ud,hsd,hdd,hc,Result.andThen_ok]
  have hn:isnan sk c = false:=by
    cases hn:isnan sk c with
    | false=>rfl
    | true =>
      exfalso
      have h3:isnan sk b = true:=by rw [← h1,qjl,hn]
      obtain ⟨sg,t,e⟩:=qji h3
      have e':sk.decode b = .nan sg t:=e
      unfold f2i at hz
      rw [e'] at hz
      simp [Ieee.Datum.toInt,Ieee.Datum.integral] at hz
  have hcb:c = b:=by rw [← h1,qdx hn]
  rw [hcb]
  unfold f2i at hz
  unfold Conv.floatToInt
  split at hz
  · rename_i n hn'
    split at hz
    · rename_i hb'
      simp only [Option.some.injEq] at hz
      subst hz
      simp only [hn',if_pos hb',Sem.run_pure]
    · cases hz
  · cases hz
/-! ### Bytes and texts -/
def chars (l:List Int):Str:=l.map fun n=>UInt8.ofNat n.toNat
theorem foldl_push (l:List Int):∀ (s:Str),l.foldl (fun r n=>r.push (UInt8.ofNat n.toNat)) (bstr s) = bstr (s ++ chars l):=by
  induction l with
  | nil=>intro s;simp [chars]
  | cons n l ih =>
    intro s
    rw [List.foldl_cons]
    have:(bstr s).push (UInt8.ofNat n.toNat) = bstr (s ++ [UInt8.ofNat n.toNat]):=by
      apply ByteArray.ext
      simp [bstr,ByteArray.push]
    rw [this,ih]
    simp [chars]
theorem qyh (hτ:qfl P τ) {s d e:TypeId} {x:Operand} {sd dd ed:TD} {p:Prop} {l:List Int} {f:Int→List D} (ho:o.op = .convert s d x) (hs:τ s = some sd) (hd:τ d = some dd) (he':τ e = some ed) (hsd:sd.desc = .slice e) (hdd:dd.desc = .string) (hed:ed.desc = .int .u8)
    (hf:∀ n,f n = [.int .u8 n]) (hx:qg9 σ.heap (σ.ev x) = some (p,l.map f)) (hp:p):XSt P ops σ o (.val (.d (.str (bstr (chars l))))):=by
  refine qsz (s:=fun ev=>convert s d (ev x)) (by intro a W;simp [execOp,ho]) rfl ?_
  intro σ' he hh w0 A okA hb a W hs'
  have hr:=qfi hs' x
  rw [qc0 (fun t ht=>he t (by rw [ho];exact ht))] at hr
  rw [← hh] at hx
  obtain ⟨ad,cap,c,hu,h1,h2⟩:=qoh (P:=P) hs'.heap hr hx hp (fun y hy=>by
    obtain ⟨n,_,rfl⟩:=List.mem_map.1 hy
    rw [hf];rfl) (Nat.one_pos)
  rw [hu]
  have us:=(hτ s sd hs).1
  have ud:=(hτ d dd hd).1
  have ue:=(hτ e ed he').1
  rw [hsd] at us;rw [hdd] at ud;rw [hed] at ue
  refine .pure' (cv:=.string (bstr (chars l))) ?_ (qto _)
  rw [run_convert_bytes_string W s d e ad _ cap us ue ud]
  have hc:c = (l.map (Value.int .u8)).toArray:=by
    obtain ⟨c1,c2⟩:=h2
    apply Array.ext
    · simpa using c1
    · intro i hi hj
      have hil:i < l.length:=by simpa using hj
      have:=c2 i 0 (by simpa using hil) (by decide)
      have e1:((l.map f).getD i []).getD 0 .nilp = .int .u8 l[i]:=by simp [List.getD_eq_getElem?_getD,hil,hf]
      rw [e1] at this
      have:=qvk this
      simp [Array.getD_eq_getD_getElem?,hi] at this
      rw [this];simp
  have key:=h1 W (qbd.refl W)
  rw [hc] at key
  cases ad with
  | none =>
    have hl:l = []:=by
      have hl0:(l.map f).length = 0:=by
        rw [hu] at hr
        have:∀ {v:V} {n cp:Nat},Rel W hb σ'.heap (okF w0 okA hb σ'.heap W) v (.slice none n cp)→qg9 σ'.heap v = some (p,l.map f)→n = (l.map f).length→n = 0:=by
          intro v n cp hv hse hn
          cases hv with
          | d h=>cases h <;> rfl
          | rowNil=>rfl
          | rowStale v h1 h2 h3 =>
            simp only [qg9,h1,Option.some.injEq,Prod.mk.injEq] at hse
            have:=hse.1 ▸ hp
            omega
          | _=>simp [qg9] at hse
        exact this hr hx rfl ▸ rfl
      simpa using hl0
    subst hl
    rfl
  | some ad =>
    have hk:(loadCells ad (l.map f).length).run P W = .ok ((l.map (Value.int .u8)).toArray) W:=by
      have:=key
      rw [hu] at this
      simp only [Builtin.firstCells,Nat.mul_one] at this
      exact this
    rw [run_bytesToString W ad _ cap l hk]
    have:=foldl_push l []
    rw [show bstr [] = ByteArray.empty from rfl] at this
    rw [this];rfl
theorem qu0 {H:Nat→AObj} {α:Type} {f:α→List D} {j sz L:Nat} (l:List α) (hj:H j = .row sz (l.map f)) (hL:L = l.length):qg9 H (.row j L 0 L) = some ((l.map f).length = L∧0 + L ≤ L,l.map f):=by
  subst hL
  simp only [qg9,hj]
  rw [qx3 l rfl]
/-! ### Is a slice nil? -/
theorem qut (hτ:qfl P τ) {t e pos:TypeId} {x y:Operand} {td:TD} {es:List (List D)} {fl:Bool} (ho:o.op = .binOp .eql t x y pos) (ht:τ t = some td) (htd:td.desc = .slice e) (hx:σ.ev x = .d (.sl fl es)) (hy:y = .const (.slice none 0 0)) :
    XSt P ops σ o (.pick (fun r=>r = 1→es = []) (fun r=>.d (.bool (r == 1)))):=by
  refine qsz (s:=fun ev=>do eqGuard .eql t x y (ev x) (ev y);binOp .eql t (ev x) (ev y)) (by
    intro a W
    simp only [execOp,ho,Sem.run_bind,Sem.run_pure]) rfl ?_
  intro σ' he hh w0 A okA hb a W hs'
  have hr:=qfi hs' x
  rw [qc0 (fun u hu=>he u (by rw [ho];exact List.mem_append_left _ hu)),hx] at hr
  have ey:a.eval y = .slice none 0 0:=by rw [hy];rfl
  have ut:=qiz hτ ht W
  rw [htd] at ut
  have key:∀ (u:Option Addr) (l c:Nat),(Op.equal t (.slice u l c) (.slice none 0 0)).run P W = .ok u.isNone W:=by
    intro u l c
    unfold Op.equal Op.maxDepth
    rw [show (10000:Nat) = 9999 + 1 from rfl,Op.equalIn]
    simp only [Sem.run_bind,ut,Result.andThen_ok]
    cases u <;> simp [Sem.run_pure]
  rw [ey]
  generalize a.eval x = v at hr
  cases hr with
  | d hr =>
    have g:∀ (u:Option Addr) (l c:Nat),(do eqGuard .eql t x y (.slice u l c) (.slice none 0 0);binOp .eql t (.slice u l c) (.slice none 0 0):Sem Value).run P W = .ok (.bool u.isNone) W:=by
      intro u l c
      simp only [Sem.run_bind,qrf .eql t x y (.slice u l c) (.slice none 0 0) (by simp) (by simp),Result.andThen_ok]
      simp [binOp,key]
    cases hr with
    | slnil=>exact ⟨.bool true,W,g _ _ _,qbd.refl W,1,fun _=>rfl,qi2 _⟩
    | sle=>exact ⟨.bool false,W,g _ _ _,qbd.refl W,0,fun h=>absurd h (by decide),qi2 _⟩
    | sl=>exact ⟨.bool false,W,g _ _ _,qbd.refl W,0,fun h=>absurd h (by decide),qi2 _⟩
end
end Go.Proofs.YtiegopnofbgoaaaGreat.AWN

namespace Go.Proofs.YtiegopnofbgoaaaGreat.AWN
open Go Go.RowKit
def bsOf (len:Nat) (zs:List Int):List Int:=zs.take len
theorem qt7 {len:Nat} {zs:List Int} (h:∀ n ∈ zs,0 ≤ n∧n < 256):∀ n ∈ bsOf len zs,0 ≤ n∧n < 256:=fun n hn=>h n (List.mem_of_mem_take hn)
theorem qtu {W:World} {ok:Nat→Prop} {f:Int→List D} (hf:∀ n,f n = [.int .u8 n]) (hok:∀ b,b < W.heap.size→ok b) {a:Option Addr} {len cap:Nat} {zs:List Int} (h:(a = none∧len = 0∧cap = 0∧zs = []) ∨
    ∃ x,a = some x∧len ≤ cap∧cap ≤ maxLen∧zs.length = cap∧(∀ i,i < zs.length→W.cell? (x.add i) = some (.int .u8 (zs.getD i 0)))∧∀ n ∈ zs,0 ≤ n∧n < 256):RelD W ok (.sl false ((bsOf len zs).map f)) (.slice a len cap):=by
  rcases h with ⟨rfl,rfl,rfl,rfl⟩ | ⟨x,rfl,h1,h2,h3,h4,h5⟩
  · exact .slnil false
  · by_cases hc:cap = 0
    · have hl:len = 0:=by omega
      subst hc hl
      have:bsOf 0 zs = []:=by simp [bsOf]
      rw [this]
      exact .sle false x
    · have h0:=h4 0 (by omega)
      have hsp:x.spot = none:=by
        cases hs:x.spot with
        | none=>rfl
        | some s =>
          exfalso
          unfold World.cell? at h0
          simp only [Addr.add,hs] at h0
          split at h0 <;> simp [hs] at h0
      obtain ⟨b,o,sp⟩:=x
      simp only at hsp
      subst hsp
      have hbl:((bsOf len zs).map f).length = len:=by simp [bsOf];omega
      have hget:∀ i,i < len→((bsOf len zs).map f).getD i [] = [.int .u8 (zs.getD i 0)]:=by
        intro i hi
        have hil:i < zs.length:=by omega
        simp [bsOf,List.getD_eq_getElem?_getD,List.getElem?_take,hi,hil,hf]
      refine .sl (sz:=1) (fun i _=>.int .u8 (zs.getD i 0)) (fun _=>hok b (qua h0)) hbl h1 (fun h=>nomatch h) (by omega) (fun i hi=>by rw [hget i hi];rfl) (fun i c hi hcc=>?_) (fun i c hi hcc=>?_)
      · have:=h4 i (by omega)
        have hc0:c = 0:=by omega
        subst hc0
        by_cases hi0:i = 0
        · subst hi0;simpa [Addr.add] using this
        · simpa [Addr.add,hi0] using this
      · have hc0:c = 0:=by omega
        subst hc0
        rw [hget i hi]
        exact .int _ _
theorem qdc (j:Nat):qb3 [] j = .none:=by simp [qb3]
theorem top_of_acall {P:Program} {k:FuncId} {args:List V} {vals:Array Value} {W:World} (hlay:∀ g vs,qrp g = some vs→∃ T fr,W.heap[g]? = some (.cells vs T fr)) (hc:qax P false k args [] (fun r o n=>r = .d (.bool true)∧o = []∧n = []))
    (hrel:RelL W (fun _=>none) (qb3 []) (okF W (fun _=>True) (fun _=>none) (qb3 []) W) args vals):Calls P k vals W (fun e W'=>e = .returned (.bool true)∧Below W.heap.size W W'):=by
  have hs:HSim W ⟨qb3 [],fun _=>none⟩ (fun _=>True) (fun _=>none) (qb3 []) ([]:List AObj).length W :=
    { obj:=fun j=>by unfold qh5;rw [qdc];trivial,inj:=fun i j b hi=>absurd (qdc i) hi,hnd:=fun j b hj=>absurd (qdc j) hj,fresh:=fun j _=>qdc j,ext:=Ext.refl _ _,keep:=MovesR.refl _ _ _,lay:=fun g vs hg=>⟨hlay g vs hg,fun ⟨j,hj,_⟩=>hj (qdc j)⟩ }
  refine (hc W ⟨qb3 [],fun _=>none⟩ (fun _=>none) (fun _=>True) vals rfl rfl hs hrel).mono fun e W' ⟨v,r,o,n,hb',he,⟨hr,ho,hn⟩,_,hs',hv⟩=>?_
  subst hr
  have:=qk0 hv
  subst this
  have hx:=hs'.ext
  exact ⟨he,hx.os,hx.tape,hx.output,hx.size,fun k hk=>hx.kept k hk (fun ⟨j,hj,_⟩=>hj (qdc j))⟩
end Go.Proofs.YtiegopnofbgoaaaGreat.AWN

namespace Go.Proofs.YtiegopnofbgoaaaGreat.AWN
open Go
section
variable {ρ:Nat→Option Nat} {H:Nat→AObj} {α:Type} {f:α→List D}
end
end Go.Proofs.YtiegopnofbgoaaaGreat.AWN

namespace Go.Proofs.YtiegopnofbgoaaaGreat.AWN
open Go
end Go.Proofs.YtiegopnofbgoaaaGreat.AWN

namespace Go.Proofs.YtiegopnofbgoaaaGreat.AWN
open Go
section
variable {P:Program} {τ:Tab} {ops:Array Oper} {σ:St} {o:Oper} {rest:List Oper} {Q:Exit→St→Prop}
end
end Go.Proofs.YtiegopnofbgoaaaGreat.AWN

namespace Go.Proofs.YtiegopnofbgoaaaGreat.AWN
open Go Go.Shelf Go.RowKit Go.Proofs.Tryz
def quz:Go.Shelf.Ren:=⟨fun | 169=>42 | n=>n,fun | 70=>87 | 9=>9 | 0=>0 | 72=>89 | 37=>22 | 127=>128 | 3=>3 | 5=>5 | n=>n,fun | n=>n⟩
theorem bStr:Go.Proofs.Lays.n169 prog quz:={
  mixed:=by kernel_rfl
  f169:=Tryz.func42.trans (congrArg some (by kernel_rfl))
  t0:=Tryz.underlying0
  a0:=Tryz.isAgg0
  z0:=Tryz.sizeOf0
  v0:=Tryz.zeroValue0
  t3:=Tryz.underlying3
  a3:=Tryz.isAgg3
  z3:=Tryz.sizeOf3
  v3:=Tryz.zeroValue3
  t9:=Tryz.underlying9
  a9:=Tryz.isAgg9
  z9:=Tryz.sizeOf9
  v9:=Tryz.zeroValue9
  t37:=Tryz.underlying22
  a37:=Tryz.isAgg22
  z37:=Tryz.sizeOf22
  v37:=Tryz.zeroValue22
  t70:=Tryz.underlying87
  a70:=Tryz.isAgg87
  z70:=Tryz.sizeOf87
  v70:=Tryz.zeroValue87
  t72:=Tryz.underlying89
  a72:=Tryz.isAgg89
  z72:=Tryz.sizeOf89
  v72:=Tryz.zeroValue89
  t127:=Tryz.underlying128
  a127:=Tryz.isAgg128
  z127:=Tryz.sizeOf128
  v127:=Tryz.zeroValue128 }
theorem szB:(prog.info? 89).map (·.size) = some 2:=by kernel_rfl
theorem qya:liesAt prog prog.depth 89 (2 / prog.cellsOf 89) 0 89 1 = true:=by kernel_rfl
theorem infB:(prog.info? 5).map (fun i=>(i.zero,i.size,i.bytes)) = some (some (.int .u8 0),1,1):=by kernel_rfl
theorem mixB:prog.follows .mixedOrders = true:=by kernel_rfl
set_option maxHeartbeats 1000000 in
set_option maxRecDepth 100000 in
theorem cc_used (b:Nat) (w:World) (h0:w.cell? ⟨b,0,none⟩ = some (.pointer (some ⟨b,0,none⟩))) :
    Calls prog 66 #[.pointer (some ⟨b,0,none⟩)] w fun e w'=>e = .returned (.tuple #[])∧w' = w:=by
  obtain ⟨j,hj,_⟩:=Option.map_eq_some_iff.1 szB
  have mixed:=mixB
  have t72:=Tryz.underlying89;have a72:=Tryz.isAgg89;have z72:=Tryz.sizeOf89;have v72:=Tryz.zeroValue89;have u72:=run_underlying Tryz.underlying89
  have t70:=Tryz.underlying87;have a70:=Tryz.isAgg87;have z70:=Tryz.sizeOf87;have v70:=Tryz.zeroValue87;have u70:=run_underlying Tryz.underlying87
  have t9:=Tryz.underlying9;have a9:=Tryz.isAgg9;have z9:=Tryz.sizeOf9;have v9:=Tryz.zeroValue9;have u9:=run_underlying Tryz.underlying9
  have t4:=Tryz.underlying4;have a4:=Tryz.isAgg4;have z4:=Tryz.sizeOf4;have v4:=Tryz.zeroValue4;have u4:=run_underlying Tryz.underlying4
  have t164:=Tryz.underlying144;have a164:=Tryz.isAgg144;have z164:=Tryz.sizeOf144;have v164:=Tryz.zeroValue144;have u164:=run_underlying Tryz.underlying144
  go_enter Tryz.func66,Tryz.ntmps66
  go_wp2
  rw [Lib.run_neq_ptr_same w _ Tryz.underlying87 hj]
  go_wp2
  go_end0
  exact ⟨rfl,rfl⟩
set_option maxHeartbeats 1000000 in
set_option maxRecDepth 100000 in
theorem cc_fresh (b:Nat) (w:World) (h0:w.cell? ⟨b,0,none⟩ = some (.pointer none)) (hsh:w.shape? b = some (89,2)) (hfz:w.frozen? ⟨b,0,none⟩ = false) :
    Calls prog 66 #[.pointer (some ⟨b,0,none⟩)] w fun e w'=>e = .returned (.tuple #[])∧w' = w.setCell ⟨b,0,none⟩ (.pointer (some ⟨b,0,none⟩)):=by
  obtain ⟨j,hj,hjs⟩:=Option.map_eq_some_iff.1 szB
  have mixed:=mixB
  have t72:=Tryz.underlying89;have a72:=Tryz.isAgg89;have z72:=Tryz.sizeOf89;have v72:=Tryz.zeroValue89;have u72:=run_underlying Tryz.underlying89
  have t70:=Tryz.underlying87;have a70:=Tryz.isAgg87;have z70:=Tryz.sizeOf87;have v70:=Tryz.zeroValue87;have u70:=run_underlying Tryz.underlying87
  have t9:=Tryz.underlying9;have a9:=Tryz.isAgg9;have z9:=Tryz.sizeOf9;have v9:=Tryz.zeroValue9;have u9:=run_underlying Tryz.underlying9
  have t4:=Tryz.underlying4;have a4:=Tryz.isAgg4;have z4:=Tryz.sizeOf4;have v4:=Tryz.zeroValue4;have u4:=run_underlying Tryz.underlying4
  have t164:=Tryz.underlying144;have a164:=Tryz.isAgg144;have z164:=Tryz.sizeOf144;have v164:=Tryz.zeroValue144;have u164:=run_underlying Tryz.underlying144
  go_enter Tryz.func66,Tryz.ntmps66
  go_wp2
  rw [Lib.run_to_unsafe w ⟨b,0,none⟩ Tryz.underlying87 Tryz.underlying144 hj (by rw [hjs];decide) hsh (Nat.zero_lt_succ 1)]
  simp only [Result.andThen]
  rw [Oper.upon_value]
  go_wp2
  rw [run_callFunc_extern Tryz.func82 (by kernel_rfl) (by kernel_rfl) (by kernel_rfl) (e:=Extern.AbiNoEscape.same) (by kernel_rfl)]
  rw [Lib.run_noEscape]
  simp only [Result.andThen]
  rw [Oper.upon_value]
  go_wp2
  rw [Lib.run_from_unsafe w ⟨b,0,none⟩ Tryz.underlying144 Tryz.underlying87 hj hsh qya]
  simp only [Result.andThen]
  rw [Oper.upon_value]
  go_wp2
  go_end0
  exact ⟨rfl,rfl⟩
theorem cc_walk (B b:Nat) (bs:List Value) (w:World) (h:Lib.IsBuilder 89 5 B b bs w) :
    Calls prog 66 #[.pointer (some ⟨b,0,none⟩)] w fun e w'=>e = .returned (.tuple #[])∧(Lib.BuilderAt 89 5 B b (.pointer (some ⟨b,0,none⟩)) bs w'∧Below B w w'∧Lib.OthersKept 5 (some b) w w'):=by
  rcases h with h | h
  · refine (cc_fresh b w h.cell0 h.shape h.frozen0).mono ?_
    rintro e w' ⟨rfl,rfl⟩
    exact ⟨rfl,h.used _,(Below.refl B w).setCell (p:=⟨b,0,none⟩) h.1 _,(Lib.OthersKept.refl _ _ w).setCell ⟨b,0,none⟩ rfl _⟩
  · refine (cc_used b w h.cell0).mono ?_
    rintro e w' ⟨rfl,rfl⟩
    exact ⟨rfl,h,Below.refl B _,Lib.OthersKept.refl _ _ _⟩
set_option maxHeartbeats 2000000 in
set_option maxRecDepth 100000 in
theorem qsy (B b:Nat) (bs:List Value) (s:ByteArray) (w:World) (h:Lib.IsBuilder 89 5 B b bs w) (hlen:bs.length + s.size ≤ 140737488355328) (hBw:B ≤ w.heap.size) :
    Calls prog 39 #[.pointer (some ⟨b,0,none⟩),.string s] w fun e w'=>e = .returned (.tuple #[.int .i64 s.size,.nilIface])∧(Lib.BuilderAt 89 5 B b (.pointer (some ⟨b,0,none⟩)) (bs ++ Lib.strCells s) w'∧Below B w w'∧Lib.OthersKept 5 (some b) w w'):=by
  obtain ⟨i0,hi,hz0,hz1,hz2⟩:=info_parts infB
  have mixed:=mixB
  have t72:=Tryz.underlying89;have a72:=Tryz.isAgg89;have z72:=Tryz.sizeOf89;have v72:=Tryz.zeroValue89;have u72:=run_underlying Tryz.underlying89
  have t70:=Tryz.underlying87;have a70:=Tryz.isAgg87;have z70:=Tryz.sizeOf87;have v70:=Tryz.zeroValue87;have u70:=run_underlying Tryz.underlying87
  have t37:=Tryz.underlying22;have a37:=Tryz.isAgg22;have z37:=Tryz.sizeOf22;have v37:=Tryz.zeroValue22;have u37:=run_underlying Tryz.underlying22
  have t3:=Tryz.underlying3;have a3:=Tryz.isAgg3;have z3:=Tryz.sizeOf3;have v3:=Tryz.zeroValue3;have u3:=run_underlying Tryz.underlying3
  have t9:=Tryz.underlying9;have a9:=Tryz.isAgg9;have z9:=Tryz.sizeOf9;have v9:=Tryz.zeroValue9;have u9:=run_underlying Tryz.underlying9
  have t4:=Tryz.underlying4;have a4:=Tryz.isAgg4;have z4:=Tryz.sizeOf4;have v4:=Tryz.zeroValue4;have u4:=run_underlying Tryz.underlying4
  have t164:=Tryz.underlying144;have a164:=Tryz.isAgg144;have z164:=Tryz.sizeOf144;have v164:=Tryz.zeroValue144;have u164:=run_underlying Tryz.underlying144
  have t5:=Tryz.underlying5;have a5:=Tryz.isAgg5;have z5:=Tryz.sizeOf5;have v5:=Tryz.zeroValue5;have u5:=run_underlying Tryz.underlying5
  have e240:∀ args w,(callFunc 66 args).run prog w = .ok (.enter 66 args) w:=enters_of Tryz.func66 (by kernel_rfl) rfl
  go_enter Tryz.func39,Tryz.ntmps39
  go_wp2_with (go_at_fn 66;refine (cc_walk B b bs _ h).mono ?_)
  rintro e w1 ⟨rfl,h1,hb1,hk1⟩
  obtain ⟨hB,v,hbk,hown,hne⟩:=h1
  have c0:w1.cell? ⟨b,0,none⟩ = some (.pointer (some ⟨b,0,none⟩)):=by rw [Lib.cell_of_heap hbk];rfl
  have c1:w1.cell? ⟨b,1,none⟩ = some v:=by rw [Lib.cell_of_heap hbk];rfl
  go_wp2_with (at_builtin;refine Lib.wpList_append_own_string _ rfl _ _ 22 9 rfl B 5 i0 Tryz.underlying22 Tryz.underlying9 hi hz0 hz1 hz2 _ _ _ rfl hown s rfl ?c3 ?c4 ?c5 ?_)
  case c3=>unfold maxLen;omega
  case c4=>omega
  case c5=>have:=hb1.size;omega
  intro v' w2 hown' hgrow _
  have hlt:b < w1.heap.size:=by
    rcases Nat.lt_or_ge b w1.heap.size with h' | h'
    · exact h'
    · simp [Array.getElem?_eq_none h'] at hbk
  have hb2:w2.heap[b]? = some (.cells #[.pointer (some ⟨b,0,none⟩),v] 89 (0,0)):=by
    rw [hgrow.block b hlt (fun e=>hne e.symm)]
    exact hbk
  have d0:w2.cell? ⟨b,0,none⟩ = some (.pointer (some ⟨b,0,none⟩)):=by rw [Lib.cell_of_heap hb2];rfl
  have d1:w2.cell? ⟨b,1,none⟩ = some v:=by rw [Lib.cell_of_heap hb2];rfl
  have f1:w2.frozen? ⟨b,1,none⟩ = false:=Lib.frozen_of_heap hb2 1
  obtain ⟨ao,n',cap,rfl⟩:∃ ao n' cap,v' = .slice ao n' cap:=by
    rcases hown'.2 with ⟨hv,_⟩ | ⟨g,cap,cur,hv,_⟩
    · exact ⟨_,_,_,hv⟩
    · exact ⟨_,_,_,hv⟩
  go_wp2
  go_ret2
  refine ⟨rfl,?_,?_,(hk1.grown hgrow (Lib.ownsRow_kind hown)).setCell ⟨b,1,none⟩ rfl _⟩
  · exact Lib.BuilderAt.put (T:=89) (e:=5) hB hb2 (bs':=bs ++ Lib.strCells s) (by simpa [Lib.strCells_length] using hown') (by decide)
  · exact (hb1.grown hgrow (by have:=hb1.size;omega) (fun k hk=>(hown.lt k hk).1)).setCell (p:=⟨b,1,none⟩) hB _
theorem qx5 (B b:Nat) (bs:List Value) (s:ByteArray) (w:World) (h:Lib.IsBuilder 89 5 B b bs w) (hlen:bs.length + s.size ≤ 140737488355328) (hBw:B ≤ w.heap.size) :
    Calls prog 39 #[.pointer (some ⟨b,0,none⟩),.string s] w fun e w'=>e = .returned (.tuple #[.int .i64 s.size,.nilIface])∧(Lib.BuilderAt 89 5 B b (.pointer (some ⟨b,0,none⟩)) (bs ++ Lib.strCells s) w'∧Below B w w') :=
  (qsy B b bs s w h hlen hBw).mono fun e w' h=>⟨h.1,h.2.1,h.2.2.1⟩
set_option maxRecDepth 100000 in
theorem exB:Builder.Extra prog quz:={
  sizeBuilder:=szB
  liesBuilder:=qya
  t5:=Tryz.underlying5
  a5:=Tryz.isAgg5
  z5:=Tryz.sizeOf5
  v5:=Tryz.zeroValue5
  infoByte:=infB
  cellsByte:=by kernel_rfl
  sizeByte:=by kernel_rfl
  neB5:=by decide }
theorem qsv (B b:Nat) (l:List UInt8) (w:World) (h:Lib.IsBuilder 89 5 B b (Lib.byteCells l) w) (hBw:B ≤ w.heap.size) :
    Calls prog 42 #[.pointer (some ⟨b,0,none⟩)] w fun e w'=>e = .returned (.string ⟨l.toArray⟩)∧Below B w w' :=
  (Any.Builder_String_any bStr exB B b l w h hBw).mono fun e w' h=>⟨h.1,by first | exact h.2 | exact h.2.2 | exact h.2.1⟩
end Go.Proofs.YtiegopnofbgoaaaGreat.AWN

namespace Go.Proofs.YtiegopnofbgoaaaGreat.AWN
open Go Go.RowKit
theorem qpv {P:Program} {fr:Bool} {k:FuncId} {args:List V} {rv:V}
    (h:∀ (W:World) (hb:Handle) (H:Nat→AObj) (ok:Nat→Prop) (vals:Array Value),(∀ g vs,qrp g = some vs→∃ T f,W.heap[g]? = some (.cells vs T f))→(∀ b,ok b→b < W.heap.size)→RelL W hb H ok args vals →
      Calls P k vals W (fun e W'=>∃ v,e = .returned v∧Below W.heap.size W W'∧∀ hb H ok,Rel W' hb H ok rv v)) :
    qax P fr k args [] (fun v o n=>v = rv∧o = []∧n = []):=by
  intro W A hb okA vals h1 h2 h3 h4
  refine (h W hb _ _ vals (fun g vs hg=>(h3.lay g vs hg).1) (fun b hb=>hb.1) h4).mono ?_
  rintro e W' ⟨v,rfl,bel,hv⟩
  refine ⟨v,rv,[],[],hb,rfl,⟨rfl,rfl,rfl⟩,rfl,?_,hv _ _ _⟩
  exact { obj:=fun j=>by unfold qh5;rw [show qb3 ([] ++ []) j = .none from qdc j];trivial,inj:=fun i j b hi=>absurd (qdc i) hi,hnd:=fun j b hj=>absurd (qdc j) hj,fresh:=fun j _=>qdc j,ext:=⟨fun i hi _=>bel.block i hi,bel.size,bel.tape,bel.os,bel.output⟩,keep:=⟨fun j cs hj=>(by rw [h1,qdc] at hj;cases hj),fun j sz es hj=>(by rw [h1,qdc] at hj;cases hj),fun j kk es hj=>(by rw [h1,qdc] at hj;cases hj)⟩,lay:=h3.lay }
theorem qgk {P:Program} {k:FuncId} {args:List V} {vals:Array Value} {W:World} {rv:V} {v0:Value} (hlay:∀ g vs,qrp g = some vs→∃ T fr,W.heap[g]? = some (.cells vs T fr)) (hc:qax P false k args [] (fun r o n=>r = rv∧o = []∧n = []))
    (hrel:RelL W (fun _=>none) (qb3 []) (okF W (fun _=>True) (fun _=>none) (qb3 []) W) args vals) (hv0:∀ W' hb H ok v,Rel W' hb H ok rv v→v = v0):Calls P k vals W (fun e W'=>e = .returned v0∧Below W.heap.size W W'):=by
  have hs:HSim W ⟨qb3 [],fun _=>none⟩ (fun _=>True) (fun _=>none) (qb3 []) ([]:List AObj).length W :=
    { obj:=fun j=>by unfold qh5;rw [qdc];trivial,inj:=fun i j b hi=>absurd (qdc i) hi,hnd:=fun j b hj=>absurd (qdc j) hj,fresh:=fun j _=>qdc j,ext:=Ext.refl _ _,keep:=MovesR.refl _ _ _,lay:=fun g vs hg=>⟨hlay g vs hg,fun ⟨j,hj,_⟩=>hj (qdc j)⟩ }
  refine (hc W ⟨qb3 [],fun _=>none⟩ (fun _=>none) (fun _=>True) vals rfl rfl hs hrel).mono fun e W' ⟨v,r,o,n,hb',he,⟨hr,ho,hn⟩,_,hs',hv⟩=>?_
  subst hr
  have:=hv0 _ _ _ _ _ hv
  subst this
  have hx:=hs'.ext
  exact ⟨he,hx.os,hx.tape,hx.output,hx.size,fun k hk=>hx.kept k hk (fun ⟨j,hj,_⟩=>hj (qdc j))⟩
theorem qvm {W:World} {hb:Handle} {H:Nat→AObj} {ok:Nat→Prop} {x:V} {v:Value} (h:Rel W hb H ok x v):RelL W hb H ok [x] #[v]:=⟨rfl,fun i hi=>by
  rcases i with _ | i
  · exact h
  · simp at hi⟩
theorem qwz {W:World} {hb:Handle} {H:Nat→AObj} {ok:Nat→Prop} {x y:V} {v u:Value} (h:Rel W hb H ok x v) (h':Rel W hb H ok y u):RelL W hb H ok [x,y] #[v,u]:=⟨rfl,fun i hi=>by
  rcases i with _ | _ | i
  · exact h
  · exact h'
  · simp at hi;omega⟩
end Go.Proofs.YtiegopnofbgoaaaGreat.AWN

namespace Go.Proofs.YtiegopnofbgoaaaGreat.AWN
open Go Go.Shelf Go.RowKit Go.Proofs.Tryz
theorem qn7 (s:Str):Lib.strCells (bstr s) = Lib.byteCells s:=by
  rw [Lib.strCells_eq];rfl
theorem qq6 (s t:Str):Lib.byteCells s ++ Lib.byteCells t = Lib.byteCells (s ++ t):=by
  unfold Lib.byteCells;rw [List.map_append]
def upTo (f:Nat→Str) (out:Str):Nat→Str
  | 0=>out
  | k + 1=>upTo f out k ++ f k
set_option maxHeartbeats 4000000 in
set_option maxRecDepth 100000 in
theorem put_walk (B b g o n cap:Nat) (out:Str) (f:Nat→Str) (w:World) (cs:Array Value) (T:TypeId) (fz:Nat × Nat)
    (hB:Lib.IsBuilder 89 5 B b (Lib.byteCells out) w) (hBw:B ≤ w.heap.size)
    (hg:w.heap[g]? = some (.cells cs T fz)) (hgb:g ≠ b) (hgT:T ≠ 5) (hn:n ≤ 10) (hc:∀ k,k < n→cs[o + k]? = some (.string (bstr (f k)))) (hlen:out.length ≤ 100000000∧∀ k,(f k).length ≤ 100000) :
    Calls prog 38 #[.slice (some ⟨g,o,none⟩) n cap,.pointer (some ⟨b,0,none⟩)] w fun e w'=>e = .returned (.tuple #[])∧Lib.IsBuilder 89 5 B b (Lib.byteCells (upTo f out n)) w'∧Below B w w'∧Lib.OthersKept 5 (some b) w w':=by
  have fl:∀ j,(upTo f out j).length ≤ 100000000 + 100000 * j:=fun j=>by
    induction j with
    | zero=>exact hlen.1
    | succ j ih =>
      show (upTo f out j ++ f j).length ≤ _
      have h1:=hlen.2 j
      rw [List.length_append];omega
  go_enter Tryz.func38,Tryz.ntmps38
  go_wp2
  go_loopw [7] (fun i wr=>∃ k:Nat,k ≤ n∧i = .int .i64 k∧Lib.IsBuilder 89 5 B b (Lib.byteCells (upTo f out k)) wr∧Below B w wr∧Lib.OthersKept 5 (some b) w wr)
    (fun i _=>n - (intOf i).toNat)
  case atStart=>exact ⟨0,Nat.zero_le _,rfl,hB,Below.refl _ _,Lib.OthersKept.refl _ _ _⟩
  case round =>
    obtain ⟨k,hk,rfl,hB',bel,oth⟩:=hrel
    clear hB
    by_cases hlt:k < n
    · have hg':=oth g _ hg (by intro e;cases e;exact hgb rfl) (fun c fz h=>by cases h;exact hgT rfl)
      have c0:wr.cell? ⟨g,o + k,none⟩ = some (.string (bstr (f k))):=by rw [Lib.cell_of_heap hg'];exact hc k hlt
      have hs:=bel.size
      have hbs:=qjh (f k)
      have hf:=hlen.2 k
      have hfl:=fl k
      go_wp2_with (go_at_call 39;refine (qsy B b _ (bstr (f k)) _ hB' ?c1 (Nat.le_trans hBw hs)).mono ?_)
      case c1 =>
        rw [Lib.byteCells_length,hbs]
        omega
      rintro e w1 ⟨rfl,hB1,b1,o1⟩
      rw [qn7,qq6] at hB1
      go_wp2
      go_roundw
      case rel=>exact ⟨k + 1,by omega,by go_num,Or.inr hB1,bel.trans b1,oth.trans o1⟩
      case measure=>simp [intOf];omega
    · have hke:k = n:=by omega
      subst hke
      go_wp2
      go_end0
      exact ⟨rfl,hB',bel,oth⟩
end Go.Proofs.YtiegopnofbgoaaaGreat.AWN

namespace Go.Proofs.YtiegopnofbgoaaaGreat.AWN
open Go Go.Shelf Go.RowKit Go.Proofs.Tryz
theorem qv0 {B b:Nat} {p:Value} {bs:List Value} {w w':World} (h:Lib.BuilderAt 89 5 B b p bs w) (k:Below w.heap.size w w'):Lib.BuilderAt 89 5 B b p bs w':=by
  have hlt:=h.lt
  obtain ⟨hB,v,hb,hown,hne⟩:=h
  refine ⟨hB,v,(k.block b hlt).trans hb,hown.kept (row:=none) ⟨k.os,k.tape,k.output,k.size,fun i hi _=>k.block i hi⟩ (by cases hv:v.ownBlock <;> simp),hne⟩
theorem qit {B b:Nat} {bs:List Value} {w w':World} (h:Lib.IsBuilder 89 5 B b bs w) (k:Below w.heap.size w w'):Lib.IsBuilder 89 5 B b bs w':=h.imp (fun h=>qv0 h k) fun h=>qv0 h k
theorem qsn (B b:Nat) (out:Str) (parts:List Str) (wr:World) (cs:Array Value) (T:TypeId) (n:Nat) (hB:Lib.IsBuilder 89 5 B b (Lib.byteCells out) wr) (hBw:B ≤ wr.heap.size) (hT:T ≠ 5) (hcs:cs = (parts.map fun s=>Value.string (bstr s)).toArray) (hn:n = parts.length) (h10:parts.length ≤ 10) (hl:out.length ≤ 100000000) (hp:∀ s ∈ parts,s.length ≤ 100000) :
    Calls prog 38 #[.slice (some ⟨wr.heap.size,0,none⟩) n n,.pointer (some ⟨b,0,none⟩)] (wr.alloc (.cells cs T)) fun e w'=>e = .returned (.tuple #[])∧Lib.IsBuilder 89 5 B b (Lib.byteCells (out ++ parts.flatten)) w'∧Below B wr w'∧Lib.OthersKept 5 (some b) wr w':=by
  have hlt:b < wr.heap.size:=by
    rcases hB with h | h
    · exact h.lt
    · exact h.lt
  have bel:Below wr.heap.size wr (wr.alloc (.cells cs T)):=(Below.refl _ wr).alloc (Nat.le_refl _) _
  have hp':∀ k,(parts.getD k []).length ≤ 100000:=fun k=>by
    rw [List.getD_eq_getElem?_getD]
    cases he:parts[k]? with
    | none=>exact Nat.zero_le _
    | some z=>exact hp z (List.mem_of_getElem? he)
  have sh:∀ (k:Nat) (f:Nat→Str) (o:Str),upTo f o (k + 1) = upTo (fun i=>f (i + 1)) (o ++ f 0) k:=by
    intro k
    induction k with
    | zero=>intro f o;rfl
    | succ k ih =>
      intro f o
      show upTo f o (k + 1) ++ f (k + 1) = _
      rw [ih f o];rfl
  have hup:∀ (ps:List Str) (o:Str) (f:Nat→Str),(∀ k,k < ps.length→f k = ps.getD k [])→upTo f o ps.length = o ++ ps.flatten:=by
    intro ps
    induction ps with
    | nil=>intro o f _;show o = o ++ [];rw [List.append_nil]
    | cons x l ih =>
      intro o f h
      rw [List.length_cons,sh,ih (o ++ f 0) (fun i=>f (i + 1)) fun k hk=>by
        rw [h (k + 1) (by rw [List.length_cons];omega)];rfl]
      rw [h 0 (by rw [List.length_cons];omega)]
      simp
  subst hn
  refine (put_walk B b wr.heap.size 0 parts.length parts.length out (fun k=>parts.getD k []) _ cs T (0,0) (qit hB bel) (Nat.le_trans hBw bel.size) (heap_alloc_new wr _) (by omega) hT h10 (fun k hk=>?_) ⟨hl,hp'⟩).mono ?_
  · subst hcs
    rw [Nat.zero_add,List.getElem?_toArray,List.getElem?_map,List.getD_eq_getElem?_getD,List.getElem?_eq_getElem hk];rfl
  · rintro e w' ⟨rfl,h1,h2,h3⟩
    rw [hup parts out _ fun k _=>rfl] at h1
    exact ⟨rfl,h1,((Below.refl B wr).alloc hBw _).trans h2,((Lib.OthersKept.refl _ _ wr).alloc _).trans h3⟩
end Go.Proofs.YtiegopnofbgoaaaGreat.AWN

namespace Go.Proofs.YtiegopnofbgoaaaGreat.AWN
open Go Go.Shelf Go.RowKit Go.Proofs.Tryz
theorem st1 (wr:World) (i:Nat) (cs:Array Value) (hi:i < cs.size) (v:Value) (hv:v.oneCell' = true) (T:TypeId):(store ⟨wr.heap.size,i,none⟩ v).run prog (wr.alloc (.cells cs T)) = .ok () (wr.alloc (.cells (cs.modify i fun _=>v) T)):=by
  have h:(wr.alloc (.cells cs T)).heap[wr.heap.size]? = some (.cells cs T (0,0)):=heap_alloc_new wr _
  rw [run_store _ _ _ _ _ hv,Lib.cell_of_heap h,Array.getElem?_eq_getElem hi]
  dsimp only
  rw [Lib.frozen_of_heap h,World.setCell_alloc_at _ _ _ _ _ rfl]
  rfl
theorem stB1 (wr:World) (x0 x1 x2 x3 x4 x5 x6 x7:Value) (a c:Nat):(store ⟨wr.heap.size,1,none⟩ (.complex .f32 a c)).run prog (wr.alloc (.cells #[x0,x1,x2,x3,x4,x5,x6,x7] 98)) = .ok () (wr.alloc (.cells #[x0,.complex .f32 a c,x2,x3,x4,x5,x6,x7] 98)):=by
  rw [st1 _ _ _ (by simp) _ rfl]
  rfl
theorem stB2 (wr:World) (x0 x1 x2 x3 x4 x5 x6 x7:Value) (a c:Nat):(store ⟨wr.heap.size,2,none⟩ (.complex .f32 a c)).run prog (wr.alloc (.cells #[x0,x1,x2,x3,x4,x5,x6,x7] 98)) = .ok () (wr.alloc (.cells #[x0,x1,.complex .f32 a c,x3,x4,x5,x6,x7] 98)):=by
  rw [st1 _ _ _ (by simp) _ rfl]
  rfl
theorem stB4 (wr:World) (x0 x1 x2 x3 x4 x5 x6 x7:Value) (a c:Nat):(store ⟨wr.heap.size,4,none⟩ (.complex .f32 a c)).run prog (wr.alloc (.cells #[x0,x1,x2,x3,x4,x5,x6,x7] 98)) = .ok () (wr.alloc (.cells #[x0,x1,x2,x3,.complex .f32 a c,x5,x6,x7] 98)):=by
  rw [st1 _ _ _ (by simp) _ rfl]
  rfl
theorem stB5 (wr:World) (x0 x1 x2 x3 x4 x5 x6 x7:Value) (a c:Nat):(store ⟨wr.heap.size,5,none⟩ (.complex .f32 a c)).run prog (wr.alloc (.cells #[x0,x1,x2,x3,x4,x5,x6,x7] 98)) = .ok () (wr.alloc (.cells #[x0,x1,x2,x3,x4,.complex .f32 a c,x6,x7] 98)):=by
  rw [st1 _ _ _ (by simp) _ rfl]
  rfl
theorem stB6 (wr:World) (x0 x1 x2 x3 x4 x5 x6 x7:Value) (a c:Nat):(store ⟨wr.heap.size,6,none⟩ (.complex .f32 a c)).run prog (wr.alloc (.cells #[x0,x1,x2,x3,x4,x5,x6,x7] 98)) = .ok () (wr.alloc (.cells #[x0,x1,x2,x3,x4,x5,.complex .f32 a c,x7] 98)):=by
  rw [st1 _ _ _ (by simp) _ rfl]
  rfl
theorem stT2 (wr:World) (x0 x1 x2 x3 x4:Value) (a c:Nat):(store ⟨wr.heap.size,2,none⟩ (.complex .f32 a c)).run prog (wr.alloc (.cells #[x0,x1,x2,x3,x4] 75)) = .ok () (wr.alloc (.cells #[x0,x1,.complex .f32 a c,x3,x4] 75)):=by
  rw [st1 _ _ _ (by simp) _ rfl]
  rfl
theorem stT3 (wr:World) (x0 x1 x2 x3 x4:Value) (a c:Nat):(store ⟨wr.heap.size,3,none⟩ (.complex .f32 a c)).run prog (wr.alloc (.cells #[x0,x1,x2,x3,x4] 75)) = .ok () (wr.alloc (.cells #[x0,x1,x2,.complex .f32 a c,x4] 75)):=by
  rw [st1 _ _ _ (by simp) _ rfl]
  rfl
section
variable (byt:Int→Int→Str→Prop) (cpx:Nat→Nat→Str→Prop) (pha:Nat→Nat→Nat→Nat→Nat→Nat→Str→Prop)
variable (hbyt:∀ a c s,byt a c s→∀ wr,Calls prog 21 #[.int .i64 a,.int .i64 c] wr fun e w'=>e = .returned (.string (bstr s))∧Below wr.heap.size wr w')
variable (hcpx:∀ a c s,cpx a c s→∀ wr,Calls prog 41 #[.complex .f32 a c] wr fun e w'=>e = .returned (.string (bstr s))∧Below wr.heap.size wr w')
variable (hpha:∀ a a' b b' c c' s,pha a a' b b' c c' s→∀ wr,Calls prog 40 #[.agg #[.complex .f32 a a',.complex .f32 b b',.complex .f32 c c']] wr fun e w'=>e = .returned (.string (bstr s))∧Below wr.heap.size wr w')
include hbyt hcpx hpha
set_option maxHeartbeats 8000000 in
set_option maxRecDepth 100000 in
theorem stored_walk (w:World) (S1 S1' S2 S2' S3 S3':Nat) (a0 a1:Option Addr) (n0 cap0 n1 cap1:Nat) (src nb nt:Str)
    (hsrc:pha S1 S1' S2 S2' S3 S3' src) (hnb:byt (n0:Int) 1 nb) (hnt:byt (n1:Int) 1 nt) (hn:n0 ≤ 1000∧n1 ≤ 1000)
    (hsl:src.length ≤ 1000∧nb.length ≤ 1000∧nt.length ≤ 1000)
    (BP BK BC:Nat→Int) (BO BO' BS BS' L1 L1' L2 L2' L3 L3':Nat→Nat) (tp to ts tk tl tc:Nat→Str)
    (hbus:∀ k,k < n0→byt (BP k + 1) 1 (tp k)∧cpx (BO k) (BO' k) (to k)∧cpx (BS k) (BS' k) (ts k)∧byt (BK k) 1 (tk k)∧pha (L1 k) (L1' k) (L2 k) (L2' k) (L3 k) (L3' k) (tl k)∧byt (BC k) 4 (tc k)∧IntKind.i64.wrap (BP k + 1) = BP k + 1)
    (hbl:∀ k,(tp k).length ≤ 1000∧(to k).length ≤ 1000∧(ts k).length ≤ 1000∧(tk k).length ≤ 1000∧(tl k).length ≤ 1000∧(tc k).length ≤ 1000)
    (hbc:∀ k,k < n0→∃ b o,a0 = some ⟨b,o,none⟩∧b < w.heap.size∧w.cell? ⟨b,o + k * 8,none⟩ = some (.int .i64 (BP k))∧w.cell? ⟨b,o + k * 8 + 1,none⟩ = some (.complex .f32 (BO k) (BO' k))∧w.cell? ⟨b,o + k * 8 + 2,none⟩ = some (.complex .f32 (BS k) (BS' k))∧w.cell? ⟨b,o + k * 8 + 3,none⟩ = some (.int .i64 (BK k))∧w.cell? ⟨b,o + k * 8 + 4,none⟩ = some (.complex .f32 (L1 k) (L1' k))∧w.cell? ⟨b,o + k * 8 + 5,none⟩ = some (.complex .f32 (L2 k) (L2' k))∧w.cell? ⟨b,o + k * 8 + 6,none⟩ = some (.complex .f32 (L3 k) (L3' k))∧w.cell? ⟨b,o + k * 8 + 7,none⟩ = some (.int .i64 (BC k)))
    (TA TB TM:Nat→Int) (TO TO' TS TS':Nat→Nat) (xa xb xo xs xm:Nat→Str)
    (htie:∀ m,m < n1→byt (TA m) 1 (xa m)∧byt (TB m) 1 (xb m)∧cpx (TO m) (TO' m) (xo m)∧cpx (TS m) (TS' m) (xs m)∧byt (TM m) 4 (xm m))
    (htl:∀ m,(xa m).length ≤ 1000∧(xb m).length ≤ 1000∧(xo m).length ≤ 1000∧(xs m).length ≤ 1000∧(xm m).length ≤ 1000)
    (htc:∀ m,m < n1→∃ b o,a1 = some ⟨b,o,none⟩∧b < w.heap.size∧w.cell? ⟨b,o + m * 5,none⟩ = some (.int .i64 (TA m))∧w.cell? ⟨b,o + m * 5 + 1,none⟩ = some (.int .i64 (TB m))∧w.cell? ⟨b,o + m * 5 + 2,none⟩ = some (.complex .f32 (TO m) (TO' m))∧w.cell? ⟨b,o + m * 5 + 3,none⟩ = some (.complex .f32 (TS m) (TS' m))∧w.cell? ⟨b,o + m * 5 + 4,none⟩ = some (.int .i64 (TM m))) :
    Calls prog 18 #[.agg #[.complex .f32 S1 S1',.complex .f32 S2 S2',.complex .f32 S3 S3',.slice a0 n0 cap0,.slice a1 n1 cap1]] w fun e w'=>e = .returned (.string (bstr (upTo (fun m=>xa m ++ xb m ++ xo m ++ xs m ++ xm m) (upTo (fun k=>tp k ++ to k ++ ts k ++ tk k ++ tl k ++ tc k) ([70,68,82,49] ++ src ++ nb) n0 ++ nt) n1)))∧Below w.heap.size w w':=by
  go_enter Tryz.func18,Tryz.ntmps18
  go_wp2
  obtain ⟨W1,hW1⟩:∃ W1,W1 = w.alloc (.cells #[.complex .f32 S1 S1',.complex .f32 S2 S2',.complex .f32 S3 S3',.slice a0 n0 cap0,.slice a1 n1 cap1] 32):=⟨_,rfl⟩
  have z1:W1.heap.size = w.heap.size + 1:=by rw [hW1];simp
  have hv1:W1.heap[w.heap.size]? = some (.cells #[.complex .f32 S1 S1',.complex .f32 S2 S2',.complex .f32 S3 S3',.slice a0 n0 cap0,.slice a1 n1 cap1] 32 (0,0)):=by rw [hW1];exact heap_alloc_new w _
  have bel1:Below w.heap.size w W1:=by rw [hW1];exact (Below.refl _ w).alloc (Nat.le_refl _) _
  have hb:w.heap.size + 1 = W1.heap.size:=z1.symm
  rw [← hW1,hb]
  obtain ⟨W2,hW2⟩:∃ W2,W2 = W1.alloc (.cells #[.pointer none,.slice none 0 0] 89):=⟨_,rfl⟩
  have hB2:Lib.IsBuilder 89 5 W1.heap.size W1.heap.size (Lib.byteCells []) W2:=by rw [hW2];exact Lib.fresh_isBuilder 89 5 W1
  have b2:Below W1.heap.size W1 W2:=by rw [hW2];exact (Below.refl _ W1).alloc (Nat.le_refl _) _
  have s2:=b2.size
  rw [← hW2]
  -- the grid's own box,wherever all below the builder is kept
  have box:∀ w',Below W1.heap.size W1 w'→w'.cell? ⟨w.heap.size,0,none⟩ = some (.complex .f32 S1 S1')∧w'.cell? ⟨w.heap.size,1,none⟩ = some (.complex .f32 S2 S2')∧w'.cell? ⟨w.heap.size,2,none⟩ = some (.complex .f32 S3 S3')∧w'.cell? ⟨w.heap.size,3,none⟩ = some (.slice a0 n0 cap0)∧w'.cell? ⟨w.heap.size,4,none⟩ = some (.slice a1 n1 cap1):=fun w' h=>by
    have hh:=(h.block w.heap.size (by omega)).trans hv1
    exact ⟨by rw [Lib.cell_of_heap hh];rfl,by rw [Lib.cell_of_heap hh];rfl,by rw [Lib.cell_of_heap hh];rfl,by rw [Lib.cell_of_heap hh];rfl,by rw [Lib.cell_of_heap hh];rfl⟩
  have hph':∀ a a' b b' c c' s,pha a a' b b' c c' s→∀ wr',Below W2.heap.size W2 wr'→Calls prog 40 #[.agg #[.complex .f32 a a',.complex .f32 b b',.complex .f32 c c']] wr' fun e w'=>e = .returned (.string (bstr s))∧Below W2.heap.size W2 w'∧w'.cell? ⟨w.heap.size,0,none⟩ = some (.complex .f32 S1 S1')∧w'.cell? ⟨w.heap.size,1,none⟩ = some (.complex .f32 S2 S2')∧w'.cell? ⟨w.heap.size,2,none⟩ = some (.complex .f32 S3 S3')∧w'.cell? ⟨w.heap.size,3,none⟩ = some (.slice a0 n0 cap0)∧w'.cell? ⟨w.heap.size,4,none⟩ = some (.slice a1 n1 cap1):=fun a a' b b' c c' s hs wr' h=>(hpha a a' b b' c c' s hs wr').mono fun e w' h' =>
    have q:=h.trans (h'.2.mono h.size)
    ⟨h'.1,q,box w' (b2.trans (q.mono s2))⟩
  have hby':∀ a c s,byt a c s→∀ wr',Below W2.heap.size W2 wr'→Calls prog 21 #[.int .i64 a,.int .i64 c] wr' fun e w'=>e = .returned (.string (bstr s))∧Below W2.heap.size W2 w'∧w'.cell? ⟨w.heap.size,0,none⟩ = some (.complex .f32 S1 S1')∧w'.cell? ⟨w.heap.size,1,none⟩ = some (.complex .f32 S2 S2')∧w'.cell? ⟨w.heap.size,2,none⟩ = some (.complex .f32 S3 S3')∧w'.cell? ⟨w.heap.size,3,none⟩ = some (.slice a0 n0 cap0)∧w'.cell? ⟨w.heap.size,4,none⟩ = some (.slice a1 n1 cap1):=fun a c s hs wr' h=>(hbyt a c s hs wr').mono fun e w' h' =>
    have q:=h.trans (h'.2.mono h.size)
    ⟨h'.1,q,box w' (b2.trans (q.mono s2))⟩
  have put':∀ T,T ≠ 5→∀ wr',Below W2.heap.size W2 wr'→Calls prog 38 #[.slice (some ⟨wr'.heap.size,0,none⟩) 3 3,.pointer (some ⟨W1.heap.size,0,none⟩)] (wr'.alloc (.cells #[.string { data:=#[70,68,82,49] },.string (bstr src),.string (bstr nb)] T)) fun e w'=>e = .returned (.tuple #[])∧Lib.IsBuilder 89 5 W1.heap.size W1.heap.size (Lib.byteCells ([70,68,82,49] ++ src ++ nb)) w'∧Below W1.heap.size W1 w'∧w'.cell? ⟨w.heap.size,0,none⟩ = some (.complex .f32 S1 S1')∧w'.cell? ⟨w.heap.size,1,none⟩ = some (.complex .f32 S2 S2')∧w'.cell? ⟨w.heap.size,2,none⟩ = some (.complex .f32 S3 S3')∧w'.cell? ⟨w.heap.size,3,none⟩ = some (.slice a0 n0 cap0)∧w'.cell? ⟨w.heap.size,4,none⟩ = some (.slice a1 n1 cap1):=fun T hT wr' h=>by
    refine (qsn W1.heap.size W1.heap.size [] [[70,68,82,49],src,nb] wr' _ T 3 (qit hB2 h) (Nat.le_trans s2 h.size) hT rfl rfl (by show 3 ≤ 10;decide) (by decide) (fun s hs=>?_)).mono ?_
    · simp at hs
      rcases hs with rfl | rfl | rfl
      · decide
      · have:=hsl.1;omega
      · have:=hsl.2.1;omega
    · rintro e w' ⟨rfl,h1,h2,_⟩
      have q:=(b2.trans (h.mono s2)).trans h2
      refine ⟨rfl,?_,q,box w' q⟩
      have e:([]:Str) ++ [[70,68,82,49],src,nb].flatten = [70,68,82,49] ++ src ++ nb:=by simp
      rw [e] at h1;exact h1
  obtain ⟨g0,g1,g2,g3,g4⟩:=box W2 b2
  have al:∀ w' o,Below W2.heap.size W2 w'→(w'.alloc o).cell? ⟨w.heap.size,0,none⟩ = some (.complex .f32 S1 S1')∧(w'.alloc o).cell? ⟨w.heap.size,1,none⟩ = some (.complex .f32 S2 S2')∧(w'.alloc o).cell? ⟨w.heap.size,2,none⟩ = some (.complex .f32 S3 S3')∧(w'.alloc o).cell? ⟨w.heap.size,3,none⟩ = some (.slice a0 n0 cap0)∧(w'.alloc o).cell? ⟨w.heap.size,4,none⟩ = some (.slice a1 n1 cap1):=fun w' o h=>box _ ((b2.trans (h.mono s2)).trans ((Below.refl _ w').alloc (Nat.le_trans s2 h.size) _))
  have hlt1:w.heap.size < W1.heap.size:=by omega
  clear hW1 hW2 hv1 hb z1
  go_region_held3 (fun w'=>w'.cell? ⟨w.heap.size,0,none⟩ = some (.complex .f32 S1 S1')∧w'.cell? ⟨w.heap.size,1,none⟩ = some (.complex .f32 S2 S2')∧w'.cell? ⟨w.heap.size,2,none⟩ = some (.complex .f32 S3 S3')∧w'.cell? ⟨w.heap.size,3,none⟩ = some (.slice a0 n0 cap0)∧w'.cell? ⟨w.heap.size,4,none⟩ = some (.slice a1 n1 cap1))
    (first | exact ⟨q0,q1,q2,q3,q4⟩ | exact ⟨g0,g1,g2,g3,g4⟩ | exact al _ _ (by assumption))
    (first
      | (go_at_call 40;refine (hph' _ _ _ _ _ _ _ (by assumption) _ (by first | assumption | exact (Below.refl _ _).drew | exact Below.refl _ _)).mono ?_;rintro e w' ⟨rfl,q,q0,q1,q2,q3,q4⟩)
      | (go_at_call 21;refine (hby' _ _ _ (by assumption) _ (by first | assumption | exact (Below.refl _ _).drew | exact Below.refl _ _)).mono ?_;rintro e w' ⟨rfl,q,q0,q1,q2,q3,q4⟩)
      | (go_at_call 38;refine (put' _ (by decide) _ (by first | assumption | exact (Below.refl _ _).drew | exact Below.refl _ _)).mono ?_;rintro e w' ⟨rfl,hB6,b6,q0,q1,q2,q3,q4⟩))
  have bel6:Below w.heap.size w w':=bel1.trans (b6.mono (by omega))
  clear hph' hby' put' al hB2 b2 s2 g0 g1 g2 g3 g4
  go_wp2
  go_loopw [27] (fun i wr=>∃ k:Nat,k ≤ n0∧i = .int .i64 k∧Lib.IsBuilder 89 5 W1.heap.size W1.heap.size (Lib.byteCells (upTo (fun k=>tp k ++ to k ++ ts k ++ tk k ++ tl k ++ tc k) ([70,68,82,49] ++ src ++ nb) k)) wr∧Below W1.heap.size W1 wr)
    (fun i _=>n0 - (intOf i).toNat)
  case atStart=>exact ⟨0,Nat.zero_le _,rfl,hB6,b6⟩
  case round =>
    obtain ⟨k,hk,rfl,hB,bel⟩:=hrel
    clear hB6 b6 bel6 q0 q1 q2 q3 q4
    by_cases hlt:k < n0
    · obtain ⟨b,o,rfl,hbl',c0,c1,c2,c3,c4,c5,c6,c7⟩:=hbc k hlt
      clear hbc
      have hs:=bel1.size
      have cc:∀ (j:Nat) (v:Value),w.cell? ⟨b,o + k * 8 + j,none⟩ = some v→wr.cell? ⟨b,o + k * 8 + j,none⟩ = some v:=fun j v h=>(bel.cell (p:=⟨b,o + k * 8 + j,none⟩) (by show b < _;omega)).trans ((bel1.cell (p:=⟨b,o + k * 8 + j,none⟩) hbl').trans h)
      have c0:=cc 0 _ c0
      have c1:=cc 1 _ c1
      have c2:=cc 2 _ c2
      have c3:=cc 3 _ c3
      have c4:=cc 4 _ c4
      have c5:=cc 5 _ c5
      have c6:=cc 6 _ c6
      have c7:=cc 7 _ c7
      rw [Nat.add_zero] at c0
      clear cc
      have e1:=stB1 wr
      have e2:=stB2 wr
      have e4:=stB4 wr
      have e5:=stB5 wr
      have e6:=stB6 wr
      go_wp2
      obtain ⟨u0,u1,u2,u3,u4,u5,u6⟩:=hbus k hlt
      obtain ⟨l0,l1,l2,l3,l4,l5⟩:=hbl k
      have fl:∀ j,(upTo (fun k=>tp k ++ to k ++ ts k ++ tk k ++ tl k ++ tc k) ([70,68,82,49] ++ src ++ nb) j).length ≤ 4000 + 6000 * j:=fun j=>by
        induction j with
        | zero=>show ([70,68,82,49] ++ src ++ nb).length ≤ _;rw [List.length_append,List.length_append];show 4 + _ + _ ≤ _;omega
        | succ j ih =>
          show (upTo (fun k=>tp k ++ to k ++ ts k ++ tk k ++ tl k ++ tc k) ([70,68,82,49] ++ src ++ nb) j ++ (tp j ++ to j ++ ts j ++ tk j ++ tl j ++ tc j)).length ≤ _
          have h1:=hbl j
          simp only [List.length_append] at ih ⊢;omega
      clear hbus hbl c0 c1 c2 c3 c4 c5 c6 c7 e1 e2 e4 e5 e6
      obtain ⟨Wv,hWv⟩:∃ Wv,Wv = wr.alloc (.cells #[.int .i64 (BP k),.complex .f32 (BO k) (BO' k),.complex .f32 (BS k) (BS' k),.int .i64 (BK k),.complex .f32 (L1 k) (L1' k),.complex .f32 (L2 k) (L2' k),.complex .f32 (L3 k) (L3' k),.int .i64 (BC k)] 98):=⟨_,rfl⟩
      have hv:Wv.heap[wr.heap.size]? = some (.cells #[.int .i64 (BP k),.complex .f32 (BO k) (BO' k),.complex .f32 (BS k) (BS' k),.int .i64 (BK k),.complex .f32 (L1 k) (L1' k),.complex .f32 (L2 k) (L2' k),.complex .f32 (L3 k) (L3' k),.int .i64 (BC k)] 98 (0,0)):=by rw [hWv];exact heap_alloc_new wr _
      have bv:Below wr.heap.size wr Wv:=by rw [hWv];exact (Below.refl _ wr).alloc (Nat.le_refl _) _
      have szv:Wv.heap.size = wr.heap.size + 1:=by rw [hWv];simp
      rw [← hWv]
      have bel':Below W1.heap.size W1 Wv:=bel.trans (bv.mono bel.size)
      have hB':=qit hB bv
      have hVlt:wr.heap.size < Wv.heap.size:=by omega
      have hVne:wr.heap.size ≠ W1.heap.size:=by
        rcases hB with h | h
        · have:=h.lt;omega
        · have:=h.lt;omega
      clear hWv szv
      generalize wr.heap.size = V at hv hVlt hVne bv ⊢
      have hVk:∀ w':World,w'.heap[V]? = some (.cells #[.int .i64 (BP k),.complex .f32 (BO k) (BO' k),.complex .f32 (BS k) (BS' k),.int .i64 (BK k),.complex .f32 (L1 k) (L1' k),.complex .f32 (L2 k) (L2' k),.complex .f32 (L3 k) (L3' k),.int .i64 (BC k)] 98 (0,0))→w'.cell? ⟨V,0,none⟩ = some (.int .i64 (BP k))∧w'.cell? ⟨V,1,none⟩ = some (.complex .f32 (BO k) (BO' k))∧w'.cell? ⟨V,2,none⟩ = some (.complex .f32 (BS k) (BS' k))∧w'.cell? ⟨V,3,none⟩ = some (.int .i64 (BK k))∧w'.cell? ⟨V,4,none⟩ = some (.complex .f32 (L1 k) (L1' k))∧w'.cell? ⟨V,5,none⟩ = some (.complex .f32 (L2 k) (L2' k))∧w'.cell? ⟨V,6,none⟩ = some (.complex .f32 (L3 k) (L3' k))∧w'.cell? ⟨V,7,none⟩ = some (.int .i64 (BC k)):=fun w' h=>⟨by rw [Lib.cell_of_heap h];rfl,by rw [Lib.cell_of_heap h];rfl,by rw [Lib.cell_of_heap h];rfl,by rw [Lib.cell_of_heap h];rfl,by rw [Lib.cell_of_heap h];rfl,by rw [Lib.cell_of_heap h];rfl,by rw [Lib.cell_of_heap h];rfl,by rw [Lib.cell_of_heap h];rfl⟩
      have sv:=bel'.size
      have kept:∀ w',Below Wv.heap.size Wv w'→w'.cell? ⟨V,0,none⟩ = some (.int .i64 (BP k))∧w'.cell? ⟨V,1,none⟩ = some (.complex .f32 (BO k) (BO' k))∧w'.cell? ⟨V,2,none⟩ = some (.complex .f32 (BS k) (BS' k))∧w'.cell? ⟨V,3,none⟩ = some (.int .i64 (BK k))∧w'.cell? ⟨V,4,none⟩ = some (.complex .f32 (L1 k) (L1' k))∧w'.cell? ⟨V,5,none⟩ = some (.complex .f32 (L2 k) (L2' k))∧w'.cell? ⟨V,6,none⟩ = some (.complex .f32 (L3 k) (L3' k))∧w'.cell? ⟨V,7,none⟩ = some (.int .i64 (BC k)):=fun w' h=>hVk w' ((h.block V hVlt).trans hv)
      have hph':∀ a a' b b' c c' s,pha a a' b b' c c' s→∀ wr',Below Wv.heap.size Wv wr'→Calls prog 40 #[.agg #[.complex .f32 a a',.complex .f32 b b',.complex .f32 c c']] wr' fun e w'=>e = .returned (.string (bstr s))∧Below Wv.heap.size Wv w'∧w'.cell? ⟨V,0,none⟩ = some (.int .i64 (BP k))∧w'.cell? ⟨V,1,none⟩ = some (.complex .f32 (BO k) (BO' k))∧w'.cell? ⟨V,2,none⟩ = some (.complex .f32 (BS k) (BS' k))∧w'.cell? ⟨V,3,none⟩ = some (.int .i64 (BK k))∧w'.cell? ⟨V,4,none⟩ = some (.complex .f32 (L1 k) (L1' k))∧w'.cell? ⟨V,5,none⟩ = some (.complex .f32 (L2 k) (L2' k))∧w'.cell? ⟨V,6,none⟩ = some (.complex .f32 (L3 k) (L3' k))∧w'.cell? ⟨V,7,none⟩ = some (.int .i64 (BC k)):=fun a a' b b' c c' s hs wr' h=>(hpha a a' b b' c c' s hs wr').mono fun e w' h' =>
        have q:=h.trans (h'.2.mono h.size)
        ⟨h'.1,q,kept w' q⟩
      have hby':∀ a c s,byt a c s→∀ wr',Below Wv.heap.size Wv wr'→Calls prog 21 #[.int .i64 a,.int .i64 c] wr' fun e w'=>e = .returned (.string (bstr s))∧Below Wv.heap.size Wv w'∧w'.cell? ⟨V,0,none⟩ = some (.int .i64 (BP k))∧w'.cell? ⟨V,1,none⟩ = some (.complex .f32 (BO k) (BO' k))∧w'.cell? ⟨V,2,none⟩ = some (.complex .f32 (BS k) (BS' k))∧w'.cell? ⟨V,3,none⟩ = some (.int .i64 (BK k))∧w'.cell? ⟨V,4,none⟩ = some (.complex .f32 (L1 k) (L1' k))∧w'.cell? ⟨V,5,none⟩ = some (.complex .f32 (L2 k) (L2' k))∧w'.cell? ⟨V,6,none⟩ = some (.complex .f32 (L3 k) (L3' k))∧w'.cell? ⟨V,7,none⟩ = some (.int .i64 (BC k)):=fun a c s hs wr' h=>(hbyt a c s hs wr').mono fun e w' h' =>
        have q:=h.trans (h'.2.mono h.size)
        ⟨h'.1,q,kept w' q⟩
      have hcx':∀ a c s,cpx a c s→∀ wr',Below Wv.heap.size Wv wr'→Calls prog 41 #[.complex .f32 a c] wr' fun e w'=>e = .returned (.string (bstr s))∧Below Wv.heap.size Wv w'∧w'.cell? ⟨V,0,none⟩ = some (.int .i64 (BP k))∧w'.cell? ⟨V,1,none⟩ = some (.complex .f32 (BO k) (BO' k))∧w'.cell? ⟨V,2,none⟩ = some (.complex .f32 (BS k) (BS' k))∧w'.cell? ⟨V,3,none⟩ = some (.int .i64 (BK k))∧w'.cell? ⟨V,4,none⟩ = some (.complex .f32 (L1 k) (L1' k))∧w'.cell? ⟨V,5,none⟩ = some (.complex .f32 (L2 k) (L2' k))∧w'.cell? ⟨V,6,none⟩ = some (.complex .f32 (L3 k) (L3' k))∧w'.cell? ⟨V,7,none⟩ = some (.int .i64 (BC k)):=fun a c s hs wr' h=>(hcpx a c s hs wr').mono fun e w' h' =>
        have q:=h.trans (h'.2.mono h.size)
        ⟨h'.1,q,kept w' q⟩
      have put':∀ T,T ≠ 5→∀ wr',Below Wv.heap.size Wv wr'→Calls prog 38 #[.slice (some ⟨wr'.heap.size,0,none⟩) 6 6,.pointer (some ⟨W1.heap.size,0,none⟩)] (wr'.alloc (.cells #[.string (bstr (tp k)),.string (bstr (to k)),.string (bstr (ts k)),.string (bstr (tk k)),.string (bstr (tl k)),.string (bstr (tc k))] T)) fun e w'=>e = .returned (.tuple #[])∧Lib.IsBuilder 89 5 W1.heap.size W1.heap.size (Lib.byteCells (upTo (fun k=>tp k ++ to k ++ ts k ++ tk k ++ tl k ++ tc k) ([70,68,82,49] ++ src ++ nb) (k + 1))) w'∧Below W1.heap.size W1 w'∧w'.cell? ⟨V,0,none⟩ = some (.int .i64 (BP k))∧w'.cell? ⟨V,1,none⟩ = some (.complex .f32 (BO k) (BO' k))∧w'.cell? ⟨V,2,none⟩ = some (.complex .f32 (BS k) (BS' k))∧w'.cell? ⟨V,3,none⟩ = some (.int .i64 (BK k))∧w'.cell? ⟨V,4,none⟩ = some (.complex .f32 (L1 k) (L1' k))∧w'.cell? ⟨V,5,none⟩ = some (.complex .f32 (L2 k) (L2' k))∧w'.cell? ⟨V,6,none⟩ = some (.complex .f32 (L3 k) (L3' k))∧w'.cell? ⟨V,7,none⟩ = some (.int .i64 (BC k)):=fun T hT wr' h=>by
        refine (qsn W1.heap.size W1.heap.size _ [tp k,to k,ts k,tk k,tl k,tc k] wr' _ T 6 (qit hB' h) (Nat.le_trans sv h.size) hT rfl rfl (by show 6 ≤ 10;decide) ?_ (fun s hs=>?_)).mono ?_
        · have:=fl k;omega
        · simp at hs
          rcases hs with rfl | rfl | rfl | rfl | rfl | rfl <;> omega
        · rintro e w' ⟨rfl,h1,h2,h3⟩
          have q:=(bel'.trans (h.mono sv)).trans h2
          refine ⟨rfl,?_,q,hVk w' (h3 V _ ((h.block V hVlt).trans hv) (by intro hh;cases hh;exact hVne rfl) (fun c fz hh=>by cases hh))⟩
          have e:upTo (fun k=>tp k ++ to k ++ ts k ++ tk k ++ tl k ++ tc k) ([70,68,82,49] ++ src ++ nb) k ++ [tp k,to k,ts k,tk k,tl k,tc k].flatten = upTo (fun k=>tp k ++ to k ++ ts k ++ tk k ++ tl k ++ tc k) ([70,68,82,49] ++ src ++ nb) (k + 1):=by
            show _ = upTo (fun k=>tp k ++ to k ++ ts k ++ tk k ++ tl k ++ tc k) ([70,68,82,49] ++ src ++ nb) k ++ _
            simp [List.append_assoc]
          rw [e] at h1;exact h1
      obtain ⟨v0,v1,v2,v3,v4,v5,v6,v7⟩:=kept Wv (Below.refl _ _)
      have al:∀ w' o,Below Wv.heap.size Wv w'→(w'.alloc o).cell? ⟨V,0,none⟩ = some (.int .i64 (BP k))∧(w'.alloc o).cell? ⟨V,1,none⟩ = some (.complex .f32 (BO k) (BO' k))∧(w'.alloc o).cell? ⟨V,2,none⟩ = some (.complex .f32 (BS k) (BS' k))∧(w'.alloc o).cell? ⟨V,3,none⟩ = some (.int .i64 (BK k))∧(w'.alloc o).cell? ⟨V,4,none⟩ = some (.complex .f32 (L1 k) (L1' k))∧(w'.alloc o).cell? ⟨V,5,none⟩ = some (.complex .f32 (L2 k) (L2' k))∧(w'.alloc o).cell? ⟨V,6,none⟩ = some (.complex .f32 (L3 k) (L3' k))∧(w'.alloc o).cell? ⟨V,7,none⟩ = some (.int .i64 (BC k)):=fun w' o h=>kept _ (h.trans ((Below.refl _ w').alloc h.size _))
      clear hVk hv bv hB hB' kept bel bel' sv
      go_region_held3 (fun w'=>w'.cell? ⟨V,0,none⟩ = some (.int .i64 (BP k))∧w'.cell? ⟨V,1,none⟩ = some (.complex .f32 (BO k) (BO' k))∧w'.cell? ⟨V,2,none⟩ = some (.complex .f32 (BS k) (BS' k))∧w'.cell? ⟨V,3,none⟩ = some (.int .i64 (BK k))∧w'.cell? ⟨V,4,none⟩ = some (.complex .f32 (L1 k) (L1' k))∧w'.cell? ⟨V,5,none⟩ = some (.complex .f32 (L2 k) (L2' k))∧w'.cell? ⟨V,6,none⟩ = some (.complex .f32 (L3 k) (L3' k))∧w'.cell? ⟨V,7,none⟩ = some (.int .i64 (BC k)))
        (first | exact ⟨q0,q1,q2,q3,q4,q5,q6,q7⟩ | exact ⟨v0,v1,v2,v3,v4,v5,v6,v7⟩ | exact al _ _ (by assumption))
        (first
          | (go_at_call 40;refine (hph' _ _ _ _ _ _ _ (by assumption) _ (by first | assumption | exact (Below.refl _ _).drew | exact Below.refl _ _)).mono ?_;rintro e w' ⟨rfl,q,q0,q1,q2,q3,q4,q5,q6,q7⟩)
          | (go_at_call 21;refine (hby' _ _ _ (by assumption) _ (by first | assumption | exact (Below.refl _ _).drew | exact Below.refl _ _)).mono ?_;rintro e w' ⟨rfl,q,q0,q1,q2,q3,q4,q5,q6,q7⟩)
          | (go_at_call 41;refine (hcx' _ _ _ (by assumption) _ (by first | assumption | exact (Below.refl _ _).drew | exact Below.refl _ _)).mono ?_;rintro e w' ⟨rfl,q,q0,q1,q2,q3,q4,q5,q6,q7⟩)
          | (go_at_call 38;refine (put' _ (by decide) _ (by first | assumption | exact (Below.refl _ _).drew | exact Below.refl _ _)).mono ?_;rintro e w' ⟨rfl,hB6,b6,q0,q1,q2,q3,q4,q5,q6,q7⟩))
      all_goals (
        go_wp2
        go_roundw
        case rel=>exact ⟨k + 1,by omega,by go_num,hB6,b6⟩
        case measure=>simp [intOf];omega)
    · have hke:k = n0:=by omega
      subst hke
      clear hbc hbus
      have fl0:∀ j,(upTo (fun k=>tp k ++ to k ++ ts k ++ tk k ++ tl k ++ tc k) ([70,68,82,49] ++ src ++ nb) j).length ≤ 4000 + 6000 * j:=fun j=>by
        induction j with
        | zero=>show ([70,68,82,49] ++ src ++ nb).length ≤ _;rw [List.length_append,List.length_append];show 4 + _ + _ ≤ _;omega
        | succ j ih =>
          show (upTo (fun k=>tp k ++ to k ++ ts k ++ tk k ++ tl k ++ tc k) ([70,68,82,49] ++ src ++ nb) j ++ (tp j ++ to j ++ ts j ++ tk j ++ tl j ++ tc j)).length ≤ _
          have h1:=hbl j
          simp only [List.length_append] at ih ⊢;omega
      clear hbl
      obtain ⟨-,-,-,-,g4⟩:=box wr bel
      go_wp2_with (go_at_call 21;refine (hbyt _ _ _ hnt _).mono ?_)
      rintro e w3 ⟨rfl,b3⟩
      have hB3:=qit hB b3
      have bel3:=bel.trans (b3.mono bel.size)
      clear hB bel b3 g4
      go_wp2_with (go_at_call 38;refine (qsn W1.heap.size W1.heap.size _ [nt] w3 _ _ 1 hB3 bel3.size (by decide) rfl rfl (by show 1 ≤ 10;decide) ?c1 ?c2).mono ?_)
      case c1=>have:=fl0 k;omega
      case c2 =>
        intro s hs
        simp at hs
        subst hs
        omega
      rintro e w4 ⟨rfl,hB4,b4,-⟩
      have bel4:=bel3.trans b4
      clear hB3 bel3 b4
      rw [show ([nt]:List Str).flatten = nt by simp] at hB4
      obtain ⟨-,-,-,-,g4⟩:=box w4 bel4
      go_wp2
      go_loopw [64] (fun i wr=>∃ m:Nat,m ≤ n1∧i = .int .i64 m∧Lib.IsBuilder 89 5 W1.heap.size W1.heap.size (Lib.byteCells (upTo (fun m=>xa m ++ xb m ++ xo m ++ xs m ++ xm m) (upTo (fun k=>tp k ++ to k ++ ts k ++ tk k ++ tl k ++ tc k) ([70,68,82,49] ++ src ++ nb) k ++ nt) m)) wr∧Below W1.heap.size W1 wr)
        (fun i _=>n1 - (intOf i).toNat)
      case atStart=>exact ⟨0,Nat.zero_le _,rfl,hB4,bel4⟩
      case round =>
      obtain ⟨m,hm,rfl,hB,bel⟩:=hrel
      clear hB4 bel4 g4
      by_cases hlt:m < n1
      · obtain ⟨b,o,rfl,hbl',c0,c1,c2,c3,c4⟩:=htc m hlt
        clear htc
        have hs:=bel1.size
        have cc:∀ (j:Nat) (v:Value),w.cell? ⟨b,o + m * 5 + j,none⟩ = some v→wr.cell? ⟨b,o + m * 5 + j,none⟩ = some v:=fun j v h=>(bel.cell (p:=⟨b,o + m * 5 + j,none⟩) (by show b < _;omega)).trans ((bel1.cell (p:=⟨b,o + m * 5 + j,none⟩) hbl').trans h)
        have c0:=cc 0 _ c0
        have c1:=cc 1 _ c1
        have c2:=cc 2 _ c2
        have c3:=cc 3 _ c3
        have c4:=cc 4 _ c4
        rw [Nat.add_zero] at c0
        clear cc
        have e2:=stT2 wr
        have e3:=stT3 wr
        go_wp2
        obtain ⟨u0,u1,u2,u3,u4⟩:=htie m hlt
        obtain ⟨l0,l1,l2,l3,l4⟩:=htl m
        have fl:∀ j,(upTo (fun m=>xa m ++ xb m ++ xo m ++ xs m ++ xm m) (upTo (fun k=>tp k ++ to k ++ ts k ++ tk k ++ tl k ++ tc k) ([70,68,82,49] ++ src ++ nb) k ++ nt) j).length ≤ 7000000 + 6000 * j:=fun j=>by
          induction j with
          | zero=>show (upTo (fun k=>tp k ++ to k ++ ts k ++ tk k ++ tl k ++ tc k) ([70,68,82,49] ++ src ++ nb) k ++ nt).length ≤ _;rw [List.length_append];have:=fl0 k;omega
          | succ j ih =>
            show (upTo (fun m=>xa m ++ xb m ++ xo m ++ xs m ++ xm m) (upTo (fun k=>tp k ++ to k ++ ts k ++ tk k ++ tl k ++ tc k) ([70,68,82,49] ++ src ++ nb) k ++ nt) j ++ (xa j ++ xb j ++ xo j ++ xs j ++ xm j)).length ≤ _
            have h1:=htl j
            simp only [List.length_append] at ih ⊢;omega
        clear htie htl c0 c1 c2 c3 c4 e2 e3 fl0
        obtain ⟨Wv,hWv⟩:∃ Wv,Wv = wr.alloc (.cells #[.int .i64 (TA m),.int .i64 (TB m),.complex .f32 (TO m) (TO' m),.complex .f32 (TS m) (TS' m),.int .i64 (TM m)] 75):=⟨_,rfl⟩
        have hv:Wv.heap[wr.heap.size]? = some (.cells #[.int .i64 (TA m),.int .i64 (TB m),.complex .f32 (TO m) (TO' m),.complex .f32 (TS m) (TS' m),.int .i64 (TM m)] 75 (0,0)):=by rw [hWv];exact heap_alloc_new wr _
        have bv:Below wr.heap.size wr Wv:=by rw [hWv];exact (Below.refl _ wr).alloc (Nat.le_refl _) _
        have szv:Wv.heap.size = wr.heap.size + 1:=by rw [hWv];simp
        rw [← hWv]
        have bel':Below W1.heap.size W1 Wv:=bel.trans (bv.mono bel.size)
        have hB':=qit hB bv
        have hVlt:wr.heap.size < Wv.heap.size:=by omega
        have hVne:wr.heap.size ≠ W1.heap.size:=by
          rcases hB with h | h
          · have:=h.lt;omega
          · have:=h.lt;omega
        clear hWv szv
        generalize wr.heap.size = V at hv hVlt hVne bv ⊢
        have hVk:∀ w':World,w'.heap[V]? = some (.cells #[.int .i64 (TA m),.int .i64 (TB m),.complex .f32 (TO m) (TO' m),.complex .f32 (TS m) (TS' m),.int .i64 (TM m)] 75 (0,0))→w'.cell? ⟨V,0,none⟩ = some (.int .i64 (TA m))∧w'.cell? ⟨V,1,none⟩ = some (.int .i64 (TB m))∧w'.cell? ⟨V,2,none⟩ = some (.complex .f32 (TO m) (TO' m))∧w'.cell? ⟨V,3,none⟩ = some (.complex .f32 (TS m) (TS' m))∧w'.cell? ⟨V,4,none⟩ = some (.int .i64 (TM m)):=fun w' h=>⟨by rw [Lib.cell_of_heap h];rfl,by rw [Lib.cell_of_heap h];rfl,by rw [Lib.cell_of_heap h];rfl,by rw [Lib.cell_of_heap h];rfl,by rw [Lib.cell_of_heap h];rfl⟩
        have sv:=bel'.size
        have kept:∀ w',Below Wv.heap.size Wv w'→w'.cell? ⟨V,0,none⟩ = some (.int .i64 (TA m))∧w'.cell? ⟨V,1,none⟩ = some (.int .i64 (TB m))∧w'.cell? ⟨V,2,none⟩ = some (.complex .f32 (TO m) (TO' m))∧w'.cell? ⟨V,3,none⟩ = some (.complex .f32 (TS m) (TS' m))∧w'.cell? ⟨V,4,none⟩ = some (.int .i64 (TM m)):=fun w' h=>hVk w' ((h.block V hVlt).trans hv)
        have hph':∀ a a' b b' c c' s,pha a a' b b' c c' s→∀ wr',Below Wv.heap.size Wv wr'→Calls prog 40 #[.agg #[.complex .f32 a a',.complex .f32 b b',.complex .f32 c c']] wr' fun e w'=>e = .returned (.string (bstr s))∧Below Wv.heap.size Wv w'∧w'.cell? ⟨V,0,none⟩ = some (.int .i64 (TA m))∧w'.cell? ⟨V,1,none⟩ = some (.int .i64 (TB m))∧w'.cell? ⟨V,2,none⟩ = some (.complex .f32 (TO m) (TO' m))∧w'.cell? ⟨V,3,none⟩ = some (.complex .f32 (TS m) (TS' m))∧w'.cell? ⟨V,4,none⟩ = some (.int .i64 (TM m)):=fun a a' b b' c c' s hs wr' h=>(hpha a a' b b' c c' s hs wr').mono fun e w' h' =>
          have q:=h.trans (h'.2.mono h.size)
          ⟨h'.1,q,kept w' q⟩
        have hby':∀ a c s,byt a c s→∀ wr',Below Wv.heap.size Wv wr'→Calls prog 21 #[.int .i64 a,.int .i64 c] wr' fun e w'=>e = .returned (.string (bstr s))∧Below Wv.heap.size Wv w'∧w'.cell? ⟨V,0,none⟩ = some (.int .i64 (TA m))∧w'.cell? ⟨V,1,none⟩ = some (.int .i64 (TB m))∧w'.cell? ⟨V,2,none⟩ = some (.complex .f32 (TO m) (TO' m))∧w'.cell? ⟨V,3,none⟩ = some (.complex .f32 (TS m) (TS' m))∧w'.cell? ⟨V,4,none⟩ = some (.int .i64 (TM m)):=fun a c s hs wr' h=>(hbyt a c s hs wr').mono fun e w' h' =>
          have q:=h.trans (h'.2.mono h.size)
          ⟨h'.1,q,kept w' q⟩
        have hcx':∀ a c s,cpx a c s→∀ wr',Below Wv.heap.size Wv wr'→Calls prog 41 #[.complex .f32 a c] wr' fun e w'=>e = .returned (.string (bstr s))∧Below Wv.heap.size Wv w'∧w'.cell? ⟨V,0,none⟩ = some (.int .i64 (TA m))∧w'.cell? ⟨V,1,none⟩ = some (.int .i64 (TB m))∧w'.cell? ⟨V,2,none⟩ = some (.complex .f32 (TO m) (TO' m))∧w'.cell? ⟨V,3,none⟩ = some (.complex .f32 (TS m) (TS' m))∧w'.cell? ⟨V,4,none⟩ = some (.int .i64 (TM m)):=fun a c s hs wr' h=>(hcpx a c s hs wr').mono fun e w' h' =>
          have q:=h.trans (h'.2.mono h.size)
          ⟨h'.1,q,kept w' q⟩
        have put':∀ T,T ≠ 5→∀ wr',Below Wv.heap.size Wv wr'→Calls prog 38 #[.slice (some ⟨wr'.heap.size,0,none⟩) 5 5,.pointer (some ⟨W1.heap.size,0,none⟩)] (wr'.alloc (.cells #[.string (bstr (xa m)),.string (bstr (xb m)),.string (bstr (xo m)),.string (bstr (xs m)),.string (bstr (xm m))] T)) fun e w'=>e = .returned (.tuple #[])∧Lib.IsBuilder 89 5 W1.heap.size W1.heap.size (Lib.byteCells (upTo (fun m=>xa m ++ xb m ++ xo m ++ xs m ++ xm m) (upTo (fun k=>tp k ++ to k ++ ts k ++ tk k ++ tl k ++ tc k) ([70,68,82,49] ++ src ++ nb) k ++ nt) (m + 1))) w'∧Below W1.heap.size W1 w'∧w'.cell? ⟨V,0,none⟩ = some (.int .i64 (TA m))∧w'.cell? ⟨V,1,none⟩ = some (.int .i64 (TB m))∧w'.cell? ⟨V,2,none⟩ = some (.complex .f32 (TO m) (TO' m))∧w'.cell? ⟨V,3,none⟩ = some (.complex .f32 (TS m) (TS' m))∧w'.cell? ⟨V,4,none⟩ = some (.int .i64 (TM m)):=fun T hT wr' h=>by
          refine (qsn W1.heap.size W1.heap.size _ [xa m,xb m,xo m,xs m,xm m] wr' _ T 5 (qit hB' h) (Nat.le_trans sv h.size) hT rfl rfl (by show 5 ≤ 10;decide) ?_ (fun s hs=>?_)).mono ?_
          · have:=fl m;omega
          · simp at hs
            rcases hs with rfl | rfl | rfl | rfl | rfl <;> omega
          · rintro e w' ⟨rfl,h1,h2,h3⟩
            have q:=(bel'.trans (h.mono sv)).trans h2
            refine ⟨rfl,?_,q,hVk w' (h3 V _ ((h.block V hVlt).trans hv) (by intro hh;cases hh;exact hVne rfl) (fun c fz hh=>by cases hh))⟩
            have e:upTo (fun m=>xa m ++ xb m ++ xo m ++ xs m ++ xm m) (upTo (fun k=>tp k ++ to k ++ ts k ++ tk k ++ tl k ++ tc k) ([70,68,82,49] ++ src ++ nb) k ++ nt) m ++ [xa m,xb m,xo m,xs m,xm m].flatten = upTo (fun m=>xa m ++ xb m ++ xo m ++ xs m ++ xm m) (upTo (fun k=>tp k ++ to k ++ ts k ++ tk k ++ tl k ++ tc k) ([70,68,82,49] ++ src ++ nb) k ++ nt) (m + 1):=by
              show _ = upTo (fun m=>xa m ++ xb m ++ xo m ++ xs m ++ xm m) (upTo (fun k=>tp k ++ to k ++ ts k ++ tk k ++ tl k ++ tc k) ([70,68,82,49] ++ src ++ nb) k ++ nt) m ++ _
              simp [List.append_assoc]
            rw [e] at h1;exact h1
        obtain ⟨v0,v1,v2,v3,v4⟩:=kept Wv (Below.refl _ _)
        have al:∀ w' o,Below Wv.heap.size Wv w'→(w'.alloc o).cell? ⟨V,0,none⟩ = some (.int .i64 (TA m))∧(w'.alloc o).cell? ⟨V,1,none⟩ = some (.int .i64 (TB m))∧(w'.alloc o).cell? ⟨V,2,none⟩ = some (.complex .f32 (TO m) (TO' m))∧(w'.alloc o).cell? ⟨V,3,none⟩ = some (.complex .f32 (TS m) (TS' m))∧(w'.alloc o).cell? ⟨V,4,none⟩ = some (.int .i64 (TM m)):=fun w' o h=>kept _ (h.trans ((Below.refl _ w').alloc h.size _))
        clear hVk hv bv hB hB' kept bel bel' sv
        go_region_held3 (fun w'=>w'.cell? ⟨V,0,none⟩ = some (.int .i64 (TA m))∧w'.cell? ⟨V,1,none⟩ = some (.int .i64 (TB m))∧w'.cell? ⟨V,2,none⟩ = some (.complex .f32 (TO m) (TO' m))∧w'.cell? ⟨V,3,none⟩ = some (.complex .f32 (TS m) (TS' m))∧w'.cell? ⟨V,4,none⟩ = some (.int .i64 (TM m)))
          (first | exact ⟨q0,q1,q2,q3,q4⟩ | exact ⟨v0,v1,v2,v3,v4⟩ | exact al _ _ (by assumption))
          (first
            | (go_at_call 40;refine (hph' _ _ _ _ _ _ _ (by assumption) _ (by first | assumption | exact (Below.refl _ _).drew | exact Below.refl _ _)).mono ?_;rintro e w' ⟨rfl,q,q0,q1,q2,q3,q4⟩)
            | (go_at_call 21;refine (hby' _ _ _ (by assumption) _ (by first | assumption | exact (Below.refl _ _).drew | exact Below.refl _ _)).mono ?_;rintro e w' ⟨rfl,q,q0,q1,q2,q3,q4⟩)
            | (go_at_call 41;refine (hcx' _ _ _ (by assumption) _ (by first | assumption | exact (Below.refl _ _).drew | exact Below.refl _ _)).mono ?_;rintro e w' ⟨rfl,q,q0,q1,q2,q3,q4⟩)
            | (go_at_call 38;refine (put' _ (by decide) _ (by first | assumption | exact (Below.refl _ _).drew | exact Below.refl _ _)).mono ?_;rintro e w' ⟨rfl,hB6,b6,q0,q1,q2,q3,q4⟩))
        all_goals (
          go_wp2
          go_roundw
          case rel=>exact ⟨m + 1,by omega,by go_num,hB6,b6⟩
          case measure=>simp [intOf];omega)
      · have hke:m = n1:=by omega
        subst hke
        obtain ⟨T,hT⟩:∃ T,upTo (fun m=>xa m ++ xb m ++ xo m ++ xs m ++ xm m) (upTo (fun k=>tp k ++ to k ++ ts k ++ tk k ++ tl k ++ tc k) ([70,68,82,49] ++ src ++ nb) k ++ nt) m = T:=⟨_,rfl⟩
        rw [hT] at hB
        go_wp2_with (go_at_call 42;refine (qsv _ _ _ _ hB bel.size).mono ?_)
        rintro e w5 ⟨rfl,b5⟩
        go_wp2
        go_ret
        exact ⟨by subst hT;simp only [List.append_assoc,List.cons_append,List.nil_append];rfl,bel1.trans ((bel.trans b5).mono (by omega))⟩
end
end Go.Proofs.YtiegopnofbgoaaaGreat.AWN

namespace Go.Proofs.YtiegopnofbgoaaaGreat.AWN
open Go Go.Shelf Go.RowKit Go.Proofs.Tryz
structure PhV where
  (a a' b b' c c':Nat)
structure BusV where
  (P K C:Int)
  (O O' S S':Nat)
  L:PhV
structure TieV where
  (A B M:Int)
  (O O' S S':Nat)
def encB (v:BusV):List D:=[.int .i64 v.P,.cx .f32 v.O v.O',.cx .f32 v.S v.S',.int .i64 v.K,.cx .f32 v.L.a v.L.a',.cx .f32 v.L.b v.L.b',.cx .f32 v.L.c v.L.c',.int .i64 v.C]
def encT (v:TieV):List D:=[.int .i64 v.A,.int .i64 v.B,.cx .f32 v.O v.O',.cx .f32 v.S v.S',.int .i64 v.M]
def mapS {α β:Type} (f:α→Option β):List α→Option (List β)
  | []=>some []
  | a :: r=>(f a).bind fun s=>(mapS f r).bind fun t=>some (s :: t)
theorem qsl {α β:Type} {f:α→Option β}:∀ {l:List α} {r:List β},mapS f l = some r→r.length = l.length∧∀ k (h:k < l.length),∃ y,r[k]? = some y∧f l[k] = some y
  | [],r,h=>by
    cases h
    exact ⟨rfl,fun k h=>absurd h (Nat.not_lt_zero _)⟩
  | a :: l,r,h=>by
    unfold mapS at h
    obtain ⟨s,hs,h⟩:=Option.bind_eq_some_iff.1 h
    obtain ⟨t,ht,h⟩:=Option.bind_eq_some_iff.1 h
    cases h
    obtain ⟨i1,i2⟩:=qsl ht
    refine ⟨by rw [List.length_cons,List.length_cons,i1],fun k hk=>?_⟩
    rcases k with _ | k
    · exact ⟨s,rfl,hs⟩
    · obtain ⟨y,h1,h2⟩:=i2 k (by simpa using hk)
      exact ⟨y,h1,h2⟩
section
variable (byt:Int→Int→Option Str) (cpx:Nat→Nat→Option Str) (pha:PhV→Option Str)
abbrev T6:=Str × Str × Str × Str × Str × Str
abbrev T5:=Str × Str × Str × Str × Str
def qu9 (v:BusV):Option T6 :=
  (byt (v.P + 1) 1).bind fun p=>(cpx v.O v.O').bind fun o=>(cpx v.S v.S').bind fun s=>(byt v.K 1).bind fun k=>(pha v.L).bind fun l=>(byt v.C 4).bind fun c =>
  grd ((p.length ≤ 1000∧o.length ≤ 1000∧s.length ≤ 1000∧k.length ≤ 1000∧l.length ≤ 1000∧c.length ≤ 1000)∧IntKind.i64.wrap (v.P + 1) = v.P + 1) (some (p,o,s,k,l,c))
def quq (v:TieV):Option T5 :=
  (byt v.A 1).bind fun a=>(byt v.B 1).bind fun b=>(cpx v.O v.O').bind fun o=>(cpx v.S v.S').bind fun s=>(byt v.M 4).bind fun m =>
  grd (a.length ≤ 1000∧b.length ≤ 1000∧o.length ≤ 1000∧s.length ≤ 1000∧m.length ≤ 1000) (some (a,b,o,s,m))
def d6:T6:=([],[],[],[],[],[])
def d5:T5:=([],[],[],[],[])
def qsu (S:PhV) (Bs:List BusV) (Ts:List TieV):Option Str :=
  grd (Bs.length ≤ 1000∧Ts.length ≤ 1000) <|
  (pha S).bind fun src=>(byt (Bs.length:Int) 1).bind fun nb=>(byt (Ts.length:Int) 1).bind fun nt =>
  grd (src.length ≤ 1000∧nb.length ≤ 1000∧nt.length ≤ 1000) <|
  (mapS (qu9 byt cpx pha) Bs).bind fun bs=>(mapS (quq byt cpx) Ts).bind fun ts =>
  some (upTo (fun m=>(ts.getD m d5).1 ++ (ts.getD m d5).2.1 ++ (ts.getD m d5).2.2.1 ++ (ts.getD m d5).2.2.2.1 ++ (ts.getD m d5).2.2.2.2)
    (upTo (fun k=>(bs.getD k d6).1 ++ (bs.getD k d6).2.1 ++ (bs.getD k d6).2.2.1 ++ (bs.getD k d6).2.2.2.1 ++ (bs.getD k d6).2.2.2.2.1 ++ (bs.getD k d6).2.2.2.2.2) ([70,68,82,49] ++ src ++ nb) Bs.length ++ nt) Ts.length)
end
theorem grd_some' {α:Type} {p:Prop} [Decidable p] {x:Option α} {y:α} (h:grd p x = some y):p∧x = some y:=by
  unfold grd at h
  split at h
  · exact ⟨by assumption,h⟩
  · cases h
theorem qrb {byt:Int→Int→Option Str} {cpx:Nat→Nat→Option Str} {pha:PhV→Option Str} {v:BusV} {y:T6} (h:qu9 byt cpx pha v = some y):byt (v.P + 1) 1 = some y.1∧cpx v.O v.O' = some y.2.1∧cpx v.S v.S' = some y.2.2.1∧byt v.K 1 = some y.2.2.2.1∧pha v.L = some y.2.2.2.2.1∧byt v.C 4 = some y.2.2.2.2.2∧(y.1.length ≤ 1000∧y.2.1.length ≤ 1000∧y.2.2.1.length ≤ 1000∧y.2.2.2.1.length ≤ 1000∧y.2.2.2.2.1.length ≤ 1000∧y.2.2.2.2.2.length ≤ 1000)∧IntKind.i64.wrap (v.P + 1) = v.P + 1:=by
  unfold qu9 at h
  obtain ⟨p,e1,h⟩:=Option.bind_eq_some_iff.1 h
  obtain ⟨o,e2,h⟩:=Option.bind_eq_some_iff.1 h
  obtain ⟨s,e3,h⟩:=Option.bind_eq_some_iff.1 h
  obtain ⟨k,e4,h⟩:=Option.bind_eq_some_iff.1 h
  obtain ⟨l,e5,h⟩:=Option.bind_eq_some_iff.1 h
  obtain ⟨c,e6,h⟩:=Option.bind_eq_some_iff.1 h
  obtain ⟨g,h⟩:=grd_some' h
  cases h
  exact ⟨e1,e2,e3,e4,e5,e6,g⟩
theorem qs5 {byt:Int→Int→Option Str} {cpx:Nat→Nat→Option Str} {v:TieV} {y:T5} (h:quq byt cpx v = some y):byt v.A 1 = some y.1∧byt v.B 1 = some y.2.1∧cpx v.O v.O' = some y.2.2.1∧cpx v.S v.S' = some y.2.2.2.1∧byt v.M 4 = some y.2.2.2.2∧(y.1.length ≤ 1000∧y.2.1.length ≤ 1000∧y.2.2.1.length ≤ 1000∧y.2.2.2.1.length ≤ 1000∧y.2.2.2.2.length ≤ 1000):=by
  unfold quq at h
  obtain ⟨p,e1,h⟩:=Option.bind_eq_some_iff.1 h
  obtain ⟨o,e2,h⟩:=Option.bind_eq_some_iff.1 h
  obtain ⟨s,e3,h⟩:=Option.bind_eq_some_iff.1 h
  obtain ⟨k,e4,h⟩:=Option.bind_eq_some_iff.1 h
  obtain ⟨l,e5,h⟩:=Option.bind_eq_some_iff.1 h
  obtain ⟨g,h⟩:=grd_some' h
  cases h
  exact ⟨e1,e2,e3,e4,e5,g⟩
theorem qww {α:Type} {e:α→List D} {sz:Nat} (hsz:∀ a,(e a).length = sz) {W:World} {ok:Nat→Prop} (hok:∀ b,ok b→b < W.heap.size) {l:List α} {v:Value} (h:RelD W ok (.sl false (l.map e)) v) :
    ∃ a cap,v = .slice a l.length cap∧l.length ≤ maxLen∧∃ vs:Nat→Nat→Value,∀ k (hk:k < l.length),∃ b o,a = some ⟨b,o,none⟩∧b < W.heap.size∧∀ j,(hj:j < (e l[k]).length)→W.cell? ⟨b,o + k * sz + j,none⟩ = some (vs k j)∧RelD W ok (e l[k])[j] (vs k j):=by
  generalize hes:l.map e = es at h
  cases h with
  | slnil =>
    have:l = []:=by simpa using hes
    subst this
    exact ⟨none,0,rfl,Nat.zero_le _,fun _ _=>undef,fun k hk=>absurd hk (Nat.not_lt_zero _)⟩
  | sle =>
    have:l = []:=by simpa using hes
    subst this
    exact ⟨_,0,rfl,Nat.zero_le _,fun _ _=>undef,fun k hk=>absurd hk (Nat.not_lt_zero _)⟩
  | sl sz' vs k1 k2 k3 k4 k5 k6 k7 k8 =>
    rename_i b o len cap
    subst hes
    rw [List.length_map] at k2
    subst k2
    refine ⟨_,cap,rfl,k5,vs,fun k hk=>⟨b,o,rfl,hok _ (k1 (by
      intro hnil
      have:l = []:=by simpa using hnil
      rw [this] at hk;exact absurd hk (Nat.not_lt_zero _))),fun j hj=>?_⟩⟩
    have ek:(l.map e).getD k [] = e l[k]:=by
      rw [List.getD_eq_getElem?_getD,List.getElem?_map,List.getElem?_eq_getElem hk];rfl
    have h6:=k6 k hk
    rw [ek,hsz] at h6
    subst h6
    have hj':j < sz:=by rw [← hsz l[k]];exact hj
    have c:=k7 k j hk hj'
    have r:=k8 k j hk hj'
    rw [ek] at r
    refine ⟨by simpa [Nat.add_assoc] using c,?_⟩
    have:(e l[k]).getD j default = (e l[k])[j]:=by
      rw [List.getD_eq_getElem?_getD,List.getElem?_eq_getElem hj];rfl
    first | exact this ▸ r | simpa [List.getD_eq_getElem?_getD,List.getElem?_eq_getElem hj] using r
theorem qne (W:World):∀ g vs,qrp g = some vs→∃ T fr,W.heap[g]? = some (.cells vs T fr):=fun g vs h=>by cases h
theorem qs0 {W:World} {ok:Nat→Prop} {k:IntKind} {z:Int} {v:Value} (h:RelD W ok (.int k z) v):v = .int k z:=by cases h;rfl
theorem quk {W:World} {ok:Nat→Prop} {x y:Nat} {v:Value} (h:RelD W ok (.cx .f32 x y) v):∃ b c,v = .complex .f32 b c∧canon .f32 b = x∧canon .f32 c = y∧b < 2 ^ FloatKind.f32.format.width∧c < 2 ^ FloatKind.f32.format.width:=by
  cases h with | cx h1 h2 h3 h4=>exact ⟨_,_,rfl,h1,h2,h3,h4⟩
section
variable {α γ:Type} {eB:α→List D} {eT:γ→List D} {vB:α→BusV} {vT:γ→TieV} (hfB:∀ a,eB a = encB (vB a)) (hfT:∀ a,eT a = encT (vT a))
variable {byt:Int→Int→Option Str} {cpx:Nat→Nat→Option Str} {pha:PhV→Option Str}
variable (hbyt:∀ a b r,byt a b = some r→qax prog false 21 [.d (.int .i64 a),.d (.int .i64 b)] [] (fun v o n=>v = .d (.str (bstr r))∧o = []∧n = []))
variable (hcpx:∀ a b r,cpx a b = some r→qax prog false 41 [.d (.cx .f32 a b)] [] (fun v o n=>v = .d (.str (bstr r))∧o = []∧n = []))
variable (hpha:∀ p r,pha p = some r→qax prog false 40 [.agg [.d (.cx .f32 p.a p.a'),.d (.cx .f32 p.b p.b'),.d (.cx .f32 p.c p.c')]] [] (fun v o n=>v = .d (.str (bstr r))∧o = []∧n = []))
include hfB hfT hbyt hcpx hpha
theorem qr3 {fr:Bool} {S:PhV} {Bs:List α} {Ts:List γ} {r:Str} (h:qsu byt cpx pha S (Bs.map vB) (Ts.map vT) = some r) :
    qax prog fr 18 [.agg [.d (.cx .f32 S.a S.a'),.d (.cx .f32 S.b S.b'),.d (.cx .f32 S.c S.c'),.d (.sl false (Bs.map eB)),.d (.sl false (Ts.map eT))]] [] (fun v o n=>v = .d (.str (bstr r))∧o = []∧n = []):=by
  refine qpv fun W hb H ok vals hl hok hr=>?_
  obtain ⟨v,rfl,h1⟩:=qpq hr
  obtain ⟨s1,s1',s2,s2',s3,s3',u0,u1,rfl,ms,m0,m1⟩:∃ s1 s1' s2 s2' s3 s3' u0 u1,v = .agg #[.complex .f32 s1 s1',.complex .f32 s2 s2',.complex .f32 s3 s3',u0,u1]∧(∀ W' hb H ok',Rel W' hb H ok' (.agg [.d (.cx .f32 S.a S.a'),.d (.cx .f32 S.b S.b'),.d (.cx .f32 S.c S.c')]) (.agg #[.complex .f32 s1 s1',.complex .f32 s2 s2',.complex .f32 s3 s3']))∧RelD W ok (.sl false (Bs.map eB)) u0∧RelD W ok (.sl false (Ts.map eT)) u1:=by
    cases h1 with
    | agg g1 g2 =>
      rename_i a
      have hs:a.size = 5:=by simp at g1;omega
      obtain ⟨b0,c0,e0,x0,y0,p0,q0⟩:=qpf (g2 0 (by omega))
      obtain ⟨b1,c1,e1,x1,y1,p1,q1⟩:=qpf (g2 1 (by omega))
      obtain ⟨b2,c2,e2,x2,y2,p2,q2⟩:=qpf (g2 2 (by omega))
      have r3:=g2 3 (by omega)
      have r4:=g2 4 (by omega)
      have s3:RelD W ok (.sl false (Bs.map eB)) (a.getD 3 undef):=by
        cases r3 with | d h=>exact h
      have s4:RelD W ok (.sl false (Ts.map eT)) (a.getD 4 undef):=by
        cases r4 with | d h=>exact h
      refine ⟨b0,c0,b1,c1,b2,c2,a.getD 3 undef,a.getD 4 undef,?_,fun W' hb H ok'=>.agg rfl fun i hi=>?_,s3,s4⟩
      · congr 1
        apply Array.ext
        · simp;omega
        · intro i hi hj
          simp at hj
          have:i = 0 ∨ i = 1 ∨ i = 2 ∨ i = 3 ∨ i = 4:=by omega
          rcases this with rfl | rfl | rfl | rfl | rfl
          · rw [Array.getD_eq_getD_getElem?,Array.getElem?_eq_getElem hi] at e0;exact e0
          · rw [Array.getD_eq_getD_getElem?,Array.getElem?_eq_getElem hi] at e1;exact e1
          · rw [Array.getD_eq_getD_getElem?,Array.getElem?_eq_getElem hi] at e2;exact e2
          · simp [Array.getD_eq_getD_getElem?,Array.getElem?_eq_getElem hi]
          · simp [Array.getD_eq_getD_getElem?,Array.getElem?_eq_getElem hi]
      · rcases i with _ | _ | _ | i
        · exact qp3 x0 y0 p0 q0
        · exact qp3 x1 y1 p1 q1
        · exact qp3 x2 y2 p2 q2
        · simp at hi;omega
  obtain ⟨a0,cap0,rfl,n0,vb,hB⟩:=qww (sz:=8) (fun a=>by rw [hfB];rfl) hok m0
  obtain ⟨a1,cap1,rfl,n1,vt,hT⟩:=qww (sz:=5) (fun a=>by rw [hfT];rfl) hok m1
  -- the model,opened
  unfold qsu at h
  obtain ⟨hn,h⟩:=grd_some' h
  obtain ⟨src,esrc,h⟩:=Option.bind_eq_some_iff.1 h
  obtain ⟨nb,enb,h⟩:=Option.bind_eq_some_iff.1 h
  obtain ⟨nt,ent,h⟩:=Option.bind_eq_some_iff.1 h
  obtain ⟨hsl,h⟩:=grd_some' h
  obtain ⟨bs,ebs,h⟩:=Option.bind_eq_some_iff.1 h
  obtain ⟨ts,ets,h⟩:=Option.bind_eq_some_iff.1 h
  obtain ⟨lb,gb⟩:=qsl ebs
  obtain ⟨lt,gt⟩:=qsl ets
  simp only [List.length_map] at hn enb ent h lb lt
  cases h
  -- predicates on the words in memory
  have hB':∀ k,∃ X:BusV,∀ (hk:k < Bs.length),(X.P = (vB Bs[k]).P∧X.K = (vB Bs[k]).K∧X.C = (vB Bs[k]).C∧(canon .f32 X.O = (vB Bs[k]).O∧canon .f32 X.O' = (vB Bs[k]).O'∧X.O < 2 ^ FloatKind.f32.format.width∧X.O' < 2 ^ FloatKind.f32.format.width)∧(canon .f32 X.S = (vB Bs[k]).S∧canon .f32 X.S' = (vB Bs[k]).S'∧X.S < 2 ^ FloatKind.f32.format.width∧X.S' < 2 ^ FloatKind.f32.format.width)∧(canon .f32 X.L.a = (vB Bs[k]).L.a∧canon .f32 X.L.a' = (vB Bs[k]).L.a'∧X.L.a < 2 ^ FloatKind.f32.format.width∧X.L.a' < 2 ^ FloatKind.f32.format.width)∧(canon .f32 X.L.b = (vB Bs[k]).L.b∧canon .f32 X.L.b' = (vB Bs[k]).L.b'∧X.L.b < 2 ^ FloatKind.f32.format.width∧X.L.b' < 2 ^ FloatKind.f32.format.width)∧(canon .f32 X.L.c = (vB Bs[k]).L.c∧canon .f32 X.L.c' = (vB Bs[k]).L.c'∧X.L.c < 2 ^ FloatKind.f32.format.width∧X.L.c' < 2 ^ FloatKind.f32.format.width)) ∧
      ∃ b o,a0 = some ⟨b,o,none⟩∧b < W.heap.size∧W.cell? ⟨b,o + k * 8,none⟩ = some (.int .i64 X.P)∧W.cell? ⟨b,o + k * 8 + 1,none⟩ = some (.complex .f32 X.O X.O')∧W.cell? ⟨b,o + k * 8 + 2,none⟩ = some (.complex .f32 X.S X.S')∧W.cell? ⟨b,o + k * 8 + 3,none⟩ = some (.int .i64 X.K)∧W.cell? ⟨b,o + k * 8 + 4,none⟩ = some (.complex .f32 X.L.a X.L.a')∧W.cell? ⟨b,o + k * 8 + 5,none⟩ = some (.complex .f32 X.L.b X.L.b')∧W.cell? ⟨b,o + k * 8 + 6,none⟩ = some (.complex .f32 X.L.c X.L.c')∧W.cell? ⟨b,o + k * 8 + 7,none⟩ = some (.int .i64 X.C):=by
    intro k
    by_cases hk:k < Bs.length
    · obtain ⟨b,o,ea,hbl,hc⟩:=hB k hk
      have e8:(eB Bs[k]).length = 8:=by rw [hfB];rfl
      have hc':∀ j (hj:j < 8),W.cell? ⟨b,o + k * 8 + j,none⟩ = some (vb k j)∧RelD W ok ((encB (vB Bs[k])).getD j default) (vb k j):=fun j hj=>by
        obtain ⟨c,d⟩:=hc j (by omega)
        refine ⟨c,?_⟩
        have:(encB (vB Bs[k])).getD j default = (eB Bs[k])[j]'(by omega):=by
          rw [List.getD_eq_getElem?_getD,← hfB,List.getElem?_eq_getElem (by omega)];rfl
        rw [this];exact d
      obtain ⟨c0,d0⟩:=hc' 0 (by omega)
      obtain ⟨c1,d1⟩:=hc' 1 (by omega)
      obtain ⟨c2,d2⟩:=hc' 2 (by omega)
      obtain ⟨c3,d3⟩:=hc' 3 (by omega)
      obtain ⟨c4,d4⟩:=hc' 4 (by omega)
      obtain ⟨c5,d5⟩:=hc' 5 (by omega)
      obtain ⟨c6,d6⟩:=hc' 6 (by omega)
      obtain ⟨c7,d7⟩:=hc' 7 (by omega)
      have d0:=qs0 (z:=(vB Bs[k]).P) d0
      obtain ⟨x1,y1,d1,p1⟩:=quk (x:=(vB Bs[k]).O) (y:=(vB Bs[k]).O') d1
      obtain ⟨x2,y2,d2,p2⟩:=quk (x:=(vB Bs[k]).S) (y:=(vB Bs[k]).S') d2
      have d3:=qs0 (z:=(vB Bs[k]).K) d3
      obtain ⟨x4,y4,d4,p4⟩:=quk (x:=(vB Bs[k]).L.a) (y:=(vB Bs[k]).L.a') d4
      obtain ⟨x5,y5,d5,p5⟩:=quk (x:=(vB Bs[k]).L.b) (y:=(vB Bs[k]).L.b') d5
      obtain ⟨x6,y6,d6,p6⟩:=quk (x:=(vB Bs[k]).L.c) (y:=(vB Bs[k]).L.c') d6
      have d7:=qs0 (z:=(vB Bs[k]).C) d7
      rw [d0] at c0;rw [d1] at c1;rw [d2] at c2;rw [d3] at c3;rw [d4] at c4;rw [d5] at c5;rw [d6] at c6;rw [d7] at c7
      exact ⟨⟨_,_,_,x1,y1,x2,y2,⟨x4,y4,x5,y5,x6,y6⟩⟩,fun _=>⟨⟨rfl,rfl,rfl,p1,p2,p4,p5,p6⟩,b,o,ea,hbl,c0,c1,c2,c3,c4,c5,c6,c7⟩⟩
    · exact ⟨⟨0,0,0,0,0,0,0,⟨0,0,0,0,0,0⟩⟩,fun h=>absurd h hk⟩
  have hT':∀ k,∃ X:TieV,∀ (hk:k < Ts.length),(X.A = (vT Ts[k]).A∧X.B = (vT Ts[k]).B∧X.M = (vT Ts[k]).M∧(canon .f32 X.O = (vT Ts[k]).O∧canon .f32 X.O' = (vT Ts[k]).O'∧X.O < 2 ^ FloatKind.f32.format.width∧X.O' < 2 ^ FloatKind.f32.format.width)∧(canon .f32 X.S = (vT Ts[k]).S∧canon .f32 X.S' = (vT Ts[k]).S'∧X.S < 2 ^ FloatKind.f32.format.width∧X.S' < 2 ^ FloatKind.f32.format.width)) ∧
      ∃ b o,a1 = some ⟨b,o,none⟩∧b < W.heap.size∧W.cell? ⟨b,o + k * 5,none⟩ = some (.int .i64 X.A)∧W.cell? ⟨b,o + k * 5 + 1,none⟩ = some (.int .i64 X.B)∧W.cell? ⟨b,o + k * 5 + 2,none⟩ = some (.complex .f32 X.O X.O')∧W.cell? ⟨b,o + k * 5 + 3,none⟩ = some (.complex .f32 X.S X.S')∧W.cell? ⟨b,o + k * 5 + 4,none⟩ = some (.int .i64 X.M):=by
    intro k
    by_cases hk:k < Ts.length
    · obtain ⟨b,o,ea,hbl,hc⟩:=hT k hk
      have e8:(eT Ts[k]).length = 5:=by rw [hfT];rfl
      have hc':∀ j (hj:j < 5),W.cell? ⟨b,o + k * 5 + j,none⟩ = some (vt k j)∧RelD W ok ((encT (vT Ts[k])).getD j default) (vt k j):=fun j hj=>by
        obtain ⟨c,d⟩:=hc j (by omega)
        refine ⟨c,?_⟩
        have:(encT (vT Ts[k])).getD j default = (eT Ts[k])[j]'(by omega):=by
          rw [List.getD_eq_getElem?_getD,← hfT,List.getElem?_eq_getElem (by omega)];rfl
        rw [this];exact d
      obtain ⟨c0,d0⟩:=hc' 0 (by omega)
      obtain ⟨c1,d1⟩:=hc' 1 (by omega)
      obtain ⟨c2,d2⟩:=hc' 2 (by omega)
      obtain ⟨c3,d3⟩:=hc' 3 (by omega)
      obtain ⟨c4,d4⟩:=hc' 4 (by omega)
      have d0:=qs0 (z:=(vT Ts[k]).A) d0
      have d1:=qs0 (z:=(vT Ts[k]).B) d1
      obtain ⟨x2,y2,d2,p2⟩:=quk (x:=(vT Ts[k]).O) (y:=(vT Ts[k]).O') d2
      obtain ⟨x3,y3,d3,p3⟩:=quk (x:=(vT Ts[k]).S) (y:=(vT Ts[k]).S') d3
      have d4:=qs0 (z:=(vT Ts[k]).M) d4
      rw [d0] at c0;rw [d1] at c1;rw [d2] at c2;rw [d3] at c3;rw [d4] at c4
      exact ⟨⟨_,_,_,x2,y2,x3,y3⟩,fun _=>⟨⟨rfl,rfl,rfl,p2,p3⟩,b,o,ea,hbl,c0,c1,c2,c3,c4⟩⟩
    · exact ⟨⟨0,0,0,0,0,0,0⟩,fun h=>absurd h hk⟩
  obtain ⟨X,hX⟩:=Classical.axiomOfChoice hB'
  obtain ⟨Y,hY⟩:=Classical.axiomOfChoice hT'
  clear hB' hT' hB hT
  let bp:Int→Int→Str→Prop:=fun a c s=>byt a c = some s
  let cp:Nat→Nat→Str→Prop:=fun a c s=>∃ x y,canon .f32 a = x∧canon .f32 c = y∧a < 2 ^ FloatKind.f32.format.width∧c < 2 ^ FloatKind.f32.format.width∧cpx x y = some s
  let pp:Nat→Nat→Nat→Nat→Nat→Nat→Str→Prop:=fun a a' b b' c c' s=>∃ p:PhV,(∀ W' hb H ok',Rel W' hb H ok' (.agg [.d (.cx .f32 p.a p.a'),.d (.cx .f32 p.b p.b'),.d (.cx .f32 p.c p.c')]) (.agg #[.complex .f32 a a',.complex .f32 b b',.complex .f32 c c']))∧pha p = some s
  have hbp:∀ a c s,bp a c s→∀ wr,Calls prog 21 #[.int .i64 a,.int .i64 c] wr fun e w'=>e = .returned (.string (bstr s))∧Below wr.heap.size wr w':=fun a c s h wr =>
    qgk (qne wr) (hbyt a c s h) (qwz (qg8 _ _) (qg8 _ _)) fun _ _ _ _ _ h=>qlh h
  have hcp:∀ a c s,cp a c s→∀ wr,Calls prog 41 #[.complex .f32 a c] wr fun e w'=>e = .returned (.string (bstr s))∧Below wr.heap.size wr w':=fun a c s ⟨x,y,h1,h2,h3,h4,h⟩ wr =>
    qgk (qne wr) (hcpx x y s h) (qvm (qp3 h1 h2 h3 h4)) fun _ _ _ _ _ h=>qlh h
  have hpp:∀ a a' b b' c c' s,pp a a' b b' c c' s→∀ wr,Calls prog 40 #[.agg #[.complex .f32 a a',.complex .f32 b b',.complex .f32 c c']] wr fun e w'=>e = .returned (.string (bstr s))∧Below wr.heap.size wr w':=fun a a' b b' c c' s ⟨p,h1,h⟩ wr =>
    qgk (qne wr) (hpha p s h) (qvm (h1 _ _ _ _)) fun _ _ _ _ _ h=>qlh h
  have tb:∀ k (hk:k < Bs.length),qu9 byt cpx pha (vB Bs[k]) = some (bs.getD k d6):=fun k hk=>by
    obtain ⟨y,h1,h2⟩:=gb k (by rw [List.length_map];exact hk)
    rw [List.getElem_map] at h2
    rw [h2,List.getD_eq_getElem?_getD,h1];rfl
  have tt:∀ k (hk:k < Ts.length),quq byt cpx (vT Ts[k]) = some (ts.getD k d5):=fun k hk=>by
    obtain ⟨y,h1,h2⟩:=gt k (by rw [List.length_map];exact hk)
    rw [List.getElem_map] at h2
    rw [h2,List.getD_eq_getElem?_getD,h1];rfl
  refine (stored_walk bp cp pp hbp hcp hpp W s1 s1' s2 s2' s3 s3' a0 a1 Bs.length cap0 Ts.length cap1 src nb nt ⟨S,ms,esrc⟩ enb ent hn hsl
    (fun k=>(X k).P) (fun k=>(X k).K) (fun k=>(X k).C) (fun k=>(X k).O) (fun k=>(X k).O') (fun k=>(X k).S) (fun k=>(X k).S') (fun k=>(X k).L.a) (fun k=>(X k).L.a') (fun k=>(X k).L.b) (fun k=>(X k).L.b') (fun k=>(X k).L.c) (fun k=>(X k).L.c')
    (fun k=>(bs.getD k d6).1) (fun k=>(bs.getD k d6).2.1) (fun k=>(bs.getD k d6).2.2.1) (fun k=>(bs.getD k d6).2.2.2.1) (fun k=>(bs.getD k d6).2.2.2.2.1) (fun k=>(bs.getD k d6).2.2.2.2.2)
    ?_ ?_ (fun k hk=>(hX k hk).2)
    (fun k=>(Y k).A) (fun k=>(Y k).B) (fun k=>(Y k).M) (fun k=>(Y k).O) (fun k=>(Y k).O') (fun k=>(Y k).S) (fun k=>(Y k).S')
    (fun k=>(ts.getD k d5).1) (fun k=>(ts.getD k d5).2.1) (fun k=>(ts.getD k d5).2.2.1) (fun k=>(ts.getD k d5).2.2.2.1) (fun k=>(ts.getD k d5).2.2.2.2)
    ?_ ?_ (fun k hk=>(hY k hk).2)).mono ?_
  · intro k hk
    obtain ⟨⟨x1,x2,x3,x4,x5,x6,x7,x8⟩,_⟩:=hX k hk
    obtain ⟨y1,y2,y3,y4,y5,y6,y7,y8⟩:=qrb (tb k hk)
    refine ⟨?_,⟨_,_,x4.1,x4.2.1,x4.2.2.1,x4.2.2.2,y2⟩,⟨_,_,x5.1,x5.2.1,x5.2.2.1,x5.2.2.2,y3⟩,?_,⟨(vB Bs[k]).L,fun W' hb H ok'=>.agg rfl fun i hi=>?_,y5⟩,?_,?_⟩
    · show byt ((X k).P + 1) 1 = _
      rw [x1];exact y1
    · show byt (X k).K 1 = _
      rw [x2];exact y4
    · rcases i with _ | _ | _ | i
      · exact qp3 x6.1 x6.2.1 x6.2.2.1 x6.2.2.2
      · exact qp3 x7.1 x7.2.1 x7.2.2.1 x7.2.2.2
      · exact qp3 x8.1 x8.2.1 x8.2.2.1 x8.2.2.2
      · simp at hi;omega
    · show byt (X k).C 4 = _
      rw [x3];exact y6
    · show IntKind.i64.wrap ((X k).P + 1) = (X k).P + 1
      rw [x1];exact y8
  · intro k
    by_cases hk:k < Bs.length
    · exact (qrb (tb k hk)).2.2.2.2.2.2.1
    · have:bs.getD k d6 = d6:=by rw [List.getD_eq_getElem?_getD,List.getElem?_eq_none (by omega)];rfl
      rw [this]
      decide
  · intro k hk
    obtain ⟨⟨x1,x2,x3,x4,x5⟩,_⟩:=hY k hk
    obtain ⟨y1,y2,y3,y4,y5,y6⟩:=qs5 (tt k hk)
    refine ⟨?_,?_,⟨_,_,x4.1,x4.2.1,x4.2.2.1,x4.2.2.2,y3⟩,⟨_,_,x5.1,x5.2.1,x5.2.2.1,x5.2.2.2,y4⟩,?_⟩
    · show byt (Y k).A 1 = _
      rw [x1];exact y1
    · show byt (Y k).B 1 = _
      rw [x2];exact y2
    · show byt (Y k).M 4 = _
      rw [x3];exact y5
  · intro k
    by_cases hk:k < Ts.length
    · exact (qs5 (tt k hk)).2.2.2.2.2
    · have:ts.getD k d5 = d5:=by rw [List.getD_eq_getElem?_getD,List.getElem?_eq_none (by omega)];rfl
      rw [this]
      decide
  · rintro e w' ⟨rfl,bel⟩
    exact ⟨_,rfl,bel,fun hb H ok=>qto _⟩
end
end Go.Proofs.YtiegopnofbgoaaaGreat.AWN
