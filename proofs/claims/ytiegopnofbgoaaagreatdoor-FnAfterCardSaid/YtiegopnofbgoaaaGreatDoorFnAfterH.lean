/- The feeder of a plan: what is reached from the root, each bus once. -/
import Derived.Test.YtiegopnofbgoaaaGreatDoorFnAfterG
set_option linter.unusedVariables false
set_option linter.unusedSimpArgs false
set_option linter.unusedSectionVars false
namespace Go.Proofs.YtiegopnofbgoaaaGreatDoor.AWN
open Go
theorem qsj:∀ (n:Nat) (l:List Nat),l.Nodup→(∀ a ∈ l,a < n)→l.length ≤ n
  | 0,l,_,h=>by
    cases l with
    | nil=>simp
    | cons a l=>exact absurd (h a (List.mem_cons_self ..)) (by omega)
  | n + 1,l,hn,h=>by
    by_cases hm:n ∈ l
    · have:=qsj n (l.erase n) (hn.erase n) fun a ha=>by
        have h1:=(hn.mem_erase_iff).1 ha
        have:=h a h1.2
        omega
      rw [List.length_erase_of_mem hm] at this
      omega
    · have:=qsj n l hn fun a ha=>by
        have h1:=h a ha
        have:a ≠ n:=fun e=>hm (e ▸ ha)
        omega
      omega
theorem qrp:∀ (l l':List Nat),l.Nodup→l'.Nodup→(∀ a,a ∈ l ↔ a ∈ l')→l.Perm l'
  | [],l',_,_,h=>by
    cases l' with
    | nil=>exact .refl _
    | cons a l=>exact absurd ((h a).2 (List.mem_cons_self ..)) (by simp)
  | a :: l,l',hn,hn',h=>by
    have hm:a ∈ l':=(h a).1 (List.mem_cons_self ..)
    obtain ⟨n1,n2⟩:=List.nodup_cons.1 hn
    have:=qrp l (l'.erase a) n2 (hn'.erase a) fun b=>by
      rw [hn'.mem_erase_iff]
      constructor
      · intro hb
        exact ⟨fun e=>n1 (e ▸ hb),(h b).1 (List.mem_cons_of_mem _ hb)⟩
      · rintro ⟨h1,h2⟩
        rcases List.mem_cons.1 ((h b).2 h2) with e | e
        · exact absurd e h1
        · exact e
    exact (this.cons a).trans (List.perm_cons_erase hm).symm
theorem perm_sum (w:Nat→Int) {l l':List Nat} (h:l.Perm l'):(l.map w).sum = (l'.map w).sum:=by
  induction h with
  | nil=>rfl
  | cons x _ ih=>simp only [List.map_cons,List.sum_cons,ih]
  | swap x y l=>simp only [List.map_cons,List.sum_cons];omega
  | trans _ _ i1 i2=>exact i1.trans i2
structure BF (g:qbk) (bus:Nat) (c:List Nat) (k:Nat) (bs:List SBus) (od:List Nat):Prop where
  len:bs.length = od.length
  nd:od.Nodup
  hd:od[0]? = some 0
  lt:∀ a ∈ od,a < nB g∧(HL g bus c).testBit a = true
  root:bs[0]? = some (busX g 0)
  nbr:∀ i,0 < i→i < od.length→∃ a x p b,od[i]? = some a∧bs[i]? = some x∧x.qaw = ((p:Nat):Int)∧p < i∧od[p]? = some b∧x.Kind = (busX g a).Kind∧x.Load = (busX g a).Load∧x.qag = (busX g a).qag∧qwg g bus c b a x.Own
  closed:∀ j,j < k→j < od.length→∃ a,od[j]? = some a∧∀ l ∈ qmr g bus c a,∃ b:Nat,l.bus = (b:Int)∧b ∈ od
section
variable {g:qbk} (hg:VG g) {bus:Nat} {c:List Nat} (hc:∀ k ∈ c,k < g.Ties.length)
include hg hc
theorem BF.small {k:Nat} {bs:List SBus} {od:List Nat} (h:BF g bus c k bs od):od.length ≤ 6 :=
  Nat.le_trans (qsj (nB g) od h.nd fun a ha=>(h.lt a ha).1) (n6 hg)
theorem BF.snoc {k:Nat} {bs:List SBus} {od:List Nat} (h:BF g bus c k bs od) {at_ a:Nat} (hk:od[k]? = some at_) (ha:a ∉ od) (han:a < nB g) {own sh:Cx} (he:qwg g bus c at_ a own) :
    BF g bus c k (bs ++ [SBus.mk (k:Int) own sh (busX g a).Kind (busX g a).Load (busX g a).qag]) (od ++ [a]):=by
  have hkl:=(List.getElem?_eq_some_iff.1 hk).1
  have hat:=h.lt _ (List.mem_of_getElem? hk)
  have h0:0 < od.length:=(List.getElem?_eq_some_iff.1 h.hd).1
  refine ⟨by simp [h.len],?_,?_,?_,?_,?_,?_⟩
  · refine List.nodup_append.2 ⟨h.nd,by simp,fun x hx y hy e=>?_⟩
    simp at hy
    subst hy e
    exact ha hx
  · rw [List.getElem?_append_left h0];exact h.hd
  · intro b hb
    rcases List.mem_append.1 hb with hb | hb
    · exact h.lt b hb
    · simp at hb
      subst hb
      refine ⟨han,?_⟩
      rcases edge_in hg hat.1 han he with e | e
      · exact ((qvd (qo0 hg hc) (n6 hg) (one_le hg)) _ e).1 hat.2
      · exact ((qvd (qo0 hg hc) (n6 hg) (one_le hg)) _ e).2 hat.2
  · rw [List.getElem?_append_left (by rw [h.len];exact h0)];exact h.root
  · intro i hi hil
    by_cases hlt:i < od.length
    · obtain ⟨a',x,p,b,e1,e2,e3,e4,e5,e6⟩:=h.nbr i hi hlt
      exact ⟨a',x,p,b,by rw [List.getElem?_append_left hlt];exact e1,by rw [List.getElem?_append_left (by rw [h.len];exact hlt)];exact e2,e3,e4,by rw [List.getElem?_append_left (by omega)];exact e5,e6⟩
    · have:i = od.length:=by simp at hil;omega
      subst this
      refine ⟨a,SBus.mk (k:Int) own sh (busX g a).Kind (busX g a).Load (busX g a).qag,k,at_,by simp,by rw [← h.len];simp,rfl,hkl,by rw [List.getElem?_append_left hkl];exact hk,rfl,rfl,rfl,he⟩
  · intro j hj hjl
    have hlt:j < od.length:=by omega
    obtain ⟨a',e1,e2⟩:=h.closed j hj hlt
    refine ⟨a',by rw [List.getElem?_append_left hlt];exact e1,fun l hl=>?_⟩
    obtain ⟨b,b1,b2⟩:=e2 l hl
    exact ⟨b,b1,List.mem_append_left _ b2⟩
theorem qx9 (K:List SBus→List Int→Int→Option (qau × List Int × Bool)) (hlc:c.length ≤ 50) {k at_:Nat}:∀ (m v:Nat) (bs:List SBus) (od:List Nat),v ≤ (qmr g bus c at_).length→(qmr g bus c at_).length - v < m→BF g bus c k bs od→od[k]? = some at_→(∀ l ∈ (qmr g bus c at_).take v,∃ b:Nat,l.bus = (b:Int)∧b ∈ od) →
    ∃ bs' od',qc9 100 g K (k:Int) (qmr g bus c at_) m bs (toI od) (v:Int) = K bs' (toI od') ((k + 1:Nat):Int)∧BF g bus c (k + 1) bs' od'∧k < od'.length
  | 0,_,_,_,_,h,_,_,_=>by omega
  | m + 1,v,bs,od,hv,hm,hB,hk,ht=>by
    have h6:=hB.small hg hc
    have hkl:=(List.getElem?_eq_some_iff.1 hk).1
    have hat:=(hB.lt _ (List.mem_of_getElem? hk)).1
    have hll:=qte hg (c:=c) bus at_
    unfold qc9
    split
    · rename_i hlt
      have hlt':v < (qmr g bus c at_).length:=by omega
      have hmem:=List.getElem_mem hlt'
      obtain ⟨a,ea,han,he⟩:=link_is hg hc hat hmem
      have htk:(qmr g bus c at_).take (v + 1) = (qmr g bus c at_).take v ++ [(qmr g bus c at_)[v]'hlt']:=by rw [List.take_succ_eq_append_getElem hlt']
      generalize hx:(qmr g bus c at_)[v]'hlt' = x at *
      rw [qbt (by rw [List.getElem?_eq_getElem hlt',hx]),Option.bind_some,qny _ _ (by simp;omega),Option.bind_some]
      unfold qe8
      rw [show w64 ((v:Int) + 1) = ((v + 1:Nat):Int) by rw [qch (by omega) (by omega)];omega]
      by_cases hin:a ∈ od
      · rw [if_pos (by rw [decide_eq_true_iff,ea];exact qqc.2 hin)]
        refine qx9 K hlc m (v + 1) bs od (by omega) (by omega) hB hk fun l hl=>?_
        rw [htk] at hl
        rcases List.mem_append.1 hl with hl | hl
        · exact ht l hl
        · rw [List.mem_singleton] at hl
          subst hl
          exact ⟨a,ea,hin⟩
      · rw [if_neg (by rw [decide_eq_true_iff,ea];exact fun h=>hin (qqc.1 h)),ea,qbt (qmu hg han),Option.bind_some]
        unfold grd
        rw [if_pos (by unfold room;have:=hB.len;omega),if_pos (by unfold room;simp;omega)]
        have e:toI od ++ [(a:Int)] = toI (od ++ [a]):=by simp [toI]
        rw [e]
        have hB':=hB.snoc hg hc hk hin han (own:=x.own) (sh:=x.shared) he
        refine qx9 K hlc m (v + 1) _ (od ++ [a]) (by omega) (by omega) hB' (by rw [List.getElem?_append_left hkl];exact hk) fun l hl=>?_
        rw [htk] at hl
        rcases List.mem_append.1 hl with hl | hl
        · obtain ⟨b,b1,b2⟩:=ht l hl
          exact ⟨b,b1,List.mem_append_left _ b2⟩
        · rw [List.mem_singleton] at hl
          subst hl
          exact ⟨a,ea,by simp⟩
    · rename_i hge
      have hge':(qmr g bus c at_).length ≤ v:=by omega
      unfold qfi
      rw [show w64 ((k:Int) + 1) = ((k + 1:Nat):Int) by rw [qch (by omega) (by omega)];omega]
      refine ⟨bs,od,rfl,⟨hB.len,hB.nd,hB.hd,hB.lt,hB.root,hB.nbr,fun j hj hjl=>?_⟩,hkl⟩
      by_cases hjk:j < k
      · exact hB.closed j hjk hjl
      · have:j = k:=by omega
        subst this
        rw [List.take_of_length_le hge'] at ht
        exact ⟨at_,hk,ht⟩
theorem qxh (hlc:c.length ≤ 50):∀ (m k:Nat) (bs:List SBus) (od:List Nat),BF g bus c k bs od→k ≤ od.length→6 - k < m →
    ∃ bs' od',qbh 100 g (bus:Int) (toI c) m bs (toI od) (k:Int) = some (qau.mk g.qa0.Source bs',toI od',true)∧BF g bus c od'.length bs' od'
  | 0,_,_,_,_,_,h=>by omega
  | m + 1,k,bs,od,hB,hk,hm=>by
    have h6:=hB.small hg hc
    unfold qbh
    split
    · rename_i hlt
      have hlt':k < od.length:=by simpa using hlt
      have hat:=(hB.lt _ (List.getElem_mem hlt')).1
      have hll:=qte hg (c:=c) bus od[k]
      rw [qiq (List.getElem?_eq_getElem hlt'),Option.bind_some,links_some hg hc hlc bus hat,Option.bind_some]
      obtain ⟨bs',od',e,hB',hk'⟩:=qx9 hg hc (qbh 100 g (bus:Int) (toI c) m) hlc (k:=k) (at_:=od[k]) 100 0 bs od (by omega) (by omega) hB (List.getElem?_eq_getElem hlt') (by simp)
      rw [show ((0:Nat):Int) = 0 from rfl] at e
      rw [e]
      exact qxh hlc m (k + 1) bs' od' hB' hk' (by omega)
    · rename_i hge
      have hge':od.length ≤ k:=by simpa using hge
      have:k = od.length:=by omega
      subst this
      exact ⟨bs,od,rfl,hB⟩
theorem feederAfter_some (hb:bus < nB g) (h0:0 < bus) (ha:Asc c) (hlc:c.length ≤ 50) (hp:qr1 g bus c = true) :
    ∃ bs od,qft 100 g (bus:Int) (toI c) = some (qau.mk g.qa0.Source bs,toI od,true)∧BF g bus c od.length bs od:=by
  unfold qft
  rw [qq2 hg hb h0 hc ha hlc,Option.bind_some,if_pos hp,show ((0:Int)) = ((0:Nat):Int) from rfl,qbt (qmu hg (one_le hg)),Option.bind_some]
  unfold qfh
  refine qxh hg hc hlc 100 0 [busX g 0] [0] ⟨rfl,by simp,rfl,fun a h=>?_,rfl,fun i hi hil=>by simp at hil;omega,fun j hj=>by omega⟩ (by simp) (by omega)
  simp at h
  subst h
  exact ⟨one_le hg,HN_self⟩
theorem BF.lit {bs:List SBus} {od:List Nat} (h:BF g bus c od.length bs od):od.Perm (qgx (HL g bus c)):=by
  have hlt:=qqt hg hc (bus:=bus)
  refine qrp _ _ h.nd ((qs3 _).imp (fun h=>by omega)) fun a=>?_
  rw [qoa (p64 hg hlt)]
  refine ⟨fun ha=>(h.lt a ha).2,fun hb=>?_⟩
  have hcl:Cl (qm1 g bus c) fun i=>i ∈ od:=by
    intro e he
    obtain ⟨⟨l1,m1,b1⟩,l2,m2,b2⟩:=link_of hg hc he
    constructor
    · intro hi
      obtain ⟨j,hj⟩:=List.mem_iff_getElem?.1 hi
      have hjl:=(List.getElem?_eq_some_iff.1 hj).1
      obtain ⟨a,e1,e2⟩:=h.closed j hjl hjl
      rw [hj] at e1
      cases e1
      obtain ⟨b,c1,c2⟩:=e2 l1 m1
      have:b = e.2:=by omega
      rw [← this];exact c2
    · intro hi
      obtain ⟨j,hj⟩:=List.mem_iff_getElem?.1 hi
      have hjl:=(List.getElem?_eq_some_iff.1 hj).1
      obtain ⟨a,e1,e2⟩:=h.closed j hjl hjl
      rw [hj] at e1
      cases e1
      obtain ⟨b,c1,c2⟩:=e2 l2 m2
      have:b = e.1:=by omega
      rw [← this];exact c2
  exact HN_least hcl (List.mem_of_getElem? h.hd) hb
theorem BF.vf {bs:List SBus} {od:List Nat} {k:Nat} (h:BF g bus c k bs od):VF bs:=by
  have h6:=h.small hg hc
  have h1:0 < od.length:=(List.getElem?_eq_some_iff.1 h.hd).1
  refine ⟨by rw [h.len];exact h1,by rw [h.len];exact h6,fun i x hx=>?_⟩
  rcases Nat.eq_zero_or_pos i with rfl | hi
  · rw [h.root] at hx
    cases hx
    exact qvo hg (one_le hg)
  · have hil:i < od.length:=by rw [← h.len];exact (List.getElem?_eq_some_iff.1 hx).1
    obtain ⟨a,x',p,b,e1,e2,e3,e4,e5,e6,e7,e8,e9⟩:=h.nbr i hi hil
    rw [hx] at e2
    cases e2
    have hok:=qvo hg (h.lt a (List.mem_of_getElem? e1)).1
    exact ⟨fun h=>by omega,fun _=>by omega,by rw [e6];exact hok.kind,by rw [e8];exact hok.cust⟩
end
end Go.Proofs.YtiegopnofbgoaaaGreatDoor.AWN

namespace Go.Proofs.YtiegopnofbgoaaaGreatDoor.AWN
open Go
theorem neq_self (k:FloatKind) (a:Nat):fcmp .neq k a a = isnan k a:=by
  unfold fcmp isnan
  simp only [Ieee.Format.order]
  have cc:∀ (z:Int),compare z z = .eq:=fun z=>by
    show compareOfLessAndEq z z = .eq
    unfold compareOfLessAndEq
    rw [if_neg (by omega),if_pos rfl]
  have cn:∀ (z:Nat),compare z z = .eq:=fun z=>by
    show compareOfLessAndEq z z = .eq
    unfold compareOfLessAndEq
    rw [if_neg (by omega),if_pos rfl]
  cases k.format.read a with
  | number s m i=>simp only [Ieee.Datum.order,cc];rfl
  | infinity s=>simp only [Ieee.Datum.order,cn];rfl
  | nan s m=>rfl
theorem qnk (n a b:Nat):∃ v,qf3 n a b = some v∧(a = b→v = true):=by
  unfold qf3 qes qg6 qex grd
  simp only [Option.bind_some,neq_self]
  cases ha:isnan .f32 a with
  | true=>exact ⟨isnan .f32 b,by simp,fun e=>by rw [← e,ha]⟩
  | false =>
    cases hb:isnan .f32 b with
    | true=>exact ⟨false,by simp,fun e=>by rw [e,hb] at ha;cases ha⟩
    | false=>exact ⟨decide ((a:Int) = (b:Int)),by simp,fun e=>by simp [e]⟩
theorem qiw (n:Nat) (a b:Cx):∃ v,qb9 n a b = some v∧(a = b→v = true):=by
  unfold qb9
  obtain ⟨v,e,h⟩:=qnk n a.re b.re
  obtain ⟨w,e',h'⟩:=qnk n a.im b.im
  rw [e,Option.bind_some,e',Option.bind_some]
  cases v with
  | true=>rw [if_pos rfl];exact ⟨_,rfl,fun e=>h' (by rw [e])⟩
  | false=>rw [if_neg (by decide)];exact ⟨_,rfl,fun e=>absurd (h (by rw [e])) (by decide)⟩
theorem samePhases_self (n:Nat) (a:qad):qf4 n a a = some true:=by
  unfold qf4
  have k:∀ x:Cx,qb9 n x x = some true:=fun x=>by
    obtain ⟨v,e,h⟩:=qiw n x x
    rw [e,h rfl]
  rw [k,k,k];rfl
section
variable {g:qbk} (hg:VG g) {bus:Nat} {c:List Nat} (hc:∀ k ∈ c,k < g.Ties.length) (hlc:c.length ≤ 50) {bs:List SBus} {od:List Nat} (hB:BF g bus c od.length bs od) (most:Int)
include hg hc hlc hB
theorem qwp {Q:Bool→Prop} (K:Int→Int→Prop) (s:Int) {i a b:Nat} {x:SBus} (hi:i < 50) (hx:bs[i]? = some x) (hab:a ≠ b) (hK:K (w64 (s + x.qag)) ((i + 1:Nat):Int)):∀ (m j:Nat) (v:Bool),j ≤ c.length→c.length - j < m →
    (v = true ∨ ∃ q k,j ≤ q∧c[q]? = some k∧((tA g k = b∧tB g k = a) ∨ (tA g k = a∧tB g k = b))∧x.Own = (tieX g k).Own) →
    qbj 100 Q g (toI c,most,true) (qau.mk g.qa0.Source bs,toI od,true) K s (i:Int) x (a:Int) (b:Int) m v (j:Int)
  | 0,_,_,_,h,_=>by omega
  | m + 1,j,v,hj,hm,hv=>by
    unfold qbj
    have ew:w64 ((j:Int) + 1) = ((j + 1:Nat):Int):=by rw [qch (by omega) (by omega)];omega
    split
    · rename_i hlt
      have hlt':j < c.length:=by simpa using hlt
      have hck:=hc _ (List.getElem_mem hlt')
      obtain ⟨t,e1,e2,e3,_,h1,h2,h3,_⟩:=qpa hg hck
      have ht:=qwe e1
      refine ⟨_,qiq (List.getElem?_eq_getElem hlt'),t,qbt e1,?_⟩
      have nxt:∀ w:Bool,(v = true→w = true)→(v = false→((tA g c[j] = b∧tB g c[j] = a) ∨ (tA g c[j] = a∧tB g c[j] = b))→x.Own = t.Own→w = true) →
          qcb 100 Q (qbj 100 Q g (toI c,most,true) (qau.mk g.qa0.Source bs,toI od,true) K s (i:Int) x (a:Int) (b:Int) m) (j:Int) w:=by
        intro w hw1 hw2
        unfold qcb
        rw [ew]
        refine qwp K s hi hx hab hK m (j + 1) w (by omega) (by omega) ?_
        cases w with
        | true=>exact .inl rfl
        | false =>
          right
          rcases hv with hv | ⟨q,k,q1,q2,q3,q4⟩
          · exact absurd (hw1 hv) (by decide)
          · have hvf:v = false:=by
              cases v with
              | true=>exact absurd (hw1 rfl) (by decide)
              | false=>rfl
            by_cases hq:q = j
            · subst hq
              rw [List.getElem?_eq_getElem hlt'] at q2
              cases q2
              rw [ht] at q4
              exact absurd (hw2 hvf q3 q4) (by decide)
            · exact ⟨q,k,by omega,q2,q3,q4⟩
      have gx:=qbt hx
      dsimp only
      cases v with
      | true =>
        rw [if_pos rfl]
        exact nxt true (fun _=>rfl) (fun h=>by cases h)
      | false =>
        rw [if_neg (by decide)]
        by_cases hA:t.A = (a:Int)
        · rw [if_pos hA]
          by_cases hB':t.B = (b:Int)
          · rw [if_pos hB']
            obtain ⟨w,ew',hw⟩:=qiw 100 x.Own t.Own
            exact ⟨x,gx,w,ew',nxt w (fun h=>by cases h) fun _ _ h=>hw h⟩
          · rw [if_neg hB',if_neg (by omega)]
            exact nxt false (fun h=>by cases h) fun _ h _=>by omega
        · rw [if_neg hA]
          by_cases hA2:t.A = (b:Int)
          · rw [if_pos hA2]
            by_cases hB2:t.B = (a:Int)
            · rw [if_pos hB2]
              obtain ⟨w,ew',hw⟩:=qiw 100 x.Own t.Own
              exact ⟨x,gx,w,ew',nxt w (fun h=>by cases h) fun _ _ h=>hw h⟩
            · rw [if_neg hB2]
              exact nxt false (fun h=>by cases h) fun _ h _=>by omega
          · rw [if_neg hA2]
            exact nxt false (fun h=>by cases h) fun _ h _=>by omega
    · rename_i hge
      have hge':c.length ≤ j:=by simpa using hge
      have hvt:v = true:=by
        rcases hv with h | ⟨q,k,q1,q2,_⟩
        · exact h
        · have:=(List.getElem?_eq_some_iff.1 q2).1;omega
      rw [hvt]
      unfold qh9 qep
      rw [if_pos rfl,show w64 ((i:Int) + 1) = ((i + 1:Nat):Int) by rw [qch (by omega) (by omega)];omega]
      exact hK
theorem aft_j5 {Q:Bool→Prop} (K:Int→Int→Prop) (s:Int) {i a:Nat} {x:SBus} (hi:i < od.length) (ha:od[i]? = some a) (hx:bs[i]? = some x) (hK:K (w64 (s + x.qag)) ((i + 1:Nat):Int)) :
    qfx 100 Q g (toI c,most,true) (qau.mk g.qa0.Source bs,toI od,true) K s (i:Int):=by
  have h6:=hB.small hg hc
  unfold qfx
  refine ⟨x,qbt hx,?_⟩
  dsimp only
  by_cases h0:(i:Int) = 0
  · rw [if_pos h0]
    unfold qep
    rw [show w64 ((i:Int) + 1) = ((i + 1:Nat):Int) by rw [qch (by omega) (by omega)];omega]
    exact hK
  · rw [if_neg h0]
    obtain ⟨a',x',p,b,e1,e2,e3,e4,e5,e6,e7,e8,e9⟩:=hB.nbr i (by omega) hi
    rw [ha] at e1
    cases e1
    rw [hx] at e2
    cases e2
    have han:=(hB.lt a (List.mem_of_getElem? ha)).1
    have hbn:=(hB.lt b (List.mem_of_getElem? e5)).1
    have hab:a ≠ b:=by
      rintro rfl
      have hp:p = i:=by
        have:=hB.nd
        have h1:=(List.getElem?_eq_some_iff.1 e5)
        have h2:=(List.getElem?_eq_some_iff.1 ha)
        exact (List.getElem_inj this).1 (h1.2.trans h2.2.symm)
      omega
    refine ⟨a,qiq ha,b,by rw [e3];exact qiq e5,busX g a,qbt (qmu hg han),?_⟩
    dsimp only
    have j6:∀ w:Bool,((b ≠ bus∧a ≠ bus∧((0 < b∧par g.qa0.qa7 b = a∧x.Own = (busX g b).Own) ∨ (0 < a∧par g.qa0.qa7 a = b∧x.Own = (busX g a).Own)))→w = true) →
        qc0 100 Q g (toI c,most,true) (qau.mk g.qa0.Source bs,toI od,true) K s (i:Int) x (a:Int) (b:Int) w:=by
      intro w hw
      unfold qc0
      refine qwp hg hc hlc hB most K s (by omega) hx hab hK 100 0 w (by omega) (by omega) ?_
      rcases e9 with h | ⟨k,hk,h⟩
      · exact .inl (hw h)
      · obtain ⟨q,hq⟩:=List.mem_iff_getElem?.1 hk
        exact .inr ⟨q,k,by omega,hq,h⟩
    have p1:=qsk hg (i:=a) (j:=b) han
    have p2:=qsk hg (i:=b) (j:=a) hbn
    have up:∀ w:Bool,(x.Own = (busX g b).Own→w = true)→(¬ ((0 < a∧par g.qa0.qa7 a = b)∧x.Own = (busX g a).Own))→(0 < b∧par g.qa0.qa7 b = a)→qc0 100 Q g (toI c,most,true) (qau.mk g.qa0.Source bs,toI od,true) K s (i:Int) x (a:Int) (b:Int) w:=fun w hw hn hp=>j6 w fun ⟨_,_,h⟩=>by
      rcases h with h | h
      · exact hw h.2.2
      · exact absurd ⟨⟨h.1,h.2.1⟩,h.2.2⟩ hn
    have no:(¬ ((0 < a∧par g.qa0.qa7 a = b)∧x.Own = (busX g a).Own))→(¬ (0 < b∧par g.qa0.qa7 b = a))→qc0 100 Q g (toI c,most,true) (qau.mk g.qa0.Source bs,toI od,true) K s (i:Int) x (a:Int) (b:Int) false:=fun hn hp=>j6 false fun ⟨_,_,h⟩=>by
      rcases h with h | h
      · exact absurd ⟨h.1,h.2.1⟩ hp
      · exact absurd ⟨⟨h.1,h.2.1⟩,h.2.2⟩ hn
    have rest:(¬ ((0 < a∧par g.qa0.qa7 a = b)∧x.Own = (busX g a).Own))→(if (busX g b).qaw = (a:Int) then bndP (qb9 100 x.Own (busX g b).Own) fun x806=>qc0 100 Q g (toI c,most,true) (qau.mk g.qa0.Source bs,toI od,true) K s (i:Int) x (a:Int) (b:Int) x806 else qc0 100 Q g (toI c,most,true) (qau.mk g.qa0.Source bs,toI od,true) K s (i:Int) x (a:Int) (b:Int) false):=by
      intro hn
      by_cases hq:(busX g b).qaw = (a:Int)
      · rw [if_pos hq]
        obtain ⟨w,ew',hw⟩:=qiw 100 x.Own (busX g b).Own
        exact ⟨w,ew',up w hw hn (p2.1 hq)⟩
      · rw [if_neg hq]
        exact no hn fun h=>hq (p2.2 h)
    by_cases hp:(busX g a).qaw = (b:Int)
    · rw [if_pos hp]
      obtain ⟨w,ew',hw⟩:=qiw 100 x.Own (busX g a).Own
      refine ⟨w,ew',?_⟩
      cases w with
      | true=>rw [if_pos rfl];exact j6 true fun _=>rfl
      | false =>
        rw [if_neg (by decide)]
        exact ⟨busX g b,qbt (qmu hg hbn),rest fun h=>absurd (hw h.2) (by decide)⟩
    · rw [if_neg hp]
      exact ⟨busX g b,qbt (qmu hg hbn),rest fun h=>hp (p1.2 h.1)⟩
def qqw (g:qbk) (s:List Nat):Int:=(s.map fun a=>(busX g a).qag).sum
omit hg hc hlc hB in
theorem qs6 {s:List Nat} (hs:∀ a ∈ s,a < nB g):qqw g s = sumC g.qa0.qa7 s:=by
  unfold qqw sumC
  congr 1
  refine List.map_congr_left fun a ha=>?_
  have h:=hs a ha
  unfold cust busX
  unfold nB at h
  rw [List.getElem?_eq_getElem h];rfl
theorem qwo {Q:Bool→Prop} (v:Int) (hQ:qeo 100 Q g v (toI c,most,true) (qau.mk g.qa0.Source bs,toI od,true) (qqw g od)):∀ (m k:Nat),k ≤ od.length→od.length - k < m →
    qb0 100 Q g v (toI c,most,true) (qau.mk g.qa0.Source bs,toI od,true) (toI (qgx (HL g bus c)),true) m (qqw g (od.take k)) (k:Int)
  | 0,_,_,h=>by omega
  | m + 1,k,hk,hm=>by
    have h6:=hB.small hg hc
    have hlt64:=p64 hg (qqt hg hc (bus:=bus))
    unfold qb0
    split
    · rename_i hlt
      have hlt':k < od.length:=by simpa using hlt
      have hgk:=List.getElem?_eq_getElem hlt'
      obtain ⟨a,ea⟩:∃ a,od[k]? = some a:=⟨_,hgk⟩
      have hak:od[k] = a:=by rw [hgk] at ea;exact Option.some.inj ea
      obtain ⟨han,hbit⟩:=hB.lt a (List.mem_of_getElem? ea)
      have hbl:=qm0 (HL g bus c)
      obtain ⟨x,ex,exc,exl⟩:∃ x,bs[k]? = some x∧x.qag = (busX g a).qag∧x.Load = (busX g a).Load:=by
        rcases Nat.eq_zero_or_pos k with rfl | h0
        · have:=hB.hd
          rw [ea] at this
          cases this
          exact ⟨_,hB.root,rfl,rfl⟩
        · obtain ⟨a',x',p,b,e1,e2,e3,e4,e5,e6,e7,e8,e9⟩:=hB.nbr k h0 hlt'
          rw [ea] at e1
          cases e1
          exact ⟨x',e2,e8,e7⟩
      refine ⟨a,qiq ea,true,?_,?_⟩
      · rw [qtj _ _ (by simp;omega)]
        congr 1
        rw [decide_eq_true_iff]
        exact qqc.2 ((qoa hlt64).2 hbit)
      · dsimp only
        rw [if_pos rfl]
        refine ⟨x,qbt ex,busX g a,qbt (qmu hg han),?_⟩
        dsimp only
        rw [if_pos exc]
        refine ⟨true,by rw [exl];exact samePhases_self 100 _,?_⟩
        dsimp only
        rw [if_pos rfl]
        refine ⟨by simp;omega,false,?_,?_⟩
        · have e:((toI od).drop (0 + (0:Int).toNat)).take ((k:Int).toNat - (0:Int).toNat) = toI (od.take k):=by simp [toI,List.map_take]
          rw [e,qtj _ _ (by simp;omega)]
          congr 1
          rw [decide_eq_false_iff_not]
          intro h
          have hm':=qqc.1 h
          obtain ⟨j,hj⟩:=List.mem_iff_getElem?.1 hm'
          have hjl:=(List.getElem?_eq_some_iff.1 hj).1
          have hjk:j < k:=by simp at hjl;omega
          rw [List.getElem?_take_of_lt hjk] at hj
          have h1:=List.getElem?_eq_some_iff.1 hj
          have h2:=List.getElem?_eq_some_iff.1 ea
          have:=(List.getElem_inj hB.nd).1 (h1.2.trans h2.2.symm)
          omega
        · dsimp only
          unfold qdk
          rw [if_neg (by decide)]
          refine aft_j5 hg hc hlc hB most _ _ hlt' ea ex ?_
          have hs:w64 (qqw g (od.take k) + x.qag) = qqw g (od.take (k + 1)):=by
            have e:od.take (k + 1) = od.take k ++ [a]:=by rw [List.take_succ_eq_append_getElem hlt',hak]
            have e2:qqw g (od.take (k + 1)) = qqw g (od.take k) + x.qag:=by
              rw [e,exc]
              unfold qqw
              simp [List.map_append,List.sum_append]
            have hin:∀ b ∈ od.take (k + 1),b < nB g:=fun b hb=>(hB.lt b (List.mem_of_mem_take hb)).1
            have hb:=qlc hg.vf (s:=od.take (k + 1)) hin
            rw [← qs6 hin] at hb
            have hlen:(od.take (k + 1)).length ≤ 6:=by simp;omega
            rw [← e2,qch (by omega) (by omega)]
          rw [hs]
          exact qwo v hQ m (k + 1) (by omega) (by omega)
    · rename_i hge
      have hge':od.length ≤ k:=by simpa using hge
      rw [List.take_of_length_le hge']
      exact hQ
end
end Go.Proofs.YtiegopnofbgoaaaGreatDoor.AWN

namespace Go.Proofs.YtiegopnofbgoaaaGreatDoor.AWN
open Go
section
variable {g:qbk} (hg:VG g)
include hg
theorem qtb {S:Int} (hS:0 ≤ S∧S ≤ 1000):∀ (m k:Nat) (acc:List Int),1 ≤ k→k ≤ nB g→nB g - k < m→acc.length = k→(∀ i:Nat,0 < i→i < k→∃ best mo,qcv 100 g (i:Int) = some (best,mo,true)∧acc[i]? = some (S - mo))→acc[0]? = some S →
    ∃ L:List Int,qdx 100 g S m acc (k:Int) = some (L,true)∧L.length = nB g∧L[0]? = some S∧∀ i:Nat,0 < i→i < nB g→∃ best mo,qcv 100 g (i:Int) = some (best,mo,true)∧L[i]? = some (S - mo)
  | 0,_,_,_,_,h,_,_,_=>by omega
  | m + 1,k,acc,h1,hk,hm,ha,hi,h0=>by
    have hn:=n6 hg
    unfold qdx
    split
    · rename_i hlt
      have hlt':k < nB g:=by unfold nB;omega
      obtain ⟨best,mo,er,hB⟩:=qp7 hg hlt' (by omega)
      obtain ⟨j,hj,rfl⟩:=hB.isSet
      have h4:=hg.few
      have hc:=qvl (show g.Ties.length ≤ 6 by omega) hj
      have hlt64:=qqt hg hc (bus:=k)
      have hb:=qlc hg.vf (s:=qgx (HL g k (qgx j))) (qtt hg hlt64)
      have hlen:=qm0 (HL g k (qgx j))
      have hm':litN g k (qgx j) = mo:=hB.lit
      unfold litN at hm'
      rw [er,Option.bind_some]
      dsimp only
      unfold grd
      rw [if_pos (by unfold room;omega),qch (by omega) (by omega),show w64 ((k:Int) + 1) = ((k + 1:Nat):Int) by rw [qch (by omega) (by omega)];omega]
      refine qtb hS m (k + 1) _ (by omega) (by omega) (by omega) (by simp [ha]) (fun i hi0 hik=>?_) (by rw [List.getElem?_append_left (by omega)];exact h0)
      by_cases hik':i < k
      · obtain ⟨b',m',e1,e2⟩:=hi i hi0 hik'
        exact ⟨b',m',e1,by rw [List.getElem?_append_left (by omega)];exact e2⟩
      · have:i = k:=by omega
        subst this
        exact ⟨_,mo,er,by rw [List.getElem?_append_right (by omega),ha];simp⟩
    · rename_i hge
      have hge':nB g ≤ k:=by unfold nB;omega
      have:k = nB g:=by omega
      subst this
      exact ⟨acc,rfl,ha,h0,hi⟩
theorem impact_some:∃ (S:Int) (L:List Int),qfj 100 g = some (L,true)∧(0 ≤ S∧S ≤ 1000)∧L.length = nB g∧L[0]? = some S∧∀ i:Nat,0 < i→i < nB g→∃ best mo,qcv 100 g (i:Int) = some (best,mo,true)∧L[i]? = some (S - mo):=by
  have hn:=n6 hg
  have h1:=one_le hg
  have hin:∀ i ∈ qkl g.qa0.qa7 0 g.qa0.qa7.length,i < g.qa0.qa7.length:=fun i hi=>(qq9.1 hi).1
  have hbl:=qsy g.qa0.qa7 0 g.qa0.qa7.length
  have hb:=qlc hg.vf (s:=qkl g.qa0.qa7 0 g.qa0.qa7.length) hin
  have hn':g.qa0.qa7.length ≤ 6:=hn
  unfold qfj
  have hbe:=below_some hg.vf (show 0 < g.qa0.qa7.length from h1)
  rw [show ((0:Nat):Int) = 0 from rfl] at hbe
  rw [qlz hg,Option.bind_some,if_pos rfl,hbe,Option.bind_some,customers_some hg.vf _ hin (by omega),Option.bind_some]
  generalize sumC g.qa0.qa7 (qkl g.qa0.qa7 0 g.qa0.qa7.length) = S at *
  have hS:0 ≤ S∧S ≤ 1000:=by omega
  obtain ⟨L,e1,e2,e3,e4⟩:=qtb hg hS 100 1 [S] (by omega) (by omega) (by omega) rfl (fun i h h'=>by omega) rfl
  exact ⟨S,L,e1,hS,e2,e3,e4⟩
omit hg in
theorem qsp (L:List Int) (hL:L.length ≤ 50):∀ (m k b:Nat),b < L.length→k ≤ L.length→1 ≤ b→b < k→L.length - k < m→(∀ i:Nat,1 ≤ i→i < k→∃ x y,L[i]? = some x∧L[b]? = some y∧x ≤ y) →
    ∃ (w:Nat) (y:Int),qcs 100 (L,true) m (b:Int) (k:Int) = some ((w:Int),y,true)∧L[w]? = some y∧∀ i:Nat,1 ≤ i→i < L.length→∃ x,L[i]? = some x∧x ≤ y
  | 0,_,_,_,_,_,_,h,_=>by omega
  | m + 1,k,b,hb,hk,h1,hbk,hm,hi=>by
    unfold qcs
    dsimp only
    split
    · rename_i hlt
      have hlt':k < L.length:=by omega
      have gk:=List.getElem?_eq_getElem hlt'
      have gb:=List.getElem?_eq_getElem hb
      rw [qbt gk,Option.bind_some,qbt gb,Option.bind_some]
      unfold qfv
      rw [show w64 ((k:Int) + 1) = ((k + 1:Nat):Int) by rw [qch (by omega) (by omega)];omega]
      by_cases hgt:L[k] > L[b]
      · rw [if_pos hgt]
        refine qsp L hL m (k + 1) k (by omega) (by omega) (by omega) (by omega) (by omega) fun i i1 ik=>?_
        by_cases hik:i < k
        · obtain ⟨x,y,e1,e2,e3⟩:=hi i i1 hik
          rw [gb] at e2
          cases e2
          exact ⟨x,_,e1,gk,by omega⟩
        · have:i = k:=by omega
          subst this
          exact ⟨_,_,gk,gk,Int.le_refl _⟩
      · rw [if_neg hgt]
        refine qsp L hL m (k + 1) b (by omega) (by omega) (by omega) (by omega) (by omega) fun i i1 ik=>?_
        by_cases hik:i < k
        · exact hi i i1 hik
        · have:i = k:=by omega
          subst this
          exact ⟨_,_,gk,gb,by omega⟩
    · rename_i hge
      have:k = L.length:=by omega
      subst this
      have gb:=List.getElem?_eq_getElem hb
      unfold qh6
      rw [qbt gb,Option.bind_some]
      refine ⟨b,_,rfl,gb,fun i i1 ik=>?_⟩
      obtain ⟨x,y,e1,e2,e3⟩:=hi i i1 ik
      rw [gb] at e2
      cases e2
      exact ⟨x,e1,e3⟩
theorem after_j2 {bus:Nat} (hb:bus < nB g) (h0:0 < bus) {c:List Nat} {most:Int} (er:qcv 100 g (bus:Int) = some (toI c,most,true)) (hmo:0 ≤ most∧most ≤ 1000) {bs:List SBus} {ol:List Int} (hvf:VF bs) (v:Int) (hx:w64 (1 + v) = (bus:Int)) {Q:Bool→Prop} (hQ:Q true) :
    qeo 100 Q g v (toI c,most,true) (qau.mk g.qa0.Source bs,ol,true) most:=by
  have hn:=n6 hg
  unfold qeo
  have hval:qcq 100 (qau.mk g.qa0.Source bs) = some true:=qou (f:=qau.mk g.qa0.Source bs) hvf
  refine solve_any (f:=qau.mk g.qa0.Source bs) hvf hval fun fl=>?_
  obtain ⟨S,L,e1,hS,e2,e3,e4⟩:=impact_some hg
  refine ⟨_,e1,?_⟩
  have hw:∃ (w:Nat) (y:Int),qgl 100 g = some ((w:Int),y,true)∧L[w]? = some y∧∀ i:Nat,1 ≤ i→i < L.length→∃ x,L[i]? = some x∧x ≤ y:=by
    unfold qgl
    rw [e1,Option.bind_some,if_pos rfl]
    unfold qfw qh5
    rw [if_neg (by simp;omega)]
    have h1:1 < L.length:=by omega
    exact qsp L (by omega) 100 2 1 h1 (by omega) (by omega) (by omega) (by omega) fun i i1 i2=>by
      have:i = 1:=by omega
      subst this
      exact ⟨_,_,List.getElem?_eq_getElem h1,List.getElem?_eq_getElem h1,Int.le_refl _⟩
  obtain ⟨w,y,f1,f2,f3⟩:=hw
  refine ⟨_,f1,?_⟩
  dsimp only
  rw [if_pos rfl,if_pos rfl,if_pos rfl,if_pos rfl,if_pos (by rw [e2];rfl)]
  obtain ⟨b',m',g1,g2⟩:=e4 bus h0 hb
  rw [er] at g1
  cases g1
  refine ⟨S - most,by rw [hx];exact qbt g2,S,qbt (i:=0) e3,?_⟩
  dsimp only
  rw [if_pos (by rw [qch (by omega) (by omega)])]
  refine ⟨y,qbt f2,?_⟩
  dsimp only
  rw [if_pos rfl]
  obtain ⟨x,q1,q2⟩:=f3 bus h0 (by omega)
  rw [g2] at q1
  cases q1
  rw [decide_eq_true q2]
  exact hQ
end
theorem after_true {c1 c2:List Int} (h1:∀ x ∈ c1,0 ≤ x∧x < 256) (h2:∀ x ∈ c2,0 ≤ x∧x < 256):qht 100 c1 c2 fun r=>r = true:=by
  unfold qht
  obtain ⟨b,e⟩:∃ b,qj5 100 c1 c2 = some b:=by
    unfold qj5
    split <;> exact ⟨_,rfl⟩
  refine ⟨b,e,?_⟩
  cases b with
  | true=>exact rfl
  | false =>
    dsimp only
    rw [if_neg (by decide)]
    obtain ⟨g,eg,hg⟩:=grid_some h1
    refine ⟨g,eg,?_⟩
    have hn:=n6 hg
    have h1':=one_le hg
    dsimp only
    by_cases hlt:(g.qa0.qa7.length:Int) < 2
    · rw [if_pos hlt]
      exact ⟨true,qlz hg,rfl⟩
    · rw [if_neg hlt]
      have hN:2 ≤ nB g:=by unfold nB;omega
      rw [show w64 ((g.qa0.qa7.length:Int) - 1) = (nB g:Int) - 1 from qch (by unfold nB at hn;omega) (by unfold nB at hn;omega)]
      obtain ⟨v,ev,hv⟩:=r8At_some 100 h2 0 ((nB g:Int) - 1) (by omega) (by omega)
      refine ⟨_,ev,?_⟩
      have hx:w64 (1 + (v:Int)) = ((1 + v:Nat):Int):=by rw [qch (by omega) (by omega)];omega
      dsimp only
      rw [hx]
      have hb:1 + v < nB g:=by omega
      obtain ⟨best,most,er,hB⟩:=qp7 hg hb (by omega)
      obtain ⟨j,hj,rfl⟩:=hB.isSet
      have h4:=hg.few
      have hc:=qvl (show g.Ties.length ≤ 6 by omega) hj
      have hl:=qm0 j
      have ha:=qs3 j
      have hp:=hB.plan
      have hcl:(qgx j).all (qne g (1 + v)) = true:=by
        unfold qr1 qvb at hp
        simp only [Bool.and_eq_true] at hp
        exact hp.1.1
      refine ⟨_,er,?_⟩
      dsimp only
      obtain ⟨bs,od,ef,hBF⟩:=feederAfter_some hg hc hb (by omega) ha (by omega) hp
      refine ⟨_,ef,_,litAfter_some hg hb (by omega) hc ha (by omega) hcl,?_⟩
      have hvf:=hBF.vf hg hc
      have hperm:=hBF.lit hg hc
      have hlen:=hperm.length_eq
      have h6:=hBF.small hg hc
      dsimp only
      rw [if_pos rfl,if_pos rfl,if_pos rfl]
      refine ⟨true,qou (f:=qau.mk g.qa0.Source bs) hvf,?_⟩
      dsimp only
      rw [if_pos rfl,if_pos (by simp [toI];omega),if_pos (by simp [toI];rw [hBF.len];omega)]
      refine ⟨0,qiq (i:=0) hBF.hd,?_⟩
      unfold qcj qh8
      dsimp only
      rw [if_neg (by decide)]
      have hmost:qqw g od = most:=by
        have hin:∀ a ∈ od,a < nB g:=fun a ha=>(hBF.lt a ha).1
        rw [qs6 hin,← hB.lit]
        unfold sumC litN
        exact perm_sum _ hperm
      have hbd:=qlc hg.vf (s:=od) (fun a ha=>(hBF.lt a ha).1)
      rw [← qs6 (fun a ha=>(hBF.lt a ha).1),hmost] at hbd
      refine qwo hg hc (by omega) hBF most (v:Int) ?_ 100 0 (by omega) (by omega)
      rw [hmost]
      exact after_j2 hg hb (by omega) er (by omega) hvf (v:Int) hx rfl
end Go.Proofs.YtiegopnofbgoaaaGreatDoor.AWN

namespace Go.Proofs.YtiegopnofbgoaaaGreatDoor.AWN
open Go Go.Proofs.Tryz
theorem laws_FnAfterT_ok (n:Nat) (c1 c2:List Int) (h:qht n c1 c2 fun r=>r = true):qb1 prog false 3 [.d (.sl false (c1.map qav)),.d (.sl false (c2.map qav))] [] (fun v o new=>v = .d (.bool true)∧o = []∧new = []) :=
  (laws_FnAfter_okP n c1 c2 h).mono fun _ _ _ ⟨r,h1,h2,h3,h4⟩=>⟨by rw [h2,h1],h3,h4⟩
end Go.Proofs.YtiegopnofbgoaaaGreatDoor.AWN
