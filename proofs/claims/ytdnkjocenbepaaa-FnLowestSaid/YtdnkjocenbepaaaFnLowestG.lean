/- Currents of two runs, side by side. -/
import Derived.Test.YtdnkjocenbepaaaFnLowestF
set_option linter.unusedVariables false
set_option linter.unusedSimpArgs false
set_option linter.unusedSectionVars false
namespace Go.Proofs.Ytdnkjocenbepaaa.AWN
open Go Ieee
def addP (o p:qa7):qa7:=qa7.mk (addC o.A p.A) (addC o.B p.B) (addC o.C p.C)
theorem qny {o p:qa7} {C:Rat} (ho:PB o C) (hp:PB p C) (hC:C ≤ 200):PB (addP o p) (2 * C + 1 / 1000):=by
  have h:=ho.a.pos
  exact ⟨qm7 ho.a hp.a (by grind) (by grind),qm7 ho.b hp.b (by grind) (by grind),qm7 ho.c hp.c (by grind) (by grind)⟩
theorem qnz {x y x' y':Cx} {C d e:Rat} (hx:CM x C) (hy:CM y C) (hx':CM x' C) (hy':CM y' C) (hC:C ≤ 200) (h1:Mo (cv x - cv x') d) (h2:Mo (cv y - cv y') e):Mo (cv (addC x y) - cv (addC x' y')) (d + e + 1 / 10000):=by
  have h:=hx.pos
  obtain ⟨_,n1⟩:=addM hx.f hy.f hx.m hy.m (E:=5 / 100000) (by grind) (by grind)
  obtain ⟨_,n2'⟩:=addM hx'.f hy'.f hx'.m hy'.m (E:=5 / 100000) (by grind) (by grind)
  have:=((n1.add h1).add h2).sub n2'
  have e1:cv (addC x y) - (cv x + cv y) + (cv x - cv x') + (cv y - cv y') - (cv (addC x' y') - (cv x' + cv y')) = cv (addC x y) - cv (addC x' y'):=by
    refine qk3 ?_ ?_ <;> simp only [qku,qkt,qj7,qj6] <;> grind
  rw [e1] at this
  exact this.mono (by grind)
theorem qnx {o p o' p':qa7} {C d e:Rat} (ho:PB o C) (hp:PB p C) (ho':PB o' C) (hp':PB p' C) (hC:C ≤ 200) (h1:NP o o' d) (h2:NP p p' e):NP (addP o p) (addP o' p') (d + e + 1 / 10000) :=
  ⟨qnz ho.a hp.a ho'.a hp'.a hC h1.a h2.a,qnz ho.b hp.b ho'.b hp'.b hC h1.b h2.b,qnz ho.c hp.c ho'.c hp'.c hC h1.c h2.c⟩
theorem qmv {x y z x' y' z':Cx} {C d:Rat} (hx:CM x C) (hy:CM y C) (hz:CM z C) (hx':CM x' C) (hy':CM y' C) (hz':CM z' C) (hC:C ≤ 200) (h1:Mo (cv x - cv x') d) (h2:Mo (cv y - cv y') d) (h3:Mo (cv z - cv z') d):Mo (cv (addC (addC x y) z) - cv (addC (addC x' z') y')) (4 * d + 3 / 10000):=by
  have h:=hx.pos
  have hd:=h1.pos
  obtain ⟨f1,n1⟩:=addM hx.f hy.f hx.m hy.m (E:=5 / 100000) (by grind) (by grind)
  obtain ⟨f2,n2'⟩:=addM hx'.f hz'.f hx'.m hz'.m (E:=5 / 100000) (by grind) (by grind)
  have c1:=qlg n1 (hx.m.add hy.m)
  have c2:=qlg n2' (hx'.m.add hz'.m)
  obtain ⟨_,n3⟩:=addM f1 hz.f c1 hz.m (E:=8 / 100000) (by grind) (by grind)
  obtain ⟨_,n4⟩:=addM f2 hy'.f c2 hy'.m (E:=8 / 100000) (by grind) (by grind)
  have:=(((n3.add n1).add ((h1.add h2).add h3)).sub n4).sub n2'
  have e1:cv (addC (addC x y) z) - (cv (addC x y) + cv z) + (cv (addC x y) - (cv x + cv y)) + (cv x - cv x' + (cv y - cv y') + (cv z - cv z')) - (cv (addC (addC x' z') y') - (cv (addC x' z') + cv y')) - (cv (addC x' z') - (cv x' + cv z')) = cv (addC (addC x y) z) - cv (addC (addC x' z') y'):=by
    refine qk3 ?_ ?_ <;> simp only [qku,qkt,qj7,qj6] <;> grind
  rw [e1] at this
  exact this.mono (by grind)
theorem qhp {f:qam} {u:List qa7} {m i q:Nat} {x:SBus} {p o:qa7} (h0:0 < i) (hi:i ≤ 100) (hp:u[i]? = some p) (hx:f.qa9[i]? = some x) (hq:x.qar = (q:Int)) (ho:u[q]? = some o) :
    qax 100 f (m + 1) u (i:Int) = qax 100 f m (u.set q (addP o p)) ((i - 1:Nat):Int):=by
  have hil:i < u.length:=by
    rcases Nat.lt_or_ge i u.length with h | h
    · exact h
    · rw [List.getElem?_eq_none h] at hp;cases hp
  rw [qax,if_pos (by omega),qbp hp,Option.bind_some]
  have es:qgg 100 (i:Int) p = some p:=rfl
  rw [es,Option.bind_some,qbp hx,Option.bind_some]
  have hset:u.set (i:Int).toNat p = u:=by
    rw [show (i:Int).toNat = i by omega]
    apply List.ext_getElem?
    intro k
    by_cases hk:k = i
    · subst hk;rw [List.getElem?_set_self (by omega),hp]
    · rw [List.getElem?_set_ne (by omega)]
  rw [hset,hq,qbp ho,Option.bind_some,qbp hp,Option.bind_some]
  have ea:qfg 100 o p = some (addP o p):=rfl
  rw [ea,Option.bind_some]
  have ei:w64 ((i:Int) - 1) = ((i - 1:Nat):Int):=by rw [qcu (by omega) (by omega)];omega
  rw [ei,show (q:Int).toNat = q by omega]
theorem qsy {f:qam} {u:List qa7} {m:Nat}:qax 100 f (m + 1) u 0 = some u:=by
  rw [qax,if_neg (by omega)]
structure BR (k n:Nat) (u u':List qa7) (C d:Rat):Prop where
  l:u.length = n
  l':u'.length = n
  c:∀ (i:Nat) (p:qa7),u[i]? = some p→PB p C
  c':∀ (i:Nat) (p:qa7),u'[i]? = some p→PB p C
  r:∀ (i:Nat) (p p':qa7),u[i]? = some p→u'[sw k i]? = some p'→NP p p' d
theorem sw_inj {k i j:Nat} (h:sw k i = sw k j):i = j:=by rw [← qsp k i,h,qsp]
theorem qh8 {α:Type} {l:List α} {q j:Nat} {x y:α} (h:(l.set q x)[j]? = some y) (hq:q < l.length):(j = q∧y = x) ∨ (j ≠ q∧l[j]? = some y):=by
  by_cases hj:j = q
  · subst hj
    rw [List.getElem?_set_self hq] at h
    exact .inl ⟨rfl,(Option.some.inj h).symm⟩
  · rw [List.getElem?_set_ne (by omega)] at h
    exact .inr ⟨hj,h⟩
theorem qg4 {α:Type} {l:List α} {i:Nat} {x:α} (h:l[i]? = some x):i < l.length:=by
  rcases Nat.lt_or_ge i l.length with h1 | h1
  · exact h1
  · rw [List.getElem?_eq_none h1] at h;cases h
theorem BR.pos {k n:Nat} {u u':List qa7} {C d:Rat} (h:BR k n u u' C d) (hk:k + 1 < n):0 ≤ d∧0 ≤ C:=by
  obtain ⟨p,hp⟩:∃ p,u[0]? = some p:=⟨_,List.getElem?_eq_getElem (by rw [h.l];omega)⟩
  obtain ⟨p',hp'⟩:∃ p',u'[sw k 0]? = some p':=⟨_,List.getElem?_eq_getElem (by rw [h.l'];exact qtw hk (by omega))⟩
  exact ⟨(h.r 0 p p' hp hp').a.pos,(h.c 0 p hp).a.pos⟩
theorem BR.step {k n:Nat} {u u':List qa7} {C d:Rat} (h:BR k n u u' C d) (hk:k + 1 < n) (hC:C ≤ 200) {i q:Nat} (hq:q < n) {o p o' p':qa7} (ho:u[q]? = some o) (hp:u[i]? = some p) (ho':u'[sw k q]? = some o') (hp':u'[sw k i]? = some p') :
    BR k n (u.set q (addP o p)) (u'.set (sw k q) (addP o' p')) (2 * C + 1 / 1000) (2 * d + 1 / 10000):=by
  obtain ⟨d0,c0⟩:=h.pos hk
  have hql:=qg4 ho
  have hql':=qg4 ho'
  refine ⟨by simp [h.l],by simp [h.l'],fun j r hr=>?_,fun j r hr=>?_,fun j r r' hr hr'=>?_⟩
  · rcases qh8 hr hql with ⟨_,rfl⟩ | ⟨_,h2⟩
    · exact qny (h.c _ _ ho) (h.c _ _ hp) hC
    · exact (h.c _ _ h2).mono (by grind)
  · rcases qh8 hr hql' with ⟨_,rfl⟩ | ⟨_,h2⟩
    · exact qny (h.c' _ _ ho') (h.c' _ _ hp') hC
    · exact (h.c' _ _ h2).mono (by grind)
  · rcases qh8 hr hql with ⟨h1,rfl⟩ | ⟨h1,h2⟩
    · subst h1
      rcases qh8 hr' hql' with ⟨_,rfl⟩ | ⟨h3,_⟩
      · exact (qnx (h.c _ _ ho) (h.c _ _ hp) (h.c' _ _ ho') (h.c' _ _ hp') hC (h.r _ _ _ ho ho') (h.r _ _ _ hp hp')).mono (by grind)
      · exact absurd rfl h3
    · rcases qh8 hr' hql' with ⟨h3,_⟩ | ⟨_,h4⟩
      · exact absurd (sw_inj h3) h1
      · exact (h.r _ _ _ h2 h4).mono (by grind)
theorem qsr (i:Nat):(((2:Nat) ^ (i + 1):Nat):Rat) = 2 * (((2:Nat) ^ i:Nat):Rat):=by rw [Nat.pow_succ];push_cast;grind
theorem two_pow_pos (i:Nat):(1:Rat) ≤ (((2:Nat) ^ i:Nat):Rat):=by exact_mod_cast Nat.one_le_two_pow
theorem two_back {f g:qam} {k:Nat} (hv:VF f.qa9) (hs:qjm f g k):∀ (i:Nat),i < f.qa9.length→i ≠ k→∀ (m:Nat) (u u':List qa7) (C d D:Rat),i < m→BR k f.qa9.length u u' C d→(C + 1) * (((2:Nat) ^ i:Nat):Rat) ≤ 200→(d + 1 / 10000) * (((2:Nat) ^ i:Nat):Rat) ≤ D →
    ∃ w w',qax 100 f m u (i:Int) = some w∧qax 100 g m u' (i:Int) = some w'∧w.length = f.qa9.length∧w'.length = f.qa9.length∧∀ (j:Nat) (p p':qa7),w[j]? = some p→w'[sw k j]? = some p'→NP p p' D:=by
  intro i
  induction i using Nat.strongRecOn with
  | _ i ih =>
  intro hi hik m u u' C d D hm hB hC hD
  have h6:=hv.six
  have hk1:=hs.k1;have hk2:=hs.k2
  obtain ⟨d0,c0⟩:=hB.pos hk2
  have hpw:=two_pow_pos i
  have hC200:C ≤ 200:=by
    have:=Rat.mul_nonneg (show 0 ≤ C + 1 by grind) (show 0 ≤ (((2:Nat) ^ i:Nat):Rat) - 1 by grind)
    grind
  obtain ⟨m,rfl⟩:∃ m',m = m' + 1:=⟨m - 1,by omega⟩
  rcases Nat.eq_zero_or_pos i with h0 | h0
  · subst h0
    refine ⟨u,u',qsy,qsy,hB.l,hB.l',fun j p p' h1 h2=>(hB.r j p p' h1 h2).mono ?_⟩
    have:(((2:Nat) ^ 0:Nat):Rat) = 1:=by rw [Nat.pow_zero];rfl
    rw [this] at hD;grind
  · -- the bus,and what it is in the other feeder
    obtain ⟨x,hx⟩:∃ x,f.qa9[i]? = some x:=⟨_,List.getElem?_eq_getElem hi⟩
    obtain ⟨p,hp⟩:∃ p,u[i]? = some p:=⟨_,List.getElem?_eq_getElem (by rw [hB.l];exact hi)⟩
    obtain ⟨up0,up1⟩:=(hv.bus i x hx).up h0
    obtain ⟨q,hq⟩:∃ q:Nat,x.qar = (q:Int):=⟨x.qar.toNat,by omega⟩
    obtain ⟨o,ho⟩:∃ o,u[q]? = some o:=⟨_,List.getElem?_eq_getElem (by rw [hB.l];omega)⟩
    by_cases hi1:i = k + 1
    · subst hi1
      obtain ⟨m,rfl⟩:∃ m',m = m' + 1:=⟨m - 1,by omega⟩
      have hqk:q ≠ k:=fun h=>hs.par x hx (by rw [hq,h])
      have hqlt:q < k:=by omega
      obtain ⟨y,hy⟩:∃ y,f.qa9[k]? = some y:=⟨_,List.getElem?_eq_getElem (by omega)⟩
      obtain ⟨b,hb⟩:∃ b,u[k]? = some b:=⟨_,List.getElem?_eq_getElem (by rw [hB.l];omega)⟩
      obtain ⟨vp0,vp1⟩:=(hv.bus k y hy).up (by omega)
      obtain ⟨t,ht⟩:∃ t:Nat,y.qar = (t:Int):=⟨y.qar.toNat,by omega⟩
      have htlt:t < k:=by omega
      have sid:∀ z,z < k→sw k z = z:=fun z hz=>by unfold sw;rw [if_neg (by omega),if_neg (by omega)]
      have sk:sw k k = k + 1:=by unfold sw;rw [if_pos rfl]
      have sk1:sw k (k + 1) = k:=by unfold sw;rw [if_neg (by omega),if_pos rfl]
      obtain ⟨ob,hob⟩:∃ ob,u[t]? = some ob:=⟨_,List.getElem?_eq_getElem (by rw [hB.l];omega)⟩
      obtain ⟨p',hp'⟩:∃ p',u'[k]? = some p':=⟨_,List.getElem?_eq_getElem (by rw [hB.l'];omega)⟩
      obtain ⟨b',hb'⟩:∃ b',u'[k + 1]? = some b':=⟨_,List.getElem?_eq_getElem (by rw [hB.l'];omega)⟩
      obtain ⟨o',ho'⟩:∃ o',u'[q]? = some o':=⟨_,List.getElem?_eq_getElem (by rw [hB.l'];omega)⟩
      obtain ⟨ob',hob'⟩:∃ ob',u'[t]? = some ob':=⟨_,List.getElem?_eq_getElem (by rw [hB.l'];omega)⟩
      have gx:g.qa9[k]? = some (ren k x):=by rw [hs.at',sk,hx];rfl
      have gy:g.qa9[k + 1]? = some (ren k y):=by rw [hs.at',sk1,hy];rfl
      have px:(ren k x).qar = ((q:Nat):Int):=by rw [qp2 k hq,sid q hqlt]
      have py:(ren k y).qar = ((t:Nat):Int):=by rw [qp2 k ht,sid t htlt]
      -- what is near what
      have np:NP p p' d:=hB.r _ _ _ hp (by rw [sk1];exact hp')
      have nb:NP b b' d:=hB.r _ _ _ hb (by rw [sk];exact hb')
      have no:NP o o' d:=hB.r _ _ _ ho (by rw [sid q hqlt];exact ho')
      have nob:NP ob ob' d:=hB.r _ _ _ hob (by rw [sid t htlt];exact hob')
      have cp:=hB.c _ _ hp;have cb:=hB.c _ _ hb;have co:=hB.c _ _ ho;have cob:=hB.c _ _ hob
      have cp':=hB.c' _ _ hp';have cb':=hB.c' _ _ hb';have co':=hB.c' _ _ ho';have cob':=hB.c' _ _ hob'
      have e2:=qsr k
      have e3:=qsr (k - 1)
      rw [show k - 1 + 1 = k by omega] at e3
      rw [e2,e3] at hC hD
      have hpw1:=two_pow_pos (k - 1)
      generalize hP:(((2:Nat) ^ (k - 1):Nat):Rat) = P at *
      have hC1:2 * C + 1 / 1000 ≤ 200:=by
        have:=Rat.mul_nonneg (show 0 ≤ C + 1 by grind) (show 0 ≤ P - 1 by grind)
        grind
      have hu:=hB.l;have hu':=hB.l'
      have next:∀ (w w':List qa7),BR k f.qa9.length w w' (2 * (2 * C + 1 / 1000) + 1 / 1000) (2 * (2 * d + 1 / 10000) + 1 / 10000) →
          ∃ z z',qax 100 f m w ((k - 1:Nat):Int) = some z∧qax 100 g m w' ((k - 1:Nat):Int) = some z'∧z.length = f.qa9.length∧z'.length = f.qa9.length∧∀ (j:Nat) (p p':qa7),z[j]? = some p→z'[sw k j]? = some p'→NP p p' D:=by
        intro w w' hw
        refine ih (k - 1) (by omega) (by omega) (by omega) m w w' _ _ D (by omega) hw ?_ ?_
        · rw [hP];grind
        · rw [hP];grind
      have pbs:∀ {r s:qa7},PB r C→PB s C→PB (addP r s) (2 * C + 1 / 1000):=fun h1 h2=>qny h1 h2 hC200
      by_cases hqt:q = t
      · subst hqt
        have eo:o = ob:=by rw [ho] at hob;exact Option.some.inj hob
        have eo':o' = ob':=by rw [ho'] at hob';exact Option.some.inj hob'
        subst eo;subst eo'
        rw [qhp (by omega) (by omega) hp hx hq ho,qhp (by omega) (by omega) hb' gy py ho',show k + 1 - 1 = k by omega]
        rw [qhp (u:=u.set q (addP o p)) (by omega) (by omega) (by rw [List.getElem?_set_ne (by omega)];exact hb) hy ht (by rw [List.getElem?_set_self (by omega)])]
        rw [qhp (u:=u'.set q (addP o' b')) (by omega) (by omega) (by rw [List.getElem?_set_ne (by omega)];exact hp') gx px (by rw [List.getElem?_set_self (by omega)])]
        apply next
        have q1:=qny (pbs co cp) (cb.mono (by grind)) hC1
        have q2:=qny (pbs co' cb') (cp'.mono (by grind)) hC1
        refine ⟨by simp [hu],by simp [hu'],fun j r hr=>?_,fun j r hr=>?_,fun j r r' hr hr'=>?_⟩
        · rcases qh8 hr (by simp;omega) with ⟨_,rfl⟩ | ⟨h1,h2⟩
          · exact q1
          · rcases qh8 h2 (by omega) with ⟨h3,_⟩ | ⟨_,h4⟩
            · exact absurd h3 h1
            · exact (hB.c _ _ h4).mono (by grind)
        · rcases qh8 hr (by simp;omega) with ⟨_,rfl⟩ | ⟨h1,h2⟩
          · exact q2
          · rcases qh8 h2 (by omega) with ⟨h3,_⟩ | ⟨_,h4⟩
            · exact absurd h3 h1
            · exact (hB.c' _ _ h4).mono (by grind)
        · rcases qh8 hr (by simp;omega) with ⟨h1,rfl⟩ | ⟨h1,h2⟩
          · subst h1
            rw [sid j hqlt,List.getElem?_set_self (by simp;omega)] at hr'
            rw [← Option.some.inj hr']
            have m3:NP (addP (addP o p) b) (addP (addP o' b') p') (4 * d + 3 / 10000) :=
              ⟨qmv co.a cp.a cb.a co'.a cp'.a cb'.a hC200 no.a np.a nb.a,qmv co.b cp.b cb.b co'.b cp'.b cb'.b hC200 no.b np.b nb.b,qmv co.c cp.c cb.c co'.c cp'.c cb'.c hC200 no.c np.c nb.c⟩
            exact m3.mono (by grind)
          · have hjs:sw k j ≠ q:=fun h=>h1 (by rw [← qsp k j,h,sid q hqlt])
            rcases qh8 h2 (by omega) with ⟨h3,_⟩ | ⟨_,h4⟩
            · exact absurd h3 h1
            · rw [List.getElem?_set_ne (by omega),List.getElem?_set_ne (by omega)] at hr'
              exact (hB.r _ _ _ h4 hr').mono (by grind)
      · rw [qhp (by omega) (by omega) hp hx hq ho,qhp (by omega) (by omega) hb' gy py hob',show k + 1 - 1 = k by omega]
        rw [qhp (u:=u.set q (addP o p)) (by omega) (by omega) (by rw [List.getElem?_set_ne (by omega)];exact hb) hy ht (by rw [List.getElem?_set_ne (by omega)];exact hob)]
        rw [qhp (u:=u'.set t (addP ob' b')) (by omega) (by omega) (by rw [List.getElem?_set_ne (by omega)];exact hp') gx px (by rw [List.getElem?_set_ne (by omega)];exact ho')]
        apply next
        refine ⟨by simp [hu],by simp [hu'],fun j r hr=>?_,fun j r hr=>?_,fun j r r' hr hr'=>?_⟩
        · rcases qh8 hr (by simp;omega) with ⟨_,rfl⟩ | ⟨h1,h2⟩
          · exact (pbs cob cb).mono (by grind)
          · rcases qh8 h2 (by omega) with ⟨_,rfl⟩ | ⟨_,h4⟩
            · exact (pbs co cp).mono (by grind)
            · exact (hB.c _ _ h4).mono (by grind)
        · rcases qh8 hr (by simp;omega) with ⟨_,rfl⟩ | ⟨h1,h2⟩
          · exact (pbs co' cp').mono (by grind)
          · rcases qh8 h2 (by omega) with ⟨_,rfl⟩ | ⟨_,h4⟩
            · exact (pbs cob' cb').mono (by grind)
            · exact (hB.c' _ _ h4).mono (by grind)
        · rcases qh8 hr (by simp;omega) with ⟨h1,rfl⟩ | ⟨h1,h2⟩
          · subst h1
            rw [sid j htlt,List.getElem?_set_ne (by omega),List.getElem?_set_self (by omega)] at hr'
            rw [← Option.some.inj hr']
            exact (qnx cob cb cob' cb' hC200 nob nb).mono (by grind)
          · rcases qh8 h2 (by omega) with ⟨h3,rfl⟩ | ⟨h3,h4⟩
            · subst h3
              rw [sid j hqlt,List.getElem?_set_self (by simp;omega)] at hr'
              rw [← Option.some.inj hr']
              exact (qnx co cp co' cp' hC200 no np).mono (by grind)
            · have hj1:sw k j ≠ q:=fun h=>h3 (by rw [← qsp k j,h,sid q hqlt])
              have hj2:sw k j ≠ t:=fun h=>h1 (by rw [← qsp k j,h,sid t htlt])
              rw [List.getElem?_set_ne (by omega),List.getElem?_set_ne (by omega)] at hr'
              exact (hB.r _ _ _ h4 hr').mono (by grind)
    · have esi:sw k i = i:=by unfold sw;rw [if_neg hik,if_neg hi1]
      obtain ⟨p',hp'⟩:∃ p',u'[sw k i]? = some p':=⟨_,List.getElem?_eq_getElem (by rw [hB.l',esi];exact hi)⟩
      obtain ⟨o',ho'⟩:∃ o',u'[sw k q]? = some o':=⟨_,List.getElem?_eq_getElem (by rw [hB.l'];exact qtw hk2 (by omega))⟩
      have hgx:g.qa9[i]? = some (ren k x):=by rw [hs.at',esi,hx];rfl
      rw [qhp h0 (by omega) hp hx hq ho,qhp h0 (by omega) (by rw [← esi];exact hp') hgx (qp2 k hq) ho']
      have hstep:=hB.step hk2 hC200 (q:=q) (by omega) ho hp ho' hp'
      have e2:=qsr (i - 1)
      rw [show i - 1 + 1 = i by omega] at e2
      rw [e2] at hC hD
      have hne:i - 1 ≠ k:=by omega
      have hpw1:=two_pow_pos (i - 1)
      refine ih (i - 1) (by omega) (by omega) hne m _ _ _ _ D (by omega) hstep ?_ ?_
      · generalize (((2:Nat) ^ (i - 1):Nat):Rat) = P at *
        have:(2 * C + 1 / 1000 + 1) * P ≤ (C + 1) * (2 * P):=by
          have:=Rat.mul_nonneg (show (0:Rat) ≤ 1 - 1 / 1000 by grind) (show 0 ≤ P by grind)
          grind
        grind
      · generalize (((2:Nat) ^ (i - 1):Nat):Rat) = P at *
        grind
end Go.Proofs.Ytdnkjocenbepaaa.AWN

namespace Go.Proofs.Ytdnkjocenbepaaa.AWN
open Go Ieee
def qsi (o p:qa7):qa7:=qa7.mk (subC o.A p.A) (subC o.B p.B) (subC o.C p.C)
section
variable {f:qam} {z b ρ:Nat→Rat} (hf:NF f z b ρ)
include hf
theorem qt8 {v:List qa7} (hv:VL f v):∀ (m:Nat) (l:List qa7),l.length ≤ f.qa9.length→f.qa9.length - l.length < m→(∀ (k:Nat) (c:qa7),l[k]? = some c→PB c (b k)∧∀ x p,f.qa9[k]? = some x→v[k]? = some p→qbo 100 x p = some c) →
    ∃ l',qbs 100 f v m l (l.length:Int) = some l'∧l'.length = f.qa9.length∧∀ (k:Nat) (c:qa7),l'[k]? = some c→PB c (b k)∧∀ x p,f.qa9[k]? = some x→v[k]? = some p→qbo 100 x p = some c
  | 0,l,_,h,_=>by omega
  | m + 1,l,hl,hm,hok=>by
    have h7:=hf.top
    unfold qbs
    by_cases hlt:l.length < f.qa9.length
    · rw [if_pos (by omega)]
      obtain ⟨x,hx⟩:∃ x,f.qa9[l.length]? = some x:=⟨_,List.getElem?_eq_getElem hlt⟩
      obtain ⟨p,hp⟩:∃ p,v[l.length]? = some p:=⟨_,List.getElem?_eq_getElem (by rw [hv.len];exact hlt)⟩
      rw [qbp hx,Option.bind_some,qbp hp,Option.bind_some]
      have hn:=hf.nb _ _ hx
      have hpn:=hv.at' _ _ hp
      obtain ⟨ja,ea,ca⟩:=hn.la _ hpn.a
      obtain ⟨jb,eb,cb⟩:=hn.lb _ hpn.b
      obtain ⟨jc,ec,cc⟩:=hn.lc _ hpn.c
      have e:qbo 100 x p = some (qa7.mk ja jb jc):=by
        unfold qbo qi2
        rw [ea,Option.bind_some,eb,Option.bind_some,ec,Option.bind_some,Option.bind_some]
      rw [e,Option.bind_some]
      unfold grd
      rw [if_pos (show room (l.length + 1) 24 by unfold room;omega)]
      have e2:w64 ((l.length:Int) + 1) = ((l ++ [qa7.mk ja jb jc]).length:Int):=by rw [qcu (by omega) (by omega)];simp
      rw [e2]
      apply qt8 hv m (l ++ [qa7.mk ja jb jc]) (by simp;omega) (by simp;omega)
      intro k c hq
      rcases Nat.lt_or_ge k l.length with h | h
      · rw [List.getElem?_append_left h] at hq;exact hok k c hq
      · have hk:k = l.length:=by
          have:=qg4 hq
          simp at this;omega
        subst hk
        rw [List.getElem?_append_right (Nat.le_refl _),Nat.sub_self] at hq
        simp at hq
        subst hq
        refine ⟨⟨ca,cb,cc⟩,fun x' p' h1 h2=>?_⟩
        rw [hx] at h1;rw [hp] at h2
        rw [← Option.some.inj h1,← Option.some.inj h2];exact e
    · rw [if_neg (by omega)]
      exact ⟨l,rfl,by omega,hok⟩
theorem qo8 {x:SBus} {zz:Rat} (hz:zz ≤ 782 / 10000) (hx:CM x.Own zz) (hsh:x.Shared = ⟨0,0⟩) {p:qa7} (hp:PB p (106 / 10)):∃ d,qd9 100 x p = some d∧PB d (zz * (106 / 10) + 1 / 10000):=by
  obtain ⟨da,ea,ca⟩:=drop1 hz hx hsh hp.a hp.b hp.c
  obtain ⟨db,eb,cb⟩:=drop1 hz hx hsh hp.b hp.c hp.a
  obtain ⟨dc,ec,cc⟩:=drop1 hz hx hsh hp.c hp.a hp.b
  refine ⟨qa7.mk da db dc,?_,ca,cb,cc⟩
  unfold qd9
  rw [ea,Option.bind_some,eb,Option.bind_some,ec,Option.bind_some]
structure FE (f:qam) (c l:List qa7):Prop where
  z:l[0]? = some f.Source
  s:∀ (j q:Nat) (x:SBus) (v o p:qa7),0 < j→f.qa9[j]? = some x→x.qar = (q:Int)→l[j]? = some v→l[q]? = some o→c[j]? = some p→∃ d,qd9 100 x p = some d∧v = qsi o d
theorem qt3 {c:List qa7} (hc:c.length = f.qa9.length) (hcb:∀ (k:Nat) (p:qa7),c[k]? = some p→PB p (106 / 10)):∀ (m:Nat) (l:List qa7),1 ≤ l.length→l.length ≤ f.qa9.length→f.qa9.length - l.length < m→(∀ (k:Nat) (p:qa7),l[k]? = some p→PN p f.Source (ρ k))→FE f c l →
    ∃ l',qbr 100 f c m l (l.length:Int) = some l'∧l'.length = f.qa9.length∧(∀ (k:Nat) (p:qa7),l'[k]? = some p→PN p f.Source (ρ k))∧FE f c l'
  | 0,l,_,_,h,_,_=>by omega
  | m + 1,l,hl1,hl,hm,hok,hfe=>by
    have h7:=hf.top
    unfold qbr
    by_cases hlt:l.length < f.qa9.length
    · rw [if_pos (by omega)]
      obtain ⟨x,hx⟩:∃ x,f.qa9[l.length]? = some x:=⟨_,List.getElem?_eq_getElem hlt⟩
      obtain ⟨up0,up1⟩:=(hf.ok _ x hx).up (by omega)
      obtain ⟨q,hq⟩:∃ q:Nat,x.qar = (q:Int):=⟨x.qar.toNat,by omega⟩
      obtain ⟨o,ho⟩:∃ o,l[q]? = some o:=⟨_,List.getElem?_eq_getElem (by omega)⟩
      obtain ⟨p,hp⟩:∃ p,c[l.length]? = some p:=⟨_,List.getElem?_eq_getElem (by omega)⟩
      have hn:=hf.nb _ _ hx
      have hpb:=hcb _ _ hp
      have hz:=hf.zhi l.length
      have hstep:=hf.step _ _ hx (by omega)
      rw [hq,show ((q:Int)).toNat = q by omega] at hstep
      have hfarq:=hf.rfar q (by omega)
      have hpo:=hok q o ho
      rw [qbp hx,Option.bind_some,hq,qbp ho,Option.bind_some,qbp hp,Option.bind_some]
      obtain ⟨d,ed,cd⟩:=qo8 hf hz hn.own hn.sh hpb
      rw [ed,Option.bind_some]
      have el:qdk 100 o d = some (qsi o d):=rfl
      rw [el,Option.bind_some]
      have es:qgg 100 (l.length:Int) (qsi o d) = some (qsi o d):=rfl
      rw [es,Option.bind_some]
      unfold grd
      rw [if_pos (show room (l.length + 1) 24 by unfold room;omega)]
      have e2:w64 ((l.length:Int) + 1) = ((l ++ [qsi o d]).length:Int):=by rw [qcu (by omega) (by omega)];simp
      rw [e2]
      have hS:=hf.src
      have w:∀ {v d s:Cx},CM s (311 / 10)→VN v s (ρ q)→CM d (z l.length * (106 / 10) + 1 / 10000)→VN (subC v d) s (ρ l.length):=by
        intro v d s h1 h2 h3
        have:=qwa h1 h2 hfarq h3 (by grind)
        exact ⟨this.f,this.n.mono (by grind)⟩
      have split:∀ (k:Nat) (r:qa7),(l ++ [qsi o d])[k]? = some r→(k < l.length∧l[k]? = some r) ∨ (k = l.length∧r = qsi o d):=by
        intro k r hr
        rcases Nat.lt_or_ge k l.length with h | h
        · rw [List.getElem?_append_left h] at hr;exact .inl ⟨h,hr⟩
        · have hk:k = l.length:=by
            have:=qg4 hr
            simp at this;omega
          subst hk
          rw [List.getElem?_append_right (Nat.le_refl _),Nat.sub_self] at hr
          simp at hr
          exact .inr ⟨rfl,hr.symm⟩
      apply qt3 hc hcb m _ (by simp) (by simp;omega) (by simp;omega)
      · intro k r hr
        rcases split k r hr with ⟨_,h⟩ | ⟨rfl,rfl⟩
        · exact hok k r h
        · exact ⟨w hS.a hpo.a cd.a,w hS.b hpo.b cd.b,w hS.c hpo.c cd.c⟩
      · refine ⟨by rw [List.getElem?_append_left (by omega)];exact hfe.z,fun j q' x' v' o' p' h0 hx' hq' hv' ho' hp'=>?_⟩
        rcases split j v' hv' with ⟨hj,h1⟩ | ⟨rfl,rfl⟩
        · have hqj:q' < j:=by
            have:=(hf.ok _ x' hx').up h0
            omega
          rw [List.getElem?_append_left (by omega)] at ho'
          exact hfe.s j q' x' v' o' p' h0 hx' hq' h1 ho' hp'
        · rw [hx] at hx'
          have hx':=Option.some.inj hx'
          subst hx'
          have:q' = q:=by omega
          subst this
          rw [hp] at hp'
          rw [List.getElem?_append_left (by omega),ho] at ho'
          rw [← Option.some.inj hp',← Option.some.inj ho']
          exact ⟨d,ed,rfl⟩
    · rw [if_neg (by omega)]
      exact ⟨l,rfl,by omega,hok,hfe⟩
theorem qp7 {v:List qa7} (hv:VL f v):∃ l c v',qca 100 f v = some (qco.mk v' c 1 false)∧VL f v'∧c.length = f.qa9.length∧l.length = f.qa9.length ∧
    (∀ (k:Nat) (p:qa7),l[k]? = some p→PB p (b k)∧∀ x q,f.qa9[k]? = some x→v[k]? = some q→qbo 100 x q = some p)∧qax 100 f 100 l ((f.qa9.length - 1:Nat):Int) = some c∧(∀ (k:Nat) (p:qa7),c[k]? = some p→PB p (106 / 10))∧FE f c v':=by
  have h7:=hf.top;have h1:=hf.one
  obtain ⟨l,e1,l1,l2⟩:=qt8 hf hv 100 [] (by simp) (by simp;omega) (by intro k p h;simp at h)
  have ec:qcl 100 l = some l:=by
    unfold qcl grd
    rw [if_pos (show room (([]:List qa7).length + l.length) 24 by unfold room;simp;omega)];rfl
  have hb1:∀ k,k < f.qa9.length→b k ≤ 106 / 10:=fun k hk=>by
    have:=qqx hf.pos (f.qa9.length - 1) k (by omega)
    have:=hf.sum;grind
  have c0:(0:Rat) ≤ 7 - ((f.qa9.length - 1:Nat):Rat):=by
    have:((f.qa9.length - 1:Nat):Rat) ≤ 6:=by exact_mod_cast (show f.qa9.length - 1 ≤ 6 by omega)
    grind
  obtain ⟨c,e2,c1,c2⟩:=qsc hf 100 (f.qa9.length - 1) l b (by omega) (by omega) l1 hf.pos (by have:=hf.sum;grind) (fun k p h=>(l2 k p h).1.mono (hb1 k (by have:=qg4 h;omega))) (fun k p _ h=>(l2 k p h).1)
  obtain ⟨v',e3,v1,v2,v3⟩:=qt3 hf c1 c2 100 [f.Source] (by simp) (by simpa using h1) (by simp;omega) (by
    intro k p h
    have:k = 0:=by have:=qg4 h;simp at this;omega
    subst this
    simp at h
    subst h
    exact qso hf.src (hf.r0 0)) ⟨rfl,fun j q x v o p h0 _ _ hv _ _=>by have:=qg4 hv;simp at this;omega⟩
  refine ⟨l,c,v',?_,⟨v1,fun i p h=>?_⟩,c1,l1,l2,e2,c2,v3⟩
  · unfold qca
    have e1':qf2 100 f v = some l:=e1
    have e2':qdq 100 f l = some c:=by
      unfold qdq
      rw [ec,Option.bind_some]
      have:w64 ((l.length:Int) - 1) = ((f.qa9.length - 1:Nat):Int):=by rw [qcu (by omega) (by omega)];omega
      rw [this];exact e2
    have e3':qf1 100 f c = some v':=e3
    rw [e1',Option.bind_some,e2',Option.bind_some,e3',Option.bind_some]
  · have hk:i < f.qa9.length:=by have:=qg4 h;omega
    have:=v2 i p h
    have hr:=hf.rfar i hk
    exact ⟨⟨this.a.f,this.a.n.mono hr⟩,⟨this.b.f,this.b.n.mono hr⟩,⟨this.c.f,this.c.n.mono hr⟩⟩
end
end Go.Proofs.Ytdnkjocenbepaaa.AWN

namespace Go.Proofs.Ytdnkjocenbepaaa.AWN
open Go Ieee
theorem qpm {x:SBus} (hx:CM x.Own (782 / 10000)) (hsh:x.Shared = ⟨0,0⟩) {p q r d:Cx} (hp:CM p (106 / 10)) (hq:CM q (106 / 10)) (hr:CM r (106 / 10)) (e:qcg 100 p q r x = some d):Mo (cv d - cv x.Own * cv p) (1 / 100000):=by
  obtain ⟨d1,e1,f1,n1⟩:=mulM 100 hx.f hp.f hx.m hp.m (D:=83 / 100) (E:=1 / 1000000) (by grind) (by grind) (by grind)
  have cs:=qm7 hq hr (e:=76) (by grind) (by grind)
  have hs:CM x.Shared 0:=by rw [hsh];exact cm0
  obtain ⟨d2,e2,f2,n2'⟩:=mulM 100 hs.f cs.f hs.m cs.m (D:=0) (E:=1 / 1000000) (by grind) (by grind) (by grind)
  have m1:=qlg n1 (hx.m.mul hp.m)
  have m2:=qlg n2' (hs.m.mul cs.m)
  obtain ⟨_,n3⟩:=addM f1 f2 m1 m2 (E:=1 / 1000000) (by grind) (by grind)
  unfold qcg at e
  have e2':qck 100 x.Shared (Cx.mk (qa8 .add .f32 q.re r.re) (qa8 .add .f32 q.im r.im)) = some d2:=e2
  rw [e1,Option.bind_some,e2',Option.bind_some] at e
  have ed:d = addC d1 d2:=(Option.some.inj e).symm
  rw [ed]
  have z:cv x.Shared = ⟨0,0⟩:=by rw [hsh];exact cv0
  have:=(n3.add n1).add n2'
  have e3:cv (addC d1 d2) - (cv d1 + cv d2) + (cv d1 - cv x.Own * cv p) + (cv d2 - cv x.Shared * cv (addC q r)) = cv (addC d1 d2) - cv x.Own * cv p:=by
    rw [z]
    refine qk3 ?_ ?_ <;> simp only [qku,qkt,qj7,qj6,qm1,qm9] <;> grind
  rw [e3] at this
  exact this.mono (by grind)
theorem qmx {x y:SBus} (hx:CM x.Own (782 / 10000)) (hsh:x.Shared = ⟨0,0⟩) (ho:y.Own = x.Own) (hys:y.Shared = ⟨0,0⟩) {p q r p' q' r' d d':Cx} (hp:CM p (106 / 10)) (hq:CM q (106 / 10)) (hr:CM r (106 / 10)) (hp':CM p' (106 / 10)) (hq':CM q' (106 / 10)) (hr':CM r' (106 / 10))
    (e:qcg 100 p q r x = some d) (e':qcg 100 p' q' r' y = some d') {D:Rat} (hD:Mo (cv p - cv p') D):Mo (cv d - cv d') (79 / 1000 * D + 2 / 100000):=by
  have n1:=qpm hx hsh hp hq hr e
  have n2':=qpm (x:=y) (by rw [ho];exact hx) hys hp' hq' hr' e'
  rw [ho] at n2'
  have hD0:=hD.pos
  have:=(n1.add (hx.m.mul hD)).sub n2'
  have e3:cv d - cv x.Own * cv p + cv x.Own * (cv p - cv p') - (cv d' - cv x.Own * cv p') = cv d - cv d':=by
    refine qk3 ?_ ?_ <;> simp only [qku,qkt,qj7,qj6,qm1,qm9] <;> grind
  rw [e3] at this
  exact this.mono (by grind)
theorem qv1 {α β γ:Type} {a b c:Option α} {r:β} {F:α→α→α→β} (h:(a.bind fun x=>b.bind fun y=>c.bind fun z=>some (F x y z)) = some r):∃ x y z,a = some x∧b = some y∧c = some z∧r = F x y z:=by
  cases a with
  | none=>cases h
  | some x =>
    cases b with
    | none=>cases h
    | some y =>
      cases c with
      | none=>cases h
      | some z=>exact ⟨x,y,z,rfl,rfl,rfl,(Option.some.inj h).symm⟩
theorem drop_near {x y:SBus} (hx:CM x.Own (782 / 10000)) (hsh:x.Shared = ⟨0,0⟩) (ho:y.Own = x.Own) (hys:y.Shared = ⟨0,0⟩) {p p' d d':qa7} (hp:PB p (106 / 10)) (hp':PB p' (106 / 10)) (e:qd9 100 x p = some d) (e':qd9 100 y p' = some d') {D:Rat} (hD:NP p p' D):NP d d' (79 / 1000 * D + 2 / 100000):=by
  unfold qd9 at e e'
  obtain ⟨a,b,c,ea,eb,ec,rfl⟩:=qv1 (γ:=Unit) e
  obtain ⟨a',b',c',ea',eb',ec',rfl⟩:=qv1 (γ:=Unit) e'
  exact ⟨qmx hx hsh ho hys hp.a hp.b hp.c hp'.a hp'.b hp'.c ea ea' hD.a,qmx hx hsh ho hys hp.b hp.c hp.a hp'.b hp'.c hp'.a eb eb' hD.b,qmx hx hsh ho hys hp.c hp.a hp.b hp'.c hp'.a hp'.b ec ec' hD.c⟩
theorem qn2 {o d o' d' s:Cx} (hs:CM s (311 / 10)) (ho:VN o s far) (ho':VN o' s far) (hd:CM d 1) (hd':CM d' 1) {e1 e2:Rat} (h1:Mo (cv o - cv o') e1) (h2:Mo (cv d - cv d') e2):Mo (cv (subC o d) - cv (subC o' d')) (e1 + e2 + 1 / 100000):=by
  have m:=ho.cm hs;have m':=ho'.cm hs
  have hfar:far = 42 / 10:=rfl
  obtain ⟨_,n1⟩:=subM m.f hd.f m.m hd.m (E:=1 / 200000) (by rw [hfar];grind) (by rw [hfar];grind)
  obtain ⟨_,n2'⟩:=subM m'.f hd'.f m'.m hd'.m (E:=1 / 200000) (by rw [hfar];grind) (by rw [hfar];grind)
  have:=((n1.add h1).sub h2).sub n2'
  have e3:cv (subC o d) - (cv o - cv d) + (cv o - cv o') - (cv d - cv d') - (cv (subC o' d') - (cv o' - cv d')) = cv (subC o d) - cv (subC o' d'):=by
    refine qk3 ?_ ?_ <;> simp only [qku,qkt,qj7,qj6] <;> grind
  rw [e3] at this
  exact this.mono (by grind)
structure VR (f:qam) (k:Nat) (v v':List qa7):Prop where
  r:∀ (i:Nat) (p p':qa7),v[i]? = some p→v'[sw k i]? = some p'→NP p p' (1 / 100)
section
variable {f g:qam} {k:Nat} (hS:SrcM f.Source) (hlen:f.qa9.length ≤ 6∧1 ≤ f.qa9.length) (hok:∀ i y,f.qa9[i]? = some y→qnp i y) (hm:∀ y ∈ f.qa9,Mild y) (hr:∀ y,f.qa9[0]? = some y→y.Load = ⟨⟨0,0⟩,⟨0,0⟩,⟨0,0⟩⟩) (hsw:qjm f g k)
include hS hlen hok hm hr hsw
theorem qqc:NF g (bz g.qa9.length) (bb g.qa9.length) (br g.qa9.length):=by
  have hv:VF f.qa9:=⟨hlen.2,by omega,hok⟩
  have hvg:=hsw.vf hv
  exact qqu (by rw [hsw.src];exact hS) (by rw [hsw.len];exact hlen) hvg.bus (hsw.mild hm) (hsw.root hr)
theorem two_round {v v':List qa7} (hv:VL f v) (hv':VL g v') (hR:VR f k v v'):∃ w c w' c',qca 100 f v = some (qco.mk w c 1 false)∧qca 100 g v' = some (qco.mk w' c' 1 false)∧VL f w∧VL g w'∧c.length = f.qa9.length∧c'.length = g.qa9.length∧VR f k w w':=by
  have hf:=qqu hS hlen hok hm hr
  have hg:=qqc hS hlen hok hm hr hsw
  have hvf:VF f.qa9:=⟨hlen.2,by omega,hok⟩
  have hk1:=hsw.k1;have hk2:=hsw.k2;have hgl:=hsw.len
  obtain ⟨l,c,w,e1,w1,c1,l1,l2,b1,c2,fe⟩:=qp7 hf hv
  obtain ⟨l',c',w',e1',w1',c1',l1',l2',b1',c2',fe'⟩:=qp7 hg hv'
  have hbb:∀ (m j:Nat),bb m j ≤ 208 / 100 ∨ j = m:=by
    intro m j
    by_cases h:j = m
    · exact .inr h
    · left;unfold bb;split
      · grind
      · split
        · grind
        · grind
  -- the loads
  have hBR:BR k f.qa9.length l l' (208 / 100) (1 / 6000 + 1 / 1000000):=by
    refine ⟨l1,by rw [l1',hgl],fun i p hp=>?_,fun i p hp=>?_,fun i p p' hp hp'=>?_⟩
    · have hi:=qg4 hp
      rcases hbb f.qa9.length i with h | h
      · exact (l2 i p hp).1.mono h
      · omega
    · have hi:=qg4 hp
      rcases hbb g.qa9.length i with h | h
      · exact (l2' i p hp).1.mono h
      · omega
    · have hi:=qg4 hp
      obtain ⟨x,hx⟩:∃ x,f.qa9[i]? = some x:=⟨_,List.getElem?_eq_getElem (by omega)⟩
      obtain ⟨q,hq⟩:∃ q,v[i]? = some q:=⟨_,List.getElem?_eq_getElem (by rw [hv.len];omega)⟩
      have hsi:sw k i < f.qa9.length:=qtw hk2 (by omega)
      obtain ⟨q',hq'⟩:∃ q',v'[sw k i]? = some q':=⟨_,List.getElem?_eq_getElem (by rw [hv'.len,hgl];exact hsi)⟩
      have hgx:g.qa9[sw k i]? = some (ren k x):=by rw [hsw.at',qsp,hx];rfl
      have a:=(l2 i p hp).2 x q hx hq
      have a':=(l2' _ p' hp').2 _ q' hgx hq'
      obtain ⟨o1,o2,o3,o4,o5⟩:=qp1 k x
      unfold qbo qi2 at a a'
      rw [o4] at a'
      have strip:∀ {o:Option qa7} {r:qa7},(o.bind fun x=>some x) = some r→o = some r:=by
        intro o r h;cases o with
        | none=>cases h
        | some x=>exact h
      obtain ⟨ja,jb,jc,ea,eb,ec,rfl⟩:=qv1 (γ:=Unit) (strip a)
      obtain ⟨ja',jb',jc',ea',eb',ec',rfl⟩:=qv1 (γ:=Unit) (strip a')
      have hmx:=hm x (List.mem_of_getElem? hx)
      have vn:=hv.at' i q hq
      have vn':=hv'.at' _ q' hq'
      rw [hsw.src] at vn'
      have nr:=hR.r i q q' hq hq'
      exact ⟨(qoj hS.a hS.la hmx.a hmx.kind o3 vn.a vn'.a nr.a ea ea').mono (by grind),(qoj hS.b hS.lb hmx.b hmx.kind o3 vn.b vn'.b nr.b eb eb').mono (by grind),(qoj hS.c hS.lc hmx.c hmx.kind o3 vn.c vn'.c nr.c ec ec').mono (by grind)⟩
  have hpow:(((2:Nat) ^ (f.qa9.length - 1):Nat):Rat) ≤ 32:=by
    have:(2:Nat) ^ (f.qa9.length - 1) ≤ 2 ^ 5:=Nat.pow_le_pow_right (by omega) (by omega)
    exact_mod_cast this
  have hpow0:=two_pow_pos (f.qa9.length - 1)
  obtain ⟨z,z',q1,q2,z1,z2,zr⟩:=two_back hvf hsw (f.qa9.length - 1) (by omega) (by omega) 100 l l' _ _ (9 / 1000) (by omega) hBR (by grind) (by grind)
  rw [b1] at q1
  rw [hgl] at b1'
  rw [b1'] at q2
  have ez:=Option.some.inj q1
  have ez':=Option.some.inj q2
  subst ez;subst ez'
  -- the voltages,one behind the other
  have vol:∀ (j:Nat),∀ (p p':qa7),w[j]? = some p→w'[sw k j]? = some p'→NP p p' ((j:Rat) / 1000):=by
    intro j
    induction j using Nat.strongRecOn with
    | _ j ih =>
    intro p p' hp hp'
    have hj:=qg4 hp
    rw [w1.len] at hj
    rcases Nat.eq_zero_or_pos j with h0 | h0
    · subst h0
      have s0:sw k 0 = 0:=by unfold sw;rw [if_neg (by omega),if_neg (by omega)]
      rw [s0,fe'.z,hsw.src] at hp'
      rw [fe.z] at hp
      rw [← Option.some.inj hp,← Option.some.inj hp']
      have:((0:Nat):Rat) / 1000 = 0:=by rw [show ((0:Nat):Rat) = 0 from rfl];grind
      rw [this]
      exact ⟨qlf _,qlf _,qlf _⟩
    · obtain ⟨x,hx⟩:∃ x,f.qa9[j]? = some x:=⟨_,List.getElem?_eq_getElem hj⟩
      obtain ⟨up0,up1⟩:=(hok j x hx).up h0
      obtain ⟨q,hq⟩:∃ q:Nat,x.qar = (q:Int):=⟨x.qar.toNat,by omega⟩
      have hqj:q < j:=by omega
      have hgx:g.qa9[sw k j]? = some (ren k x):=by rw [hsw.at',qsp,hx];rfl
      have hsj:sw k j < f.qa9.length:=qtw hk2 hj
      have hsq:sw k q < f.qa9.length:=qtw hk2 (by omega)
      have hsj0:0 < sw k j:=by unfold sw;split;omega;split <;> omega
      obtain ⟨o,ho⟩:∃ o,w[q]? = some o:=⟨_,List.getElem?_eq_getElem (by rw [w1.len];omega)⟩
      obtain ⟨o',ho'⟩:∃ o',w'[sw k q]? = some o':=⟨_,List.getElem?_eq_getElem (by rw [w1'.len,hgl];exact hsq)⟩
      obtain ⟨cj,hcj⟩:∃ cj,c[j]? = some cj:=⟨_,List.getElem?_eq_getElem (by rw [c1];exact hj)⟩
      obtain ⟨cj',hcj'⟩:∃ cj',c'[sw k j]? = some cj':=⟨_,List.getElem?_eq_getElem (by rw [c1',hgl];exact hsj)⟩
      obtain ⟨d,ed,rfl⟩:=fe.s j q x p o cj h0 hx hq hp ho hcj
      obtain ⟨d',ed',rfl⟩:=fe'.s (sw k j) (sw k q) (ren k x) p' o' cj' hsj0 hgx (qp2 k hq) hp' ho' hcj'
      obtain ⟨o1,o2,o3,o4,o5⟩:=qp1 k x
      have hmx:=hm x (List.mem_of_getElem? hx)
      have pc:=c2 j cj hcj
      have pc':=c2' _ cj' hcj'
      have nd:=drop_near hmx.own hmx.sh o1 (by rw [o2];exact hmx.sh) pc pc' ed ed' (zr j cj cj' hcj hcj')
      obtain ⟨dd,edd,cd⟩:=qo8 hf (zz:=782 / 10000) (by grind) hmx.own hmx.sh pc
      rw [ed] at edd
      have:=Option.some.inj edd
      subst this
      obtain ⟨dd',edd',cd'⟩:=qo8 hg (x:=ren k x) (zz:=782 / 10000) (by grind) (by rw [o1];exact hmx.own) (by rw [o2];exact hmx.sh) pc'
      rw [ed'] at edd'
      have:=Option.some.inj edd'
      subst this
      have no:=ih q hqj o o' ho ho'
      have vo:=w1.at' q o ho
      have vo':=w1'.at' _ o' ho'
      rw [hsw.src] at vo'
      have hqr:(q:Rat) + 1 ≤ (j:Rat):=by exact_mod_cast hqj
      have pd:=cd.mono (C:=1) (by grind)
      have pd':=cd'.mono (C:=1) (by grind)
      exact ⟨(qn2 hS.a vo.a vo'.a pd.a pd'.a no.a nd.a).mono (by grind),(qn2 hS.b vo.b vo'.b pd.b pd'.b no.b nd.b).mono (by grind),(qn2 hS.c vo.c vo'.c pd.c pd'.c no.c nd.c).mono (by grind)⟩
  refine ⟨w,c,w',c',e1,e1',w1,w1',c1,c1',⟨fun i p p' hp hp'=>?_⟩⟩
  have hi:=qg4 hp
  rw [w1.len] at hi
  have:(i:Rat) ≤ 6:=by exact_mod_cast (show i ≤ 6 by omega)
  exact (vol i p p' hp hp').mono (by grind)
theorem qvs (R:Int) (hRR:R ≤ 50):∀ (m:Nat) (v c v' c':List qa7) (a a':Int) (r r':Bool) (j:Int),VL f v→VL g v'→c.length = f.qa9.length→c'.length = g.qa9.length→VR f k v v'→0 ≤ j→j ≤ R→R - j < m →
    ∃ w d s w' d' s',qbe 100 f R m v c a r j = some (qco.mk w d R s)∧qbe 100 g R m v' c' a' r' j = some (qco.mk w' d' R s')∧VL f w∧VL g w'∧d.length = f.qa9.length∧d'.length = g.qa9.length∧VR f k w w'
  | 0,_,_,_,_,_,_,_,_,j,_,_,_,_,_,_,_,h=>by omega
  | m + 1,v,c,v',c',a,a',r,r',j,hv,hv',hc,hc',hR,h0,hj,hm'=>by
    unfold qbe
    by_cases hlt:j < R
    · rw [if_pos hlt,if_pos hlt]
      obtain ⟨w,d,w',d',e,e',h1,h2,h3,h4,h5⟩:=two_round hS hlen hok hm hr hsw hv hv' hR
      rw [e,Option.bind_some,e',Option.bind_some,qcu (by omega) (by omega)]
      exact qvs R hRR m w d w' d' 1 1 false false (j + 1) h1 h2 h3 h4 h5 (by omega) (by omega) (by omega)
    · rw [if_neg hlt,if_neg hlt]
      exact ⟨v,c,r,v',c',r',rfl,rfl,hv,hv',hc,hc',hR⟩
theorem two_sweeps {R:Int} (h0:0 ≤ R) (hRR:R ≤ 50):∃ w d s w' d' s',qc0 100 f (List.replicate f.qa9.length f.Source) R = some (qco.mk w d R s)∧qc0 100 g (List.replicate f.qa9.length f.Source) R = some (qco.mk w' d' R s')∧VL f w∧VL g w'∧d.length = f.qa9.length∧d'.length = g.qa9.length∧VR f k w w':=by
  have hf:=qqu hS hlen hok hm hr
  have hg:=qqc hS hlen hok hm hr hsw
  have hgl:=hsw.len
  have fv:=qqn hf
  have gv:=qqn hg
  rw [hgl,hsw.src] at gv
  have ec:∀ (v:List qa7),v.length ≤ 7→qcl 100 v = some v:=by
    intro v hv
    unfold qcl grd
    rw [if_pos (show room (([]:List qa7).length + v.length) 24 by unfold room;simp;omega)];rfl
  have hR:VR f k (List.replicate f.qa9.length f.Source) (List.replicate f.qa9.length f.Source):=by
    refine ⟨fun i p p' hp hp'=>?_⟩
    have a:p = f.Source:=by
      rw [List.getElem?_replicate] at hp
      split at hp
      · exact (Option.some.inj hp).symm
      · cases hp
    have a':p' = f.Source:=by
      rw [List.getElem?_replicate] at hp'
      split at hp'
      · exact (Option.some.inj hp').symm
      · cases hp'
    rw [a,a']
    exact ⟨(qlf _).mono (by grind),(qlf _).mono (by grind),(qlf _).mono (by grind)⟩
  obtain ⟨w,d,s,w',d',s',e,e',h⟩:=qvs hS hlen hok hm hr hsw R hRR 100 (List.replicate f.qa9.length f.Source) (List.replicate (f.qa9.length:Int).toNat (qa7.mk (Cx.mk (0:Nat) (0:Nat)) (Cx.mk (0:Nat) (0:Nat)) (Cx.mk (0:Nat) (0:Nat)))) (List.replicate f.qa9.length f.Source) (List.replicate (g.qa9.length:Int).toNat (qa7.mk (Cx.mk (0:Nat) (0:Nat)) (Cx.mk (0:Nat) (0:Nat)) (Cx.mk (0:Nat) (0:Nat)))) 0 0 false false 0 fv gv (by simp) (by simp) hR (by omega) h0 (by omega)
  refine ⟨w,d,s,w',d',s',?_,?_,h⟩
  · unfold qc0
    rw [ec _ (by simp;omega),Option.bind_some]
    unfold grd
    rw [if_pos (by refine ⟨by omega,?_⟩;unfold room;omega)]
    exact e
  · unfold qc0
    rw [ec _ (by simp;omega),Option.bind_some]
    unfold grd
    rw [if_pos (by refine ⟨by omega,?_⟩;unfold room;omega)]
    exact e'
end
end Go.Proofs.Ytdnkjocenbepaaa.AWN

namespace Go.Proofs.Ytdnkjocenbepaaa.AWN
open Go Ieee
theorem b10At_some (n:Nat) {code:List Int} (hb:∀ x ∈ code,0 ≤ x∧x < 256) (k m:Int) (hk:0 ≤ k) (hk2:k ≤ 100) (hm:1 ≤ m):∃ v:Nat,qi7 n code k m = some (v:Int)∧(v:Int) < m:=by
  unfold qi7
  by_cases h1:m ≤ 1
  · rw [if_pos h1];exact ⟨0,rfl,by omega⟩
  · rw [if_neg h1]
    have fin:∀ y:Int,0 ≤ y→∃ v:Nat,(grd (m ≠ 0) <| some (y.tmod m)) = some (v:Int)∧(v:Int) < m:=by
      intro y hy
      unfold grd
      rw [if_pos (by omega),Int.tmod_eq_emod_of_nonneg hy]
      have h0:=Int.emod_nonneg y (show m ≠ 0 by omega)
      have h2:=Int.emod_lt_of_pos y (show 0 < m by omega)
      exact ⟨(y % m).toNat,by rw [Int.toNat_of_nonneg h0],by omega⟩
    by_cases h2:k < (code.length:Int)
    · rw [if_pos h2]
      obtain ⟨x,hx,hm',_⟩:=que hk h2
      have:=hb x hm'
      rw [hx,Option.bind_some,qcu (by omega) (by omega)]
      exact fin x (by omega)
    · rw [if_neg h2,qcu (n:=k * 37) (by omega) (by omega),qcu (by omega) (by omega)]
      exact fin _ (by omega)
theorem qu5 {x y:Cx} (hx:CB x 100) (hy:CB y 100) (h:Mo (cv x - cv y) (1 / 100)):∃ w c,qct 100 (subC x y) = some w∧qgo .f32 .f64 w = some c∧fcmp .lss .f64 c 4587366580439587226 = true:=by
  have h1:=h.re;have h2:=h.im
  unfold cv at h1 h2
  simp only [qj7,qj6] at h1 h2
  obtain ⟨w1,r1,r2⟩:=qsk hx.r hy.r (M:=1 / 100) (by rw [qim];grind) h1.1 h1.2
  obtain ⟨w2,r3,r4⟩:=qsk hx.i hy.i (M:=1 / 100) (by rw [qim];grind) h2.1 h2.2
  rw [qss,ql5] at r1 r2 r3 r4
  have c:CB (subC x y) (2 / 100):=⟨w1,w2,⟨by unfold subC;dsimp only;grind,by unfold subC;dsimp only;grind⟩,⟨by unfold subC;dsimp only;grind,by unfold subC;dsimp only;grind⟩⟩
  obtain ⟨w,e,fw,b⟩:=qn3 100 c (by grind)
  obtain ⟨r,e2,fr,hr⟩:=qrx fw
  refine ⟨w,r,by rw [qmm];exact e,e2,?_⟩
  have hb:Bd .f64 4587366580439587226 (499 / 10000) (501 / 10000):=qsz (by kernel_rfl)
  rw [q_lss fr hb.wk,hr]
  have:=hb.lo
  exact decide_eq_true (by have:=b.1;grind)
theorem close_some {p q:qa7} (hp:PF p) (hq:PF q) (h:NP p q (1 / 100)):qg5 100 p q 4587366580439587226 = some true:=by
  obtain ⟨w1,c1,a1,a2,a3⟩:=qu5 hp.a hq.a h.a
  obtain ⟨w2,c2,b1,b2,b3⟩:=qu5 hp.b hq.b h.b
  obtain ⟨w3,c3,d1,d2,d3⟩:=qu5 hp.c hq.c h.c
  unfold qg5
  have e:qg6 100 p q = some (qa7.mk (subC p.A q.A) (subC p.B q.B) (subC p.C q.C)):=rfl
  rw [e,Option.bind_some]
  dsimp only
  rw [a1,Option.bind_some,a2,Option.bind_some,if_pos a3,b1,Option.bind_some,b2,Option.bind_some,if_pos b3,d1,Option.bind_some,d2,Option.bind_some,d3]
section
variable {f:qam} (hS:SrcM f.Source) (hlen:f.qa9.length ≤ 6∧1 ≤ f.qa9.length) (hok:∀ i y,f.qa9[i]? = some y→qnp i y) (hm:∀ y ∈ f.qa9,Mild y) (hr:∀ y,f.qa9[0]? = some y→y.Load = ⟨⟨0,0⟩,⟨0,0⟩,⟨0,0⟩⟩)
include hS hlen hok hm hr
theorem qvk {g:qam} {k:Nat} (hsw:qjm f g k) (h6:k ≤ 6) {v v':List qa7} (hv:VL f v) (hv':VL g v') (hR:VR f k v v') (x71 x120:qco × Bool) (e1:x71.1.qa3 = v) (e2:x120.1.qa3 = v') (x115:Int) (hx:(k:Int) = 1 + x115):∀ (m j:Nat),j ≤ v.length→v.length - j < m →
    qbf 100 x71 x115 x120 m (j:Int) = some true
  | 0,j,_,h=>by omega
  | m + 1,j,hj,hm'=>by
    have hvl:=hv.len;have hvl':=hv'.len;have hgl:=hsw.len
    have hk1:=hsw.k1;have hk2:=hsw.k2
    have ek:w64 (1 + x115) = (k:Int):=by rw [← hx];exact qcu (by omega) (by omega)
    have ek1:w64 ((k:Int) + 1) = ((k + 1:Nat):Int):=by rw [qcu (by omega) (by omega)];omega
    rw [qbf,e1,ek,ek1]
    by_cases hlt:j < v.length
    · rw [if_pos (by omega)]
      have ej:w64 ((j:Int) + 1) = ((j + 1:Nat):Int):=by rw [qcu (by omega) (by omega)];omega
      have step:qd8 100 x71 x120 (qbf 100 x71 x115 x120 m) (j:Int) ((sw k j:Nat):Int) = some true:=by
        obtain ⟨p,hp⟩:∃ p,v[j]? = some p:=⟨_,List.getElem?_eq_getElem hlt⟩
        have hsj:sw k j < f.qa9.length:=qtw hk2 (by omega)
        obtain ⟨p',hp'⟩:∃ p',v'[sw k j]? = some p':=⟨_,List.getElem?_eq_getElem (by omega)⟩
        unfold qd8
        rw [e1,e2,qbp hp,Option.bind_some,qbp hp',Option.bind_some]
        have pf:=(hv.at' j p hp).pf hS
        have pn':=hv'.at' _ p' hp'
        rw [hsw.src] at pn'
        rw [close_some pf (pn'.pf hS) (hR.r j p p' hp hp'),Option.bind_some,if_pos rfl]
        unfold qfr
        rw [ej]
        exact qvk hsw h6 hv hv' hR x71 x120 e1 e2 x115 hx m (j + 1) (by omega) (by omega)
      by_cases c1:j = k
      · have es:sw k j = j + 1:=by unfold sw;rw [if_pos c1];omega
        rw [if_pos (by omega),ej,← es];exact step
      · by_cases c2:j = k + 1
        · have es:sw k j = j - 1:=by unfold sw;rw [if_neg c1,if_pos c2];omega
          have ejm:w64 ((j:Int) - 1) = ((sw k j:Nat):Int):=by rw [qcu (by omega) (by omega),es];omega
          rw [if_neg (by omega),if_pos (by omega),ejm];exact step
        · have es:sw k j = j:=by unfold sw;rw [if_neg c1,if_neg c2]
          rw [if_neg (by omega),if_neg (by omega)]
          rw [es] at step;exact step
    · rw [if_neg (by omega)]
theorem law_j2 {c2:List Int} (h2:∀ x ∈ c2,0 ≤ x∧x < 256) {v c:List qa7} {s:Bool} (hrun:qc0 100 f (List.replicate f.qa9.length f.Source) 3 = some (qco.mk v c 3 s)) (hv:VL f v) (x70:List qa7 × Bool) (e70:x70.1 = List.replicate f.qa9.length f.Source) (x71:qco × Bool) (e71:x71.1.qa3 = v) :
    qdr 100 c2 f x70 x71 = some true:=by
  have hvf:VF f.qa9:=⟨hlen.2,by omega,hok⟩
  obtain ⟨a,e1,ha⟩:=b10At_some 100 h2 0 6 (by omega) (by omega) (by omega)
  unfold qdr
  rw [e1,Option.bind_some]
  have ek:w64 ((1:Int) + (a:Int)) = ((a + 1:Nat):Int):=by rw [qcu (by omega) (by omega)];omega
  rw [ek]
  rcases swap_some hvf (k:=a + 1) (by omega) (by omega) with ⟨g,g',q1,q2⟩ | ⟨g,g',q1,q2,hsw⟩
  · rw [q1,Option.bind_some,q2,Option.bind_some]
    dsimp only
    have bf:((false == false) = true) = True:=by simp
    simp only [bf,if_true,Bool.false_eq_true,if_false]
  · rw [q1,Option.bind_some,q2,Option.bind_some]
    dsimp only
    have bt:((true == true) = true) = True:=by simp
    rw [if_pos (of_eq_true bt),if_pos rfl,e70]
    obtain ⟨w,d,t,w',d',t',r1,r2,hw,hw',hd,hd',hR⟩:=two_sweeps hS hlen hok hm hr hsw (R:=3) (by omega) (by omega)
    rw [hrun] at r1
    have r1:=Option.some.inj r1
    injection r1 with i1 i2 i3 i4
    subst i1
    have hvg:=hsw.vf hvf
    have e2:qdw 100 g (List.replicate f.qa9.length f.Source) 3 = some (qco.mk w' d' 3 t',true):=by
      unfold qdw qgw
      rw [qis hvg,Option.bind_some,if_pos rfl,Option.bind_some,decide_eq_true (by simp [hsw.len]),if_pos rfl]
      have:qeq 100 3 0 50 = some true:=by kernel_rfl
      rw [this,Option.bind_some]
      unfold qde
      rw [if_neg (by simp)]
      unfold qe2
      rw [r2,Option.bind_some]
    rw [e2,Option.bind_some]
    dsimp only
    have hl:((w'.length:Nat):Int) = (f.qa9.length:Int):=by rw [hw'.len,hsw.len]
    rw [if_pos rfl,decide_eq_true hl]
    unfold qek
    rw [if_neg (by simp)]
    unfold qfq
    have hvl:=hv.len
    exact qvk hS hlen hok hm hr hsw (by omega) hv hw' hR x71 (qco.mk w' d' 3 t',true) e71 rfl (a:Int) (by omega) 100 0 (Nat.zero_le _) (by omega)
theorem qvl {c2:List Int} {v:List qa7} (hv:VL f v) (x70:List qa7 × Bool) (x71:qco × Bool) (e71:x71.1.qa3 = v) (x72:Int × Nat × Bool) (fx:FW .f32 x72.2.1) (hx:∀ t,Seen v v.length t→key FloatKind.f32.format x72.2.1 ≤ key FloatKind.f32.format t) (hj:qdr 100 c2 f x70 x71 = some true):∀ (m j:Nat),j ≤ v.length→v.length - j < m →
    qbg 100 c2 f x70 x71 x72 m (j:Int) = some true
  | 0,j,_,h=>by omega
  | m + 1,j,hjl,hm'=>by
    have hvl:=hv.len
    rw [qbg,e71]
    by_cases hlt:j < v.length
    · rw [if_pos (by omega)]
      obtain ⟨p,hp⟩:∃ p,v[j]? = some p:=⟨_,List.getElem?_eq_getElem hlt⟩
      have pf:=(hv.at' j p hp).pf hS
      obtain ⟨a,b,c,L,_⟩:=qlr pf
      have ka:=hx a ⟨j,p,hlt,hp,.inl L.ea⟩
      have kb:=hx b ⟨j,p,hlt,hp,.inr (.inl L.eb)⟩
      have kc:=hx c ⟨j,p,hlt,hp,.inr (.inr L.ec)⟩
      rw [qbp hp,Option.bind_some,qmm,L.ea,Option.bind_some,qts L.fa fx,decide_eq_false (by omega),if_neg (by simp),qmm,L.eb,Option.bind_some,qts L.fb fx,decide_eq_false (by omega),if_neg (by simp),qmm,L.ec,Option.bind_some,qts L.fc fx,decide_eq_false (by omega),if_neg (by simp)]
      obtain ⟨x,W,l1,l2,f1,f2,hk⟩:=widest_some pf
      have l1':qct 100 (Cx.mk (qa8 .sub .f32 p.A.re p.B.re) (qa8 .sub .f32 p.A.im p.B.im)) = some x:=by rw [qmm];exact l1
      rw [l2,Option.bind_some,l1',Option.bind_some,qw8 f2 f1,decide_eq_true hk]
      unfold qcx
      rw [if_neg (by simp)]
      unfold qfs
      have ej:w64 ((j:Int) + 1) = ((j + 1:Nat):Int):=by rw [qcu (by omega) (by omega)];omega
      rw [ej]
      exact qvl hv x70 x71 e71 x72 fx hx hj m (j + 1) (by omega) (by omega)
    · rw [if_neg (by omega)]
      exact hj
end
theorem FnLowest_true {c1 c2:List Int} (hc1:∀ x ∈ c1,0 ≤ x∧x < 256) (hc2:∀ x ∈ c2,0 ≤ x∧x < 256):qh6 100 c1 c2 = some true:=by
  unfold qh6
  obtain ⟨z,hz⟩:∃ z,qgx 100 c1 c2 = some z:=by
    unfold qgx
    split
    · exact ⟨_,rfl⟩
    · exact ⟨_,rfl⟩
  rw [hz,Option.bind_some]
  by_cases hzz:z = true
  · rw [if_pos hzz]
  · rw [if_neg hzz]
    obtain ⟨f,e1,hS,hlen,hok,hm,hr⟩:=mild_some hc1
    have hf:=qqu hS hlen hok hm hr
    have hvf:=hf.vf
    have ef:qam.mk f.Source f.qa9 = f:=rfl
    rw [e1,Option.bind_some,ef]
    have flat:=flat_some hf
    have e2:qe1 100 f = some (List.replicate f.qa9.length f.Source,true):=by
      unfold qe1
      rw [qis hvf,Option.bind_some,if_pos rfl,flat,Option.bind_some]
    rw [e2,Option.bind_some]
    dsimp only
    obtain ⟨v,c,s,run,hv,hc⟩:=sweeps_some hf (qqn hf) (R:=3) (by omega) (by omega)
    have in3:qeq 100 3 0 50 = some true:=by kernel_rfl
    have e3:qdw 100 f (List.replicate f.qa9.length f.Source) 3 = some (qco.mk v c 3 s,true):=by
      unfold qdw qgw
      rw [qis hvf,Option.bind_some,if_pos rfl,Option.bind_some,decide_eq_true (by simp),if_pos rfl,in3,Option.bind_some]
      unfold qde
      rw [if_neg (by simp)]
      unfold qe2
      rw [run,Option.bind_some]
    rw [e3,Option.bind_some]
    dsimp only
    have hvl:=hv.len
    have pfv:∀ (k:Nat) (p:qa7),v[k]? = some p→PF p:=fun k p h=>(hv.at' k p h).pf hS
    obtain ⟨i,w,low,hi,fw,hmin⟩:=lowest_some (v:=v) (by omega) (by omega) pfv
    have isf:qfo 100 f (qco.mk v c 3 s) = some true:=by
      unfold qfo qiw
      rw [qis hvf,Option.bind_some,if_pos rfl]
      dsimp only
      rw [if_pos (by omega),if_pos (by omega),in3,Option.bind_some,Option.bind_some]
    have e4:qfh 100 f (qco.mk v c 3 s) = some ((i:Int),w,true):=by
      unfold qfh
      rw [isf,Option.bind_some,if_pos rfl,low,Option.bind_some]
    rw [e4,Option.bind_some]
    dsimp only
    have hib:i < f.qa9.length:=by omega
    have hpl:(qot f.qa9 i).length ≤ 7:=by
      have:=quy hvf i hib
      unfold qot;simp;omega
    have hpm:∀ j ∈ qot f.qa9 i,∃ p,v[j]? = some p∧PF p:=by
      intro j hj
      have h1:=upl_le hvf i hib j (by unfold qot at hj;simpa using hj)
      obtain ⟨p,hp⟩:∃ p,v[j]? = some p:=⟨_,List.getElem?_eq_getElem (by omega)⟩
      exact ⟨p,hp,pfv j p hp⟩
    obtain ⟨la,el,hla⟩:=qsu (fl:=qco.mk v c 3 s) (s:=qot f.qa9 i) (by omega) hpm 100 0 [] (Nat.zero_le _) (by omega) rfl
    have e5:qex 100 f (qco.mk v c 3 s) (i:Int) = some (la,true):=by
      unfold qex
      rw [isf,Option.bind_some,if_pos rfl,qme hvf hib,Option.bind_some]
      unfold qds
      rw [if_neg (by simp)]
      unfold qep
      rw [qrw hvf hib,Option.bind_some]
      exact el
    rw [e5,Option.bind_some,pathTo_some hvf hib,Option.bind_some]
    dsimp only
    -- changes
    have fl:=(qqn hf)
    have pff:∀ (k:Nat) (p:qa7),(List.replicate f.qa9.length f.Source)[k]? = some p→PF p:=fun k p h=>(fl.at' k p h).pf hS
    have lr:(List.replicate f.qa9.length f.Source).length = f.qa9.length:=by simp
    obtain ⟨x,x',ch1,ch2,rel⟩:=qo6 (a:=List.replicate f.qa9.length f.Source) (b:=v) (by omega) (by omega) pff pfv
    have chs:=qo5 (a:=List.replicate f.qa9.length f.Source) (by omega) pff 100 0 (Nat.zero_le _) (by omega)
    have co:∀ {a b:List qa7} {t:Nat},a.length = b.length→a.length ≤ 7→qet 100 a b = some t→qdp 100 a b = some (t,true):=by
      intro a b t h1 h2 h3
      unfold qdp
      rw [if_pos (by omega),decide_eq_false (by omega)]
      unfold qeh
      rw [if_neg (by simp)]
      unfold qfm
      rw [h3,Option.bind_some]
    rw [co (by omega) (by omega) ch1,Option.bind_some,co (by omega) (by omega) ch2,Option.bind_some,co rfl (by omega) chs,Option.bind_some]
    dsimp only
    -- the rest
    obtain ⟨v2,c2',sw2,hv2,_⟩:=qqd hf hv
    have pf2:∀ (k:Nat) (p:qa7),v2[k]? = some p→PF p:=fun k p h=>(hv2.at' k p h).pf hS
    have hv2l:=hv2.len
    obtain ⟨y,y',ch3,_,rel3⟩:=qo6 (a:=v) (b:=v2) (by omega) (by omega) pfv pf2
    have e6:qhc 100 f (qco.mk v c 3 s) = some (y,true):=by
      unfold qhc
      rw [isf,Option.bind_some,if_pos rfl]
      dsimp only
      rw [sw2,Option.bind_some]
      dsimp only
      rw [ch3,Option.bind_some]
    rw [e6,Option.bind_some]
    dsimp only
    have ll:((la.length:Nat):Int) = w64 (3 * ((toI (qot f.qa9 i)).length:Int)):=by
      rw [hla]
      have:((toI (qot f.qa9 i)).length:Int) = (qot f.qa9 i).length:=by simp
      rw [this,qcu (by omega) (by omega)];omega
    have n1:fcmp .neq .f32 x x' = false:=by
      have a1:=(qjt rel.f rel.g).2.1 (Int.le_of_eq rel.k)
      have a2:=(qjt rel.g rel.f).2.1 (Int.le_of_eq rel.k.symm)
      rw [qwe rel.f rel.g,decide_eq_true (Rat.le_antisymm a1 a2)];rfl
    have n2':fcmp .neq .f32 0 0 = false:=by kernel_rfl
    have n3:fcmp .geq .f32 y 0 = true:=by
      rw [qw8 rel3.f (qms .f32).1]
      have:=rel3.p
      exact decide_eq_true (by rw [show key FloatKind.f32.format 0 = 0 from rfl];exact this)
    rw [if_pos rfl,if_pos rfl,if_pos rfl,if_pos rfl,if_pos rfl,if_pos rfl,if_pos rfl,if_pos rfl,if_pos rfl,if_pos ll,n1,if_neg (by simp),n2',if_neg (by simp),if_pos n3,decide_eq_true (by omega)]
    unfold qb2
    rw [if_neg (by simp)]
    unfold qfp
    have hj2:=law_j2 hS hlen hok hm hr hc2 (c2:=c2) run hv (List.replicate f.qa9.length f.Source,true) rfl (qco.mk v c 3 s,true) rfl
    exact qvl hS hlen hok hm hr hv (List.replicate f.qa9.length f.Source,true) (qco.mk v c 3 s,true) rfl ((i:Int),w,true) fw hmin hj2 100 0 (Nat.zero_le _) (by omega)
end Go.Proofs.Ytdnkjocenbepaaa.AWN
