/- Flows that are read out of bytes, in plain terms. -/
import Derived.Test.YtmllgpkgjniomaaRecD
import Derived.Test.YtmllgpkgjniomaaFloat
import Derived.Test.YtmllgpkgjniomaaRecWalk
set_option linter.unusedVariables false
set_option linter.unusedSimpArgs false
set_option linter.unusedSectionVars false
namespace Go.Proofs.Ytmllgpkgjniomaa.AWN
open Go
theorem qb1 {n:Int} (h0:-9223372036854775808≤n) (h1:n < 9223372036854775808):w64 n=n:=by
  unfold w64 IntKind.wrap
  simp [IntKind.signed,IntKind.bits]
  omega
theorem shl8 (x:Int):x*2 ^ min (8:Int).toNat (IntKind.bits .i64)=x*256:=rfl
theorem or_byte (x b:Nat) (hx:x < 1099511627776) (hb:b < 256):qj6 .or .i64 (w64 ((x:Int)*2 ^ min (8:Int).toNat (IntKind.bits .i64))) (w64 (b:Int))=((x*256+b:Nat):Int):=by
  rw [shl8,qb1 (by omega) (by omega),qb1 (by omega) (by omega)]
  unfold qj6
  have e1:BitVec.ofInt 64 ((x:Int)*256)=BitVec.ofNat 64 (x*256):=by
    rw [show (x:Int)*256=((x*256:Nat):Int) by omega,BitVec.ofInt_natCast]
  have e2:BitVec.ofInt 64 (b:Int)=BitVec.ofNat 64 b:=BitVec.ofInt_natCast _ _
  show IntKind.wrap .i64 (((BitVec.ofInt 64 ((x:Int)*256) ||| BitVec.ofInt 64 (b:Int)).toNat:Nat):Int)=_
  rw [e1,e2,BitVec.toNat_or,BitVec.toNat_ofNat,BitVec.toNat_ofNat,Nat.mod_eq_of_lt (by omega),Nat.mod_eq_of_lt (by omega)]
  have h:x*256 ||| b=x*256+b:=by
    have:=Nat.shiftLeft_add_eq_or_of_lt (i:=8) (b:=b) (by omega) x
    rw [Nat.shiftLeft_eq] at this
    exact this.symm
  rw [h]
  exact qb1 (by omega) (by omega)
theorem add_byte (x b:Nat) (hx:x < 1099511627776) (hb:b < 256):w64 (w64 ((x:Int)*2 ^ min (8:Int).toNat (IntKind.bits .i64))+w64 (b:Int))=((x*256+b:Nat):Int):=by
  rw [shl8,qb1 (n:=(x:Int)*256) (by omega) (by omega),qb1 (n:=(b:Int)) (by omega) (by omega),qb1 (by omega) (by omega)]
  omega
theorem getI_nat' {α:Type} {l:List α} {i:Nat} (h:i < l.length):getI l (i:Int)=some l[i]:=by
  unfold getI
  rw [if_pos (by omega),Int.toNat_natCast,List.getElem?_eq_getElem h]
def vd (t:Str) (a:Nat):Nat→Nat→Nat
  | acc,0=>acc
  | acc,k+1=>vd t a (acc*256+(t.getD (a+k) 0).toNat) k
theorem getD_lt {t:Str} {i:Nat} (h:i < t.length):t.getD i 0=t[i]:=by rw [List.getD_eq_getElem?_getD,List.getElem?_eq_getElem h];rfl
theorem qox {acc k b:Nat} (hk:k+1≤4) (h:acc < 256 ^ (4 - (k+1))) (hb:b < 256):acc*256+b < 256 ^ (4 - k)∧acc < 1099511627776:=by
  have e:4 - k=(4 - (k+1))+1:=by omega
  have h2:256 ^ (4 - (k+1))≤256 ^ 4:=Nat.pow_le_pow_right (by omega) (by omega)
  have h3:(256:Nat) ^ 4=4294967296:=by decide
  rw [e,Nat.pow_succ]
  generalize 256 ^ (4 - (k+1))=P at *
  omega
theorem qu3 (n:Nat) (e:qb0) (size:Int) (a:Nat) (ha:e.at_=a) (hal:a≤1099511627776):∀ (m k acc:Nat),k < m→a+k≤e.text.length→k≤4→acc < 256 ^ (4 - k) →
    qcg n e size m (acc:Int) ((k:Int) - 1)=some (((vd e.text a acc k:Nat):Int),⟨e.text,w64 (e.at_+size),e.fine⟩)
  | 0,k,acc,h,_,_,_=>by omega
  | m+1,k,acc,hm,hk,h4,hacc=>by
    unfold qcg
    rcases k with _ | k
    · rw [if_neg (by omega)]
      rfl
    · have hlt:a+k < e.text.length:=by omega
      have hb:(e.text[a+k]).toNat < 256:=UInt8.toNat_lt _
      obtain ⟨h5,h6⟩:=qox (by omega) hacc hb
      rw [if_pos (by omega),ha,show w64 ((a:Int)+(((k+1:Nat):Int) - 1))=((a+k:Nat):Int) by rw [qb1 (by omega) (by omega)];omega,getI_nat' hlt,Option.bind_some,or_byte _ _ h6 hb,show w64 (((k+1:Nat):Int) - 1 - 1)=(k:Int) - 1 by rw [qb1 (by omega) (by omega)];omega,qu3 n e size a ha hal m k _ (by omega) (by omega) (by omega) h5]
      have:vd e.text a acc (k+1)=vd e.text a (acc*256+(e.text[a+k]).toNat) k:=by rw [vd,getD_lt hlt]
      rw [this,ha]
theorem qqo (n:Nat) (e:qaz) (many:Int) (v:Bool) (a:Nat) (ha:e.at_=a) (hal:a≤1099511627776):∀ (m k acc:Nat),k < m→a+k≤e.s.length→k≤4→acc < 256 ^ (4 - k) →
    qcc n e many v m (acc:Int) ((k:Int) - 1)=some (((vd e.s a acc k:Nat):Int),⟨e.s,w64 (e.at_+many),v⟩)
  | 0,k,acc,h,_,_,_=>by omega
  | m+1,k,acc,hm,hk,h4,hacc=>by
    unfold qcc
    rcases k with _ | k
    · rw [if_neg (by omega)]
      rfl
    · have hlt:a+k < e.s.length:=by omega
      have hb:(e.s[a+k]).toNat < 256:=UInt8.toNat_lt _
      obtain ⟨h5,h6⟩:=qox (by omega) hacc hb
      rw [if_pos (by omega),ha,show w64 ((a:Int)+(((k+1:Nat):Int) - 1))=((a+k:Nat):Int) by rw [qb1 (by omega) (by omega)];omega,getI_nat' hlt,Option.bind_some,add_byte _ _ h6 hb,show w64 (((k+1:Nat):Int) - 1 - 1)=(k:Int) - 1 by rw [qb1 (by omega) (by omega)];omega,qqo n e many v a ha hal m k _ (by omega) (by omega) (by omega) h5]
      have:vd e.s a acc (k+1)=vd e.s a (acc*256+(e.s[a+k]).toNat) k:=by rw [vd,getD_lt hlt]
      rw [this,ha]
end Go.Proofs.Ytmllgpkgjniomaa.AWN

namespace Go.Proofs.Ytmllgpkgjniomaa.AWN
open Go
theorem qrj (t:Str) (a:Nat):∀ (k acc:Nat),k≤4→acc < 256 ^ (4 - k)→vd t a acc k < 4294967296
  | 0,acc,_,h=>h
  | k+1,acc,hk,h=>by
    have hb:(t.getD (a+k) 0).toNat < 256:=UInt8.toNat_lt _
    rw [vd]
    exact qrj t a k _ (by omega) (qox hk h hb).1
theorem qg2 {n:Nat} (hn:6≤n) (t:Str) (a k:Nat) (f:Bool) (hk:a+k≤t.length) (h4:k≤4) (ht:t.length≤1099511627776) :
    qaj n ⟨t,a,f⟩ (k:Int)=some (((vd t a 0 k:Nat):Int),⟨t,((a+k:Nat):Int),f⟩):=by
  have hw:w64 ((a:Int)+(k:Int))=((a+k:Nat):Int):=by rw [qb1 (by omega) (by omega)];omega
  unfold qaj
  dsimp only
  rw [hw,if_neg (by omega),show w64 ((k:Int) - 1)=(k:Int) - 1 from qb1 (by omega) (by omega)]
  have h:=qu3 n ⟨t,a,f⟩ k a rfl (by omega) n k 0 (by omega) hk h4 (Nat.pow_pos (by omega))
  dsimp only at h
  rw [hw] at h
  exact h
theorem qfd {n:Nat} (hn:6≤n) (t:Str) (a k:Nat) (hk:a+k≤t.length) (h4:k≤4) (ht:t.length≤1099511627776) :
    qal n ⟨t,a,false⟩ (k:Int)=some (((vd t a 0 k:Nat):Int),⟨t,((a+k:Nat):Int),false⟩):=by
  have hw:w64 ((a:Int)+(k:Int))=((a+k:Nat):Int):=by rw [qb1 (by omega) (by omega)];omega
  unfold qal
  dsimp only
  rw [if_neg (by decide),hw,decide_eq_false (by omega)]
  unfold qd9
  rw [if_neg (by decide)]
  unfold qel
  rw [show w64 ((k:Int) - 1)=(k:Int) - 1 from qb1 (by omega) (by omega)]
  have h:=qqo n ⟨t,a,false⟩ k false a rfl (by omega) n k 0 (by omega) hk h4 (Nat.pow_pos (by omega))
  dsimp only at h
  rw [hw] at h
  exact h
theorem wrap32 {x:Nat} (h:x < 4294967296):(IntKind.wrap .u32 (x:Int)).toNat=x:=by
  unfold IntKind.wrap
  simp [IntKind.signed,IntKind.bits]
  omega
def flA (t:Str) (a:Nat):Nat:=canon .f32 (vd t a 0 4)
def cxA (t:Str) (a:Nat):Cx:=⟨flA t a,flA t (a+4)⟩
def phA (t:Str) (a:Nat):qaa:=⟨cxA t a,cxA t (a+8),cxA t (a+16)⟩
theorem qq8 (n:Nat) (t:Str) (a:Nat):qcx n ((vd t a 0 4:Nat):Int)=some (flA t a):=by
  have h:=qrj t a 4 0 (by omega) (by decide)
  unfold qcx grd
  rw [wrap32 h,if_pos h];rfl
theorem bits_some (n:Nat) (t:Str) (a:Nat):qei n ((vd t a 0 4:Nat):Int)=some (flA t a,true):=by
  have h:=qrj t a 4 0 (by omega) (by decide)
  unfold qei qdb
  rw [if_pos (by omega),Option.bind_some,decide_eq_true (by omega),if_pos rfl]
  unfold grd
  rw [wrap32 h,if_pos h];rfl
section
variable {n:Nat} (hn:6≤n) (t:Str) (ht:t.length≤1099511627776)
include hn ht
theorem qjg (a:Nat) (f:Bool) (h:a+8≤t.length):qaw n ⟨t,a,f⟩=some (cxA t a,⟨t,((a+8:Nat):Int),f⟩):=by
  have e1:=qg2 hn t a 4 f (by omega) (by omega) ht
  have e2:=qg2 hn t (a+4) 4 f (by omega) (by omega) ht
  unfold qaw
  rw [show ((4:Int))=((4:Nat):Int) from rfl,e1,Option.bind_some]
  dsimp only
  rw [e2,Option.bind_some]
  dsimp only
  rw [qq8,qq8];rfl
theorem qmf (a:Nat) (f:Bool) (h:a+24≤t.length):qba n ⟨t,a,f⟩=some (phA t a,⟨t,((a+24:Nat):Int),f⟩):=by
  unfold qba
  rw [qjg hn t ht a f (by omega),Option.bind_some]
  dsimp only
  rw [qjg hn t ht (a+8) f (by omega),Option.bind_some]
  dsimp only
  rw [qjg hn t ht (a+8+8) f (by omega),Option.bind_some];rfl
theorem qs5 (a:Nat) (h:a+4≤t.length):qcu n ⟨t,a,false⟩=some (flA t a,⟨t,((a+4:Nat):Int),false⟩):=by
  have e1:=qfd hn t a 4 (by omega) (by omega) ht
  unfold qcu
  rw [show ((4:Int))=((4:Nat):Int) from rfl,e1,Option.bind_some]
  dsimp only
  rw [bits_some];rfl
theorem qiu (a:Nat) (h:a+8≤t.length):qax n ⟨t,a,false⟩=some (cxA t a,⟨t,((a+8:Nat):Int),false⟩):=by
  unfold qax
  rw [qs5 hn t ht a (by omega),Option.bind_some]
  dsimp only
  rw [qs5 hn t ht (a+4) (by omega),Option.bind_some];rfl
theorem qmi (a:Nat) (h:a+24≤t.length):qb9 n ⟨t,a,false⟩=some (phA t a,⟨t,((a+24:Nat):Int),false⟩):=by
  unfold qb9
  rw [qiu hn t ht a (by omega),Option.bind_some]
  dsimp only
  rw [qiu hn t ht (a+8) (by omega),Option.bind_some]
  dsimp only
  rw [qiu hn t ht (a+8+8) (by omega),Option.bind_some];rfl
end
end Go.Proofs.Ytmllgpkgjniomaa.AWN

namespace Go.Proofs.Ytmllgpkgjniomaa.AWN
open Go
def phV (t:Str) (k:Nat):List qaa:=(List.range k).map fun i=>phA t (2+48*i)
def phC (t:Str) (k:Nat):List qaa:=(List.range k).map fun i=>phA t (26+48*i)
theorem qsj (t:Str) (k:Nat):phV t (k+1)=phV t k++[phA t (2+48*k)]:=by unfold phV;rw [List.range_succ,List.map_append];rfl
theorem qsi (t:Str) (k:Nat):phC t (k+1)=phC t k++[phA t (26+48*k)]:=by unfold phC;rw [List.range_succ,List.map_append];rfl
theorem qko (t:Str) (k:Nat):(phV t k).length=k:=by simp [phV]
theorem qm3 (t:Str) (k:Nat):(phC t k).length=k:=by simp [phC]
section
variable {n:Nat} (hn:6≤n) (t:Str) {b:Nat} (hb:b≤16) (ht:t.length=2+48*b)
include hn hb ht
theorem qv5 (x37 x38:Int × qaz) (V0 C0:List qaa):∀ (m i:Nat),i≤b→b - i < m →
    qcn n t (b:Int) x37 x38 m V0 C0 t ((2+48*i:Nat):Int) false (phV t i) (phC t i) (i:Int)=qe6 n t x37 x38 V0 C0 (phV t b) (phC t b)
  | 0,i,_,h=>by omega
  | m+1,i,hi,hm=>by
    unfold qcn grd
    by_cases h:i < b
    · have hv:=qko t i
      have hc:=qm3 t i
      rw [if_pos (by omega),qmi hn t (by omega) (2+48*i) (by omega),Option.bind_some,if_pos (show room ((phV t i).length+1) 24 by unfold room;omega)]
      dsimp only
      rw [qmi hn t (by omega) (2+48*i+24) (by omega),Option.bind_some,if_pos (show room ((phC t i).length+1) 24 by unfold room;omega)]
      dsimp only
      rw [show w64 ((i:Int)+1)=((i+1:Nat):Int) by rw [qb1 (by omega) (by omega)];omega,show 2+48*i+24+24=2+48*(i+1) by omega,show 2+48*i+24=26+48*i by omega,← qsj,← qsi]
      exact qv5 x37 x38 V0 C0 m (i+1) (by omega) (by omega)
    · rw [if_neg (by omega),show i=b by omega]
end
end Go.Proofs.Ytmllgpkgjniomaa.AWN

namespace Go.Proofs.Ytmllgpkgjniomaa.AWN
open Go
def leb (x:Nat):Nat→List Int
  | 0=>[]
  | k+1=>((x % 256:Nat):Int) :: leb (x / 256) k
theorem qgi (x:Nat):∀ k,(leb x k).length=k
  | 0=>rfl
  | k+1=>by rw [leb,List.length_cons,qgi]
theorem qv9 (x:Nat):IntKind.wrap .u8 (x:Int)=((x % 256:Nat):Int):=by
  unfold IntKind.wrap
  simp [IntKind.signed,IntKind.bits]
theorem and_byte {y:Nat} (hy:y < 4294967296):IntKind.wrap .u8 (qj6 .and .i64 (y:Int) 255)=((y % 256:Nat):Int):=by
  unfold qj6
  have e1:BitVec.ofInt 64 (y:Int)=BitVec.ofNat 64 y:=BitVec.ofInt_natCast _ _
  have e2:BitVec.ofInt 64 (255:Int)=BitVec.ofNat 64 255:=rfl
  show IntKind.wrap .u8 (IntKind.wrap .i64 (((BitVec.ofInt 64 (y:Int) &&& BitVec.ofInt 64 255).toNat:Nat):Int))=_
  rw [e1,e2,BitVec.toNat_and,BitVec.toNat_ofNat,BitVec.toNat_ofNat,Nat.mod_eq_of_lt (by omega),Nat.mod_eq_of_lt (by omega)]
  have h:y &&& 255=y % 256:=Nat.and_two_pow_sub_one_eq_mod y 8
  have hm:y % 256 < 256:=Nat.mod_lt _ (by omega)
  rw [h,show IntKind.wrap .i64 ((y % 256:Nat):Int)=((y % 256:Nat):Int) from qb1 (by omega) (by omega),qv9,Nat.mod_mod]
theorem qrq (n:Nat) (many:Nat) (h4:many≤4):∀ (m k x i:Nat) (acc:List Int),i+k=many→k < m→x < 4294967296→acc.length=i →
    qe8 n (many:Int) m (x:Int) acc (i:Int)=some (chars (acc++leb x k))
  | 0,k,_,_,_,_,h,_,_=>by omega
  | m+1,k,x,i,acc,hik,hm,hx,hacc=>by
    unfold qe8 grd qgq
    rcases k with _ | k
    · rw [if_neg (by omega),leb,List.append_nil]
    · have e:((x:Int)).fdiv (2 ^ min (8:Int).toNat (IntKind.bits .i64))=((x / 256:Nat):Int):=by
        show ((x:Int)).fdiv 256=_
        rw [Int.fdiv_eq_ediv_of_nonneg _ (by omega)];omega
      rw [if_pos (by omega),if_pos (show room (acc.length+1) 1 by unfold room;omega),e,qv9,show w64 ((i:Int)+1)=((i+1:Nat):Int) by rw [qb1 (by omega) (by omega)];omega,qrq n many h4 m k (x / 256) (i+1) _ (by omega) (by omega) (by omega) (by simp;omega),leb,List.append_assoc]
      rfl
theorem word_l2' (n x:Nat) (hx:x < 4294967296) (size:Nat) (h4:size≤4):∀ (m k i:Nat) (acc:List Int),i+k=size→k < m→acc.length=i →
    qeh n (x:Int) (size:Int) m acc (i:Int)=some (chars (acc++leb (x / 256 ^ i) k))
  | 0,k,_,_,_,h,_=>by omega
  | m+1,k,i,acc,hik,hm,hacc=>by
    unfold qeh grd qgu
    rcases k with _ | k
    · rw [if_neg (by omega),leb,List.append_nil]
    · have e8:w64 ((8:Int)*(i:Int))=((8*i:Nat):Int):=by rw [qb1 (by omega) (by omega)];omega
      have e9:IntKind.wrap .u64 ((8*i:Nat):Int)=((8*i:Nat):Int):=by
        unfold IntKind.wrap
        simp [IntKind.signed,IntKind.bits]
        omega
      have hmin:min (8*i) (IntKind.bits .i64)=8*i:=by
        show min (8*i) 64=_
        omega
      have hp:(2:Int) ^ (8*i)=((256 ^ i:Nat):Int):=by
        rw [Int.natCast_pow,Int.pow_mul];rfl
      have e:((x:Int)).fdiv (2 ^ min (IntKind.wrap .u64 (w64 ((8:Int)*(i:Int)))).toNat (IntKind.bits .i64))=((x / 256 ^ i:Nat):Int):=by
        rw [e8,e9,Int.toNat_natCast,hmin,hp,Int.fdiv_eq_ediv_of_nonneg _ (Int.natCast_nonneg _),Int.natCast_ediv]
      have hle:x / 256 ^ i≤x:=Nat.div_le_self _ _
      rw [if_pos (by omega),if_pos (by rw [e8,e9];omega),if_pos (show room (acc.length+1) 1 by unfold room;omega),e,and_byte (by omega),show w64 ((i:Int)+1)=((i+1:Nat):Int) by rw [qb1 (by omega) (by omega)];omega,word_l2' n x hx size h4 m k (i+1) _ (by omega) (by omega) (by simp;omega),leb,List.append_assoc,Nat.div_div_eq_div_mul,← Nat.pow_succ]
      rfl
end Go.Proofs.Ytmllgpkgjniomaa.AWN

namespace Go.Proofs.Ytmllgpkgjniomaa.AWN
open Go
theorem qsd (k:FloatKind) (a:Nat):fcmp .neq k a a=isnan k a:=by
  unfold fcmp isnan
  simp only [Ieee.Format.order]
  have cc:∀ (z:Int),compare z z=.eq:=fun z=>by
    show compareOfLessAndEq z z=.eq
    unfold compareOfLessAndEq
    rw [if_neg (by omega),if_pos rfl]
  have cn:∀ (z:Nat),compare z z=.eq:=fun z=>by
    show compareOfLessAndEq z z=.eq
    unfold compareOfLessAndEq
    rw [if_neg (by omega),if_pos rfl]
  cases k.format.read a with
  | number s m i=>simp only [Ieee.Datum.order,cc];rfl
  | infinity s=>simp only [Ieee.Datum.order,cn];rfl
  | nan s m=>rfl
theorem qgb {n:Nat} (hn:6≤n) {x:Nat} (hx:x < 4294967296) (k:Nat) (h4:k≤4):qb7 n (x:Int) (k:Int)=some (chars (leb x k)):=by
  have h:=qrq n k h4 n k x 0 [] (by omega) (by omega) hx rfl
  exact h
theorem word_some' {n:Nat} (hn:6≤n) {x:Nat} (hx:x < 4294967296) (k:Nat) (h4:k≤4):qbc n (x:Int) (k:Int)=some (chars (leb x k)):=by
  have h:=word_l2' n x hx k h4 n k 0 [] (by omega) (by omega) rfl
  rw [Nat.pow_zero,Nat.div_one] at h
  exact h
def bt (x:Nat):Nat:=if isnan .f32 x then 2143289344 else x
theorem qpz {x:Nat} (h:x < 4294967296):bt x < 4294967296:=by
  unfold bt
  split <;> omega
theorem qk5 (n:Nat) {x:Nat} (hx:x < 4294967296):qgk n x=some ((bt x:Nat):Int):=by
  unfold qgk grd bt
  rw [qsd]
  cases h:isnan .f32 x with
  | true=>rfl
  | false =>
    rw [if_neg (by decide),if_pos rfl,qb1 (by omega) (by omega)]
    rfl
theorem qku (n:Nat) {x:Nat} (hx:x < 4294967296):qhk n x=some ((bt x:Nat):Int):=qk5 n hx
def CxOk (c:Cx):Prop:=c.re < 4294967296∧c.im < 4294967296
def PhOk (p:qaa):Prop:=CxOk p.A∧CxOk p.B∧CxOk p.C
def cb (c:Cx):Str:=chars (leb (bt c.re) 4)++chars (leb (bt c.im) 4)
def pb (p:qaa):Str:=cb p.A++cb p.B++cb p.C
theorem qe4 (l:List Int):(chars l).length=l.length:=List.length_map _
theorem qid (c:Cx):(cb c).length=8:=by
  unfold cb
  rw [List.length_append,qe4,qe4,qgi,qgi]
theorem qjs (p:qaa):(pb p).length=24:=by
  unfold pb
  rw [List.length_append,List.length_append,qid,qid,qid]
section
variable {n:Nat} (hn:6≤n)
include hn
theorem qp8 {p:qaa} (h:PhOk p):qcb n p=some (pb p):=by
  have hc:∀ c,CxOk c→qbr n c=some (cb c):=fun c hc=>by
    unfold qbr
    rw [qku n hc.1,Option.bind_some,show ((4:Int))=((4:Nat):Int) from rfl,qgb hn (qpz hc.1) 4 (by omega),Option.bind_some,qku n hc.2,Option.bind_some,qgb hn (qpz hc.2) 4 (by omega),Option.bind_some]
    unfold grd
    rw [if_pos (by rw [qe4,qe4,qgi,qgi];omega)]
    rfl
  unfold qcb grd
  rw [hc _ h.1,Option.bind_some,hc _ h.2.1,Option.bind_some,if_pos (by rw [qid,qid];omega),hc _ h.2.2,Option.bind_some,if_pos (by rw [List.length_append,qid,qid,qid];omega)]
  rfl
theorem qmm {p:qaa} (h:PhOk p):qdz n p=some (pb p):=by
  have hc:∀ c,CxOk c→qbu n c=some (cb c):=fun c hc=>by
    unfold qbu
    rw [qk5 n hc.1,Option.bind_some,show ((4:Int))=((4:Nat):Int) from rfl,word_some' hn (qpz hc.1) 4 (by omega),Option.bind_some,qk5 n hc.2,Option.bind_some,word_some' hn (qpz hc.2) 4 (by omega),Option.bind_some]
    unfold grd
    rw [if_pos (by rw [qe4,qe4,qgi,qgi];omega)]
    rfl
  unfold qdz grd
  rw [hc _ h.1,Option.bind_some,hc _ h.2.1,Option.bind_some,if_pos (by rw [qid,qid];omega),hc _ h.2.2,Option.bind_some,if_pos (by rw [List.length_append,qid,qid,qid];omega)]
  rfl
end
theorem qjq (t:Str) (a:Nat):flA t a < 4294967296:=by
  have h:=qrj t a 4 0 (by omega) (by decide)
  unfold flA canon
  split
  · decide
  · exact h
theorem qsh (t:Str) (a:Nat):PhOk (phA t a):=⟨⟨qjq _ _,qjq _ _⟩,⟨qjq _ _,qjq _ _⟩,⟨qjq _ _,qjq _ _⟩⟩
end Go.Proofs.Ytmllgpkgjniomaa.AWN

namespace Go.Proofs.Ytmllgpkgjniomaa.AWN
open Go
theorem qpj {n:Nat} (hn:6≤n):∀ (l:List qaa),(∀ p ∈ l,PhOk p)→phs (qcb n) l=some (l.map pb)
  | [],_=>rfl
  | p :: l,h=>by
    unfold phs grd
    rw [qp8 hn (h p (List.mem_cons_self ..)),Option.bind_some,qpj hn l (fun q hq=>h q (List.mem_cons_of_mem _ hq)),Option.bind_some,if_pos (by rw [qjs];omega)]
    rfl
def flT (V C:List qaa) (r:Nat) (rests:Bool):Str :=
  qjw (fun k=>(V.map pb).getD k []) (fun k=>(C.map pb).getD k []) (chars (leb r 1)++chars (leb (if rests then 1 else 0) 1)) V.length
theorem head_len (r:Nat) (rests:Bool):(chars (leb r 1)).length=1∧(chars (leb (if rests then 1 else 0) 1)).length=1:=⟨by rw [qe4,qgi],by rw [qe4,qgi]⟩
theorem qp7 {V C:List qaa} (o:Str) (hl:C.length=V.length):∀ k,k≤V.length→(qjw (fun k=>(V.map pb).getD k []) (fun k=>(C.map pb).getD k []) o k).length=o.length+48*k
  | 0,_=>by simp [qjw]
  | k+1,hk=>by
    have h1:((V.map pb).getD k []).length=24:=by
      rw [List.getD_eq_getElem?_getD,List.getElem?_map,List.getElem?_eq_getElem (by omega)]
      exact qjs _
    have h2:((C.map pb).getD k []).length=24:=by
      rw [List.getD_eq_getElem?_getD,List.getElem?_map,List.getElem?_eq_getElem (by omega)]
      exact qjs _
    rw [qjw,List.length_append,List.length_append,h1,h2,qp7 o hl k (by omega)]
    omega
section
variable {n:Nat} (hn:100≤n) {V C:List qaa} (hV:∀ p ∈ V,PhOk p) (hC:∀ p ∈ C,PhOk p) (hl:C.length=V.length) (h1:1≤V.length) (h16:V.length≤16)
include hn hV hC hl h1 h16
theorem ibytes_some (r:Nat) (hr:r < 256) (rests:Bool):qi4 n ⟨V,C,(r:Int),rests⟩=some (if r≤50 then (flT V C r rests,true) else ([],false)):=by
  unfold qi4 qu7
  dsimp only
  by_cases h:r≤50
  · have e2:qb7 n (if rests then 1 else 0) 1=some (chars (leb (if rests then 1 else 0) 1)):=by
      cases rests with
      | true=>exact qgb (x:=1) (by omega) (by omega) 1 (by omega)
      | false=>exact qgb (x:=0) (by omega) (by omega) 1 (by omega)
    have e1:qb7 n (r:Int) 1=some (chars (leb r 1)):=qgb (by omega) (by omega) 1 (by omega)
    have hh:=head_len r rests
    rw [if_pos ⟨h1,h16,hl,by omega,by omega⟩,if_pos h,e1,Option.bind_some,e2,Option.bind_some]
    unfold grd
    rw [if_pos (by omega),qpj (by omega) V hV,Option.bind_some,qpj (by omega) C hC,Option.bind_some]
    rfl
  · rw [if_neg (by omega),if_neg h]
theorem qnj (R:Int) (rests:Bool) (o:Str) (ho:o.length≤100):∀ (m i:Nat),i≤V.length→V.length - i < m →
    qds n ⟨V,C,R,rests⟩ m (qjw (fun k=>(V.map pb).getD k []) (fun k=>(C.map pb).getD k []) o i) (i:Int)=some (qjw (fun k=>(V.map pb).getD k []) (fun k=>(C.map pb).getD k []) o V.length)
  | 0,i,_,h=>by omega
  | m+1,i,hi,hm=>by
    unfold qds
    dsimp only
    by_cases h:i < V.length
    · have hlen:=qp7 o hl i (by omega)
      rw [if_pos (by omega),getI_nat' h,Option.bind_some,getI_nat' (by omega),Option.bind_some,qmm (by omega) (hV _ (List.getElem_mem h)),Option.bind_some,qmm (by omega) (hC _ (List.getElem_mem (by omega))),Option.bind_some]
      unfold grd
      rw [if_pos (by rw [qjs,qjs];omega),if_pos (by rw [List.length_append,qjs,qjs,hlen];omega),show w64 ((i:Int)+1)=((i+1:Nat):Int) by rw [qb1 (by omega) (by omega)];omega]
      have e1:(V.map pb).getD i []=pb V[i]:=by rw [List.getD_eq_getElem?_getD,List.getElem?_map,List.getElem?_eq_getElem h];rfl
      have e2:(C.map pb).getD i []=pb C[i]:=by rw [List.getD_eq_getElem?_getD,List.getElem?_map,List.getElem?_eq_getElem (by omega)];rfl
      have:=qnj R rests o ho m (i+1) (by omega) (by omega)
      rw [qjw,e1,e2] at this
      exact this
    · rw [if_neg (by omega),show i=V.length by omega]
theorem qnk (r:Nat) (hr:r < 256) (rests:Bool):qf8 n ⟨V,C,(r:Int),rests⟩=some (flT V C r rests):=by
  have e1:qbc n (r:Int) 1=some (chars (leb r 1)):=word_some' (by omega) (by omega) 1 (by omega)
  have e2:qbc n 1 1=some (chars (leb 1 1)):=word_some' (x:=1) (by omega) (by omega) 1 (by omega)
  have e3:qbc n 0 1=some (chars (leb 0 1)):=word_some' (x:=0) (by omega) (by omega) 1 (by omega)
  unfold qf8
  dsimp only
  cases rests with
  | true =>
    rw [if_pos rfl]
    unfold qeo grd
    dsimp only
    rw [e1,Option.bind_some,e2,Option.bind_some,if_pos (by rw [qe4,qe4,qgi,qgi];omega)]
    exact qnj hn hV hC hl h1 h16 r true _ (by rw [List.length_append,qe4,qe4,qgi,qgi];omega) n 0 (Nat.zero_le _) (by omega)
  | false =>
    rw [if_neg (by decide)]
    unfold qeo grd
    dsimp only
    rw [e1,Option.bind_some,e3,Option.bind_some,if_pos (by rw [qe4,qe4,qgi,qgi];omega)]
    exact qnj hn hV hC hl h1 h16 r false _ (by rw [List.length_append,qe4,qe4,qgi,qgi];omega) n 0 (Nat.zero_le _) (by omega)
end
end Go.Proofs.Ytmllgpkgjniomaa.AWN

namespace Go.Proofs.Ytmllgpkgjniomaa.AWN
open Go
theorem qu2 (t:Str) (a:Nat):vd t a 0 1 < 256:=by
  have hb:(t.getD (a+0) 0).toNat < 256:=UInt8.toNat_lt _
  show 0*256+(t.getD (a+0) 0).toNat < 256
  omega
theorem qtq (t:Str) (k:Nat):∀ p ∈ phV t k,PhOk p:=fun p hp=>by
  obtain ⟨i,_,rfl⟩:=List.mem_map.1 hp
  exact qsh t _
theorem qtp (t:Str) (k:Nat):∀ p ∈ phC t k,PhOk p:=fun p hp=>by
  obtain ⟨i,_,rfl⟩:=List.mem_map.1 hp
  exact qsh t _
def flo (t:Str) (b:Nat):qbb:=⟨phV t b,phC t b,((vd t 0 0 1:Nat):Int),decide (((vd t 1 0 1:Nat):Int)=1)⟩
def good (t:Str) (b:Nat):Prop:=t.length=2+48*b∧vd t 0 0 1≤50∧flT (phV t b) (phC t b) (vd t 0 0 1) (decide (((vd t 1 0 1:Nat):Int)=1))=t
instance (t:Str) (b:Nat):Decidable (good t b):=by unfold good;infer_instance
def noFlow:qbb:=⟨[],[],0,false⟩
def resF (t:Str) (b:Nat):qbb × Bool:=if good t b then (flo t b,true) else (noFlow,false)
section
variable {n:Nat} (hn:100≤n) (t:Str) {b:Nat} (h1:1≤b) (h16:b≤16)
include hn h1 h16
theorem impl_flow (h:t.length≤1048576):qdi n t (b:Int)=some (resF t b):=by
  unfold qdi qdb
  rw [if_pos (by omega),Option.bind_some,decide_eq_true (by omega),if_pos rfl]
  have hw:w64 ((2:Int)+w64 ((48:Int)*(b:Int)))=((2+48*b:Nat):Int):=by
    rw [qb1 (n:=(48:Int)*(b:Int)) (by omega) (by omega),qb1 (by omega) (by omega)];omega
  rw [hw]
  by_cases ht:t.length=2+48*b
  · rw [decide_eq_true (by omega)]
    unfold qd4
    rw [if_neg (by decide)]
    unfold qf1
    have e1:qal n ⟨t,0,false⟩ 1=some (((vd t 0 0 1:Nat):Int),⟨t,((0+1:Nat):Int),false⟩):=qfd (by omega) t 0 1 (by omega) (by omega) (by omega)
    have e2:qal n ⟨t,((0+1:Nat):Int),false⟩ 1=some (((vd t (0+1) 0 1:Nat):Int),⟨t,((0+1+1:Nat):Int),false⟩):=qfd (by omega) t (0+1) 1 (by omega) (by omega) (by omega)
    rw [e1,Option.bind_some]
    dsimp only
    rw [e2,Option.bind_some]
    dsimp only
    have hl:=qv5 (n:=n) (by omega) t h16 ht (((vd t 0 0 1:Nat):Int),⟨t,((0+1:Nat):Int),false⟩) (((vd t (0+1) 0 1:Nat):Int),⟨t,((0+1+1:Nat):Int),false⟩) [] [] n 0 (Nat.zero_le _) (by omega)
    refine Eq.trans hl ?_
    unfold qe6
    dsimp only
    have hr:=qu2 t 0
    have hv:=qko t b
    have hc:=qm3 t b
    rw [ibytes_some hn (qtq t b) (qtp t b) (by omega) (by omega) (by omega) _ hr,Option.bind_some]
    unfold qe7 qf2 resF
    by_cases h50:vd t 0 0 1≤50
    · rw [if_pos h50]
      dsimp only
      rw [if_pos rfl]
      by_cases hg:flT (phV t b) (phC t b) (vd t 0 0 1) (decide (((vd t (0+1) 0 1:Nat):Int)=1))=t
      · rw [decide_eq_true hg,if_neg (by decide),if_pos ⟨ht,h50,hg⟩];rfl
      · rw [decide_eq_false hg,if_pos (show (!false)=true from rfl),if_neg (fun hh=>hg hh.2.2)];rfl
    · rw [if_neg h50]
      dsimp only
      rw [if_neg (by decide),if_pos rfl,if_neg (fun hh=>h50 hh.2.1)];rfl
  · rw [decide_eq_false (by omega)]
    unfold qd4 resF
    rw [if_pos (show (!false)=true from rfl),if_neg (fun hh=>ht hh.1)];rfl
end
end Go.Proofs.Ytmllgpkgjniomaa.AWN

namespace Go.Proofs.Ytmllgpkgjniomaa.AWN
open Go
section
variable {n:Nat} (hn:100≤n) (t:Str) (ht:t.length≤1099511627776)
include hn ht
end
end Go.Proofs.Ytmllgpkgjniomaa.AWN

namespace Go.Proofs.Ytmllgpkgjniomaa.AWN
open Go
section
variable {n:Nat} (hn:100≤n) (t:Str) {b:Nat} (h1:1≤b) (h16:b≤16)
include hn h1 h16
theorem qut (ht:2+48*b≤t.length) (htl:t.length≤1099511627776) (x36 x37:Int × qb0) (V0 C0:List qaa):∀ (m i:Nat),i≤b→b - i < m →
    qbl n t (b:Int) x36 x37 m V0 C0 t ((2+48*i:Nat):Int) true (phV t i) (phC t i) (i:Int)=qer n t x36 x37 V0 C0 t ((2+48*b:Nat):Int) true (phV t b) (phC t b)
  | 0,i,_,h=>by omega
  | m+1,i,hi,hm=>by
    unfold qbl
    by_cases h:i < b
    · have hv:=qko t i
      have hc:=qm3 t i
      rw [if_pos (by omega)]
      unfold qdf
      rw [if_pos rfl]
      unfold qff grd
      rw [qmf (by omega) t (by omega) (2+48*i) true (by omega),Option.bind_some,if_pos (show room ((phV t i).length+1) 24 by unfold room;omega)]
      dsimp only
      rw [qmf (by omega) t (by omega) (2+48*i+24) true (by omega),Option.bind_some,if_pos (show room ((phC t i).length+1) 24 by unfold room;omega)]
      dsimp only
      rw [show w64 ((i:Int)+1)=((i+1:Nat):Int) by rw [qb1 (by omega) (by omega)];omega,show 2+48*i+24+24=2+48*(i+1) by omega,show 2+48*i+24=26+48*i by omega,← qsj,← qsi]
      exact qut ht htl x36 x37 V0 C0 m (i+1) (by omega) (by omega)
    · rw [if_neg (by omega),show i=b by omega]
      unfold qdf
      rw [if_neg (by decide)]
theorem of_long (ht:2+48*b≤t.length) (htl:t.length≤1099511627776):qft n t (b:Int)=some (flo t b,decide (good t b)):=by
  unfold qft
  have e1:qaj n ⟨t,0,true⟩ 1=some (((vd t 0 0 1:Nat):Int),⟨t,((0+1:Nat):Int),true⟩):=qg2 (by omega) t 0 1 true (by omega) (by omega) (by omega)
  have e2:qaj n ⟨t,((0+1:Nat):Int),true⟩ 1=some (((vd t (0+1) 0 1:Nat):Int),⟨t,((0+1+1:Nat):Int),true⟩):=qg2 (by omega) t (0+1) 1 true (by omega) (by omega) (by omega)
  rw [e1,Option.bind_some]
  dsimp only
  rw [e2,Option.bind_some]
  dsimp only
  have hl:=qut hn t h1 h16 ht htl (((vd t 0 0 1:Nat):Int),⟨t,((0+1:Nat):Int),true⟩) (((vd t (0+1) 0 1:Nat):Int),⟨t,((0+1+1:Nat):Int),true⟩) [] [] n 0 (Nat.zero_le _) (by omega)
  refine Eq.trans hl ?_
  unfold qer
  dsimp only
  have hr:=qu2 t 0
  have hv:=qko t b
  have hc:=qm3 t b
  rw [if_pos rfl]
  by_cases h50:vd t 0 0 1≤50
  · rw [if_pos (by omega),qnk hn (qtq t b) (qtp t b) (by omega) (by omega) (by omega) _ hr,Option.bind_some]
    congr 2
    by_cases hg:flT (phV t b) (phC t b) (vd t 0 0 1) (decide (((vd t (0+1) 0 1:Nat):Int)=1))=t
    · have hlen:=qp7 (V:=phV t b) (C:=phC t b) (chars (leb (vd t 0 0 1) 1)++chars (leb (if decide (((vd t (0+1) 0 1:Nat):Int)=1) then 1 else 0) 1)) (by omega) b (by omega)
      have h2:(flT (phV t b) (phC t b) (vd t 0 0 1) (decide (((vd t (0+1) 0 1:Nat):Int)=1))).length=2+48*b:=by
        unfold flT
        rw [hv,hlen,List.length_append,qe4,qe4,qgi,qgi]
      rw [hg] at h2
      rw [decide_eq_true hg,decide_eq_true ⟨h2,h50,hg⟩]
    · rw [decide_eq_false hg,decide_eq_false (fun hh=>hg hh.2.2)]
  · rw [if_neg (by omega),show decide (good t b)=false from decide_eq_false (fun hh=>h50 hh.2.1)];rfl
end
end Go.Proofs.Ytmllgpkgjniomaa.AWN

namespace Go.Proofs.Ytmllgpkgjniomaa.AWN
open Go
section
variable {n:Nat} (hn:100≤n) (t:Str) {b:Nat} (h1:1≤b) (h16:b≤16)
include hn h1 h16
end
end Go.Proofs.Ytmllgpkgjniomaa.AWN

namespace Go.Proofs.Ytmllgpkgjniomaa.AWN
open Go
def busA (t:Str) (a:Nat):SBus:=⟨((vd t a 0 1:Nat):Int) - 1,cxA t (a+1),cxA t (a+9),((vd t (a+17) 0 1:Nat):Int),phA t (a+18),((vd t (a+42) 0 4:Nat):Int)⟩
def tieA (t:Str) (a:Nat):STie:=⟨((vd t a 0 1:Nat):Int),((vd t (a+1) 0 1:Nat):Int),cxA t (a+2),cxA t (a+10),((vd t (a+18) 0 4:Nat):Int)⟩
section
variable {n:Nat} (hn:6≤n) {t:Str} (ht:t.length≤1099511627776)
include hn ht
theorem ibus_some (a:Nat) (h:a+46≤t.length):qe9 n ⟨t,a,false⟩=some (busA t a,⟨t,((a+46:Nat):Int),false⟩):=by
  unfold qe9
  have hv:=qrj t a 1 0 (by omega) (by decide)
  rw [show (1:Int)=((1:Nat):Int) from rfl,show (4:Int)=((4:Nat):Int) from rfl]
  rw [qfd hn t a 1 (by omega) (by omega) ht,Option.bind_some]
  dsimp only
  rw [qiu hn t ht (a+1) (by omega),Option.bind_some]
  dsimp only
  rw [qiu hn t ht (a+1+8) (by omega),Option.bind_some]
  dsimp only
  rw [qfd hn t (a+1+8+8) 1 (by omega) (by omega) ht,Option.bind_some]
  dsimp only
  rw [qmi hn t ht (a+1+8+8+1) (by omega),Option.bind_some]
  dsimp only
  rw [qfd hn t (a+1+8+8+1+24) 4 (by omega) (by omega) ht,Option.bind_some]
  dsimp only
  rw [qb1 (n:=((vd t a 0 1:Nat):Int) - ((1:Nat):Int)) (by omega) (by omega)]
  rfl
theorem itie_some (a:Nat) (h:a+22≤t.length):qea n ⟨t,a,false⟩=some (tieA t a,⟨t,((a+22:Nat):Int),false⟩):=by
  unfold qea
  rw [show (1:Int)=((1:Nat):Int) from rfl,show (4:Int)=((4:Nat):Int) from rfl]
  rw [qfd hn t a 1 (by omega) (by omega) ht,Option.bind_some]
  dsimp only
  rw [qfd hn t (a+1) 1 (by omega) (by omega) ht,Option.bind_some]
  dsimp only
  rw [qiu hn t ht (a+1+1) (by omega),Option.bind_some]
  dsimp only
  rw [qiu hn t ht (a+1+1+8) (by omega),Option.bind_some]
  dsimp only
  rw [qfd hn t (a+1+1+8+8) 4 (by omega) (by omega) ht,Option.bind_some]
  rfl
theorem sbus_some (a:Nat) (f:Bool) (h:a+46≤t.length):qdt n ⟨t,a,f⟩=some (busA t a,⟨t,((a+46:Nat):Int),f⟩):=by
  unfold qdt
  have hv:=qrj t a 1 0 (by omega) (by decide)
  rw [show (1:Int)=((1:Nat):Int) from rfl,show (4:Int)=((4:Nat):Int) from rfl]
  rw [qg2 hn t a 1 f (by omega) (by omega) ht,Option.bind_some]
  dsimp only
  rw [qjg hn t ht (a+1) f (by omega),Option.bind_some]
  dsimp only
  rw [qjg hn t ht (a+1+8) f (by omega),Option.bind_some]
  dsimp only
  rw [qg2 hn t (a+1+8+8) 1 f (by omega) (by omega) ht,Option.bind_some]
  dsimp only
  rw [qmf hn t ht (a+1+8+8+1) f (by omega),Option.bind_some]
  dsimp only
  rw [qg2 hn t (a+1+8+8+1+24) 4 f (by omega) (by omega) ht,Option.bind_some]
  dsimp only
  rw [qb1 (n:=((vd t a 0 1:Nat):Int) - ((1:Nat):Int)) (by omega) (by omega)]
  rfl
theorem stie_some (a:Nat) (f:Bool) (h:a+22≤t.length):qdu n ⟨t,a,f⟩=some (tieA t a,⟨t,((a+22:Nat):Int),f⟩):=by
  unfold qdu
  rw [show (1:Int)=((1:Nat):Int) from rfl,show (4:Int)=((4:Nat):Int) from rfl]
  rw [qg2 hn t a 1 f (by omega) (by omega) ht,Option.bind_some]
  dsimp only
  rw [qg2 hn t (a+1) 1 f (by omega) (by omega) ht,Option.bind_some]
  dsimp only
  rw [qjg hn t ht (a+1+1) f (by omega),Option.bind_some]
  dsimp only
  rw [qjg hn t ht (a+1+1+8) f (by omega),Option.bind_some]
  dsimp only
  rw [qg2 hn t (a+1+1+8+8) 4 f (by omega) (by omega) ht,Option.bind_some]
  rfl
end
end Go.Proofs.Ytmllgpkgjniomaa.AWN

namespace Go.Proofs.Ytmllgpkgjniomaa.AWN
open Go
def Tot {σ α:Type} (L:Nat) (mk:Nat→Bool→σ) (R:σ→Option (α × σ)) (k:Nat):Prop :=
  ∀ a f,a≤L→∃ c a' f',R (mk a f)=some (c,mk a' f')∧a'≤L∧(f=true→a+k≤L→a'=a+k∧f'=true)∧(L < a+k→f'=false)∧(f=false→f'=false)
theorem Tot.pure {σ α:Type} {L:Nat} {mk:Nat→Bool→σ} (c:α):Tot L mk (fun r=>some (c,r)) 0 :=
  fun a f ha=>⟨c,a,f,rfl,ha,fun h _=>⟨rfl,h⟩,fun h=>by omega,id⟩
theorem Tot.bind {σ α β:Type} {L:Nat} {mk:Nat→Bool→σ} {R:σ→Option (α × σ)} {G:α→σ→Option (β × σ)} {k j:Nat} (h:Tot L mk R k) (hg:∀ c,Tot L mk (G c) j):Tot L mk (fun r=>(R r).bind fun x=>G x.1 x.2) (k+j):=by
  intro a f ha
  obtain ⟨c,a1,f1,e1,l1,p1,q1,r1⟩:=h a f ha
  obtain ⟨d,a2,f2,e2,l2,p2,q2,r2⟩:=hg c a1 f1 l1
  refine ⟨d,a2,f2,?_,l2,fun hf hk=>?_,fun hk=>?_,fun hf=>r2 (r1 hf)⟩
  · show (R (mk a f)).bind _=_
    rw [e1];exact e2
  · obtain ⟨g1,g2⟩:=p1 hf (by omega)
    obtain ⟨g3,g4⟩:=p2 g2 (by omega)
    exact ⟨by omega,g4⟩
  · by_cases h':a+k≤L
    · cases f with
      | false=>exact r2 (r1 rfl)
      | true =>
        obtain ⟨g1,g2⟩:=p1 rfl h'
        exact q2 (by omega)
    · exact r2 (q1 (by omega))
section
variable {n:Nat} (hn:6≤n) (t:Str) (ht:t.length≤1099511627776)
def mkI (t:Str) (a:Nat) (f:Bool):qaz:=⟨t,a,!f⟩
def mkS (t:Str) (a:Nat) (f:Bool):qb0:=⟨t,a,f⟩
include hn ht
theorem qka (k:Nat) (h4:k≤4):Tot t.length (mkI t) (fun r=>qal n r (k:Int)) k:=by
  intro a f ha
  cases f with
  | false =>
    refine ⟨0,a,false,rfl,ha,?_,fun _=>rfl,fun _=>rfl⟩
    intro h;cases h
  | true =>
    by_cases h:a+k≤t.length
    · exact ⟨_,a+k,true,qfd hn t a k h h4 ht,h,fun _ _=>⟨rfl,rfl⟩,fun h'=>absurd h (by omega),(fun h=>nomatch h)⟩
    · refine ⟨0,a,false,?_,ha,fun _ h'=>absurd h' h,fun _=>rfl,fun _=>rfl⟩
      show qal n ⟨t,a,false⟩ (k:Int)=_
      unfold qal
      dsimp only
      rw [if_neg (by decide),qb1 (by omega) (by omega),decide_eq_true (by omega)]
      rfl
theorem qin (k:Nat) (h4:k≤4):Tot t.length (mkS t) (fun r=>qaj n r (k:Int)) k:=by
  intro a f ha
  by_cases h:a+k≤t.length
  · exact ⟨_,a+k,f,qg2 hn t a k f h h4 ht,h,fun hf _=>⟨rfl,hf⟩,fun h'=>by omega,id⟩
  · refine ⟨0,a,false,?_,ha,fun _ h'=>absurd h' h,fun _=>rfl,fun _=>rfl⟩
    show qaj n ⟨t,a,f⟩ (k:Int)=_
    unfold qaj
    dsimp only
    rw [if_pos (by rw [qb1 (by omega) (by omega)];omega)]
    rfl
omit hn ht in
theorem frombits_tot (c:Int):∃ y,qei n c=some y:=by
  unfold qei qdb
  have hw:(IntKind.wrap .u32 c).toNat < 4294967296:=by
    simp only [IntKind.wrap,IntKind.signed,IntKind.bits]
    simp
    omega
  split
  · rw [Option.bind_some]
    split
    · unfold grd;rw [if_pos hw];exact ⟨_,rfl⟩
    · exact ⟨_,rfl⟩
  · exact ⟨_,rfl⟩
omit hn ht in
theorem qry (c:Int):∃ y,qcx n c=some y:=by
  unfold qcx
  have hw:(IntKind.wrap .u32 c).toNat < 4294967296:=by
    simp only [IntKind.wrap,IntKind.signed,IntKind.bits]
    simp
    omega
  unfold grd
  rw [if_pos hw];exact ⟨_,rfl⟩
theorem qtg:Tot t.length (mkI t) (qcu n) 4 :=
  (qka hn t ht 4 (by omega)).bind (G:=fun c r=>(qei n c).bind fun x4=>some (x4.1,r)) (j:=0) fun c=>by
    obtain ⟨y,e⟩:=frombits_tot (n:=n) c
    rw [e];exact Tot.pure y.1
theorem qjk:Tot t.length (mkI t) (qax n) 8 :=
  (qtg hn t ht).bind (G:=fun c r=>(qcu n r).bind fun x4=>some (Cx.mk c x4.1,x4.2)) (j:=4) fun c=>(qtg hn t ht).bind (G:=fun d r=>some (Cx.mk c d,r)) (j:=0) fun d=>Tot.pure _
theorem qth:Tot t.length (mkI t) (qb9 n) 24 :=
  (qjk hn t ht).bind (G:=fun a r=>(qax n r).bind fun x5=>(qax n x5.2).bind fun x6=>some (qaa.mk a x5.1 x6.1,x6.2)) (j:=16) fun a =>
  (qjk hn t ht).bind (G:=fun b r=>(qax n r).bind fun x6=>some (qaa.mk a b x6.1,x6.2)) (j:=8) fun b =>
  (qjk hn t ht).bind (G:=fun c r=>some (qaa.mk a b c,r)) (j:=0) fun c=>Tot.pure _
theorem ibus_tot:Tot t.length (mkI t) (qe9 n) 46 :=
  (qka hn t ht 1 (by omega)).bind (G:=fun p r=>(qax n r).bind fun x8=>(qax n x8.2).bind fun x9=>(qal n x9.2 (1:Int)).bind fun x10=>(qb9 n x10.2).bind fun x11=>(qal n x11.2 (4:Int)).bind fun x12=>some (SBus.mk (w64 (p - (1:Int))) x8.1 x9.1 x10.1 x11.1 x12.1,x12.2)) (j:=45) fun p =>
  (qjk hn t ht).bind (G:=fun o r=>(qax n r).bind fun x9=>(qal n x9.2 (1:Int)).bind fun x10=>(qb9 n x10.2).bind fun x11=>(qal n x11.2 (4:Int)).bind fun x12=>some (SBus.mk (w64 (p - (1:Int))) o x9.1 x10.1 x11.1 x12.1,x12.2)) (j:=37) fun o =>
  (qjk hn t ht).bind (G:=fun s r=>(qal n r (1:Int)).bind fun x10=>(qb9 n x10.2).bind fun x11=>(qal n x11.2 (4:Int)).bind fun x12=>some (SBus.mk (w64 (p - (1:Int))) o s x10.1 x11.1 x12.1,x12.2)) (j:=29) fun s =>
  (qka hn t ht 1 (by omega)).bind (G:=fun k r=>(qb9 n r).bind fun x11=>(qal n x11.2 (4:Int)).bind fun x12=>some (SBus.mk (w64 (p - (1:Int))) o s k x11.1 x12.1,x12.2)) (j:=28) fun k =>
  (qth hn t ht).bind (G:=fun l r=>(qal n r (4:Int)).bind fun x12=>some (SBus.mk (w64 (p - (1:Int))) o s k l x12.1,x12.2)) (j:=4) fun l =>
  (qka hn t ht 4 (by omega)).bind (G:=fun c r=>some (SBus.mk (w64 (p - (1:Int))) o s k l c,r)) (j:=0) fun c=>Tot.pure _
theorem itie_tot:Tot t.length (mkI t) (qea n) 22 :=
  (qka hn t ht 1 (by omega)).bind (G:=fun a r=>(qal n r (1:Int)).bind fun x7=>(qax n x7.2).bind fun x8=>(qax n x8.2).bind fun x9=>(qal n x9.2 (4:Int)).bind fun x10=>some (STie.mk a x7.1 x8.1 x9.1 x10.1,x10.2)) (j:=21) fun a =>
  (qka hn t ht 1 (by omega)).bind (G:=fun b r=>(qax n r).bind fun x8=>(qax n x8.2).bind fun x9=>(qal n x9.2 (4:Int)).bind fun x10=>some (STie.mk a b x8.1 x9.1 x10.1,x10.2)) (j:=20) fun b =>
  (qjk hn t ht).bind (G:=fun o r=>(qax n r).bind fun x9=>(qal n x9.2 (4:Int)).bind fun x10=>some (STie.mk a b o x9.1 x10.1,x10.2)) (j:=12) fun o =>
  (qjk hn t ht).bind (G:=fun s r=>(qal n r (4:Int)).bind fun x10=>some (STie.mk a b o s x10.1,x10.2)) (j:=4) fun s =>
  (qka hn t ht 4 (by omega)).bind (G:=fun m r=>some (STie.mk a b o s m,r)) (j:=0) fun m=>Tot.pure _
theorem qkb:Tot t.length (mkS t) (qaw n) 8 :=
  (qin hn t ht 4 (by omega)).bind (G:=fun a r=>(qaj n r (4:Int)).bind fun x6=>(qcx n a).bind fun x7=>(qcx n x6.1).bind fun x8=>some (Cx.mk x7 x8,x6.2)) (j:=4) fun a =>
  (qin hn t ht 4 (by omega)).bind (G:=fun b r=>(qcx n a).bind fun x7=>(qcx n b).bind fun x8=>some (Cx.mk x7 x8,r)) (j:=0) fun b=>by
    obtain ⟨y,e⟩:=qry (n:=n) a
    obtain ⟨z,e'⟩:=qry (n:=n) b
    rw [e,e'];exact Tot.pure (Cx.mk y z)
theorem qty:Tot t.length (mkS t) (qba n) 24 :=
  (qkb hn t ht).bind (G:=fun a r=>(qaw n r).bind fun x5=>(qaw n x5.2).bind fun x6=>some (qaa.mk a x5.1 x6.1,x6.2)) (j:=16) fun a =>
  (qkb hn t ht).bind (G:=fun b r=>(qaw n r).bind fun x6=>some (qaa.mk a b x6.1,x6.2)) (j:=8) fun b =>
  (qkb hn t ht).bind (G:=fun c r=>some (qaa.mk a b c,r)) (j:=0) fun c=>Tot.pure _
theorem sbus_tot:Tot t.length (mkS t) (qdt n) 46 :=
  (qin hn t ht 1 (by omega)).bind (G:=fun p r=>(qaw n r).bind fun x8=>(qaw n x8.2).bind fun x9=>(qaj n x9.2 (1:Int)).bind fun x10=>(qba n x10.2).bind fun x11=>(qaj n x11.2 (4:Int)).bind fun x12=>some (SBus.mk (w64 (p - (1:Int))) x8.1 x9.1 x10.1 x11.1 x12.1,x12.2)) (j:=45) fun p =>
  (qkb hn t ht).bind (G:=fun o r=>(qaw n r).bind fun x9=>(qaj n x9.2 (1:Int)).bind fun x10=>(qba n x10.2).bind fun x11=>(qaj n x11.2 (4:Int)).bind fun x12=>some (SBus.mk (w64 (p - (1:Int))) o x9.1 x10.1 x11.1 x12.1,x12.2)) (j:=37) fun o =>
  (qkb hn t ht).bind (G:=fun s r=>(qaj n r (1:Int)).bind fun x10=>(qba n x10.2).bind fun x11=>(qaj n x11.2 (4:Int)).bind fun x12=>some (SBus.mk (w64 (p - (1:Int))) o s x10.1 x11.1 x12.1,x12.2)) (j:=29) fun s =>
  (qin hn t ht 1 (by omega)).bind (G:=fun k r=>(qba n r).bind fun x11=>(qaj n x11.2 (4:Int)).bind fun x12=>some (SBus.mk (w64 (p - (1:Int))) o s k x11.1 x12.1,x12.2)) (j:=28) fun k =>
  (qty hn t ht).bind (G:=fun l r=>(qaj n r (4:Int)).bind fun x12=>some (SBus.mk (w64 (p - (1:Int))) o s k l x12.1,x12.2)) (j:=4) fun l =>
  (qin hn t ht 4 (by omega)).bind (G:=fun c r=>some (SBus.mk (w64 (p - (1:Int))) o s k l c,r)) (j:=0) fun c=>Tot.pure _
theorem stie_tot:Tot t.length (mkS t) (qdu n) 22 :=
  (qin hn t ht 1 (by omega)).bind (G:=fun a r=>(qaj n r (1:Int)).bind fun x7=>(qaw n x7.2).bind fun x8=>(qaw n x8.2).bind fun x9=>(qaj n x9.2 (4:Int)).bind fun x10=>some (STie.mk a x7.1 x8.1 x9.1 x10.1,x10.2)) (j:=21) fun a =>
  (qin hn t ht 1 (by omega)).bind (G:=fun b r=>(qaw n r).bind fun x8=>(qaw n x8.2).bind fun x9=>(qaj n x9.2 (4:Int)).bind fun x10=>some (STie.mk a b x8.1 x9.1 x10.1,x10.2)) (j:=20) fun b =>
  (qkb hn t ht).bind (G:=fun o r=>(qaw n r).bind fun x9=>(qaj n x9.2 (4:Int)).bind fun x10=>some (STie.mk a b o x9.1 x10.1,x10.2)) (j:=12) fun o =>
  (qkb hn t ht).bind (G:=fun s r=>(qaj n r (4:Int)).bind fun x10=>some (STie.mk a b o s x10.1,x10.2)) (j:=4) fun s =>
  (qin hn t ht 4 (by omega)).bind (G:=fun m r=>some (STie.mk a b o s m,r)) (j:=0) fun m=>Tot.pure _
end
end Go.Proofs.Ytmllgpkgjniomaa.AWN

namespace Go.Proofs.Ytmllgpkgjniomaa.AWN
open Go
structure BOk (b:SBus):Prop where
  P:0≤b.qag+1∧b.qag+1 < 4294967296
  K:0≤b.Kind∧b.Kind < 4294967296
  C:0≤b.qa6∧b.qa6 < 4294967296
  own:CxOk b.Own
  shared:CxOk b.Shared
  load:PhOk b.Load
structure TOk (t:STie):Prop where
  A:0≤t.A∧t.A < 4294967296
  B:0≤t.B∧t.B < 4294967296
  M:0≤t.Most∧t.Most < 4294967296
  own:CxOk t.Own
  shared:CxOk t.Shared
def busB (b:SBus):Str:=chars (leb (b.qag+1).toNat 1)++cb b.Own++cb b.Shared++chars (leb b.Kind.toNat 1)++pb b.Load++chars (leb b.qa6.toNat 4)
def tieB (t:STie):Str:=chars (leb t.A.toNat 1)++chars (leb t.B.toNat 1)++cb t.Own++cb t.Shared++chars (leb t.Most.toNat 4)
def qnu (g:qbi):Str:=[70,68,82,49]++pb g.qa1.Source++chars (leb g.qa1.qac.length 1)++(g.qa1.qac.map busB).flatten++chars (leb g.Ties.length 1)++(g.Ties.map tieB).flatten
theorem qja (x k:Nat):(chars (leb x k)).length=k:=by rw [qe4,qgi]
theorem busB_len (b:SBus):(busB b).length=46:=by
  unfold busB
  simp only [List.length_append,qja,qid,qjs]
theorem tieB_len (t:STie):(tieB t).length=22:=by
  unfold tieB
  simp only [List.length_append,qja,qid]
section
variable {n:Nat} (hn:100≤n)
include hn
theorem qmd {z:Int} (h:0≤z∧z < 4294967296) (k:Nat) (h4:k≤4):qbc n z (k:Int)=some (chars (leb z.toNat k)):=by
  obtain ⟨x,rfl⟩:=Int.eq_ofNat_of_zero_le h.1
  exact word_some' (by omega) (by omega) k h4
theorem qml {c:Cx} (hc:CxOk c):qbu n c=some (cb c):=by
  unfold qbu
  rw [qk5 n hc.1,Option.bind_some,show (4:Int)=((4:Nat):Int) from rfl,word_some' (by omega) (qpz hc.1) 4 (by omega),Option.bind_some,qk5 n hc.2,Option.bind_some,word_some' (by omega) (qpz hc.2) 4 (by omega),Option.bind_some]
  unfold grd
  rw [if_pos (by rw [qja,qja];decide)]
  rfl
variable {g:qbi} (hb:∀ b ∈ g.qa1.qac,BOk b) (ht:∀ t ∈ g.Ties,TOk t) (hs:PhOk g.qa1.Source) (lb:g.qa1.qac.length≤50) (lt:g.Ties.length≤50)
include hb ht lb lt
theorem qtc:∀ (m i:Nat) (acc:Str),i≤g.Ties.length→g.Ties.length - i < m→acc.length≤100000+100*i→qee n g m acc (i:Int)=some (acc++((g.Ties.drop i).map tieB).flatten)
  | 0,i,acc,_,h,_=>by omega
  | m+1,i,acc,hi,h,ha=>by
    unfold qee
    by_cases hk:i=g.Ties.length
    · subst hk
      rw [if_neg (by omega),List.drop_length]
      simp
    · have hlt:i < g.Ties.length:=by omega
      have hx:=ht _ (List.getElem_mem hlt)
      rw [if_pos (by omega),getI_nat' hlt,Option.bind_some,List.drop_eq_getElem_cons hlt,List.map_cons,List.flatten_cons]
      generalize g.Ties[i]=x at hx ⊢
      have w1:=qmd hn hx.A 1 (by omega)
      have w2:=qmd hn hx.B 1 (by omega)
      have w3:=qmd hn hx.M 4 (by omega)
      rw [show (1:Int)=((1:Nat):Int) from rfl,show (4:Int)=((4:Nat):Int) from rfl,w1,Option.bind_some,w2,Option.bind_some,qml hn hx.own,Option.bind_some,qml hn hx.shared,Option.bind_some,w3,Option.bind_some]
      unfold grd
      simp only [List.length_append,qja,qid]
      rw [if_pos (by omega),if_pos (by omega),if_pos (by omega),if_pos (by omega),if_pos (by omega),qb1 (by omega) (by omega)]
      have e:chars (leb x.A.toNat 1)++chars (leb x.B.toNat 1)++cb x.Own++cb x.Shared++chars (leb x.Most.toNat 4)=tieB x:=rfl
      rw [e]
      have:=qtc m (i+1) (acc++tieB x) (by omega) (by omega) (by rw [List.length_append,tieB_len];omega)
      rw [List.append_assoc] at this
      exact this
theorem qtd:∀ (m i:Nat) (acc:Str),i≤g.qa1.qac.length→g.qa1.qac.length - i < m→acc.length≤1000+100*i→qef n g m acc (i:Int)=some (acc++((g.qa1.qac.drop i).map busB).flatten++chars (leb g.Ties.length 1)++(g.Ties.map tieB).flatten)
  | 0,i,acc,_,h,_=>by omega
  | m+1,i,acc,hi,h,ha=>by
    unfold qef
    by_cases hk:i=g.qa1.qac.length
    · subst hk
      rw [if_neg (by omega),List.drop_length]
      unfold qgt
      rw [show (1:Int)=((1:Nat):Int) from rfl,qmd hn (z:=(g.Ties.length:Int)) ⟨by omega,by omega⟩ 1 (by omega),Option.bind_some]
      unfold grd
      rw [if_pos (by rw [qja];omega)]
      have:=qtc hn hb ht lb lt n 0 (acc++chars (leb g.Ties.length 1)) (by omega) (by omega) (by rw [List.length_append,qja];omega)
      rw [List.drop_zero] at this
      rw [Int.toNat_natCast]
      simp only [List.map_nil,List.flatten_nil,List.append_nil]
      exact this
    · have hlt:i < g.qa1.qac.length:=by omega
      have hx:=hb _ (List.getElem_mem hlt)
      rw [if_pos (by omega),getI_nat' hlt,Option.bind_some,List.drop_eq_getElem_cons hlt,List.map_cons,List.flatten_cons]
      generalize g.qa1.qac[i]=x at hx ⊢
      have hP:=hx.P
      have w1:=qmd hn hx.P 1 (by omega)
      have w2:=qmd hn hx.K 1 (by omega)
      have w3:=qmd hn hx.C 4 (by omega)
      have pp:=qmm (n:=n) (by omega) hx.load
      rw [qb1 (n:=x.qag+1) (by omega) (by omega)]
      rw [show qbc n (x.qag+1) (1:Int)=some (chars (leb (x.qag+1).toNat 1)) from w1,Option.bind_some,qml hn hx.own,Option.bind_some,qml hn hx.shared,Option.bind_some,show qbc n x.Kind (1:Int)=some (chars (leb x.Kind.toNat 1)) from w2,Option.bind_some,pp,Option.bind_some,show qbc n x.qa6 (4:Int)=some (chars (leb x.qa6.toNat 4)) from w3,Option.bind_some]
      unfold grd
      simp only [List.length_append,qja,qid,qjs]
      rw [if_pos (by omega),if_pos (by omega),if_pos (by omega),if_pos (by omega),if_pos (by omega),if_pos (by omega),qb1 (by omega) (by omega)]
      have e:acc++(chars (leb (x.qag+1).toNat 1)++cb x.Own++cb x.Shared++chars (leb x.Kind.toNat 1))++(pb x.Load++chars (leb x.qa6.toNat 4))=acc++busB x:=by
        unfold busB;simp only [List.append_assoc]
      rw [e]
      have:=qtd m (i+1) (acc++busB x) (by omega) (by omega) (by rw [List.length_append,busB_len];omega)
      rw [List.append_assoc acc] at this
      exact this
include hs
theorem head_spec:qh3 n g=some (qnu g):=by
  unfold qh3
  rw [qmm (n:=n) (by omega) hs,Option.bind_some]
  unfold grd
  rw [if_pos (by rw [qjs];decide),show (1:Int)=((1:Nat):Int) from rfl,qmd hn (z:=(g.qa1.qac.length:Int)) ⟨by omega,by omega⟩ 1 (by omega),Option.bind_some,if_pos (by rw [List.length_append,qjs,qja];decide)]
  have:=qtd hn hb ht lb lt n 0 ([70,68,82,49]++pb g.qa1.Source++chars (leb g.qa1.qac.length 1)) (by omega) (by omega) (by rw [List.length_append,List.length_append,qjs,qja];decide)
  rw [List.drop_zero] at this
  rw [Int.toNat_natCast]
  exact this
end
end Go.Proofs.Ytmllgpkgjniomaa.AWN

namespace Go.Proofs.Ytmllgpkgjniomaa.AWN
open Go
theorem upTo_shift:∀ (k:Nat) (f:Nat→Str) (o:Str),upTo f o (k+1)=upTo (fun i=>f (i+1)) (o++f 0) k:=by
  intro k
  induction k with
  | zero=>intro f o;rfl
  | succ k ih =>
    intro f o
    show upTo f o (k+1)++f (k+1)=_
    rw [ih f o];rfl
theorem qqy:∀ (ps:List Str) (o:Str) (f:Nat→Str),(∀ k,k < ps.length→f k=ps.getD k [])→upTo f o ps.length=o++ps.flatten:=by
  intro ps
  induction ps with
  | nil=>intro o f _;show o=o++[];rw [List.append_nil]
  | cons x l ih =>
    intro o f h
    rw [List.length_cons,upTo_shift,ih (o++f 0) (fun i=>f (i+1)) fun k hk=>by
      rw [h (k+1) (by rw [List.length_cons];omega)];rfl]
    rw [h 0 (by rw [List.length_cons];omega)]
    simp
def bus6 (b:SBus):T6:=(chars (leb (b.qag+1).toNat 1),cb b.Own,cb b.Shared,chars (leb b.Kind.toNat 1),pb b.Load,chars (leb b.qa6.toNat 4))
def tie5 (t:STie):T5:=(chars (leb t.A.toNat 1),chars (leb t.B.toNat 1),cb t.Own,cb t.Shared,chars (leb t.Most.toNat 4))
section
variable {n:Nat} (hn:100≤n)
include hn
theorem qkg {z:Int} (h:0≤z∧z < 4294967296) (k:Nat) (h4:k≤4):qb7 n z (k:Int)=some (chars (leb z.toNat k)):=by
  obtain ⟨x,rfl⟩:=Int.eq_ofNat_of_zero_le h.1
  exact qgb (by omega) (by omega) k h4
theorem qmh {c:Cx} (hc:CxOk c):qbr n c=some (cb c):=by
  unfold qbr
  rw [qku n hc.1,Option.bind_some,show (4:Int)=((4:Nat):Int) from rfl,qgb (by omega) (qpz hc.1) 4 (by omega),Option.bind_some,qku n hc.2,Option.bind_some,qgb (by omega) (qpz hc.2) 4 (by omega),Option.bind_some]
  unfold grd
  rw [if_pos (by rw [qja,qja];decide)]
  rfl
variable {g:qbi} (hb:∀ b ∈ g.qa1.qac,BOk b) (ht:∀ t ∈ g.Ties,TOk t) (hs:PhOk g.qa1.Source) (lb:g.qa1.qac.length≤50) (lt:g.Ties.length≤50)
include hb ht lb lt hs
theorem stored_is:qii n g=some (qnu g):=by
  unfold qii qpq
  have e1:mapS (qr5 (qb7 n) (fun a b=>qbr n (Cx.mk a b)) (fun p=>qcb n (qaa.mk (Cx.mk p.a p.a') (Cx.mk p.b p.b') (Cx.mk p.c p.c')))) (g.qa1.qac.map qu0)=some (g.qa1.qac.map bus6):=by
    have:∀ l:List SBus,(∀ b ∈ l,BOk b)→mapS (qr5 (qb7 n) (fun a b=>qbr n (Cx.mk a b)) (fun p=>qcb n (qaa.mk (Cx.mk p.a p.a') (Cx.mk p.b p.b') (Cx.mk p.c p.c')))) (l.map qu0)=some (l.map bus6):=by
      intro l
      induction l with
      | nil=>intro _;rfl
      | cons b l ih =>
        intro h
        have hx:=h b List.mem_cons_self
        have hP:=hx.P
        rw [List.map_cons]
        unfold mapS
        rw [ih fun c hc=>h c (List.mem_cons_of_mem _ hc)]
        have:qr5 (qb7 n) (fun a b=>qbr n (Cx.mk a b)) (fun p=>qcb n (qaa.mk (Cx.mk p.a p.a') (Cx.mk p.b p.b') (Cx.mk p.c p.c'))) (qu0 b)=some (bus6 b):=by
          have w1:=qkg hn hx.P 1 (by omega)
          have w2:=qkg hn hx.K 1 (by omega)
          have w3:=qkg hn hx.C 4 (by omega)
          have o1:=qmh hn hx.own
          have o2:=qmh hn hx.shared
          have pp:=qp8 (n:=n) (by omega) hx.load
          show ((qb7 n (b.qag+1) ((1:Nat):Int)).bind fun p=>(qbr n b.Own).bind fun o=>(qbr n b.Shared).bind fun s=>(qb7 n b.Kind ((1:Nat):Int)).bind fun k=>(qcb n b.Load).bind fun l=>(qb7 n b.qa6 ((4:Nat):Int)).bind fun c=>grd ((p.length≤1000∧o.length≤1000∧s.length≤1000∧k.length≤1000∧l.length≤1000∧c.length≤1000)∧IntKind.i64.wrap (b.qag+1)=b.qag+1) (some (p,o,s,k,l,c)))=_
          rw [w1,Option.bind_some,o1,Option.bind_some,o2,Option.bind_some,w2,Option.bind_some,pp,Option.bind_some,w3,Option.bind_some]
          unfold grd
          rw [if_pos ⟨by simp only [qja,qid,qjs];decide,qb1 (by omega) (by omega)⟩]
          rfl
        rw [this];rfl
    exact this _ hb
  have e2:mapS (qrh (qb7 n) (fun a b=>qbr n (Cx.mk a b))) (g.Ties.map qu1)=some (g.Ties.map tie5):=by
    have:∀ l:List STie,(∀ b ∈ l,TOk b)→mapS (qrh (qb7 n) (fun a b=>qbr n (Cx.mk a b))) (l.map qu1)=some (l.map tie5):=by
      intro l
      induction l with
      | nil=>intro _;rfl
      | cons b l ih =>
        intro h
        have hx:=h b List.mem_cons_self
        rw [List.map_cons]
        unfold mapS
        rw [ih fun c hc=>h c (List.mem_cons_of_mem _ hc)]
        have:qrh (qb7 n) (fun a b=>qbr n (Cx.mk a b)) (qu1 b)=some (tie5 b):=by
          have w1:=qkg hn hx.A 1 (by omega)
          have w2:=qkg hn hx.B 1 (by omega)
          have w3:=qkg hn hx.M 4 (by omega)
          have o1:=qmh hn hx.own
          have o2:=qmh hn hx.shared
          show ((qb7 n b.A ((1:Nat):Int)).bind fun p=>(qb7 n b.B ((1:Nat):Int)).bind fun q=>(qbr n b.Own).bind fun o=>(qbr n b.Shared).bind fun s=>(qb7 n b.Most ((4:Nat):Int)).bind fun m=>grd (p.length≤1000∧q.length≤1000∧o.length≤1000∧s.length≤1000∧m.length≤1000) (some (p,q,o,s,m)))=_
          rw [w1,Option.bind_some,w2,Option.bind_some,o1,Option.bind_some,o2,Option.bind_some,w3,Option.bind_some]
          unfold grd
          rw [if_pos (by simp only [qja,qid];decide)]
          rfl
        rw [this];rfl
    exact this _ ht
  rw [e1,e2]
  have s1:qcb n g.qa1.Source=some (pb g.qa1.Source):=qp8 (by omega) hs
  have n1:=qkg hn (z:=(g.qa1.qac.length:Int)) ⟨by omega,by omega⟩ 1 (by omega)
  have n2:=qkg hn (z:=(g.Ties.length:Int)) ⟨by omega,by omega⟩ 1 (by omega)
  rw [Int.toNat_natCast] at n1 n2
  simp only [List.length_map]
  unfold grd
  rw [if_pos ⟨by omega,by omega⟩,show qcb n (qaa.mk (Cx.mk (qjd g.qa1.Source).a (qjd g.qa1.Source).a') (Cx.mk (qjd g.qa1.Source).b (qjd g.qa1.Source).b') (Cx.mk (qjd g.qa1.Source).c (qjd g.qa1.Source).c'))=some (pb g.qa1.Source) from s1,Option.bind_some,show qb7 n (g.qa1.qac.length:Int) (1:Int)=some (chars (leb g.qa1.qac.length 1)) from n1,Option.bind_some,show qb7 n (g.Ties.length:Int) (1:Int)=some (chars (leb g.Ties.length 1)) from n2,Option.bind_some,if_pos ⟨by rw [qjs];decide,by rw [qja];decide,by rw [qja];decide⟩,Option.bind_some,Option.bind_some]
  have u1:=qqy (g.qa1.qac.map busB) ([70,68,82,49]++pb g.qa1.Source++chars (leb g.qa1.qac.length 1)) (fun k=>((g.qa1.qac.map bus6).getD k d6).1++((g.qa1.qac.map bus6).getD k d6).2.1++((g.qa1.qac.map bus6).getD k d6).2.2.1++((g.qa1.qac.map bus6).getD k d6).2.2.2.1++((g.qa1.qac.map bus6).getD k d6).2.2.2.2.1++((g.qa1.qac.map bus6).getD k d6).2.2.2.2.2) (fun k hk=>by
    rw [List.length_map] at hk
    simp only [List.getD_eq_getElem?_getD,List.getElem?_map,List.getElem?_eq_getElem hk,Option.map_some,Option.getD_some]
    rfl)
  rw [List.length_map] at u1
  rw [u1]
  have u2:=qqy (g.Ties.map tieB) ([70,68,82,49]++pb g.qa1.Source++chars (leb g.qa1.qac.length 1)++(g.qa1.qac.map busB).flatten++chars (leb g.Ties.length 1)) (fun k=>((g.Ties.map tie5).getD k d5).1++((g.Ties.map tie5).getD k d5).2.1++((g.Ties.map tie5).getD k d5).2.2.1++((g.Ties.map tie5).getD k d5).2.2.2.1++((g.Ties.map tie5).getD k d5).2.2.2.2) (fun k hk=>by
    rw [List.length_map] at hk
    simp only [List.getD_eq_getElem?_getD,List.getElem?_map,List.getElem?_eq_getElem hk,Option.map_some,Option.getD_some]
    rfl)
  rw [List.length_map] at u2
  rw [u2]
  rfl
end
end Go.Proofs.Ytmllgpkgjniomaa.AWN

namespace Go.Proofs.Ytmllgpkgjniomaa.AWN
open Go
theorem qn7 (n:Nat) (x a b:Int):qdb n x a b=some (decide (a≤x∧x≤b)):=by
  unfold qdb
  by_cases h:x ≥ a
  · rw [if_pos h];congr 1;simp only [decide_eq_decide];exact ⟨fun g=>⟨h,g⟩,fun g=>g.2⟩
  · rw [if_neg h];congr 1;exact (decide_eq_false fun g=>h g.1).symm
theorem in_dec' (n:Nat) (x a b:Int):qfn n x a b=some (decide (a≤x∧x≤b)):=by
  unfold qfn
  by_cases h:x ≥ a
  · rw [if_pos h];congr 1;simp only [decide_eq_decide];exact ⟨fun g=>⟨h,g⟩,fun g=>g.2⟩
  · rw [if_neg h];congr 1;exact (decide_eq_false fun g=>h g.1).symm
def quc (c:Cx):Bool:=fcmp .eql .f32 c.re 0 && fcmp .eql .f32 c.im 0
def busV (b:SBus) (i:Nat):Bool:=decide (0≤b.Kind∧b.Kind≤2) && (decide (0≤b.qa6∧b.qa6≤1000000) && (if i=0 then decide (b.qag=-1) && (quc b.Own && quc b.Shared) else decide (0≤b.qag∧b.qag≤(i:Int) - 1)))
def tieV (t:STie) (k:Nat):Bool:=decide (0≤t.A∧t.A≤(k:Int) - 1) && (decide (0≤t.B∧t.B≤(k:Int) - 1) && (!decide (t.A=t.B) && decide (0≤t.Most∧t.Most≤16000000)))
theorem sbus_is (n:Nat) (b:SBus) (i:Nat) (hi:i≤1000):qhq n b (i:Int)=some (busV b i):=by
  unfold qhq busV quc
  rw [in_dec',Option.bind_some,in_dec']
  cases decide (0≤b.Kind∧b.Kind≤2) with
  | false=>rfl
  | true =>
    rw [if_pos rfl,Option.bind_some]
    unfold qg9
    cases decide (0≤b.qa6∧b.qa6≤1000000) with
    | false=>rfl
    | true =>
      rw [if_neg (by decide)]
      unfold qh0
      by_cases h0:i=0
      · subst h0
        rw [if_pos (by decide),if_pos rfl]
        by_cases hp:b.qag=-1
        · rw [if_pos hp,decide_eq_true hp]
          cases (fcmp .eql .f32 b.Own.re 0 && fcmp .eql .f32 b.Own.im 0) <;> rfl
        · rw [if_neg hp,decide_eq_false hp];rfl
      · rw [if_neg (by omega),if_neg h0,qb1 (by omega) (by omega),in_dec',Option.bind_some];rfl
theorem stie_is (n:Nat) (g:qbi) (t:STie) (hl:g.qa1.qac.length≤1000):qil n g t=some (tieV t g.qa1.qac.length):=by
  unfold qil qj3 tieV
  rw [qb1 (by omega) (by omega),in_dec',in_dec',in_dec']
  simp only [Option.bind_some]
  cases decide (0≤t.A∧t.A≤(g.qa1.qac.length:Int) - 1) with
  | false=>rfl
  | true =>
    cases decide (0≤t.B∧t.B≤(g.qa1.qac.length:Int) - 1) with
    | false=>rfl
    | true =>
      by_cases h:t.A=t.B
      · rw [if_pos rfl,if_pos rfl,if_pos h,decide_eq_true h];rfl
      · rw [if_pos rfl,if_pos rfl,if_neg h,decide_eq_false h];rfl
theorem itie_is (n:Nat) (t:STie) (k:Nat) (hl:k≤1000):qhl n t (k:Int)=some (tieV t k):=by
  unfold qhl tieV
  rw [qb1 (by omega) (by omega),qn7,qn7,qn7]
  simp only [Option.bind_some]
  by_cases h:t.A=t.B
  · rw [if_pos h,decide_eq_true h]
    cases decide (0≤t.A∧t.A≤(k:Int) - 1) <;> cases decide (0≤t.B∧t.B≤(k:Int) - 1) <;> rfl
  · rw [if_neg h,decide_eq_false h]
    cases decide (0≤t.A∧t.A≤(k:Int) - 1) <;> cases decide (0≤t.B∧t.B≤(k:Int) - 1) <;> rfl
end Go.Proofs.Ytmllgpkgjniomaa.AWN

namespace Go.Proofs.Ytmllgpkgjniomaa.AWN
open Go
def allV {α:Type} (f:α→Nat→Bool):List α→Nat→Bool
  | [],_=>true
  | a :: l,i=>f a i && allV f l (i+1)
theorem qun (n:Nat) (g:qbi) (hl:g.qa1.qac.length≤1000):∀ (m i:Nat),i≤g.qa1.qac.length→g.qa1.qac.length - i < m→qeb n g m (i:Int)=some (allV busV (g.qa1.qac.drop i) i)
  | 0,i,_,h=>by omega
  | m+1,i,hi,h=>by
    unfold qeb
    by_cases hk:i=g.qa1.qac.length
    · subst hk
      rw [if_neg (by omega),List.drop_length];rfl
    · have hlt:i < g.qa1.qac.length:=by omega
      rw [if_pos (by omega),getI_nat' hlt,Option.bind_some,sbus_is n _ i (by omega),Option.bind_some,List.drop_eq_getElem_cons hlt]
      unfold allV
      cases busV g.qa1.qac[i] i with
      | false=>rfl
      | true =>
        rw [if_pos rfl,qb1 (by omega) (by omega)]
        exact qun n g hl m (i+1) (by omega) (by omega)
theorem qv8 (n:Nat) (g:qbi) (hl:g.qa1.qac.length≤1000) (ht:g.Ties.length≤1000):∀ (m i:Nat),i≤g.Ties.length→g.Ties.length - i < m→qec n g m (i:Int)=some (allV (fun t _=>tieV t g.qa1.qac.length) (g.Ties.drop i) i)
  | 0,i,_,h=>by omega
  | m+1,i,hi,h=>by
    unfold qec
    by_cases hk:i=g.Ties.length
    · subst hk
      rw [if_neg (by omega),List.drop_length];rfl
    · have hlt:i < g.Ties.length:=by omega
      rw [if_pos (by omega),getI_nat' hlt,Option.bind_some,stie_is n g _ hl,Option.bind_some,List.drop_eq_getElem_cons hlt]
      unfold allV
      cases tieV g.Ties[i] g.qa1.qac.length with
      | false=>rfl
      | true =>
        rw [if_pos rfl,qb1 (by omega) (by omega)]
        exact qv8 n g hl ht m (i+1) (by omega) (by omega)
def qlk (g:qbi):Bool:=(decide (1≤g.qa1.qac.length∧g.qa1.qac.length≤16) && allV busV g.qa1.qac 0) && (decide (g.Ties.length≤6) && allV (fun t _=>tieV t g.qa1.qac.length) g.Ties 0)
theorem is_spec {n:Nat} (hn:300≤n) (g:qbi) (hl:g.qa1.qac.length≤255) (ht:g.Ties.length≤255):qi3 n g=some (qlk g):=by
  have f1:qi2 n g=some (decide (1≤g.qa1.qac.length∧g.qa1.qac.length≤16) && allV busV g.qa1.qac 0):=by
    unfold qi2 qfr
    by_cases h1:(g.qa1.qac.length:Int) < 1
    · rw [if_pos h1,if_pos rfl,decide_eq_false (by omega)];rfl
    · rw [if_neg h1]
      by_cases h2:(g.qa1.qac.length:Int) > 16
      · rw [if_pos (decide_eq_true h2),decide_eq_false (by omega)];rfl
      · rw [if_neg (by rw [decide_eq_true_eq];exact h2),decide_eq_true (show 1≤g.qa1.qac.length∧g.qa1.qac.length≤16 by omega)]
        have:=qun n g (by omega) n 0 (by omega) (by omega)
        rw [List.drop_zero] at this
        exact this
  unfold qi3 qlk
  rw [f1,Option.bind_some]
  cases (decide (1≤g.qa1.qac.length∧g.qa1.qac.length≤16) && allV busV g.qa1.qac 0) with
  | false=>rfl
  | true =>
    rw [if_pos rfl]
    unfold qfs
    by_cases h2:(g.Ties.length:Int) > 6
    · rw [if_pos (decide_eq_true h2),decide_eq_false (by omega)];rfl
    · rw [if_neg (by rw [decide_eq_true_eq];exact h2),decide_eq_true (show g.Ties.length≤6 by omega)]
      have:=qv8 n g (by omega) (by omega) n 0 (by omega) (by omega)
      rw [List.drop_zero] at this
      exact this
end Go.Proofs.Ytmllgpkgjniomaa.AWN

namespace Go.Proofs.Ytmllgpkgjniomaa.AWN
open Go
theorem ibus_is (n:Nat) (k:Int→Option Bool) (b:SBus) (i:Nat) (hi:i≤1000) :
    ((qhm n b.Kind).bind fun x132=>if x132=true then (qdb n b.qa6 (0:Int) (1000000:Int)).bind fun x134=>qco n k (i:Int) b (!x134) else qco n k (i:Int) b true)=if busV b i then k ((i+1:Nat):Int) else some false:=by
  have hw:w64 ((i:Int)+1)=((i+1:Nat):Int):=by rw [qb1 (by omega) (by omega)];omega
  have j6:∀ v:Bool,qd5 n k (i:Int) v=if v then some false else k ((i+1:Nat):Int):=fun v=>by
    unfold qd5 qf4
    rw [hw]
  unfold qhm busV quc
  rw [qn7,Option.bind_some,Option.bind_some,qn7]
  cases decide (0≤b.Kind∧b.Kind≤2) with
  | false=>rfl
  | true =>
    rw [if_pos rfl,Option.bind_some]
    unfold qco
    cases decide (0≤b.qa6∧b.qa6≤1000000) with
    | false=>rfl
    | true =>
      rw [if_neg (by decide)]
      unfold qcp
      by_cases h0:i=0
      · subst h0
        rw [if_pos (by decide),if_pos rfl]
        by_cases hp:b.qag=-1
        · rw [if_pos hp,decide_eq_true hp]
          cases (fcmp .eql .f32 b.Own.re 0 && fcmp .eql .f32 b.Own.im 0) with
          | false=>rfl
          | true =>
            cases (fcmp .eql .f32 b.Shared.re 0 && fcmp .eql .f32 b.Shared.im 0) with
            | false=>rfl
            | true =>
              rw [if_pos rfl,if_neg (by decide),if_neg (by decide),j6];rfl
        · rw [if_neg hp,decide_eq_false hp];rfl
      · rw [if_neg (by omega),if_neg h0,if_neg (by decide),if_pos (by omega),qb1 (n:=(i:Int) - 1) (by omega) (by omega),qn7,Option.bind_some,j6]
        cases decide (0≤b.qag∧b.qag≤(i:Int) - 1) <;> rfl
theorem quj (n:Nat) (f:qck) (hl:f.qac.length≤1000):∀ (m i:Nat),i≤f.qac.length→f.qac.length - i < m→qb3 n f m (i:Int)=some (allV busV (f.qac.drop i) i && decide (1≤f.qac.length∧f.qac.length≤16))
  | 0,i,_,h=>by omega
  | m+1,i,hi,h=>by
    unfold qb3
    by_cases hk:i=f.qac.length
    · subst hk
      rw [if_neg (by omega),List.drop_length]
      unfold qf3
      rw [qn7,Option.bind_some]
      unfold allV
      rw [Bool.true_and]
      congr 1
      rw [decide_eq_decide]
      omega
    · have hlt:i < f.qac.length:=by omega
      rw [if_pos (by omega),getI_nat' hlt,Option.bind_some,ibus_is n _ _ i (by omega),List.drop_eq_getElem_cons hlt]
      unfold allV
      cases busV f.qac[i] i with
      | false=>rfl
      | true =>
        rw [if_pos rfl]
        exact quj n f hl m (i+1) (by omega) (by omega)
theorem quk (n:Nat) (l:List STie) (k:Nat) (hk':k≤1000) (hl:l.length≤1000):∀ (m i:Nat),i≤l.length→l.length - i < m→∃ z,qcs n l (k:Int) m (i:Int)=some z∧(decide (z ≥ 0)=!allV (fun t _=>tieV t k) (l.drop i) i)
  | 0,i,_,h=>by omega
  | m+1,i,hi,h=>by
    unfold qcs
    by_cases hk:i=l.length
    · subst hk
      rw [if_neg (by omega),List.drop_length]
      exact ⟨-1,rfl,rfl⟩
    · have hlt:i < l.length:=by omega
      unfold qge
      rw [if_pos (by omega),getI_nat' hlt,Option.bind_some,itie_is n _ k hk',Option.bind_some,Option.bind_some,List.drop_eq_getElem_cons hlt]
      unfold allV
      cases tieV l[i] k with
      | false=>exact ⟨(i:Int),rfl,by rw [decide_eq_true (by omega)];rfl⟩
      | true =>
        rw [if_neg (by decide),qb1 (by omega) (by omega)]
        exact quk n l k hk' hl m (i+1) (by omega) (by omega)
theorem is_impl {n:Nat} (hn:300≤n) (g:qbi) (hl:g.qa1.qac.length≤255) (ht:g.Ties.length≤255):qg8 n g=some (qlk g):=by
  unfold qg8 qgd qlk
  have:=quj n g.qa1 (by omega) n 0 (by omega) (by omega)
  rw [List.drop_zero] at this
  rw [show (0:Int)=((0:Nat):Int) from rfl,this,Option.bind_some,Bool.and_comm]
  cases (decide (1≤g.qa1.qac.length∧g.qa1.qac.length≤16) && allV busV g.qa1.qac 0) with
  | false=>rfl
  | true =>
    rw [if_pos rfl]
    by_cases h2:(g.Ties.length:Int)≤6
    · rw [if_pos h2,decide_eq_true (show g.Ties.length≤6 by omega)]
      obtain ⟨z,e1,e2⟩:=quk n g.Ties g.qa1.qac.length (by omega) (by omega) n 0 (by omega) (by omega)
      unfold qf7 qgf
      rw [show (0:Int)=((0:Nat):Int) from rfl,e1,Option.bind_some,Option.bind_some]
      rw [List.drop_zero] at e2
      rw [show decide (z ≥ ((0:Nat):Int))=!allV (fun t _=>tieV t g.qa1.qac.length) g.Ties 0 from e2,Bool.not_not]
      rfl
    · rw [if_neg h2,decide_eq_false (by omega)];rfl
end Go.Proofs.Ytmllgpkgjniomaa.AWN

namespace Go.Proofs.Ytmllgpkgjniomaa.AWN
open Go
theorem qoz {α:Type} {f:α→Nat→Bool}:∀ {l:List α} {i:Nat},allV f l i=true→∀ a ∈ l,∃ j,j < i+l.length∧f a j=true
  | [],_,_,a,h=>nomatch h
  | b :: l,i,h,a,ha=>by
    unfold allV at h
    rw [Bool.and_eq_true] at h
    rcases List.mem_cons.1 ha with rfl | ha
    · exact ⟨i,by rw [List.length_cons];omega,h.1⟩
    · obtain ⟨j,h1,h2⟩:=qoz h.2 a ha
      exact ⟨j,by rw [List.length_cons];omega,h2⟩
structure WdG (g:qbi):Prop where
  src:PhOk g.qa1.Source
  bus:∀ b ∈ g.qa1.qac,CxOk b.Own∧CxOk b.Shared∧PhOk b.Load
  tie:∀ t ∈ g.Ties,CxOk t.Own∧CxOk t.Shared
theorem gridV_ok {g:qbi} (h:qlk g=true) (w:WdG g):(∀ b ∈ g.qa1.qac,BOk b)∧(∀ t ∈ g.Ties,TOk t)∧g.qa1.qac.length≤16∧g.Ties.length≤6:=by
  unfold qlk at h
  simp only [Bool.and_eq_true,decide_eq_true_eq] at h
  obtain ⟨⟨h1,h2⟩,h3,h4⟩:=h
  refine ⟨fun b hb=>?_,fun t ht=>?_,h1.2,h3⟩
  · obtain ⟨j,hj,hv⟩:=qoz h2 b hb
    obtain ⟨w1,w2,w3⟩:=w.bus b hb
    unfold busV at hv
    simp only [Bool.and_eq_true,decide_eq_true_eq] at hv
    obtain ⟨k1,k2,k3⟩:=hv
    refine ⟨?_,by omega,by omega,w1,w2,w3⟩
    by_cases h0:j=0
    · rw [if_pos h0] at k3
      simp only [Bool.and_eq_true,decide_eq_true_eq] at k3
      have:=k3.1
      omega
    · rw [if_neg h0] at k3
      have:=of_decide_eq_true k3
      omega
  · obtain ⟨j,hj,hv⟩:=qoz h4 t ht
    obtain ⟨w1,w2⟩:=w.tie t ht
    unfold tieV at hv
    simp only [Bool.and_eq_true,decide_eq_true_eq] at hv
    obtain ⟨k1,k2,k3,k4⟩:=hv
    exact ⟨by omega,by omega,by omega,w1,w2⟩
theorem qnq {n:Nat} (hn:300≤n) {g:qbi} (h:qlk g=true) (w:WdG g):qii n g=some (qnu g)∧qh3 n g=some (qnu g):=by
  obtain ⟨h1,h2,h3,h4⟩:=gridV_ok h w
  exact ⟨stored_is (by omega) h1 h2 w.src (by omega) (by omega),head_spec (by omega) h1 h2 w.src (by omega) (by omega)⟩
end Go.Proofs.Ytmllgpkgjniomaa.AWN

namespace Go.Proofs.Ytmllgpkgjniomaa.AWN
open Go
def qj9 (t:Str) (a:Nat):Nat→List SBus
  | 0=>[]
  | k+1=>busA t a :: qj9 t (a+46) k
def qlu (t:Str) (a:Nat):Nat→List STie
  | 0=>[]
  | k+1=>tieA t a :: qlu t (a+22) k
theorem qnz (t:Str):∀ k a,(qj9 t a k).length=k
  | 0,_=>rfl
  | k+1,a=>by unfold qj9;rw [List.length_cons,qnz t k]
theorem qqw (t:Str):∀ k a,(qlu t a k).length=k
  | 0,_=>rfl
  | k+1,a=>by unfold qlu;rw [List.length_cons,qqw t k]
def ql2:qbi:=qbi.mk (qck.mk (qaa.mk (Cx.mk (0:Nat) (0:Nat)) (Cx.mk (0:Nat) (0:Nat)) (Cx.mk (0:Nat) (0:Nat))) ([]:List SBus)) ([]:List STie)
section
variable {n:Nat} (hn:300≤n) (t:Str) (ht:t.length≤1099511627776)
include hn ht
theorem qul (x49:qaa × qaz) (bs:List SBus) (nt:Nat) (hnt:nt≤255) (x:Int × qaz) (hx:x.1=(nt:Int)):∀ (m j a:Nat) (ts:List STie),j≤nt→nt - j < m→a+22*(nt - j)≤t.length→ts.length=j →
    qbx n t x49 bs x m t (a:Int) false ts (j:Int)=qej n t x49 bs t ((a+22*(nt - j):Nat):Int) false (ts++qlu t a (nt - j))
  | 0,j,a,ts,_,h,_,_=>by omega
  | m+1,j,a,ts,hj,h,ha,hl=>by
    unfold qbx
    rw [hx]
    by_cases hk:j=nt
    · subst hk
      rw [if_neg (by omega),Nat.sub_self]
      unfold qlu
      rw [List.append_nil]
      rfl
    · rw [if_pos (by omega),itie_some (by omega) ht a (by omega),Option.bind_some]
      unfold grd
      rw [if_pos (by unfold room;omega),qb1 (by omega) (by omega)]
      have:=qul x49 bs nt hnt x hx m (j+1) (a+22) (ts++[tieA t a]) (by omega) (by omega) (by omega) (by rw [List.length_append,List.length_singleton];omega)
      rw [show nt - j=(nt - (j+1))+1 by omega]
      unfold qlu
      rw [List.append_assoc,List.singleton_append] at this
      rw [show a+22*(nt - (j+1)+1)=a+22+22*(nt - (j+1)) by omega]
      exact this
theorem qum (x49:qaa × qaz) (nb:Nat) (hnb:nb≤255) (x:Int × qaz) (hx:x.1=(nb:Int)) (A:List SBus) (B C:List STie):∀ (m j a:Nat) (bs:List SBus),j≤nb→nb - j < m→a+46*(nb - j)≤t.length→bs.length=j →
    qbt n t x49 x m A B t (a:Int) false bs C (j:Int)=qdj n t x49 A B t ((a+46*(nb - j):Nat):Int) false (bs++qj9 t a (nb - j)) C
  | 0,j,a,bs,_,h,_,_=>by omega
  | m+1,j,a,bs,hj,h,ha,hl=>by
    unfold qbt
    rw [hx]
    by_cases hk:j=nb
    · subst hk
      rw [if_neg (by omega),Nat.sub_self]
      unfold qj9
      rw [List.append_nil]
      rfl
    · rw [if_pos (by omega),ibus_some (by omega) ht a (by omega),Option.bind_some]
      unfold grd
      rw [if_pos (by unfold room;omega),qb1 (by omega) (by omega)]
      have:=qum x49 nb hnb x hx A B C m (j+1) (a+46) (bs++[busA t a]) (by omega) (by omega) (by omega) (by rw [List.length_append,List.length_singleton];omega)
      rw [show nb - j=(nb - (j+1))+1 by omega]
      unfold qj9
      rw [List.append_assoc,List.singleton_append] at this
      rw [show a+46*(nb - (j+1)+1)=a+46+46*(nb - (j+1)) by omega]
      exact this
end
end Go.Proofs.Ytmllgpkgjniomaa.AWN

namespace Go.Proofs.Ytmllgpkgjniomaa.AWN
open Go
section
variable {n:Nat} (hn:300≤n) (t:Str) (ht:t.length≤1099511627776)
include hn ht
theorem qur (x59:qaa × qb0) (bs:List SBus):∀ (m k a:Nat) (ts:List STie),k < m→k≤255→a+22*k≤t.length→ts.length+k≤255 →
    qbj n t x59 bs m ts t (a:Int) true (k:Int)=qdr n t x59 bs (ts++qlu t a k) t ((a+22*k:Nat):Int) true
  | 0,k,a,ts,h,_,_,_=>by omega
  | m+1,k,a,ts,h,hk',ha,hl=>by
    unfold qbj qem
    by_cases hk:k=0
    · subst hk
      rw [if_neg (by omega),if_neg (by decide)]
      unfold qlu
      rw [List.append_nil]
      rfl
    · obtain ⟨k,rfl⟩:∃ j,k=j+1:=⟨k - 1,by omega⟩
      rw [if_pos (by omega),if_pos rfl]
      unfold qf9
      rw [stie_some (by omega) ht a true (by omega),Option.bind_some]
      unfold grd
      rw [if_pos (by unfold room;omega),qb1 (by omega) (by omega)]
      have:=qur x59 bs m k (a+22) (ts++[tieA t a]) (by omega) (by omega) (by omega) (by rw [List.length_append,List.length_singleton];omega)
      unfold qlu
      rw [List.append_assoc,List.singleton_append] at this
      rw [show ((k+1:Nat):Int) - 1=(k:Int) by omega,show a+22*(k+1)=a+22+22*k by omega]
      exact this
theorem qus (x59:qaa × qb0) (A:List SBus) (B:List STie):∀ (m k a:Nat) (bs:List SBus),k < m→k≤255→a+46*k≤t.length→bs.length+k≤255 →
    qbk n t x59 m A B bs t (a:Int) true (k:Int)=qdq n t x59 A B (bs++qj9 t a k) t ((a+46*k:Nat):Int) true
  | 0,k,a,bs,h,_,_,_=>by omega
  | m+1,k,a,bs,h,hk',ha,hl=>by
    unfold qbk qen
    by_cases hk:k=0
    · subst hk
      rw [if_neg (by omega),if_neg (by decide)]
      unfold qj9
      rw [List.append_nil]
      rfl
    · obtain ⟨k,rfl⟩:∃ j,k=j+1:=⟨k - 1,by omega⟩
      rw [if_pos (by omega),if_pos rfl]
      unfold qfa
      rw [sbus_some (by omega) ht a true (by omega),Option.bind_some]
      unfold grd
      rw [if_pos (by unfold room;omega),qb1 (by omega) (by omega)]
      have:=qus x59 A B m k (a+46) (bs++[busA t a]) (by omega) (by omega) (by omega) (by rw [List.length_append,List.length_singleton];omega)
      unfold qj9
      rw [List.append_assoc,List.singleton_append] at this
      rw [show ((k+1:Nat):Int) - 1=(k:Int) by omega,show a+46*(k+1)=a+46+46*k by omega]
      exact this
end
end Go.Proofs.Ytmllgpkgjniomaa.AWN

namespace Go.Proofs.Ytmllgpkgjniomaa.AWN
open Go
section
variable {n:Nat} (hn:300≤n) (t:Str) (ht:t.length≤1099511627776)
include hn ht
theorem qpa (x49:qaa × qaz) (bs:List SBus) (x:Int × qaz) (hx:x.1≤255):∀ (m j a:Nat) (f:Bool) (ts:List STie),260 - j≤m→j≤260→a≤t.length→ts.length=j→(f=false ∨ ∃ k:Nat,x.1=((j+k:Nat):Int)∧t.length < a+22*k) →
    qbx n t x49 bs x (m+1) t (a:Int) (!f) ts (j:Int)=some (ql2,0,false)
  | m,j,a,f,ts,h,hj,ha,hl,hf=>by
    have stop:¬ ((j:Int) < x.1)→qbx n t x49 bs x (m+1) t (a:Int) (!f) ts (j:Int)=some (ql2,0,false):=fun hlt=>by
      have hf':f=false:=by
        rcases hf with hf | ⟨k,h1,h2⟩
        · exact hf
        · have:k=0:=by omega
          subst this;omega
      subst hf'
      unfold qbx
      rw [if_neg hlt]
      rfl
    by_cases hlt:(j:Int) < x.1
    · cases m with
      | zero=>omega
      | succ m =>
        obtain ⟨c,a',f',e,la,p,q,r⟩:=itie_tot (by omega:6≤n) t ht a f ha
        have e:qea n ⟨t,a,!f⟩=some (c,⟨t,a',!f'⟩):=e
        unfold qbx
        rw [if_pos hlt,e,Option.bind_some]
        unfold grd
        rw [if_pos (by unfold room;omega),qb1 (by omega) (by omega)]
        refine qpa x49 bs x hx m (j+1) a' f' (ts++[c]) (by omega) (by omega) la (by rw [List.length_append,List.length_singleton];omega) ?_
        cases f' with
        | false=>exact .inl rfl
        | true =>
          right
          rcases hf with hf | ⟨k,h1,h2⟩
          · have:=r hf;cases this
          · have hft:f=true:=by
              cases f with
              | true=>rfl
              | false=>have:=r rfl;cases this
            have hen:a+22≤t.length:=by
              rcases Nat.lt_or_ge t.length (a+22) with h' | h'
              · have:=q h';cases this
              · exact h'
            obtain ⟨g1,_⟩:=p hft hen
            obtain ⟨k,rfl⟩:∃ i,k=i+1:=⟨k - 1,by omega⟩
            exact ⟨k,by omega,by omega⟩
    · exact stop hlt
  termination_by m=>m
theorem ij1_short (x49:qaa × qaz) (A:List SBus) (B:List STie) (a:Nat) (bs:List SBus) (ha:a≤t.length):qdj n t x49 A B t (a:Int) true bs ([]:List STie)=some (ql2,0,false):=by
  unfold qdj
  have e:qal n ⟨t,a,true⟩ (1:Int)=some (0,⟨t,a,true⟩):=rfl
  rw [e,Option.bind_some]
  obtain ⟨m,rfl⟩:∃ m,n=m+1:=⟨n - 1,by omega⟩
  have:=qpa hn t ht x49 bs (0,⟨t,a,true⟩) (by show (0:Int)≤255;decide) m 0 a false [] (by omega) (by omega) ha rfl (.inl rfl)
  exact this
theorem qpb (x49:qaa × qaz) (A:List SBus) (B:List STie) (x:Int × qaz) (hx:x.1≤255):∀ (m j a:Nat) (f:Bool) (bs:List SBus),260 - j≤m→j≤260→a≤t.length→bs.length=j→(f=false ∨ ∃ k:Nat,x.1=((j+k:Nat):Int)∧t.length < a+46*k) →
    qbt n t x49 x (m+1) A B t (a:Int) (!f) bs ([]:List STie) (j:Int)=some (ql2,0,false)
  | m,j,a,f,bs,h,hj,ha,hl,hf=>by
    have stop:¬ ((j:Int) < x.1)→qbt n t x49 x (m+1) A B t (a:Int) (!f) bs ([]:List STie) (j:Int)=some (ql2,0,false):=fun hlt=>by
      have hf':f=false:=by
        rcases hf with hf | ⟨k,h1,h2⟩
        · exact hf
        · have:k=0:=by omega
          subst this;omega
      subst hf'
      unfold qbt
      rw [if_neg hlt]
      exact ij1_short hn t ht x49 A B a bs ha
    by_cases hlt:(j:Int) < x.1
    · cases m with
      | zero=>omega
      | succ m =>
        obtain ⟨c,a',f',e,la,p,q,r⟩:=ibus_tot (by omega:6≤n) t ht a f ha
        have e:qe9 n ⟨t,a,!f⟩=some (c,⟨t,a',!f'⟩):=e
        unfold qbt
        rw [if_pos hlt,e,Option.bind_some]
        unfold grd
        rw [if_pos (by unfold room;omega),qb1 (by omega) (by omega)]
        refine qpb x49 A B x hx m (j+1) a' f' (bs++[c]) (by omega) (by omega) la (by rw [List.length_append,List.length_singleton];omega) ?_
        cases f' with
        | false=>exact .inl rfl
        | true =>
          right
          rcases hf with hf | ⟨k,h1,h2⟩
          · have:=r hf;cases this
          · have hft:f=true:=by
              cases f with
              | true=>rfl
              | false=>have:=r rfl;cases this
            have hen:a+46≤t.length:=by
              rcases Nat.lt_or_ge t.length (a+46) with h' | h'
              · have:=q h';cases this
              · exact h'
            obtain ⟨g1,_⟩:=p hft hen
            obtain ⟨k,rfl⟩:∃ i,k=i+1:=⟨k - 1,by omega⟩
            exact ⟨k,by omega,by omega⟩
    · exact stop hlt
  termination_by m=>m
end
end Go.Proofs.Ytmllgpkgjniomaa.AWN

namespace Go.Proofs.Ytmllgpkgjniomaa.AWN
open Go
def qnw (r:Option (qbi × Int × Bool)):Prop:=∃ g e,r=some (g,e,false)
section
variable {n:Nat} (hn:300≤n) (t:Str) (ht:t.length≤1099511627776)
include hn ht
omit hn ht in
theorem quq (x59:qaa × qb0) (bs:List SBus) (ts:List STie) (a:Int):qnw (qdr n t x59 bs ts t a false):=⟨_,_,rfl⟩
theorem qnn (x59:qaa × qb0) (bs:List SBus):∀ (m k a:Nat) (f:Bool) (ts:List STie),k < m→k≤255→a≤t.length→ts.length+k≤255→(f=false ∨ t.length < a+22*k) →
    qnw (qbj n t x59 bs m ts t (a:Int) f (k:Int))
  | 0,k,a,f,ts,h,_,_,_,_=>by omega
  | m+1,k,a,f,ts,h,hk',ha,hl,hf=>by
    unfold qbj qem
    by_cases hk:k=0
    · subst hk
      have hf':f=false:=by
        rcases hf with hf | h2
        · exact hf
        · omega
      subst hf'
      rw [if_neg (by omega),if_neg (by decide)]
      exact quq t x59 bs ts a
    · obtain ⟨k,rfl⟩:∃ j,k=j+1:=⟨k - 1,by omega⟩
      rw [if_pos (by omega)]
      cases f with
      | false =>
        rw [if_neg (by decide)]
        exact quq t x59 bs ts a
      | true =>
        rw [if_pos rfl]
        unfold qf9
        obtain ⟨c,a',f',e,la,p,q,r⟩:=stie_tot (by omega:6≤n) t ht a true ha
        have e:qdu n ⟨t,a,true⟩=some (c,⟨t,a',f'⟩):=e
        rw [e,Option.bind_some]
        unfold grd
        rw [if_pos (by unfold room;omega),qb1 (by omega) (by omega),show ((k+1:Nat):Int) - 1=(k:Int) by omega]
        refine qnn x59 bs m k a' f' (ts++[c]) (by omega) (by omega) la (by rw [List.length_append,List.length_singleton];omega) ?_
        cases f' with
        | false=>exact .inl rfl
        | true =>
          right
          have hen:a+22≤t.length:=by
            rcases Nat.lt_or_ge t.length (a+22) with h' | h'
            · have:=q h';cases this
            · exact h'
          obtain ⟨g1,_⟩:=p rfl hen
          rcases hf with hf | h2
          · cases hf
          · omega
theorem qup (x59:qaa × qb0) (A:List SBus) (B:List STie) (bs:List SBus) (a:Nat) (ha:a≤t.length):qnw (qdq n t x59 A B bs t (a:Int) false):=by
  unfold qdq
  by_cases h:a+1≤t.length
  · have hv:=qrj t a 1 0 (by omega) (by decide)
    have hw:=qg2 (n:=n) (by omega) t a 1 false h (by omega) ht
    rw [show qaj n ⟨t,a,false⟩ (1:Int)=some (((vd t a 0 1:Nat):Int),⟨t,((a+1:Nat):Int),false⟩) from hw,Option.bind_some]
    have hb:vd t a 0 1≤255:=by
      have h8:(t.getD (a+0) 0).toNat < 256:=(t.getD (a+0) 0).toNat_lt
      have e:vd t a 0 1=0*256+(t.getD (a+0) 0).toNat:=by simp only [vd]
      rw [e]
      rw [Nat.zero_mul,Nat.zero_add]
      exact Nat.le_of_lt_succ h8
    exact qnn hn t ht x59 bs n (vd t a 0 1) (a+1) false [] (by omega) hb h (by simp;omega) (.inl rfl)
  · obtain ⟨c,a',f',e,la,p,q,r⟩:=qin (by omega:6≤n) t ht 1 (by omega) a false ha
    have e2:qaj n ⟨t,a,false⟩ (1:Int)=some (0,⟨t,a,false⟩):=by
      unfold qaj
      dsimp only
      rw [if_pos (by rw [qb1 (by omega) (by omega)];omega)]
    rw [e2,Option.bind_some]
    exact qnn hn t ht x59 bs n 0 a false [] (by omega) (by omega) ha (by simp) (.inl rfl)
theorem qno (x59:qaa × qb0) (A:List SBus) (B:List STie):∀ (m k a:Nat) (f:Bool) (bs:List SBus),k < m→k≤255→a≤t.length→bs.length+k≤255→(f=false ∨ t.length < a+46*k) →
    qnw (qbk n t x59 m A B bs t (a:Int) f (k:Int))
  | 0,k,a,f,bs,h,_,_,_,_=>by omega
  | m+1,k,a,f,bs,h,hk',ha,hl,hf=>by
    unfold qbk qen
    by_cases hk:k=0
    · subst hk
      have hf':f=false:=by
        rcases hf with hf | h2
        · exact hf
        · omega
      subst hf'
      rw [if_neg (by omega),if_neg (by decide)]
      exact qup hn t ht x59 A B bs a ha
    · obtain ⟨k,rfl⟩:∃ j,k=j+1:=⟨k - 1,by omega⟩
      rw [if_pos (by omega)]
      cases f with
      | false =>
        rw [if_neg (by decide)]
        exact qup hn t ht x59 A B bs a ha
      | true =>
        rw [if_pos rfl]
        unfold qfa
        obtain ⟨c,a',f',e,la,p,q,r⟩:=sbus_tot (by omega:6≤n) t ht a true ha
        have e:qdt n ⟨t,a,true⟩=some (c,⟨t,a',f'⟩):=e
        rw [e,Option.bind_some]
        unfold grd
        rw [if_pos (by unfold room;omega),qb1 (by omega) (by omega),show ((k+1:Nat):Int) - 1=(k:Int) by omega]
        refine qno x59 A B m k a' f' (bs++[c]) (by omega) (by omega) la (by rw [List.length_append,List.length_singleton];omega) ?_
        cases f' with
        | false=>exact .inl rfl
        | true =>
          right
          have hen:a+46≤t.length:=by
            rcases Nat.lt_or_ge t.length (a+46) with h' | h'
            · have:=q h';cases this
            · exact h'
          obtain ⟨g1,_⟩:=p rfl hen
          rcases hf with hf | h2
          · cases hf
          · omega
end
end Go.Proofs.Ytmllgpkgjniomaa.AWN

namespace Go.Proofs.Ytmllgpkgjniomaa.AWN
open Go
structure GOk (g:qbi):Prop where
  wd:WdG g
  v:qlk g=true
theorem GOk.few {g:qbi} (h:GOk g):1≤g.qa1.qac.length∧g.qa1.qac.length≤16∧g.Ties.length≤6:=by
  have h1:=h.v
  unfold qlk at h1
  simp only [Bool.and_eq_true,decide_eq_true_eq] at h1
  exact ⟨h1.1.1.1,h1.1.1.2,h1.2.1⟩
def Begins (n:Nat) (t:Str):Prop:=(qcw n t=some (ql2,0,false)∧qnw (qgr n t)) ∨ ∃ (g:qbi) (a:Nat),GOk g∧a≤t.length∧qnu g=sub t 0 (a:Int)∧qcw n t=some (g,(a:Int),true)∧qgr n t=some (g,(a:Int),true)
theorem qr0 (t:Str) (a:Nat):vd t a 0 1≤255:=by
  have h8:(t.getD (a+0) 0).toNat < 256:=(t.getD (a+0) 0).toNat_lt
  have e:vd t a 0 1=0*256+(t.getD (a+0) 0).toNat:=by simp only [vd]
  rw [e,Nat.zero_mul,Nat.zero_add]
  exact Nat.le_of_lt_succ h8
theorem qo0 {t:Str}:∀ {k a:Nat} {b:SBus},b ∈ qj9 t a k→∃ j,b=busA t j
  | 0,_,_,h=>nomatch h
  | k+1,a,b,h=>by
    unfold qj9 at h
    rcases List.mem_cons.1 h with rfl | h
    · exact ⟨_,rfl⟩
    · exact qo0 h
theorem qqx {t:Str}:∀ {k a:Nat} {b:STie},b ∈ qlu t a k→∃ j,b=tieA t j
  | 0,_,_,h=>nomatch h
  | k+1,a,b,h=>by
    unfold qlu at h
    rcases List.mem_cons.1 h with rfl | h
    · exact ⟨_,rfl⟩
    · exact qqx h
theorem wd_read (t:Str) (a b c k j:Nat):WdG ⟨⟨phA t a,qj9 t b k⟩,qlu t c j⟩ :=
  ⟨qsh t a,fun x hx=>by obtain ⟨i,rfl⟩:=qo0 hx;exact ⟨⟨qjq _ _,qjq _ _⟩,⟨qjq _ _,qjq _ _⟩,qsh _ _⟩,
    fun x hx=>by obtain ⟨i,rfl⟩:=qqx hx;exact ⟨⟨qjq _ _,qjq _ _⟩,⟨qjq _ _,qjq _ _⟩⟩⟩
section
variable {n:Nat} (hn:300≤n) (t:Str) (ht:t.length≤1099511627776)
include hn ht
theorem ij2_is (x49:qaa × qaz) (bs:List SBus) (ts:List STie) (a:Nat) (ha:a≤t.length) (hb:bs.length≤255) (hs:ts.length≤255) (w:WdG ⟨⟨x49.1,bs⟩,ts⟩) :
    qej n t x49 bs t (a:Int) false ts=if qlk ⟨⟨x49.1,bs⟩,ts⟩=true∧qnu ⟨⟨x49.1,bs⟩,ts⟩=sub t 0 (a:Int) then some (⟨⟨x49.1,bs⟩,ts⟩,(a:Int),true) else some (ql2,0,false):=by
  unfold qej
  rw [if_neg (by decide),is_impl hn _ hb hs,Option.bind_some]
  by_cases h:qlk ⟨⟨x49.1,bs⟩,ts⟩=true
  · rw [if_pos h]
    unfold grd
    rw [if_pos (by omega),(qnq hn h w).1,Option.bind_some]
    unfold qek
    by_cases he:qnu ⟨⟨x49.1,bs⟩,ts⟩=sub t 0 (a:Int)
    · rw [decide_eq_true he,if_neg (by decide),if_pos ⟨h,he⟩]
      rfl
    · rw [decide_eq_false he,if_pos (by decide),if_neg (fun h'=>he h'.2)]
      rfl
  · rw [if_neg h,if_neg (fun h'=>h h'.1)]
    rfl
theorem sj3_is (x59:qaa × qb0) (bs:List SBus) (ts:List STie) (a:Nat) (ha:a≤t.length) (hb:bs.length≤255) (hs:ts.length≤255) (w:WdG ⟨⟨x59.1,bs⟩,ts⟩) :
    qdr n t x59 bs ts t (a:Int) true=some (⟨⟨x59.1,bs⟩,ts⟩,(a:Int),decide (qlk ⟨⟨x59.1,bs⟩,ts⟩=true∧qnu ⟨⟨x59.1,bs⟩,ts⟩=sub t 0 (a:Int))):=by
  unfold qdr
  rw [if_pos (by decide),is_spec hn _ hb hs,Option.bind_some]
  by_cases h:qlk ⟨⟨x59.1,bs⟩,ts⟩=true
  · rw [if_pos h]
    unfold grd
    rw [if_pos (by omega),(qnq hn h w).2,Option.bind_some]
    congr 3
    rw [decide_eq_decide]
    exact ⟨fun h'=>⟨h,h'⟩,fun h'=>h'.2⟩
  · rw [if_neg h,decide_eq_false (fun h'=>h h'.1)]
theorem qod (a:Nat) (h:t.length < a+1) (ha:a≤t.length):qal n ⟨t,a,false⟩ (1:Int)=some (0,⟨t,a,true⟩):=by
  unfold qal
  dsimp only
  rw [if_neg (by decide),qb1 (by omega) (by omega),decide_eq_true (by omega)]
  rfl
theorem qle (a:Nat) (f:Bool) (h:t.length < a+1) (ha:a≤t.length):qaj n ⟨t,a,f⟩ (1:Int)=some (0,⟨t,a,false⟩):=by
  unfold qaj
  dsimp only
  rw [if_pos (by rw [qb1 (by omega) (by omega)];omega)]
def qu8 (n:Nat) (t:Str):Option (qbi × Int × Bool):=(qb9 n (qaz.mk t (4:Int) false)).bind fun x49 =>
    (qal n x49.2 (1:Int)).bind fun x141 =>
    qbt n t x49 x141 n ([]:List SBus) ([]:List STie) x141.2.s x141.2.at_ x141.2.short ([]:List SBus) ([]:List STie) (0:Int)
def qow (n:Nat) (t:Str):Prop:=(qu8 n t=some (ql2,0,false)∧qnw (qdp n t)) ∨ ∃ (g:qbi) (a:Nat),GOk g∧a≤t.length∧qnu g=sub t 0 (a:Int)∧qu8 n t=some (g,(a:Int),true)∧qdp n t=some (g,(a:Int),true)
theorem begins_28 (h4:4≤t.length) (h:t.length < 28):qow n t:=by
  left
  obtain ⟨m,rfl⟩:∃ m,n=m+1:=⟨n - 1,by omega⟩
  constructor
  · unfold qu8
    obtain ⟨c,a',f',e,la,p,q,r⟩:=qth (n:=m+1) (by omega) t ht 4 true h4
    have hf:=q (by omega)
    subst hf
    have e:qb9 (m+1) ⟨t,(4:Nat),false⟩=some (c,⟨t,a',true⟩):=e
    rw [show (4:Int)=((4:Nat):Int) from rfl,e,Option.bind_some]
    dsimp only
    have e2:qal (m+1) ⟨t,a',true⟩ (1:Int)=some (0,⟨t,a',true⟩):=rfl
    rw [e2,Option.bind_some]
    exact qpb hn t ht _ _ _ (0,⟨t,a',true⟩) (by show (0:Int)≤255;decide) m 0 a' false [] (by omega) (by omega) la rfl (.inl rfl)
  · unfold qdp
    obtain ⟨c,a',f',e,la,p,q,r⟩:=qty (n:=m+1) (by omega) t ht 4 true h4
    have hf:=q (by omega)
    subst hf
    have e:qba (m+1) ⟨t,(4:Nat),true⟩=some (c,⟨t,a',false⟩):=e
    rw [show (4:Int)=((4:Nat):Int) from rfl,e,Option.bind_some]
    dsimp only
    by_cases h1:a'+1≤t.length
    · rw [show qaj (m+1) ⟨t,a',false⟩ (1:Int)=some (((vd t a' 0 1:Nat):Int),⟨t,((a'+1:Nat):Int),false⟩) from qg2 (by omega) t a' 1 false h1 (by omega) ht,Option.bind_some]
      exact qno hn t ht _ _ _ (m+1) (vd t a' 0 1) (a'+1) false [] (by have:=qr0 t a';omega) (qr0 t a') h1 (by have:=qr0 t a';simp;omega) (.inl rfl)
    · rw [qle hn t ht a' false (by omega) la,Option.bind_some]
      exact qno hn t ht _ _ _ (m+1) 0 a' false [] (by omega) (by omega) la (by simp) (.inl rfl)
theorem begins_at (h4:4≤t.length):qow n t:=by
  by_cases h:t.length < 28
  · exact begins_28 hn t ht h4 h
  have eI:qb9 n ⟨t,(4:Nat),false⟩=some (phA t 4,⟨t,((28:Nat):Int),false⟩):=qmi (by omega) t ht 4 (by omega)
  have eS:qba n ⟨t,(4:Nat),true⟩=some (phA t 4,⟨t,((28:Nat):Int),true⟩):=qmf (by omega) t ht 4 true (by omega)
  unfold qow qu8 qdp
  rw [show (4:Int)=((4:Nat):Int) from rfl,eI,eS,Option.bind_some,Option.bind_some]
  dsimp only
  obtain ⟨m,rfl⟩:∃ m,n=m+1:=⟨n - 1,by omega⟩
  by_cases h28:t.length < 29
  · left
    rw [qod hn t ht 28 h28 (by omega),qle hn t ht 28 true h28 (by omega),Option.bind_some,Option.bind_some]
    exact ⟨qpb hn t ht _ _ _ (0,_) (by show (0:Int)≤255;decide) m 0 28 false [] (by omega) (by omega) (by omega) rfl (.inl rfl),qno hn t ht _ _ _ (m+1) 0 28 false [] (by omega) (by omega) (by omega) (by simp) (.inl rfl)⟩
  have n1:qal (m+1) ⟨t,((28:Nat):Int),false⟩ (1:Int)=some (((vd t 28 0 1:Nat):Int),⟨t,((29:Nat):Int),false⟩):=qfd (by omega) t 28 1 (by omega) (by omega) ht
  have w1:qaj (m+1) ⟨t,((28:Nat):Int),true⟩ (1:Int)=some (((vd t 28 0 1:Nat):Int),⟨t,((29:Nat):Int),true⟩):=qg2 (by omega) t 28 1 true (by omega) (by omega) ht
  rw [n1,w1,Option.bind_some,Option.bind_some]
  dsimp only
  have hb:=qr0 t 28
  generalize vd t 28 0 1=nb at hb n1 w1 ⊢
  by_cases h29:t.length < 29+46*nb
  · left
    exact ⟨qpb hn t ht _ _ _ (((nb:Nat):Int),_) (by show ((nb:Nat):Int)≤255;omega) m 0 29 true [] (by omega) (by omega) (by omega) rfl (.inr ⟨nb,by simp,h29⟩),qno hn t ht _ _ _ (m+1) nb 29 true [] (by omega) hb (by omega) (by simpa using hb) (.inr h29)⟩
  have i6:=qum hn t ht (phA t 4,⟨t,((28:Nat):Int),false⟩) nb hb (((nb:Nat):Int),⟨t,((29:Nat):Int),false⟩) rfl [] [] [] (m+1) 0 29 [] (by omega) (by omega) (by omega) rfl
  have s7:=qus hn t ht (phA t 4,⟨t,((28:Nat):Int),true⟩) [] [] (m+1) nb 29 [] (by omega) hb (by omega) (by simpa using hb)
  rw [Nat.sub_zero,List.nil_append] at i6
  rw [List.nil_append] at s7
  rw [show ((0:Nat):Int)=0 from rfl] at i6
  rw [i6,s7]
  have lB:=qnz t nb 29
  obtain ⟨a1,ea⟩:∃ a1,29+46*nb=a1:=⟨_,rfl⟩
  rw [ea]
  unfold qdj qdq
  by_cases hA:t.length < a1+1
  · left
    rw [qod hn t ht a1 hA (by omega),qle hn t ht a1 true hA (by omega),Option.bind_some,Option.bind_some]
    exact ⟨qpa hn t ht _ _ (0,_) (by show (0:Int)≤255;decide) m 0 a1 false [] (by omega) (by omega) (by omega) rfl (.inl rfl),qnn hn t ht _ _ (m+1) 0 a1 false [] (by omega) (by omega) (by omega) (by simp) (.inl rfl)⟩
  have n2:qal (m+1) ⟨t,(a1:Int),false⟩ (1:Int)=some (((vd t a1 0 1:Nat):Int),⟨t,((a1+1:Nat):Int),false⟩):=qfd (by omega) t a1 1 (by omega) (by omega) ht
  have w2:qaj (m+1) ⟨t,(a1:Int),true⟩ (1:Int)=some (((vd t a1 0 1:Nat):Int),⟨t,((a1+1:Nat):Int),true⟩):=qg2 (by omega) t a1 1 true (by omega) (by omega) ht
  rw [n2,w2,Option.bind_some,Option.bind_some]
  dsimp only
  have hc:=qr0 t a1
  generalize vd t a1 0 1=nt at hc n2 w2 ⊢
  by_cases hT:t.length < a1+1+22*nt
  · left
    exact ⟨qpa hn t ht _ _ (((nt:Nat):Int),_) (by show ((nt:Nat):Int)≤255;omega) m 0 (a1+1) true [] (by omega) (by omega) (by omega) rfl (.inr ⟨nt,by simp,hT⟩),qnn hn t ht _ _ (m+1) nt (a1+1) true [] (by omega) hc (by omega) (by simpa using hc) (.inr hT)⟩
  have i5:=qul hn t ht (phA t 4,⟨t,((28:Nat):Int),false⟩) (qj9 t 29 nb) nt hc (((nt:Nat):Int),⟨t,((a1+1:Nat):Int),false⟩) rfl (m+1) 0 (a1+1) [] (by omega) (by omega) (by omega) rfl
  have s4:=qur hn t ht (phA t 4,⟨t,((28:Nat):Int),true⟩) (qj9 t 29 nb) (m+1) nt (a1+1) [] (by omega) hc (by omega) (by simpa using hc)
  rw [Nat.sub_zero,List.nil_append] at i5
  rw [List.nil_append] at s4
  rw [show ((0:Nat):Int)=0 from rfl] at i5
  rw [i5,s4]
  have lT:=qqw t nt (a1+1)
  have hw:=wd_read t 4 29 (a1+1) nb nt
  rw [ij2_is hn t ht (phA t 4,⟨t,((28:Nat):Int),false⟩) _ _ _ (by omega) (by omega) (by omega) hw,sj3_is hn t ht (phA t 4,⟨t,((28:Nat):Int),true⟩) _ _ _ (by omega) (by omega) (by omega) hw]
  dsimp only
  by_cases hG:qlk ⟨⟨phA t 4,qj9 t 29 nb⟩,qlu t (a1+1) nt⟩=true∧qnu ⟨⟨phA t 4,qj9 t 29 nb⟩,qlu t (a1+1) nt⟩=sub t 0 ((a1+1+22*nt:Nat):Int)
  · right
    rw [if_pos hG,decide_eq_true hG]
    exact ⟨_,_,⟨hw,hG.1⟩,by omega,hG.2,rfl,rfl⟩
  · left
    rw [if_neg hG,decide_eq_false hG]
    exact ⟨rfl,_,_,rfl⟩
theorem begins:Begins n t:=by
  unfold Begins qcw qgr qg1 qep
  dsimp only [List.length_cons,List.length_nil]
  by_cases h4:(t.length:Int) < 4
  · rw [if_pos h4,if_neg (by omega)]
    left
    exact ⟨rfl,_,_,rfl⟩
  · rw [if_neg h4,if_pos (by omega)]
    unfold grd
    rw [if_pos (by omega),if_pos (by omega)]
    by_cases hp:sub t 0 4=([70,68,82,49]:Str)
    · have hp':sub t 0 ((0+1+1+1+1:Nat):Int)=([70,68,82,49]:Str):=hp
      rw [decide_eq_true hp',decide_eq_true hp]
      exact begins_at hn t ht (by omega)
    · have hp':¬ sub t 0 ((0+1+1+1+1:Nat):Int)=([70,68,82,49]:Str):=hp
      rw [decide_eq_false hp',decide_eq_false hp]
      left
      exact ⟨rfl,_,_,rfl⟩
end
end Go.Proofs.Ytmllgpkgjniomaa.AWN

namespace Go.Proofs.Ytmllgpkgjniomaa.AWN
open Go
def mkOk (k:Nat):Bool:=match qcf .f64 .f32 (FloatKind.nearest .f64 (k:Int)) with
  | some x=>fcmp .eql .f32 x x
  | none=>false
theorem mk_all:((List.range 1000).all mkOk)=true:=by kernel_rfl
theorem one_ok:(match qcf .f64 .f32 4607182418800017408 with | some x=>fcmp .eql .f32 x x | none=>false)=true:=by kernel_rfl
def mkV (k:Nat):Nat:=(qcf .f64 .f32 (FloatKind.nearest .f64 (k:Int))).getD 0
def oneV:Nat:=(qcf .f64 .f32 4607182418800017408).getD 0
theorem qgv {k:Nat} (h:k < 1000):qcf .f64 .f32 (FloatKind.nearest .f64 (k:Int))=some (mkV k)∧fcmp .eql .f32 (mkV k) (mkV k)=true:=by
  have:=List.all_eq_true.1 mk_all k (List.mem_range.2 h)
  unfold mkOk at this
  unfold mkV
  cases hc:qcf .f64 .f32 (FloatKind.nearest .f64 (k:Int)) with
  | some x=>rw [hc] at this;exact ⟨rfl,this⟩
  | none=>rw [hc] at this;cases this
theorem qkx:qcf .f64 .f32 4607182418800017408=some oneV∧fcmp .eql .f32 oneV oneV=true:=by
  have:=one_ok
  unfold oneV
  cases hc:qcf .f64 .f32 4607182418800017408 with
  | some x=>rw [hc] at this;exact ⟨rfl,this⟩
  | none=>rw [hc] at this;cases this
def qqh (k:Nat):SBus:=⟨(k:Int),⟨mkV (k+1),oneV⟩,⟨mkV (k+2),oneV⟩,((k+3:Nat):Int),⟨⟨mkV (k+4),oneV⟩,⟨mkV (k+5),oneV⟩,⟨mkV (k+6),oneV⟩⟩,((k+7:Nat):Int)⟩
def qqk (k:Nat):STie:=⟨(k:Int),((k+1:Nat):Int),⟨mkV (k+2),oneV⟩,⟨mkV (k+3),oneV⟩,((k+4:Nat):Int)⟩
theorem qn5 (n:Nat) (a:List SBus) (ha:a.length≤16) (s:Nat) (hs:s≤800) (hp:∀ j,j < a.length→a[j]?=some (qqh (s+8*j))):∀ (m i:Nat),i≤a.length→a.length - i < m →
    qdk n a m ((s+8*i:Nat):Int) (i:Int)=some ((s+8*a.length:Nat):Int)
  | 0,i,_,h=>by omega
  | m+1,i,hi,hm=>by
    unfold qdk
    by_cases h:i < a.length
    · have e:a[i]=qqh (s+8*i):=by
        have:=hp i h
        rw [List.getElem?_eq_getElem h] at this
        exact Option.some.inj this
      have w1:w64 (((s+8*i:Nat):Int)+1)=((s+8*i+1:Nat):Int):=by rw [qb1 (by omega) (by omega)];omega
      have w2:w64 (((s+8*i+1:Nat):Int)+1)=((s+8*i+2:Nat):Int):=by rw [qb1 (by omega) (by omega)];omega
      have w3:w64 (((s+8*i+2:Nat):Int)+1)=((s+8*i+3:Nat):Int):=by rw [qb1 (by omega) (by omega)];omega
      have w4:w64 (((s+8*i+3:Nat):Int)+1)=((s+8*i+4:Nat):Int):=by rw [qb1 (by omega) (by omega)];omega
      have w5:w64 (((s+8*i+4:Nat):Int)+1)=((s+8*i+5:Nat):Int):=by rw [qb1 (by omega) (by omega)];omega
      have w6:w64 (((s+8*i+5:Nat):Int)+1)=((s+8*i+6:Nat):Int):=by rw [qb1 (by omega) (by omega)];omega
      have w7:w64 (((s+8*i+6:Nat):Int)+1)=((s+8*i+7:Nat):Int):=by rw [qb1 (by omega) (by omega)];omega
      have w8:w64 (((s+8*i+7:Nat):Int)+1)=((s+8*(i+1):Nat):Int):=by rw [qb1 (by omega) (by omega)];omega
      have wi:w64 ((i:Int)+1)=((i+1:Nat):Int):=by rw [qb1 (by omega) (by omega)];omega
      have o1:=qgv (k:=s+8*i+1) (by omega)
      have o2:=qgv (k:=s+8*i+2) (by omega)
      have o4:=qgv (k:=s+8*i+4) (by omega)
      have o5:=qgv (k:=s+8*i+5) (by omega)
      have o6:=qgv (k:=s+8*i+6) (by omega)
      have o:=qkx
      have ih:=qn5 n a ha s hs hp m (i+1) (by omega) (by omega)
      rw [if_pos (by omega),getI_nat' h,e]
      simp only [w1,w2,w3,w4,w5,w6,w7,w8,wi,o1.1,o2.1,o4.1,o5.1,o6.1,o1.2,o2.2,o4.2,o5.2,o6.2,o.1,o.2,Option.bind_some,qqh,Bool.and_self,if_true,ih]
    · rw [if_neg (by omega),show i=a.length by omega]
theorem qn8 (n:Nat) (s:Nat) (hs:s≤800):∀ (m i:Nat) (a:List SBus),a.length≤16→i≤a.length→a.length - i < m→(∀ j,j < i→a[j]?=some (qqh (s+8*j))) →
    ∃ b,qdm n m a ((s+8*i:Nat):Int) (i:Int)=some (((s+8*a.length:Nat):Int),b)∧b.length=a.length∧∀ j,j < a.length→b[j]?=some (qqh (s+8*j))
  | 0,i,_,_,_,h,_=>by omega
  | m+1,i,a,ha,hi,hm,hp=>by
    unfold qdm
    by_cases h:i < a.length
    · have w1:w64 (((s+8*i:Nat):Int)+1)=((s+8*i+1:Nat):Int):=by rw [qb1 (by omega) (by omega)];omega
      have w2:w64 (((s+8*i+1:Nat):Int)+1)=((s+8*i+2:Nat):Int):=by rw [qb1 (by omega) (by omega)];omega
      have w3:w64 (((s+8*i+2:Nat):Int)+1)=((s+8*i+3:Nat):Int):=by rw [qb1 (by omega) (by omega)];omega
      have w4:w64 (((s+8*i+3:Nat):Int)+1)=((s+8*i+4:Nat):Int):=by rw [qb1 (by omega) (by omega)];omega
      have w5:w64 (((s+8*i+4:Nat):Int)+1)=((s+8*i+5:Nat):Int):=by rw [qb1 (by omega) (by omega)];omega
      have w6:w64 (((s+8*i+5:Nat):Int)+1)=((s+8*i+6:Nat):Int):=by rw [qb1 (by omega) (by omega)];omega
      have w7:w64 (((s+8*i+6:Nat):Int)+1)=((s+8*i+7:Nat):Int):=by rw [qb1 (by omega) (by omega)];omega
      have w8:w64 (((s+8*i+7:Nat):Int)+1)=((s+8*(i+1):Nat):Int):=by rw [qb1 (by omega) (by omega)];omega
      have wi:w64 ((i:Int)+1)=((i+1:Nat):Int):=by rw [qb1 (by omega) (by omega)];omega
      have o1:=qgv (k:=s+8*i+1) (by omega)
      have o2:=qgv (k:=s+8*i+2) (by omega)
      have o4:=qgv (k:=s+8*i+4) (by omega)
      have o5:=qgv (k:=s+8*i+5) (by omega)
      have o6:=qgv (k:=s+8*i+6) (by omega)
      have o:=qkx
      have gs0:∀ x,getI (a.set i x) (i:Int)=some x:=fun x=>by
        rw [getI_nat' (by rw [List.length_set];exact h)];simp
      obtain ⟨b,e,hl,hb⟩:=qn8 n s hs m (i+1) (a.set i (qqh (s+8*i))) (by simpa using ha) (by rw [List.length_set];omega) (by rw [List.length_set];omega) (fun j hj=>by
        rw [List.getElem?_set]
        by_cases hji:i=j
        · subst hji
          rw [if_pos rfl,if_pos h]
        · rw [if_neg hji]
          exact hp j (by omega))
      rw [List.length_set] at e hl hb
      refine ⟨b,?_,hl,hb⟩
      rw [if_pos (by omega),getI_nat' h]
      simp only [Int.toNat_natCast,w1,w2,w3,w4,w5,w6,w7,w8,wi,o1.1,o2.1,o4.1,o5.1,o6.1,o.1,Option.bind_some,List.set_set,gs0]
      exact e
    · rw [if_neg (by omega)]
      have:i=a.length:=by omega
      subst this
      exact ⟨a,rfl,rfl,hp⟩
theorem qs3 {n:Nat} (hn:17≤n) (a:List SBus) (ha:a.length≤16) (s:Nat) (hs:s≤800) (hp:∀ j,j < a.length→a[j]?=some (qqh (s+8*j))):qfw n a (s:Int)=some ((s+8*a.length:Nat):Int) :=
  qn5 n a ha s hs hp n 0 (Nat.zero_le _) (by omega)
theorem qs8 {n:Nat} (hn:17≤n) (a:List SBus) (ha:a.length≤16) (s:Nat) (hs:s≤800):∃ b,qfx n a (s:Int)=some (((s+8*a.length:Nat):Int),b)∧b.length=a.length∧∀ j,j < a.length→b[j]?=some (qqh (s+8*j)) :=
  qn8 n s hs n 0 a ha (Nat.zero_le _) (by omega) (fun j hj=>by omega)
theorem qn6 (n:Nat) (a:List STie) (ha:a.length≤16) (s:Nat) (hs:s≤800) (hp:∀ j,j < a.length→a[j]?=some (qqk (s+5*j))):∀ (m i:Nat),i≤a.length→a.length - i < m →
    qdl n a m ((s+5*i:Nat):Int) (i:Int)=some ((s+5*a.length:Nat):Int)
  | 0,i,_,h=>by omega
  | m+1,i,hi,hm=>by
    unfold qdl
    by_cases h:i < a.length
    · have e:a[i]=qqk (s+5*i):=by
        have:=hp i h
        rw [List.getElem?_eq_getElem h] at this
        exact Option.some.inj this
      have w1:w64 (((s+5*i:Nat):Int)+1)=((s+5*i+1:Nat):Int):=by rw [qb1 (by omega) (by omega)];omega
      have w2:w64 (((s+5*i+1:Nat):Int)+1)=((s+5*i+2:Nat):Int):=by rw [qb1 (by omega) (by omega)];omega
      have w3:w64 (((s+5*i+2:Nat):Int)+1)=((s+5*i+3:Nat):Int):=by rw [qb1 (by omega) (by omega)];omega
      have w4:w64 (((s+5*i+3:Nat):Int)+1)=((s+5*i+4:Nat):Int):=by rw [qb1 (by omega) (by omega)];omega
      have w5:w64 (((s+5*i+4:Nat):Int)+1)=((s+5*(i+1):Nat):Int):=by rw [qb1 (by omega) (by omega)];omega
      have wi:w64 ((i:Int)+1)=((i+1:Nat):Int):=by rw [qb1 (by omega) (by omega)];omega
      have o2:=qgv (k:=s+5*i+2) (by omega)
      have o3:=qgv (k:=s+5*i+3) (by omega)
      have o:=qkx
      have ih:=qn6 n a ha s hs hp m (i+1) (by omega) (by omega)
      rw [if_pos (by omega),getI_nat' h,e]
      simp only [w1,w2,w3,w4,w5,wi,o2.1,o3.1,o2.2,o3.2,o.1,o.2,Option.bind_some,qqk,Bool.and_self,if_true,ih]
    · rw [if_neg (by omega),show i=a.length by omega]
theorem qn9 (n:Nat) (s:Nat) (hs:s≤800):∀ (m i:Nat) (a:List STie),a.length≤16→i≤a.length→a.length - i < m→(∀ j,j < i→a[j]?=some (qqk (s+5*j))) →
    ∃ b,qdn n m a ((s+5*i:Nat):Int) (i:Int)=some (((s+5*a.length:Nat):Int),b)∧b.length=a.length∧∀ j,j < a.length→b[j]?=some (qqk (s+5*j))
  | 0,i,_,_,_,h,_=>by omega
  | m+1,i,a,ha,hi,hm,hp=>by
    unfold qdn
    by_cases h:i < a.length
    · have w1:w64 (((s+5*i:Nat):Int)+1)=((s+5*i+1:Nat):Int):=by rw [qb1 (by omega) (by omega)];omega
      have w2:w64 (((s+5*i+1:Nat):Int)+1)=((s+5*i+2:Nat):Int):=by rw [qb1 (by omega) (by omega)];omega
      have w3:w64 (((s+5*i+2:Nat):Int)+1)=((s+5*i+3:Nat):Int):=by rw [qb1 (by omega) (by omega)];omega
      have w4:w64 (((s+5*i+3:Nat):Int)+1)=((s+5*i+4:Nat):Int):=by rw [qb1 (by omega) (by omega)];omega
      have w5:w64 (((s+5*i+4:Nat):Int)+1)=((s+5*(i+1):Nat):Int):=by rw [qb1 (by omega) (by omega)];omega
      have wi:w64 ((i:Int)+1)=((i+1:Nat):Int):=by rw [qb1 (by omega) (by omega)];omega
      have o2:=qgv (k:=s+5*i+2) (by omega)
      have o3:=qgv (k:=s+5*i+3) (by omega)
      have o:=qkx
      have gs0:∀ x,getI (a.set i x) (i:Int)=some x:=fun x=>by
        rw [getI_nat' (by rw [List.length_set];exact h)];simp
      obtain ⟨b,e,hl,hb⟩:=qn9 n s hs m (i+1) (a.set i (qqk (s+5*i))) (by simpa using ha) (by rw [List.length_set];omega) (by rw [List.length_set];omega) (fun j hj=>by
        rw [List.getElem?_set]
        by_cases hji:i=j
        · subst hji
          rw [if_pos rfl,if_pos h]
        · rw [if_neg hji]
          exact hp j (by omega))
      rw [List.length_set] at e hl hb
      refine ⟨b,?_,hl,hb⟩
      rw [if_pos (by omega),getI_nat' h]
      simp only [Int.toNat_natCast,w1,w2,w3,w4,w5,wi,o2.1,o3.1,o.1,Option.bind_some,List.set_set,gs0]
      exact e
    · rw [if_neg (by omega)]
      have:i=a.length:=by omega
      subst this
      exact ⟨a,rfl,rfl,hp⟩
theorem qs4 {n:Nat} (hn:17≤n) (a:List STie) (ha:a.length≤16) (s:Nat) (hs:s≤800) (hp:∀ j,j < a.length→a[j]?=some (qqk (s+5*j))):qhf n a (s:Int)=some ((s+5*a.length:Nat):Int) :=
  qn6 n a ha s hs hp n 0 (Nat.zero_le _) (by omega)
theorem qs9 {n:Nat} (hn:17≤n) (a:List STie) (ha:a.length≤16) (s:Nat) (hs:s≤800):∃ b,qhg n a (s:Int)=some (((s+5*a.length:Nat):Int),b)∧b.length=a.length∧∀ j,j < a.length→b[j]?=some (qqk (s+5*j)) :=
  qn9 n s hs n 0 a ha (Nat.zero_le _) (by omega) (fun j hj=>by omega)
end Go.Proofs.Ytmllgpkgjniomaa.AWN

namespace Go.Proofs.Ytmllgpkgjniomaa.AWN
open Go
theorem ql4 (n a:Nat):qfc n a a=some true:=by
  unfold qfc qew qfy qev qfz
  rw [qsd]
  cases h:isnan .f64 a with
  | true=>rfl
  | false =>
    rw [if_neg (by decide),if_neg (by decide),eql_self,h]
    cases fcmp .eql .f64 a 0 <;> simp
theorem qj8 (n:Nat) (c:Cx):qbz n c c=some true:=by
  unfold qbz
  rw [ql4,Option.bind_some,if_pos rfl,ql4];rfl
theorem qk8 (n:Nat) (p:qaa):qf5 n p p=some true:=by
  obtain ⟨a1,e1,_⟩:=qgh p.A.re
  obtain ⟨a2,e2,_⟩:=qgh p.A.im
  obtain ⟨b1,f1,_⟩:=qgh p.B.re
  obtain ⟨b2,f2,_⟩:=qgh p.B.im
  obtain ⟨c1,g1,_⟩:=qgh p.C.re
  obtain ⟨c2,g2,_⟩:=qgh p.C.im
  unfold qf5
  simp only [e1,e2,f1,f2,g1,g2,Option.bind_some,qj8,if_true]
theorem eqBus_self (n:Nat) (p:SBus):qi8 n p p=some true:=by
  obtain ⟨a1,e1,_⟩:=qgh p.Own.re
  obtain ⟨a2,e2,_⟩:=qgh p.Own.im
  obtain ⟨b1,f1,_⟩:=qgh p.Shared.re
  obtain ⟨b2,f2,_⟩:=qgh p.Shared.im
  unfold qi8
  simp only [e1,e2,f1,f2,Option.bind_some,qj8,qk8,if_true]
theorem eqTie_self (n:Nat) (p:STie):qi9 n p p=some true:=by
  obtain ⟨a1,e1,_⟩:=qgh p.Own.re
  obtain ⟨a2,e2,_⟩:=qgh p.Own.im
  obtain ⟨b1,f1,_⟩:=qgh p.Shared.re
  obtain ⟨b2,f2,_⟩:=qgh p.Shared.im
  unfold qi9
  simp only [e1,e2,f1,f2,Option.bind_some,qj8,if_true]
theorem qq1 (n:Nat) (a:List SBus) (ha:a.length≤100):∀ (m i:Nat),i≤a.length→a.length - i < m→qdx n a a m (i:Int)=some true
  | 0,i,_,h=>by omega
  | m+1,i,hi,hm=>by
    unfold qdx
    by_cases h:i < a.length
    · rw [if_pos (by omega),getI_nat' h,Option.bind_some,Option.bind_some,eqBus_self,Option.bind_some,if_pos rfl,show w64 ((i:Int)+1)=((i+1:Nat):Int) by rw [qb1 (by omega) (by omega)];omega]
      exact qq1 n a ha m (i+1) (by omega) (by omega)
    · rw [if_neg (by omega)]
theorem qq2 (n:Nat) (a:List STie) (ha:a.length≤100):∀ (m i:Nat),i≤a.length→a.length - i < m→qdy n a a m (i:Int)=some true
  | 0,i,_,h=>by omega
  | m+1,i,hi,hm=>by
    unfold qdy
    by_cases h:i < a.length
    · rw [if_pos (by omega),getI_nat' h,Option.bind_some,Option.bind_some,eqTie_self,Option.bind_some,if_pos rfl,show w64 ((i:Int)+1)=((i+1:Nat):Int) by rw [qb1 (by omega) (by omega)];omega]
      exact qq2 n a ha m (i+1) (by omega) (by omega)
    · rw [if_neg (by omega)]
theorem eqGrid_self {n:Nat} (hn:101≤n) (g:qbi) (h1:g.qa1.qac.length≤100) (h2:g.Ties.length≤100):qho n g g=some true:=by
  unfold qho qhe qij qik
  have e1:=qq1 n g.qa1.qac h1 n 0 (Nat.zero_le _) (by omega)
  have e2:=qq2 n g.Ties h2 n 0 (Nat.zero_le _) (by omega)
  have e1:qdx n g.qa1.qac g.qa1.qac n 0=some true:=e1
  have e2:qdy n g.Ties g.Ties n 0=some true:=e2
  simp only [qk8,e1,e2,Option.bind_some,if_true]
theorem mark_grid {n:Nat} (hn:101≤n) (g:qbi) (h1:g.qa1.qac.length≤16) (h2:g.Ties.length≤16):∃ (k:Nat) (b1:List SBus) (b2:List STie),qd7 n g 1=some ((k:Int),b1,b2)∧b1.length=g.qa1.qac.length∧b2.length=g.Ties.length∧qf6 n (qbi.mk (qck.mk g.qa1.Source b1) b2) 1=some (k:Int):=by
  obtain ⟨b1,e1,l1,p1⟩:=qs8 (n:=n) (by omega) g.qa1.qac h1 1 (by omega)
  obtain ⟨b2,e2,l2,p2⟩:=qs9 (n:=n) (by omega) g.Ties h2 (1+8*g.qa1.qac.length) (by omega)
  have g1:=qs3 (n:=n) (by omega) b1 (by omega) 1 (by omega) (by rw [l1];exact p1)
  have g2:=qs4 (n:=n) (by omega) b2 (by omega) (1+8*g.qa1.qac.length) (by omega) (by rw [l2];exact p2)
  rw [l1] at g1
  rw [l2] at g2
  have e1:qfx n g.qa1.qac 1=some (((1+8*g.qa1.qac.length:Nat):Int),b1):=e1
  have g1:qfw n b1 1=some ((1+8*g.qa1.qac.length:Nat):Int):=g1
  refine ⟨1+8*g.qa1.qac.length+5*g.Ties.length,b1,b2,?_,l1,l2,?_⟩
  · unfold qd7 qfq grd
    dsimp only
    rw [e1,Option.bind_some]
    dsimp only
    rw [if_pos l1,Option.bind_some]
    dsimp only
    rw [if_pos l1,e2,Option.bind_some]
    dsimp only
    rw [if_pos l2]
  · unfold qf6 qfp
    dsimp only
    rw [g1,Option.bind_some,if_neg (by omega),Option.bind_some,if_neg (by omega),g2,Option.bind_some,if_neg (by omega)]
end Go.Proofs.Ytmllgpkgjniomaa.AWN

namespace Go.Proofs.Ytmllgpkgjniomaa.AWN
open Go
def mkP (k:Nat):qaa:=⟨⟨mkV k,oneV⟩,⟨mkV (k+1),oneV⟩,⟨mkV (k+2),oneV⟩⟩
theorem qtf (n:Nat) (a:List qaa) (ha:a.length≤16) (s:Nat) (hs:s≤950) (hp:∀ j,j < a.length→a[j]?=some (mkP (s+3*j))):∀ (m i:Nat),i≤a.length→a.length - i < m →
    qcq n a m ((s+3*i:Nat):Int) (i:Int)=some ((s+3*a.length:Nat):Int)
  | 0,i,_,h=>by omega
  | m+1,i,hi,hm=>by
    unfold qcq
    by_cases h:i < a.length
    · have e:a[i]=mkP (s+3*i):=by
        have:=hp i h
        rw [List.getElem?_eq_getElem h] at this
        exact Option.some.inj this
      have w1:w64 (((s+3*i:Nat):Int)+1)=((s+3*i+1:Nat):Int):=by rw [qb1 (by omega) (by omega)];omega
      have w2:w64 (((s+3*i+1:Nat):Int)+1)=((s+3*i+2:Nat):Int):=by rw [qb1 (by omega) (by omega)];omega
      have w3:w64 (((s+3*i+2:Nat):Int)+1)=((s+3*(i+1):Nat):Int):=by rw [qb1 (by omega) (by omega)];omega
      have w4:w64 ((i:Int)+1)=((i+1:Nat):Int):=by rw [qb1 (by omega) (by omega)];omega
      have o1:=qgv (k:=s+3*i) (by omega)
      have o2:=qgv (k:=s+3*i+1) (by omega)
      have o3:=qgv (k:=s+3*i+2) (by omega)
      have o:=qkx
      have ih:=qtf n a ha s hs hp m (i+1) (by omega) (by omega)
      rw [if_pos (by omega),getI_nat' h,e]
      simp only [w1,w2,w3,w4,o1.1,o1.2,o2.1,o2.2,o3.1,o3.2,o.1,o.2,Option.bind_some,mkP,Bool.and_self,if_true,ih]
    · rw [if_neg (by omega),show i=a.length by omega]
end Go.Proofs.Ytmllgpkgjniomaa.AWN

namespace Go.Proofs.Ytmllgpkgjniomaa.AWN
open Go
theorem qrv (n:Nat) (a:List qaa) (ha:a.length≤100):∀ (m i:Nat),i≤a.length→a.length - i < m→qd6 n a a m (i:Int)=some true
  | 0,i,_,h=>by omega
  | m+1,i,hi,hm=>by
    unfold qd6
    by_cases h:i < a.length
    · rw [if_pos (by omega),getI_nat' h,Option.bind_some,Option.bind_some,qk8,Option.bind_some,if_pos rfl,show w64 ((i:Int)+1)=((i+1:Nat):Int) by rw [qb1 (by omega) (by omega)];omega]
      exact qrv n a ha m (i+1) (by omega) (by omega)
    · rw [if_neg (by omega)]
theorem qo4 {n:Nat} (hn:101≤n) (a:List qaa) (ha:a.length≤100):qfb n a a=some true:=by
  unfold qfb
  rw [if_pos rfl]
  exact qrv n a ha n 0 (Nat.zero_le _) (by omega)
theorem eqFlow_some {n:Nat} (hn:101≤n) (f:qbb) (h1:f.qad.length≤100) (h2:f.qae.length≤100):qhn n f f=some true:=by
  unfold qhn
  rw [qo4 hn _ h1,Option.bind_some,if_pos rfl,qo4 hn _ h2,Option.bind_some,if_pos rfl,if_pos rfl,beq_self_eq_true]
  rfl
theorem qti (n:Nat) (s:Nat) (hs:s≤950):∀ (m i:Nat) (a:List qaa),a.length≤16→i≤a.length→a.length - i < m→(∀ j,j < i→a[j]?=some (mkP (s+3*j))) →
    ∃ b,qcr n m a ((s+3*i:Nat):Int) (i:Int)=some (((s+3*a.length:Nat):Int),b)∧b.length=a.length∧∀ j,j < a.length→b[j]?=some (mkP (s+3*j))
  | 0,i,_,_,_,h,_=>by omega
  | m+1,i,a,ha,hi,hm,hp=>by
    unfold qcr
    by_cases h:i < a.length
    · have w1:w64 (((s+3*i:Nat):Int)+1)=((s+3*i+1:Nat):Int):=by rw [qb1 (by omega) (by omega)];omega
      have w2:w64 (((s+3*i+1:Nat):Int)+1)=((s+3*i+2:Nat):Int):=by rw [qb1 (by omega) (by omega)];omega
      have w3:w64 (((s+3*i+2:Nat):Int)+1)=((s+3*(i+1):Nat):Int):=by rw [qb1 (by omega) (by omega)];omega
      have w4:w64 ((i:Int)+1)=((i+1:Nat):Int):=by rw [qb1 (by omega) (by omega)];omega
      have o1:=qgv (k:=s+3*i) (by omega)
      have o2:=qgv (k:=s+3*i+1) (by omega)
      have o3:=qgv (k:=s+3*i+2) (by omega)
      have o:=qkx
      have gs:∀ (l:List qaa) (x:qaa),i < l.length→getI (l.set i x) (i:Int)=some x:=fun l x hl=>by
        rw [getI_nat' (by rw [List.length_set];exact hl)];simp
      have gs0:∀ x,getI (a.set i x) (i:Int)=some x:=fun x=>gs a x h
      have gs1:∀ x y,getI ((a.set i y).set i x) (i:Int)=some x:=fun x y=>gs _ x (by rw [List.length_set];exact h)
      obtain ⟨b,e,hl,hb⟩:=qti n s hs m (i+1) (a.set i (mkP (s+3*i))) (by simpa using ha) (by rw [List.length_set];omega) (by rw [List.length_set];omega) (fun j hj=>by
        rw [List.getElem?_set]
        by_cases hji:i=j
        · subst hji
          rw [if_pos rfl,if_pos h]
        · rw [if_neg hji]
          exact hp j (by omega))
      rw [List.length_set] at e hl hb
      refine ⟨b,?_,hl,hb⟩
      rw [if_pos (by omega),getI_nat' h]
      simp only [Int.toNat_natCast,w1,w2,w3,w4,o1.1,o2.1,o3.1,o.1,Option.bind_some,gs0,gs1,List.set_set]
      exact e
    · rw [if_neg (by omega)]
      have:i=a.length:=by omega
      subst this
      exact ⟨a,rfl,rfl,hp⟩
theorem held_all {n:Nat} (hn:17≤n) (a:List qaa) (ha:a.length≤16) (s:Nat) (hs:s≤950) (hp:∀ j,j < a.length→a[j]?=some (mkP (s+3*j))):qd0 n a (s:Int)=some ((s+3*a.length:Nat):Int) :=
  qtf n a ha s hs hp n 0 (Nat.zero_le _) (by omega)
theorem mark_all {n:Nat} (hn:17≤n) (a:List qaa) (ha:a.length≤16) (s:Nat) (hs:s≤950):∃ b,qby n a (s:Int)=some (((s+3*a.length:Nat):Int),b)∧b.length=a.length∧∀ j,j < a.length→b[j]?=some (mkP (s+3*j)) :=
  qti n s hs n 0 a ha (Nat.zero_le _) (by omega) (fun j hj=>by omega)
end Go.Proofs.Ytmllgpkgjniomaa.AWN

namespace Go.Proofs.Ytmllgpkgjniomaa.AWN
open Go
def crcF:Str→Int→Int
  | [],a=>a
  | x :: l,a=>crcF l ((w64 ((w64 ((w64 ((691:Int)*a))+(w64 ((x.toNat:Int)))))+(43:Int))).tmod (65003:Int))
theorem step_rng {a:Int} (h:0≤a∧a < 65003) (x:UInt8):0≤(w64 ((w64 ((w64 ((691:Int)*a))+(w64 ((x.toNat:Int)))))+(43:Int))).tmod (65003:Int)∧(w64 ((w64 ((w64 ((691:Int)*a))+(w64 ((x.toNat:Int)))))+(43:Int))).tmod (65003:Int) < 65003:=by
  have hx:x.toNat < 256:=x.toNat_lt
  obtain ⟨y,hy⟩:∃ y,y=x.toNat:=⟨_,rfl⟩
  rw [← hy] at hx ⊢
  rw [qb1 (n:=(691:Int)*a) (by omega) (by omega),qb1 (n:=(y:Int)) (by omega) (by omega),qb1 (n:=691*a+(y:Int)) (by omega) (by omega),qb1 (by omega) (by omega)]
  rw [Int.tmod_eq_emod_of_nonneg (by omega)]
  exact ⟨Int.emod_nonneg _ (by decide),Int.emod_lt_of_pos _ (by decide)⟩
theorem qru:∀ (l:Str) (a:Int),0≤a∧a < 65003→0≤crcF l a∧crcF l a < 65003
  | [],a,h=>h
  | x :: l,a,h=>qru l _ (step_rng h x)
theorem qrs (n:Nat) (t:Str) (ht:t.length≤1048576):∀ (m i:Nat) (a:Int),i≤t.length→t.length - i < m →
    qe5 n t m a (i:Int)=some (crcF (t.drop i) a,true)∧qdo n t m a (i:Int)=some (crcF (t.drop i) a)
  | 0,i,_,_,h=>by omega
  | m+1,i,a,hi,hm=>by
    unfold qe5 qdo
    by_cases h:i < t.length
    · rw [if_pos (by omega),if_pos (by omega),getI_nat' h,Option.bind_some,Option.bind_some,show w64 ((i:Int)+1)=((i+1:Nat):Int) by rw [qb1 (by omega) (by omega)];omega,List.drop_eq_getElem_cons h]
      exact qrs n t ht m (i+1) _ (by omega) (by omega)
    · rw [if_neg (by omega),if_neg (by omega),List.drop_eq_nil_of_le (by omega)]
      exact ⟨rfl,rfl⟩
section
variable {n:Nat} (hn:2000000≤n)
include hn
theorem checks (t:Str) (ht:t.length≤1048576):qgj n 0 t=some (crcF t 0,true)∧qhh n 0 t=some (crcF t 0):=by
  obtain ⟨h1,h2⟩:=qrs n t ht n 0 0 (Nat.zero_le _) (by omega)
  constructor
  · unfold qgj qdb
    rw [if_pos (by decide),Option.bind_some,if_pos (by decide)]
    exact h1
  · exact h2
theorem qrt (t:Str):qb7 n (crcF t 0) 2=some (chars (leb (crcF t 0).toNat 2))∧qbc n (crcF t 0) 2=some (chars (leb (crcF t 0).toNat 2)):=by
  obtain ⟨h1,h2⟩:=qru t 0 (by decide)
  obtain ⟨k,hk⟩:∃ k:Nat,crcF t 0=(k:Int):=⟨(crcF t 0).toNat,by omega⟩
  rw [hk] at h2 ⊢
  exact ⟨qgb (by omega) (x:=k) (by omega) 2 (by omega),word_some' (by omega) (x:=k) (by omega) 2 (by omega)⟩
omit hn in
theorem sub_app (t:Str) (a e:Nat) (h:a≤e) (he:e≤t.length):sub t 0 (a:Int)++sub t (a:Int) (e:Int)=sub t 0 (e:Int):=by
  unfold sub
  simp only [Int.toNat_natCast,Int.toNat_zero,List.drop_zero,Nat.sub_zero]
  rw [← List.take_append_drop a (t.take e),List.take_take,Nat.min_eq_left h,List.drop_take]
omit hn in
theorem sub_app2 (t:Str) (a b e:Nat) (h:a≤b) (h2:b≤e) (he:e≤t.length):sub t (a:Int) (b:Int)++sub t (b:Int) (e:Int)=sub t (a:Int) (e:Int):=by
  unfold sub
  simp only [Int.toNat_natCast]
  rw [show e - a=(b - a)+(e - b) by omega,List.take_add,List.drop_drop,show a+(b - a)=b by omega]
omit hn in
theorem qnr (t:Str) (a e:Nat) (h:a≤e) (he:e≤t.length):(sub t (a:Int) (e:Int)).length=e - a:=by
  unfold sub
  simp only [Int.toNat_natCast,List.length_take,List.length_drop]
  omega
def qn3 (t:Str) (b a:Nat):qbb × Bool:=resF (sub t (a:Int) ((a+2+48*b:Nat):Int)) b
def qv2 (t:Str) (e:Nat):Int:=crcF (sub t 0 (e:Int)) 0
def qrk (t:Str) (e:Nat):Str:=chars (leb (qv2 t e).toNat 2)
theorem spec_frame (t:Str) (ht:t.length≤1048576) {b:Nat} (h1:1≤b) (h16:b≤16) (a:Nat) (ha:a+4+48*b≤t.length) (hg:good (sub t (a:Int) ((a+2+48*b:Nat):Int)) b) :
    qgs n (sub t 0 (a:Int)) (flo (sub t (a:Int) ((a+2+48*b:Nat):Int)) b)=some (sub t (a:Int) ((a+2+48*b:Nat):Int)++qrk t (a+2+48*b)):=by
  obtain ⟨g1,g2,g3⟩:=hg
  have hT:sub t (a:Int) ((a+2+48*b:Nat):Int)=sub t (a:Int) ((a+2+48*b:Nat):Int):=rfl
  generalize hT1:sub t (a:Int) ((a+2+48*b:Nat):Int)=T1 at g1 g2 g3 ⊢
  unfold qgs
  have hs:qf8 n (qbb.mk (flo T1 b).qad (flo T1 b).qae (flo T1 b).Rounds (flo T1 b).qcj)=some T1:=by
    have:=qnk (n:=n) (by omega) (V:=phV T1 b) (C:=phC T1 b) (qtq T1 b) (qtp T1 b) (by rw [qko,qm3]) (by rw [qko];exact h1) (by rw [qko];exact h16) (vd T1 0 0 1) (qu2 T1 0) (decide (((vd T1 1 0 1:Nat):Int)=1))
    rw [g3] at this
    exact this
  rw [hs,Option.bind_some]
  unfold grd
  have l0:(sub t 0 (a:Int)).length=a:=qnr t 0 a (Nat.zero_le _) (by omega)
  rw [if_pos (by rw [l0,g1];omega)]
  have e:sub t 0 (a:Int)++T1=sub t 0 ((a+2+48*b:Nat):Int):=by rw [← hT1];exact sub_app t a _ (by omega) (by omega)
  have l1:(sub t 0 ((a+2+48*b:Nat):Int)).length≤1048576:=by rw [show (sub t 0 ((a+2+48*b:Nat):Int)).length=_ from qnr t 0 (a+2+48*b) (Nat.zero_le _) (by omega)];omega
  rw [e,(checks hn _ l1).2,Option.bind_some,(qrt hn _).2,Option.bind_some,if_pos (by rw [g1,qe4,qgi];omega)]
  rfl
theorem qqv (t:Str) (ht:t.length≤1048576) (g:qbi) (z:Int) (h1:1≤g.qa1.qac.length) (h16:g.qa1.qac.length≤16):∀ (k m a:Nat) (fs:List qbb),k < m→fs.length+k=8→a≤t.length →
    qb4 n t (g,z,true) m (a:Int) fs=some (⟨g,fs++(recF t g.qa1.qac.length (qn3 t g.qa1.qac.length) (qrk t) k a).1⟩,((recF t g.qa1.qac.length (qn3 t g.qa1.qac.length) (qrk t) k a).2:Int),true)
  | k,0,a,fs,h,_,_=>by omega
  | 0,m+1,a,fs,h,h8,ha=>by
    unfold qb4
    rw [if_neg (by omega)]
    unfold qdh recF
    rw [if_neg (by decide),List.append_nil]
    rfl
  | k+1,m+1,a,fs,h,h8,ha=>by
    unfold qb4
    rw [if_pos (by omega)]
    dsimp only
    generalize hb:g.qa1.qac.length=b at h1 h16
    have hw:w64 ((a:Int)+(w64 ((2:Int)+(w64 ((48:Int)*(b:Int))))))=((a+2+48*b:Nat):Int):=by
      rw [qb1 (n:=(48:Int)*(b:Int)) (by omega) (by omega),qb1 (n:=2+48*(b:Int)) (by omega) (by omega),qb1 (by omega) (by omega)];omega
    have hw2:w64 (((a+2+48*b:Nat):Int)+2)=((a+4+48*b:Nat):Int):=by rw [qb1 (by omega) (by omega)];omega
    rw [hw,hw2]
    unfold qdh
    unfold recF
    by_cases hl:a+4+48*b≤t.length
    · rw [decide_eq_true (by omega),if_pos rfl]
      unfold qfh grd
      dsimp only
      rw [hb,hw,hw2,if_pos (by omega)]
      have lT:(sub t (a:Int) ((a+2+48*b:Nat):Int)).length=2+48*b:=by rw [qnr t a _ (by omega) (by omega)];omega
      rw [of_long (by omega) _ h1 h16 (by rw [lT];exact Nat.le_refl _) (by rw [lT];omega),Option.bind_some]
      dsimp only
      have hfa:qn3 t b a=resF (sub t (a:Int) ((a+2+48*b:Nat):Int)) b:=rfl
      by_cases hg:good (sub t (a:Int) ((a+2+48*b:Nat):Int)) b
      · have hfr:=spec_frame hn t ht h1 h16 a hl hg
        have hfa':qn3 t b a=(flo (sub t (a:Int) ((a+2+48*b:Nat):Int)) b,true):=by rw [hfa];unfold resF;rw [if_pos hg]
        rw [decide_eq_true hg,if_pos rfl,if_pos (by omega),if_pos (by omega)]
        rw [show qbb.mk (flo (sub t (a:Int) ((a+2+48*b:Nat):Int)) b).qad (flo (sub t (a:Int) ((a+2+48*b:Nat):Int)) b).qae (flo (sub t (a:Int) ((a+2+48*b:Nat):Int)) b).Rounds (flo (sub t (a:Int) ((a+2+48*b:Nat):Int)) b).qcj=flo (sub t (a:Int) ((a+2+48*b:Nat):Int)) b from rfl,hfr,Option.bind_some]
        have hsa:=sub_app2 t a (a+2+48*b) (a+4+48*b) (by omega) (by omega) hl
        rw [← hsa]
        unfold qdg
        by_cases hc:qrk t (a+2+48*b)=sub t ((a+2+48*b:Nat):Int) ((a+4+48*b:Nat):Int)
        · rw [decide_eq_true (by rw [hc]),if_neg (by decide),if_pos ⟨hl,by rw [hfa'],hc⟩]
          unfold qfi grd
          dsimp only
          rw [if_pos (show room (fs.length+1) 64 by unfold room;omega)]
          have hw3:w64 ((2:Int)+(w64 ((48:Int)*(b:Int))))=((2+48*b:Nat):Int):=by
            rw [qb1 (n:=(48:Int)*(b:Int)) (by omega) (by omega),qb1 (by omega) (by omega)];omega
          rw [hb,hw3]
          have hw4:w64 (((2+48*b:Nat):Int)+2)=((4+48*b:Nat):Int):=by rw [qb1 (by omega) (by omega)];omega
          have hw5:w64 ((a:Int)+((4+48*b:Nat):Int))=((a+4+48*b:Nat):Int):=by rw [qb1 (by omega) (by omega)];omega
          rw [hw4,hw5]
          have ih:=qqv t ht g z (by omega) (by omega) k m (a+4+48*b) (fs++[flo (sub t (a:Int) ((a+2+48*b:Nat):Int)) b]) (by omega) (by rw [List.length_append,List.length_singleton];omega) hl
          rw [hb,List.append_assoc] at ih
          rw [hfa']
          exact ih
        · rw [decide_eq_false (fun h=>hc (List.append_cancel_left h)),if_pos (by decide),if_neg (fun h=>hc h.2.2),List.append_nil]
          rfl
      · rw [decide_eq_false hg,if_neg (by decide),if_neg (fun h=>hg (by
          have h2:=h.2.1
          rw [hfa] at h2
          unfold resF at h2
          by_cases hg':good (sub t (a:Int) ((a+2+48*b:Nat):Int)) b
          · exact hg'
          · rw [if_neg hg'] at h2;cases h2))]
        unfold qdg
        rw [if_pos rfl,List.append_nil]
        rfl
    · rw [decide_eq_false (by omega),if_neg (by decide),if_neg (fun h=>hl h.1),List.append_nil]
      rfl
end
end Go.Proofs.Ytmllgpkgjniomaa.AWN

namespace Go.Proofs.Ytmllgpkgjniomaa.AWN
open Go
theorem qsk (t:Str) (b:Nat) (F:Nat→qbb × Bool) (Bt:Nat→Str):∀ k a,(recF t b F Bt k a).1.length≤k
  | 0,a=>Nat.le_refl _
  | k+1,a=>by
    unfold recF
    split
    · have:=qsk t b F Bt k (a+4+48*b)
      simpa using this
    · exact Nat.zero_le _
theorem qsl (t:Str) (b:Nat) (F:Nat→qbb × Bool) (Bt:Nat→Str):∀ k a,∀ f ∈ (recF t b F Bt k a).1,∃ a',(F a').2=true∧f=(F a').1
  | 0,a,f,h=>by
    unfold recF at h
    simp at h
  | k+1,a,f,h=>by
    unfold recF at h
    split at h
    · rename_i hc
      rcases List.mem_cons.1 h with rfl | h
      · exact ⟨a,hc.2.1,rfl⟩
      · exact qsl t b F Bt k _ f h
    · simp at h
theorem qq7 {t:Str} {b a:Nat} (h:(qn3 t b a).2=true):(qn3 t b a).1.qad.length=b∧(qn3 t b a).1.qae.length=b:=by
  unfold qn3 resF at h ⊢
  by_cases hg:good (sub t (a:Int) ((a+2+48*b:Nat):Int)) b
  · rw [if_pos hg]
    exact ⟨qko _ _,qm3 _ _⟩
  · rw [if_neg hg] at h;cases h
structure Few (r:qc7):Prop where
  bus:r.Grid.qa1.qac.length≤16
  tie:r.Grid.Ties.length≤6
  flw:r.qce.length≤8
  row:∀ f ∈ r.qce,f.qad.length≤16∧f.qae.length≤16
def mkPs (k l:Nat):List qaa:=(List.range l).map fun j=>mkP (k+3*j)
theorem qkw (k l:Nat):(mkPs k l).length=l:=by simp [mkPs]
theorem qsb (k l j:Nat) (h:j < l):(mkPs k l)[j]?=some (mkP (k+3*j)):=by simp [mkPs,h]
section
variable {n:Nat} (hn:200≤n)
include hn
theorem qv3 (l:List qbb) (hl:l.length≤8) (hf:∀ f ∈ l,f.qad.length≤16∧f.qae.length≤16):∀ (m i:Nat),i≤l.length→l.length - i < m→qda n l l m (i:Int)=some true
  | 0,i,_,h=>by omega
  | m+1,i,hi,hm=>by
    unfold qda
    by_cases h:i < l.length
    · obtain ⟨f1,f2⟩:=hf l[i] (List.getElem_mem h)
      rw [if_pos (by omega),getI_nat' h,Option.bind_some,Option.bind_some,eqFlow_some (by omega) _ (by omega) (by omega),Option.bind_some,if_pos rfl,show w64 ((i:Int)+1)=((i+1:Nat):Int) by rw [qb1 (by omega) (by omega)];omega]
      exact qv3 l hl hf m (i+1) (by omega) (by omega)
    · rw [if_neg (by omega)]
theorem qv4 (r:qc7) (h:Few r):qfv n r r=some true:=by
  unfold qfv qi1
  have h1:=h.bus
  have h2:=h.tie
  have h3:=h.flw
  have e:=qv3 hn r.qce h3 h.row n 0 (Nat.zero_le _) (by omega)
  have e:qda n r.qce r.qce n 0=some true:=e
  rw [eqGrid_self (by omega) r.Grid (by omega) (by omega),Option.bind_some,if_pos rfl,if_pos rfl,e,Option.bind_some,if_pos rfl]
theorem qqj (l:List qaa) (k:Nat) (hl:l.length≤16) (hk:k≤950):qby n l (k:Int)=some (((k+3*l.length:Nat):Int),mkPs k l.length):=by
  obtain ⟨b,e,hb,hp⟩:=mark_all (n:=n) (by omega) l hl k hk
  rw [e]
  have:b=mkPs k l.length:=by
    apply List.ext_getElem?
    intro j
    by_cases hj:j < l.length
    · rw [hp j hj,qsb k _ j hj]
    · rw [List.getElem?_eq_none (by omega),List.getElem?_eq_none (by rw [qkw];omega)]
  rw [this]
theorem qqi (k l:Nat) (hl:l≤16) (hk:k≤950):qd0 n (mkPs k l) (k:Int)=some ((k+3*l:Nat):Int):=by
  have:=held_all (n:=n) (by omega) (mkPs k l) (by rw [qkw];exact hl) k hk (fun j hj=>qsb k l j (by rwa [qkw] at hj))
  rw [qkw] at this
  exact this
theorem markG (g:qbi) (h1:g.qa1.qac.length≤16) (h2:g.Ties.length≤16):∃ (b1:List SBus) (b2:List STie),qd7 n g 1=some (((1+8*g.qa1.qac.length+5*g.Ties.length:Nat):Int),b1,b2)∧b1.length=g.qa1.qac.length∧b2.length=g.Ties.length∧qf6 n (qbi.mk (qck.mk g.qa1.Source b1) b2) 1=some ((1+8*g.qa1.qac.length+5*g.Ties.length:Nat):Int):=by
  obtain ⟨b1,e1,l1,p1⟩:=qs8 (n:=n) (by omega) g.qa1.qac h1 1 (by omega)
  obtain ⟨b2,e2,l2,p2⟩:=qs9 (n:=n) (by omega) g.Ties h2 (1+8*g.qa1.qac.length) (by omega)
  have g1:=qs3 (n:=n) (by omega) b1 (by omega) 1 (by omega) (by rw [l1];exact p1)
  have g2:=qs4 (n:=n) (by omega) b2 (by omega) (1+8*g.qa1.qac.length) (by omega) (by rw [l2];exact p2)
  rw [l1] at g1
  rw [l2] at g2
  have e1:qfx n g.qa1.qac 1=some (((1+8*g.qa1.qac.length:Nat):Int),b1):=e1
  have g1:qfw n b1 1=some ((1+8*g.qa1.qac.length:Nat):Int):=g1
  refine ⟨b1,b2,?_,l1,l2,?_⟩
  · unfold qd7 qfq grd
    dsimp only
    rw [e1,Option.bind_some]
    dsimp only
    rw [if_pos l1,Option.bind_some]
    dsimp only
    rw [if_pos l1,e2,Option.bind_some]
    dsimp only
    rw [if_pos l2]
  · unfold qf6 qfp
    dsimp only
    rw [g1,Option.bind_some,if_neg (by omega),Option.bind_some,if_neg (by omega),g2,Option.bind_some,if_neg (by omega)]
omit hn in
theorem qrd (mk:Nat→Nat→List qaa) (k:Nat) (fs:List qbb):∀ m i f,i < m→fs[i]?=some f→(mkAt mk k fs m)[i]?=some (mkFl mk (kAt k fs i) f)
  | 0,i,f,h,_=>by omega
  | m+1,i,f,h,hf=>by
    unfold mkAt
    by_cases him:i=m
    · subst him
      rw [hf]
      dsimp only
      rw [List.getElem?_set,if_pos rfl,if_pos (by rw [qll];exact (List.getElem?_eq_some_iff.1 hf).1)]
    · split
      · rw [List.getElem?_set,if_neg (fun e=>him e.symm)]
        exact qrd mk k fs m i f (by omega) hf
      · exact qrd mk k fs m i f (by omega) hf
theorem qui (k:Nat) (hk:k≤160) (fs:List qbb) (hl:fs.length≤8) (hf:∀ f ∈ fs,f.qad.length≤16∧f.qae.length≤16):∀ (m i:Nat),i≤fs.length→fs.length - i < m→qcv n (mkAt mkPs k fs fs.length) m (kAt k fs i:Int) (i:Int)=some (kAt k fs fs.length:Int)
  | 0,i,_,h=>by omega
  | m+1,i,hi,hm=>by
    unfold qcv
    have hll:=qll mkPs k fs fs.length
    by_cases h:i < fs.length
    · obtain ⟨f,hfi⟩:∃ f,fs[i]?=some f:=⟨_,List.getElem?_eq_getElem h⟩
      obtain ⟨f1,f2⟩:=hf f (List.mem_of_getElem? hfi)
      have hkl:=qs6 k fs hf i
      have hg:=qrd mkPs k fs fs.length i f h hfi
      have hg':getI (mkAt mkPs k fs fs.length) (i:Int)=some (mkFl mkPs (kAt k fs i) f):=by
        rw [getI_nat' (by omega)]
        rw [List.getElem?_eq_getElem (by omega)] at hg
        exact hg
      have hks:kAt k fs (i+1)=qqn (kAt k fs i) f:=by
        show (match fs[i]? with | some f=>qqn (kAt k fs i) f | none=>kAt k fs i)=_
        rw [hfi]
      have ih:=qui k hk fs hl hf m (i+1) (by omega) (by omega)
      rw [hks] at ih
      generalize kAt k fs i=kk at hkl hg' ih ⊢
      rw [if_pos (by omega),hg',Option.bind_some]
      have hV:qd0 n (mkFl mkPs kk f).qad (kk:Int)=some ((kk+3*f.qad.length:Nat):Int):=qqi hn kk _ f1 (by omega)
      have hC:qd0 n (mkFl mkPs kk f).qae ((kk+3*f.qad.length:Nat):Int)=some ((kk+3*f.qad.length+3*f.qae.length:Nat):Int):=qqi hn _ _ f2 (by omega)
      rw [hV,Option.bind_some,if_neg (by omega),hC,Option.bind_some,if_neg (by omega)]
      rw [if_pos (show (mkFl mkPs kk f).Rounds=((kk+3*f.qad.length+3*f.qae.length:Nat):Int) from rfl)]
      have w1:w64 (((kk+3*f.qad.length+3*f.qae.length:Nat):Int)+1)=((kk+3*f.qad.length+3*f.qae.length+1:Nat):Int):=by rw [qb1 (by omega) (by omega)];omega
      have w2:w64 (((kk+3*f.qad.length+3*f.qae.length+1:Nat):Int)+1)=((qqn kk f:Nat):Int):=by unfold qqn;rw [qb1 (by omega) (by omega)];omega
      have w3:w64 ((i:Int)+1)=((i+1:Nat):Int):=by rw [qb1 (by omega) (by omega)];omega
      have hR:((mkFl mkPs kk f).qcj == decide ((((kk+3*f.qad.length+3*f.qae.length+1:Nat):Int)).tmod 3=0))=true:=by
        rw [Int.tmod_eq_emod_of_nonneg (by omega)]
        unfold mkFl
        dsimp only
        rw [beq_iff_eq]
        by_cases hz:((kk+3*f.qad.length+3*f.qae.length+1:Nat):Int) % 3=0
        · rw [hz];rfl
        · rw [decide_eq_false hz]
          exact beq_eq_false_iff_ne.2 hz
      rw [w1,hR,if_pos rfl,w2,w3]
      exact ih
    · rw [if_neg (by omega),show i=fs.length by omega]
theorem qte (r:qc7) (h:Few r):∃ (b1:List SBus) (b2:List STie),qd7 n r.Grid 1=some (((1+8*r.Grid.qa1.qac.length+5*r.Grid.Ties.length:Nat):Int),b1,b2)∧b1.length=r.Grid.qa1.qac.length∧b2.length=r.Grid.Ties.length ∧
    qeu n ⟨⟨⟨r.Grid.qa1.Source,b1⟩,b2⟩,mkAt mkPs (1+8*r.Grid.qa1.qac.length+5*r.Grid.Ties.length) r.qce r.qce.length⟩ 1=some (kAt (1+8*r.Grid.qa1.qac.length+5*r.Grid.Ties.length) r.qce r.qce.length:Int):=by
  have h1:=h.bus
  have h2:=h.tie
  obtain ⟨b1,b2,e1,l1,l2,e2⟩:=markG hn r.Grid h1 (by omega)
  refine ⟨b1,b2,e1,l1,l2,?_⟩
  have e3:=qui hn (1+8*r.Grid.qa1.qac.length+5*r.Grid.Ties.length) (by omega) r.qce h.flw h.row n 0 (Nat.zero_le _) (by have:=h.flw;omega)
  unfold qeu qgz
  dsimp only
  rw [e2,Option.bind_some,if_neg (by omega)]
  have e3:qcv n (mkAt mkPs (1+8*r.Grid.qa1.qac.length+5*r.Grid.Ties.length) r.qce r.qce.length) n ((1+8*r.Grid.qa1.qac.length+5*r.Grid.Ties.length:Nat):Int) 0=_:=e3
  rw [e3,Option.bind_some,if_neg (by omega)]
end
end Go.Proofs.Ytmllgpkgjniomaa.AWN

namespace Go.Proofs.Ytmllgpkgjniomaa.AWN
open Go Go.Shelf Go.RowKit Go.Proofs.Try
def qpg:qc7:=⟨ql2,[]⟩
def qnv (t:Str) (g:qbi) (a0:Nat):qc7:=⟨g,(recF t g.qa1.qac.length (qn3 t g.qa1.qac.length) (qrk t) 8 a0).1⟩
def qt6 (t:Str) (g:qbi) (a0:Nat):Nat:=(recF t g.qa1.qac.length (qn3 t g.qa1.qac.length) (qrk t) 8 a0).2
theorem qln:Few qpg:=⟨Nat.zero_le _,Nat.zero_le _,Nat.zero_le _,fun f h=>by cases h⟩
theorem recOf_few (t:Str) {g:qbi} (hg:GOk g) (a0:Nat):Few (qnv t g a0):=by
  obtain ⟨h1,h2,h3⟩:=hg.few
  refine ⟨h2,h3,qsk _ _ _ _ 8 a0,fun f hf=>?_⟩
  obtain ⟨a',e1,rfl⟩:=qsl _ _ _ _ 8 a0 f hf
  obtain ⟨l1,l2⟩:=qq7 e1
  rw [l1,l2]
  exact ⟨h2,h2⟩
abbrev N:Nat:=2000000
theorem rec_cases (t:Str) (ht:t.length≤1048576) :
    (qcw N t=some (ql2,0,false)∧qde N t=some (qpg,0,false)∧qhp N t=some (qpg,false)) ∨
    ∃ (g:qbi) (a0:Nat),GOk g∧a0≤t.length∧qcw N t=some (g,(a0:Int),true)∧qde N t=some (qnv t g a0,(qt6 t g a0:Int),true) ∧
      qhp N t=some (if (qt6 t g a0:Int)=(t.length:Int) then (qnv t g a0,true) else (qpg,false)):=by
  rcases begins (n:=N) (by decide) t (by omega) with ⟨hi,g,e,hs⟩ | ⟨g,a,hg,ha,hh,hi,hs⟩
  · left
    refine ⟨hi,?_,?_⟩
    · unfold qde qeg
      rw [hs]
      rfl
    · unfold qhp qeg
      rw [hs]
      rfl
  · right
    obtain ⟨h1,h2,h3⟩:=hg.few
    have hl:=qqv (n:=N) (by decide) t ht g (a:Int) h1 h2 8 N a [] (by decide) rfl ha
    rw [List.nil_append] at hl
    have hr:qeg N t=some (qnv t g a,(qt6 t g a:Int),true):=by
      unfold qeg
      rw [hs,Option.bind_some]
      dsimp only
      rw [if_pos rfl]
      exact hl
    refine ⟨g,a,hg,ha,hi,?_,?_⟩
    · unfold qde
      rw [hr,Option.bind_some]
      rfl
    · unfold qhp
      rw [hr,Option.bind_some]
      dsimp only
      rw [if_pos rfl]
      unfold qhy
      by_cases he:(qt6 t g a:Int)=(t.length:Int)
      · rw [decide_eq_true he,if_pos he,if_neg (by decide)]
        rfl
      · rw [decide_eq_false he,if_neg he,if_pos (by decide)]
        rfl
theorem noRec_st {W:World} (lo:Nat):qes W lo [] none none (.slice none 0 0) (.slice none 0 0) (.slice none 0 0) qpg.Grid.qa1.qac qpg.Grid.Ties [] qpg.qce :=
  ⟨.inl ⟨rfl,rfl,rfl⟩,.inl ⟨rfl,rfl,rfl⟩,rfl,World.ownsRow_nil _ _ _ _,fun i p f h=>by simp at h,by simp [blks],fun b hb=>by simp [blks] at hb,fun g h=>by cases h⟩
theorem cx0:CxW (Cx.mk 0 0) 0 0:=⟨by decide,by decide,by decide,by decide⟩
theorem impl_rec (t:Str) (ht:t.length≤1048576) {g:qbi} {a0:Nat} (hg:GOk g) (ha:a0≤t.length) (hi:qcw N t=some (g,(a0:Int),true)) (w:World) :
    Calls prog 13 #[.string (bstr t)] w fun e w'=>∃ a a' b b' c c' v0 v1 v2 o0 o1 ps,e=.returned (.tuple #[.agg #[.complex .f32 a a',.complex .f32 b b',.complex .f32 c c',v0,v1,v2],.int .i64 (qt6 t g a0),.bool true])∧Below w.heap.size w w' ∧
      CxW (qnv t g a0).Grid.qa1.Source.A a a'∧CxW (qnv t g a0).Grid.qa1.Source.B b b'∧CxW (qnv t g a0).Grid.qa1.Source.C c c'∧qes w' w.heap.size [] o0 o1 v0 v1 v2 (qnv t g a0).Grid.qa1.qac (qnv t g a0).Grid.Ties ps (qnv t g a0).qce:=by
  obtain ⟨h1,h2,h3⟩:=hg.few
  refine recover_walk hi ha ht h1 h2 (qn3 t g.qa1.qac.length) (qv2 t) (qrk t) (fun a h=>?_) (fun a h=>?_) (fun e h=>?_) (fun e=>?_) w
  · exact impl_flow (by decide) _ h1 h2 (by rw [qnr t a (a+2+48*g.qa1.qac.length) (by omega) (by omega)];omega)
  · obtain ⟨l1,l2⟩:=qq7 h
    exact ⟨fun e=>by rw [e] at l1;simp at l1;omega,fun e=>by rw [e] at l2;simp at l2;omega⟩
  · exact (checks (n:=N) (by decide) _ (by rw [show (sub t 0 (e:Int)).length=_ from qnr t 0 e (Nat.zero_le _) h];omega)).1
  · exact (qrt (n:=N) (by decide) _).1
theorem load_rec (t:Str) (ht:t.length≤1048576) {g:qbi} {a0:Nat} (hg:GOk g) (ha:a0≤t.length) (hi:qcw N t=some (g,(a0:Int),true)) (he:(qt6 t g a0:Int)=(t.length:Int)) (w:World) :
    Calls prog 18 #[.string (bstr t)] w fun e w'=>∃ a a' b b' c c' v0 v1 v2 o0 o1 ps,e=.returned (.tuple #[.agg #[.complex .f32 a a',.complex .f32 b b',.complex .f32 c c',v0,v1,v2],.bool true])∧Below w.heap.size w w' ∧
      CxW (qnv t g a0).Grid.qa1.Source.A a a'∧CxW (qnv t g a0).Grid.qa1.Source.B b b'∧CxW (qnv t g a0).Grid.qa1.Source.C c c'∧qes w' w.heap.size [] o0 o1 v0 v1 v2 (qnv t g a0).Grid.qa1.qac (qnv t g a0).Grid.Ties ps (qnv t g a0).qce:=by
  have:=load_one (t:=t) (Q:=fun v w w'=>∃ a a' b b' c c' v0 v1 v2 o0 o1 ps,v=.agg #[.complex .f32 a a',.complex .f32 b b',.complex .f32 c c',v0,v1,v2]∧CxW (qnv t g a0).Grid.qa1.Source.A a a'∧CxW (qnv t g a0).Grid.qa1.Source.B b b'∧CxW (qnv t g a0).Grid.qa1.Source.C c c'∧qes w' w.heap.size [] o0 o1 v0 v1 v2 (qnv t g a0).Grid.qa1.qac (qnv t g a0).Grid.Ties ps (qnv t g a0).qce)
    (fun w=>(impl_rec t ht hg ha hi w).mono ?_) ?_ w
  · refine this.mono ?_
    rintro e w' ⟨v,rfl,bel,a,a',b,b',c,c',v0,v1,v2,o0,o1,ps,rfl,h⟩
    exact ⟨a,a',b,b',c,c',v0,v1,v2,o0,o1,ps,rfl,bel,h⟩
  · rintro e w' ⟨a,a',b,b',c,c',v0,v1,v2,o0,o1,ps,rfl,bel,ca,cb,cc,R⟩
    obtain ⟨d0,k0,e0⟩:=R.bus.slice
    obtain ⟨d1,k1,e1⟩:=R.tie.slice
    obtain ⟨d2,k2,e2⟩:=R.slice
    exact ⟨a,a',b,b',c,c',v0,v1,v2,by rw [he],⟨_,_,_,e0⟩,⟨_,_,_,e1⟩,⟨_,_,_,e2⟩,bel,a,a',b,b',c,c',v0,v1,v2,o0,o1,ps,rfl,ca,cb,cc,R⟩
  · rintro v w w1 w2 w3 ⟨a,a',b,b',c,c',v0,v1,v2,o0,o1,ps,rfl,ca,cb,cc,R⟩ hlt bu
    refine ⟨a,a',b,b',c,c',v0,v1,v2,o0,o1,ps,rfl,ca,cb,cc,(R.but bu fun x hx=>?_).weak (Nat.le_of_lt hlt)⟩
    subst hx
    refine ⟨fun hm=>?_,fun e=>?_⟩
    · have:=(R.rng _ hm).1
      omega
    · have:=(R.own.lt _ e).1
      omega
theorem load_none (t:Str) {z:Int} {ok:Bool} (hc:∀ w,Calls prog 13 #[.string (bstr t)] w fun e w'=>∃ a a' b b' c c' v0 v1 v2,e=.returned (.tuple #[.agg #[.complex .f32 a a',.complex .f32 b b',.complex .f32 c c',v0,v1,v2],.int .i64 z,.bool ok])∧IsSl v0∧IsSl v1∧IsSl v2∧Below w.heap.size w w') (hz:ok=false ∨ z ≠ (t.length:Int)) (w:World) :
    Calls prog 18 #[.string (bstr t)] w fun e w'=>∃ a a' b b' c c' v0 v1 v2 o0 o1 ps,e=.returned (.tuple #[.agg #[.complex .f32 a a',.complex .f32 b b',.complex .f32 c c',v0,v1,v2],.bool false])∧Below w.heap.size w w' ∧
      CxW qpg.Grid.qa1.Source.A a a'∧CxW qpg.Grid.qa1.Source.B b b'∧CxW qpg.Grid.qa1.Source.C c c'∧qes w' w.heap.size [] o0 o1 v0 v1 v2 qpg.Grid.qa1.qac qpg.Grid.Ties ps qpg.qce :=
  (load_zero hc hz w).mono fun e w' h=>⟨0,0,0,0,0,0,_,_,_,none,none,[],h.1,h.2,cx0,cx0,cx0,noRec_st _⟩
theorem law_load (t:Str) (w:World):Calls prog 5 #[.string (bstr t)] w fun e w'=>e=.returned (.bool true)∧Below w.heap.size w w':=by
  by_cases ht:t.length≤1048576
  · rcases rec_cases t ht with ⟨hi,hs,hl⟩ | ⟨g,a0,hg,ha,hi,hs,hl⟩
    · obtain ⟨b1,b2,m1,m2,m3,m4⟩:=qte (n:=N) (by decide) qpg qln
      exact law5 (n:=N) (Z:=0) ht (fun w=>specL_call hl w) (fun w=>load_none t (fun w=>(recover_fail hi w).mono fun e w' h=>⟨0,0,0,0,0,0,_,_,_,h.1,⟨_,_,_,rfl⟩,⟨_,_,_,rfl⟩,⟨_,_,_,rfl⟩,h.2⟩) (.inl rfl) w) (qv4 (by decide) qpg qln) mkPs qkw (fun l k h1 h2=>qqj (n:=N) (by decide) l k h1 h2) m1 m2 m3 (by decide) qln.flw qln.row m4 w
    · by_cases he:(qt6 t g a0:Int)=(t.length:Int)
      · have hf:=recOf_few t hg a0
        rw [if_pos he] at hl
        obtain ⟨b1,b2,m1,m2,m3,m4⟩:=qte (n:=N) (by decide) _ hf
        exact law5 (n:=N) (Z:=0) ht (fun w=>specL_call hl w) (fun w=>load_rec t ht hg ha hi he w) (qv4 (by decide) _ hf) mkPs qkw (fun l k h1 h2=>qqj (n:=N) (by decide) l k h1 h2) m1 m2 m3 (by have:=hf.bus;have:=hf.tie;omega) hf.flw hf.row m4 w
      · rw [if_neg he] at hl
        obtain ⟨b1,b2,m1,m2,m3,m4⟩:=qte (n:=N) (by decide) qpg qln
        refine law5 (n:=N) (Z:=0) ht (fun w=>specL_call hl w) (fun w=>load_none t (z:=(qt6 t g a0:Int)) (ok:=true) (fun w=>(impl_rec t ht hg ha hi w).mono ?_) (.inr he) w) (qv4 (by decide) qpg qln) mkPs qkw (fun l k h1 h2=>qqj (n:=N) (by decide) l k h1 h2) m1 m2 m3 (by decide) qln.flw qln.row m4 w
        rintro e w' ⟨a,a',b,b',c,c',v0,v1,v2,o0,o1,ps,rfl,bel,ca,cb,cc,R⟩
        obtain ⟨d0,k0,e0⟩:=R.bus.slice
        obtain ⟨d1,k1,e1⟩:=R.tie.slice
        obtain ⟨d2,k2,e2⟩:=R.slice
        exact ⟨a,a',b,b',c,c',v0,v1,v2,rfl,⟨_,_,_,e0⟩,⟨_,_,_,e1⟩,⟨_,_,_,e2⟩,bel⟩
  · exact law5_long (by omega) w
end Go.Proofs.Ytmllgpkgjniomaa.AWN
