/- The abstract machine: values, data, their relation to the model's values and memory. -/
import Derived.WalkKit
import Derived.Laws.FloatArith
import Derived.Laws.ComplexArith
import Derived.Deep.Draws
import Derived.Deep.Quiet
import Derived.ArgAppend
import Derived.MapKept
import Derived.LoopTactic
set_option linter.unusedVariables false
set_option linter.unusedSimpArgs false
set_option linter.unusedSectionVars false
namespace Go.Proofs.YtiegopnofbgoaaaGreat.AWN
open Go
/-! ### Floats: one NaN stands for all -/
def qnan:FloatKind→Nat
  | .f32=>2143289344
  | .f64=>9221120237041090560
def isnan (k:FloatKind) (b:Nat):Bool:=(k.format.read b).isNaN
def canon (k:FloatKind) (b:Nat):Nat:=if isnan k b then qnan k else b
/-! ### Data (no references),values,objects,states -/
inductive D where
  | bool (b:Bool)
  | int (k:IntKind) (n:Int)
  | fl (k:FloatKind) (x:Nat)
  | cx (k:FloatKind) (re im:Nat)
  | str (s:ByteArray)
  | sl (t:Bool) (es:List (List D))
  | nils
  | nilp
  | nilf
  | nilm
instance : Inhabited D:=⟨.nilp⟩
inductive V where
  | junk
  | und
  | d (x:D)
  | agg (cs:List V)
  | tup (vs:List V)
  | ptr (j off:Nat)
  | eptr (j L i off:Nat)
  | rop (cs:List D) (off:Nat)
  | row (j L off len:Nat)
  | func (f:Nat) (first caps:List V)
  | mref (j:Nat)
instance : Inhabited V:=⟨.junk⟩
inductive AObj where
  | none
  | box (cs:List V)
  | row (sz:Nat) (es:List (List D))
  | map (k:IntKind) (es:List (Int × D))
instance : Inhabited AObj:=⟨.none⟩
structure St where
  env:Nat→V
  heap:Nat→AObj
  next:Nat
  nt:Nat
  base:Nat
/-! ### The relation of data -/
inductive RelD (W:World) (ok:Nat→Prop):D→Value→Prop
  | bool (b:Bool):RelD W ok (.bool b) (.bool b)
  | int (k:IntKind) (n:Int):RelD W ok (.int k n) (.int k n)
  | fl {k:FloatKind} {x b:Nat}:canon k b = x→b < 2 ^ k.format.width→RelD W ok (.fl k x) (.float k b)
  | cx {k:FloatKind} {x y b c:Nat}:canon k b = x→canon k c = y→b < 2 ^ k.format.width→c < 2 ^ k.format.width→RelD W ok (.cx k x y) (.complex k b c)
  | str (s:ByteArray):RelD W ok (.str s) (.string s)
  | slnil (t:Bool):RelD W ok (.sl t []) (.slice none 0 0)
  | sle (t:Bool) (a:Addr):RelD W ok (.sl t []) (.slice (some a) 0 0)
  | sl {t:Bool} {es:List (List D)} {b o len cap:Nat} (sz:Nat) (vals:Nat→Nat→Value):(es ≠ []→ok b)→es.length = len→len ≤ cap→(t = true→cap = len)→len ≤ maxLen →
      (∀ i,i < len→(es.getD i []).length = sz) →
      (∀ i c,i < len→c < sz→W.cell? ⟨b,o + (i * sz + c),none⟩ = some (vals i c)) →
      (∀ i c,i < len→c < sz→RelD W ok ((es.getD i []).getD c .nilp) (vals i c))→RelD W ok (.sl t es) (.slice (some ⟨b,o,none⟩) len cap)
  | nils:RelD W ok .nils (.slice none 0 0)
  | nilp:RelD W ok .nilp (.pointer none)
  | nilf:RelD W ok .nilf .nilFunc
  | nilm:RelD W ok .nilm (.map none)
structure Moves (W W':World) (ok ok':Nat→Prop):Prop where
  good:∀ b,ok b→ok' b
  cell:∀ b o v,ok b→W.cell? ⟨b,o,none⟩ = some v→W'.cell? ⟨b,o,none⟩ = some v
theorem RelD.mono {W W':World} {ok ok':Nat→Prop} (m:Moves W W' ok ok') {x:D} {v:Value} (h:RelD W ok x v):RelD W' ok' x v:=by
  induction h with
  | bool b=>exact .bool b
  | int k n=>exact .int k n
  | fl h1 h2=>exact .fl h1 h2
  | cx h1 h2 h3 h4=>exact .cx h1 h2 h3 h4
  | str s=>exact .str s
  | slnil t=>exact .slnil t
  | sle t a=>exact .sle t a
  | nils=>exact .nils
  | nilp=>exact .nilp
  | nilf=>exact .nilf
  | nilm=>exact .nilm
  | sl sz vals h1 h2 h3 h4 hm h5 h6 _ ih =>
    refine .sl sz vals (fun hne=>m.good _ (h1 hne)) h2 h3 h4 hm h5 (fun i c hi hc=>m.cell _ _ _ (h1 ?_) (h6 i c hi hc)) ih
    intro h0;subst h0;simp at h2;omega
/-! ### The relation of values -/
abbrev Handle:=Nat→Option Nat
inductive Rel (W:World) (hb:Handle) (H:Nat→AObj) (ok:Nat→Prop):V→Value→Prop
  | junk (v:Value):Rel W hb H ok .junk v
  | und:Rel W hb H ok .und undef
  | d {x:D} {v:Value}:RelD W ok x v→Rel W hb H ok (.d x) v
  | agg {cs:List V} {a:Array Value}:cs.length = a.size→(∀ i,i < a.size→Rel W hb H ok (cs.getD i .junk) (a.getD i undef))→Rel W hb H ok (.agg cs) (.agg a)
  | tup {cs:List V} {a:Array Value}:cs.length = a.size→(∀ i,i < a.size→Rel W hb H ok (cs.getD i .junk) (a.getD i undef))→Rel W hb H ok (.tup cs) (.tuple a)
  | ptr {j b off:Nat} {cs:List V}:H j = .box cs→hb j = some b→Rel W hb H ok (.ptr j off) (.pointer (some ⟨b,off,none⟩))
  | eptr {j L i off b sz:Nat} {es:List (List D)}:H j = .row sz es→es.length = L→hb j = some b→Rel W hb H ok (.eptr j L i off) (.pointer (some ⟨b,i * sz + off,none⟩))
  | eptrStale {j L i off sz:Nat} {es:List (List D)} (v:Value):H j = .row sz es→L < es.length→v.oneCell' = true→Rel W hb H ok (.eptr j L i off) v
  | rop {cs:List D} {b o off:Nat} (vals:Nat→Value):(cs ≠ []→ok b)→(∀ c,c < cs.length→W.cell? ⟨b,o + c,none⟩ = some (vals c))→(∀ c,c < cs.length→RelD W ok (cs.getD c .nilp) (vals c)) →
      Rel W hb H ok (.rop cs off) (.pointer (some ⟨b,o + off,none⟩))
  | row {j L off len b sz cap bs:Nat} {es:List (List D)}:H j = .row sz es→es.length = L→hb j = some b→(W.shape? b).map (·.2) = some bs→off + len ≤ L→len ≤ cap→(off + cap) * sz ≤ bs→L ≤ maxLen→cap ≤ maxLen →
      Rel W hb H ok (.row j L off len) (.slice (some ⟨b,off * sz,none⟩) len cap)
  | rowEmpty {j L off sz cap b o:Nat} {es:List (List D)}:H j = .row sz es→es.length = L→0 < L→Rel W hb H ok (.row j L off 0) (.slice (some ⟨b,o,none⟩) 0 cap)
  | rowNil {j sz:Nat}:H j = .row sz []→hb j = none→Rel W hb H ok (.row j 0 0 0) (.slice none 0 0)
  | rowStale {j L off len sz:Nat} {es:List (List D)} (v:Value):H j = .row sz es→L < es.length→v.oneCell' = true→Rel W hb H ok (.row j L off len) v
  | func {f:Nat} {first caps:List V} {a c:Array Value}:first.length = a.size→caps.length = c.size→(∀ i,i < a.size→Rel W hb H ok (first.getD i .junk) (a.getD i undef)) →
      (∀ i,i < c.size→Rel W hb H ok (caps.getD i .junk) (c.getD i undef))→Rel W hb H ok (.func f first caps) (.func (.func f) a c)
  | mref {j b:Nat} {k:IntKind} {es:List (Int × D)}:H j = .map k es→hb j = some b→Rel W hb H ok (.mref j) (.map (some b))
structure MovesR (W W':World) (hb hb':Handle) (H H':Nat→AObj):Prop where
  box:∀ j cs,H j = .box cs→∃ cs',H' j = .box cs'∧hb' j = hb j
  row:∀ j sz es,H j = .row sz es→∃ es',H' j = .row sz es'∧es.length ≤ es'.length∧(es'.length = es.length→hb' j = hb j∧∀ b bs,hb j = some b→(W.shape? b).map (·.2) = some bs→(W'.shape? b).map (·.2) = some bs)
  map:∀ j k es,H j = .map k es→∃ es',H' j = .map k es'∧hb' j = hb j
structure qgt (W W':World) (hb hb':Handle) (H H':Nat→AObj) (ok ok':Nat→Prop):Prop extends toMoves:Moves W W' ok ok',toMovesR:MovesR W W' hb hb' H H'
theorem MovesR.refl (W:World) (hb:Handle) (H:Nat→AObj):MovesR W W hb hb H H :=
  ⟨fun _ cs h=>⟨cs,h,rfl⟩,fun _ _ es h=>⟨es,h,Nat.le_refl _,fun _=>⟨rfl,fun _ _ _ h=>h⟩⟩,fun _ _ es h=>⟨es,h,rfl⟩⟩
theorem MovesR.trans {W W' W'':World} {hb hb' hb'':Handle} {H H' H'':Nat→AObj} (h:MovesR W W' hb hb' H H') (k:MovesR W' W'' hb' hb'' H' H''):MovesR W W'' hb hb'' H H'':=by
  refine ⟨fun j cs hj=>?_,fun j sz es hj=>?_,fun j kk es hj=>?_⟩
  · obtain ⟨cs',e1,e2⟩:=h.box j cs hj
    obtain ⟨cs'',e3,e4⟩:=k.box j cs' e1
    exact ⟨cs'',e3,e4.trans e2⟩
  · obtain ⟨es',e1,e0,e2⟩:=h.row j sz es hj
    obtain ⟨es'',e3,e5,e4⟩:=k.row j sz es' e1
    refine ⟨es'',e3,Nat.le_trans e0 e5,fun hl=>?_⟩
    have h1:=e2 (by omega)
    have h2:=e4 (by omega)
    exact ⟨h2.1.trans h1.1,fun b bs hb hs=>h2.2 b bs (h1.1.trans hb) (h1.2 b bs hb hs)⟩
  · obtain ⟨es',e1,e2⟩:=h.map j kk es hj
    obtain ⟨es'',e3,e4⟩:=k.map j kk es' e1
    exact ⟨es'',e3,e4.trans e2⟩
theorem Rel.mono {W W':World} {hb hb':Handle} {H H':Nat→AObj} {ok ok':Nat→Prop} (m:qgt W W' hb hb' H H' ok ok') {x:V} {v:Value} (h:Rel W hb H ok x v):Rel W' hb' H' ok' x v:=by
  induction h with
  | junk v=>exact .junk v
  | und=>exact .und
  | d h=>exact .d (h.mono m.toMoves)
  | agg h1 _ ih=>exact .agg h1 ih
  | tup h1 _ ih=>exact .tup h1 ih
  | ptr h1 h2 =>
    obtain ⟨cs',e1,e2⟩:=m.box _ _ h1
    exact .ptr e1 (e2.trans h2)
  | eptr h1 h2 h3 =>
    obtain ⟨es',e1,e0,e2⟩:=m.row _ _ _ h1
    rcases Nat.lt_or_eq_of_le e0 with hl | hl
    · exact .eptrStale _ e1 (by omega) rfl
    · exact .eptr e1 (hl.symm.trans h2) ((e2 hl.symm).1.trans h3)
  | eptrStale v h1 h2 h3 =>
    obtain ⟨es',e1,e0,e2⟩:=m.row _ _ _ h1
    exact .eptrStale _ e1 (by omega) h3
  | rop vals h1 h2 h3 =>
    refine .rop vals (fun hne=>m.good _ (h1 hne)) (fun c hc=>m.cell _ _ _ (h1 ?_) (h2 c hc)) (fun c hc=>(h3 c hc).mono m.toMoves)
    intro h0;subst h0;simp at hc
  | row h1 h2 h3 h4 h5 h6 h7 h8 h9 =>
    obtain ⟨es',e1,e0,e2⟩:=m.row _ _ _ h1
    rcases Nat.lt_or_eq_of_le e0 with hl | hl
    · exact .rowStale _ e1 (by omega) rfl
    · obtain ⟨g1,g2⟩:=e2 hl.symm
      exact .row e1 (hl.symm.trans h2) (g1.trans h3) (g2 _ _ h3 h4) h5 h6 h7 h8 h9
  | rowEmpty h1 h2 h3 =>
    obtain ⟨es',e1,e0,e2⟩:=m.row _ _ _ h1
    rcases Nat.lt_or_eq_of_le e0 with hl | hl
    · exact .rowStale _ e1 (by omega) rfl
    · exact .rowEmpty e1 (hl.symm.trans h2) h3
  | rowNil h1 h2 =>
    obtain ⟨es',e1,e0,e2⟩:=m.row _ _ _ h1
    by_cases hl:es'.length = 0
    · obtain rfl:es' = []:=List.eq_nil_of_length_eq_zero hl
      exact .rowNil e1 ((e2 rfl).1.trans h2)
    · exact .rowStale _ e1 (by omega) rfl
  | rowStale v h1 h2 h3 =>
    obtain ⟨es',e1,e0,e2⟩:=m.row _ _ _ h1
    exact .rowStale _ e1 (by omega) h3
  | func h1 h2 _ _ ih1 ih2=>exact .func h1 h2 ih1 ih2
  | mref h1 h2 =>
    obtain ⟨es',e1,e2⟩:=m.map _ _ _ h1
    exact .mref e1 (e2.trans h2)
/-! ### The step function -/
structure TD where
  desc:TypeDesc
  size:Nat
  bytes:Nat
  zero:Value
abbrev Tab:=TypeId→Option TD
def upd {α:Type} (f:Nat→α) (j:Nat) (x:α):Nat→α:=fun i=>bif Nat.beq i j then x else f i
def cellV:Value→V
  | .bool b=>.d (.bool b)
  | .int k n=>.d (.int k n)
  | .float k b=>bif Nat.blt b (2 ^ k.format.width) then .d (.fl k (canon k b)) else .junk
  | .complex k a b=>bif Nat.blt a (2 ^ k.format.width) && Nat.blt b (2 ^ k.format.width) then .d (.cx k (canon k a) (canon k b)) else .junk
  | .string s=>.d (.str s)
  | .pointer none=>.d .nilp
  | .slice none 0 0=>.d .nils
  | .nilFunc=>.d .nilf
  | .map none=>.d .nilm
  | _=>.junk
def qlj:Value→V
  | .agg a=>.agg (a.toList.map cellV)
  | v=>cellV v
def St.ev (σ:St):Operand→V
  | .tmp t=>σ.env t
  | .const v=>qlj v
  | .global _=>.junk
  | .func f=>.func f [] []
inductive OR where
  | val (v:V)
  | valH (v:V) (h:Nat→AObj) (n:Nat)
  | need (p:Prop) (v:V)
  | needH (p:Prop) (v:V) (h:Nat→AObj) (n:Nat)
  | elem (p:Prop) (es:List (List D)) (i:Nat) (k:List D→Option V)
  | elemH (p:Prop) (es:List (List D)) (i:Nat) (k:List D→Option (Nat→AObj))
  | pick (R:Nat→Prop) (k:Nat→V)
  | call (f:Nat) (args:List V)
  | stuck
def V.one:V→Bool
  | .junk | .und | .agg _ | .tup _=>false
  | _=>true
def V.cells:V→Option (List V)
  | .agg cs=>bif cs.all V.one then some cs else none
  | v=>bif v.one then some [v] else none
def V.toD:V→Option D
  | .d x=>some x
  | _=>none
def allD:List V→Option (List D)
  | []=>some []
  | v :: r=>match v.toD,allD r with
    | some x,some y=>some (x :: y)
    | _,_=>none
def splice {α:Type}:List α→Nat→List α→List α
  | xs,0,new=>new ++ xs.drop new.length
  | [],_ + 1,_=>[]
  | x :: xs,off + 1,new=>x :: splice xs off new
def qpa (d:TypeDesc):Bool:=match d with | .struct _=>true | .array _ _=>true | _=>false
def qp6 (td:TD) (cs:List V) (off:Nat):Option V :=
  bif qpa td.desc then (bif Nat.ble (off + td.size) cs.length then some (.agg ((cs.drop off).take td.size)) else none) else cs[off]?
def qry:Option V→OR
  | some v=>.val v
  | none=>.stuck
def qly (τ:Tab) (t:TypeId) (f:Nat):Option (Nat × TD) :=
  match τ t with
  | some td=>match td.desc with
    | .struct fs=>match fs[f]? with
      | some fd=>match τ fd.type with
        | some fdt=>some (fd.offset,fdt)
        | none=>none
      | none=>none
    | _=>none
  | none=>none
def qr6 (place:Nat→Option (Nat × Nat)):List V→List (Nat × V)→Option (List V)
  | cs,[]=>some cs
  | cs,(i,v) :: r=>match place i,v.cells with
    | some (off,size),some vs=>bif Nat.beq vs.length size && Nat.ble (off + size) cs.length then qr6 place (splice cs off vs) r else none
    | _,_=>none
def qg9 (H:Nat→AObj):V→Option (Prop × List (List D))
  | .d (.sl _ es)=>some (True,es)
  | .d .nils=>some (True,[])
  | .row j L off len=>match H j with
    | .row _ es=>some (es.length = L∧off + len ≤ L,(es.drop off).take len)
    | _=>none
  | _=>none
def qam (op:BinOp) (k:FloatKind) (x y:Nat):Nat:=((match op with
  | .add=>k.format.add x y
  | .sub=>k.format.sub x y
  | .mul=>k.format.mul x y
  | _=>k.format.div x y:Option Nat)).getD (qnan k)
def fcmp (op:BinOp) (k:FloatKind) (x y:Nat):Bool:=match op with
  | .eql=>k.format.order x y == some .eq
  | .neq=>k.format.order x y != some .eq
  | .lss=>k.format.order x y == some .lt
  | .leq=>k.format.order x y == some .lt || k.format.order x y == some .eq
  | .gtr=>k.format.order x y == some .gt
  | _=>k.format.order x y == some .gt || k.format.order x y == some .eq
def fneg (k:FloatKind) (x:Nat):Nat:=canon k (Op.negFloat k x)
def qir (op:BinOp) (k:IntKind) (x y:Int):Int :=
  k.wrap (match op with
    | .and=>BitVec.ofInt k.bits x &&& BitVec.ofInt k.bits y
    | .or=>BitVec.ofInt k.bits x ||| BitVec.ofInt k.bits y
    | .xor=>BitVec.ofInt k.bits x ^^^ BitVec.ofInt k.bits y
    | _=>BitVec.ofInt k.bits x &&& ~~~BitVec.ofInt k.bits y:BitVec k.bits).toNat
def ikEq (a b:IntKind):Bool:=decide (a = b)
def fkEq (a b:FloatKind):Bool:=decide (a = b)
def qwb (op:BinOp) (k:IntKind) (a b:Int):OR:=match op with
  | .add=>.val (.d (.int k (k.wrap (a + b))))
  | .sub=>.val (.d (.int k (k.wrap (a - b))))
  | .mul=>.val (.d (.int k (k.wrap (a * b))))
  | .quo=>.need (b ≠ 0) (.d (.int k (k.wrap (a.tdiv b))))
  | .rem=>.need (b ≠ 0) (.d (.int k (a.tmod b)))
  | .and=>.val (.d (.int k (qir .and k a b)))
  | .or=>.val (.d (.int k (qir .or k a b)))
  | .xor=>.val (.d (.int k (qir .xor k a b)))
  | .andNot=>.val (.d (.int k (qir .andNot k a b)))
  | .eql=>.val (.d (.bool (a == b)))
  | .neq=>.val (.d (.bool (a != b)))
  | .lss=>.val (.d (.bool (decide (a < b))))
  | .leq=>.val (.d (.bool (decide (a ≤ b))))
  | .gtr=>.val (.d (.bool (decide (a > b))))
  | .geq=>.val (.d (.bool (decide (a ≥ b))))
  | _=>.stuck
def qy1 (op:BinOp) (k:FloatKind) (a b:Nat):OR:=match op with
  | .add=>.val (.d (.fl k (qam .add k a b)))
  | .sub=>.val (.d (.fl k (qam .sub k a b)))
  | .mul=>.val (.d (.fl k (qam .mul k a b)))
  | .quo=>.val (.d (.fl k (qam .quo k a b)))
  | .eql=>.val (.d (.bool (fcmp .eql k a b)))
  | .neq=>.val (.d (.bool (fcmp .neq k a b)))
  | .lss=>.val (.d (.bool (fcmp .lss k a b)))
  | .leq=>.val (.d (.bool (fcmp .leq k a b)))
  | .gtr=>.val (.d (.bool (fcmp .gtr k a b)))
  | .geq=>.val (.d (.bool (fcmp .geq k a b)))
  | _=>.stuck
def qy0 (op:BinOp) (k:FloatKind) (a b c d:Nat):OR:=match op with
  | .add=>.val (.d (.cx k (qam .add k a c) (qam .add k b d)))
  | .sub=>.val (.d (.cx k (qam .sub k a c) (qam .sub k b d)))
  | .eql=>.val (.d (.bool (fcmp .eql k a c && fcmp .eql k b d)))
  | .neq=>.val (.d (.bool !(fcmp .eql k a c && fcmp .eql k b d)))
  | _=>.stuck
def qwc (op:BinOp) (a b:ByteArray):OR:=match op with
  | .add=>.need (a.size + b.size ≤ 9223372036854775807) (.d (.str (a ++ b)))
  | .eql=>.val (.d (.bool (a.toList == b.toList)))
  | .neq=>.val (.d (.bool !(a.toList == b.toList)))
  | _=>.stuck
def qst (op:BinOp) (k:IntKind) (a b:Int):OR:=match op with
  | .shl=>.need (0 ≤ b) (.d (.int k (k.wrap (a * 2 ^ min b.toNat k.bits))))
  | .shr=>.need (0 ≤ b) (.d (.int k (a.fdiv (2 ^ min b.toNat k.bits))))
  | _=>.stuck
def qoa (op:BinOp):Bool:=match op with | .shl=>true | .shr=>true | _=>false
def binV (τ:Tab) (op:BinOp) (t:TypeId) (x y:V):OR :=
  match x,y with
  | .d (.int k a),.d (.int k' b)=>bif qoa op then qst op k a b else bif ikEq k k' then qwb op k a b else .stuck
  | .d (.fl k a),.d (.fl k' b)=>bif fkEq k k' then qy1 op k a b else .stuck
  | .d (.cx k a b),.d (.cx k' c e)=>bif fkEq k k' then qy0 op k a b c e else .stuck
  | .d (.str a),.d (.str b)=>qwc op a b
  | .d (.bool a),.d (.bool b)=>match τ t with
    | some td=>match td.desc with
      | .bool=>match op with
        | .eql=>.val (.d (.bool (a == b)))
        | .neq=>.val (.d (.bool (!(a == b))))
        | _=>.stuck
      | _=>.stuck
    | none=>.stuck
  | _,_=>.stuck
def unV (op:UnOp) (x:V):OR :=
  match op,x with
  | .not,.d (.bool b)=>.val (.d (.bool !b))
  | .neg,.d (.int k n)=>.val (.d (.int k (k.wrap (0 - n))))
  | .neg,.d (.fl k x)=>.val (.d (.fl k (fneg k x)))
  | .neg,.d (.cx k x y)=>.val (.d (.cx k (fneg k x) (fneg k y)))
  | _,_=>.stuck
def qmu (s k:FloatKind) (x:Nat):Option Nat :=
  bif fkEq s k then some x else
  match s.decode x with
  | .nan _ _=>some (qnan k)
  | .infinity sg=>some (k.encode (.infinity sg))
  | .number sg m e=>bif (k.decode (k.encode (.number sg m e))).isInfinity then none else some (k.encode (.number sg m e))
def bytesOf (es:List (List D)):ByteArray:=⟨(es.map fun e=>match e with | [.int .u8 n]=>UInt8.ofNat n.toNat | _=>0).toArray⟩
def qwg (τ:Tab) (src dst:TypeId) (x:V):OR :=
  match τ src,τ dst with
  | some s,some d=>match d.desc,x with
    | .int k,.d (.int _ n)=>.val (.d (.int k (k.wrap n)))
    | .float k,.d (.int _ n)=>.val (.d (.fl k (k.nearest n)))
    | .float k,.d (.fl sk b)=>match qmu sk k b with
      | some r=>.val (.d (.fl k r))
      | none=>.pick (fun r=>r < 2 ^ k.format.width) (fun r=>.d (.fl k (canon k r)))
    | _,_=>.stuck
  | _,_=>.stuck
def qpd (H:Nat→AObj) (x:V) (n:Nat):OR :=
  match x with
  | .ptr j off=>.val (.ptr j (off + n))
  | .eptr j L i off=>match H j with
    | .row _ es=>.need (es.length = L) (.eptr j L i (off + n))
    | _=>.stuck
  | .rop cs off=>.val (.rop cs (off + n))
  | _=>.stuck
def qsj (H:Nat→AObj) (td:TD) (x:V):OR :=
  match x with
  | .ptr j off=>match H j with
    | .box cs=>qry (qp6 td cs off)
    | _=>.stuck
  | .eptr j L i off=>match H j with
    | .row _ es=>.elem (es.length = L) es i (fun e=>qp6 td (e.map .d) off)
    | _=>.stuck
  | .rop cs off=>qry (qp6 td (cs.map .d) off)
  | _=>.stuck
def qxu (H:Nat→AObj) (n:Nat) (td:TD) (x v:V):OR :=
  match v.cells with
  | some vs=>bif Nat.beq vs.length td.size then
    match x with
    | .ptr j off=>match H j with
      | .box cs=>bif Nat.ble (off + td.size) cs.length then .valH .und (upd H j (.box (splice cs off vs))) n else .stuck
      | _=>.stuck
    | .eptr j L i off=>match H j with
      | .row sz es=>match allD vs with
        | some ds=>.elemH (es.length = L) es i (fun e=>bif Nat.ble (off + td.size) e.length then some (upd H j (.row sz (es.set i (splice e off ds)))) else none)
        | none=>.stuck
      | _=>.stuck
    | _=>.stuck
    else .stuck
  | none=>.stuck
def qkj (τ:Tab) (H:Nat→AObj) (t:TypeId) (x i:V):OR :=
  match τ t,i with
  | some td,.d (.int _ n)=>match td.desc,x with
    | .slice et,.d (.sl _ es)=>match τ et with
      | some ed=>.elem (0 ≤ n) es n.toNat (fun e=>bif Nat.beq e.length ed.size then some (.rop e 0) else none)
      | none=>.stuck
    | .slice et,.row j L off len=>match τ et,H j with
      | some ed,.row sz es=>bif Nat.beq sz ed.size then .need (0 ≤ n∧n < len∧off + len ≤ L∧es.length = L) (.eptr j L (off + n.toNat) 0) else .stuck
      | _,_=>.stuck
    | _,_=>.stuck
  | _,_=>.stuck
def bAt (s:ByteArray) (i:Nat):Int:=((s.data.getD i 0).toNat:Int)
def qtj (τ:Tab) (t:TypeId) (x i:V):OR :=
  match x,i with
  | .d (.str s),.d (.int _ n)=>match τ t with
    | some td=>match td.desc with
      | .string=>.need (0 ≤ n∧n < s.size) (.d (.int .u8 (bAt s n.toNat)))
      | _=>.stuck
    | none=>.stuck
  | .agg cs,.d (.int _ n)=>match τ t with
    | some td=>match td.desc with
      | .array len e=>match τ e with
        | some ed=>bif qpa ed.desc || !Nat.beq ed.size 1 then .stuck else .need (0 ≤ n∧n < (len:Int)∧n < (cs.length:Int)) (cs.getD n.toNat .junk)
        | none=>.stuck
      | _=>.stuck
    | none=>.stuck
  | _,_=>.stuck
def qqk:Option V→Option (Option Int)
  | none=>some none
  | some (.d (.int _ n))=>some (some n)
  | some _=>none
def qpg (τ:Tab) (H:Nat→AObj) (t:TypeId) (x:V) (lo hi mx:Option V):OR :=
  match τ t,qqk lo,qqk hi,mx with
  | some td,some lo,some hi,none=>match td.desc,x with
    | .string,.d (.str s)=>.need (0 ≤ lo.getD 0∧lo.getD 0 ≤ hi.getD s.size∧hi.getD s.size ≤ s.size) (.d (.str (s.extract (lo.getD 0).toNat (hi.getD s.size).toNat)))
    | .slice et,.d (.sl _ es)=>match τ et with
      | some ed=>.need (0 ≤ lo.getD 0∧lo.getD 0 ≤ hi.getD es.length∧hi.getD es.length ≤ es.length∧∀ e ∈ es,e.length = ed.size) (.d (.sl false ((es.drop (lo.getD 0).toNat).take ((hi.getD es.length).toNat - (lo.getD 0).toNat))))
      | none=>.stuck
    | .slice et,.row j L off len=>match τ et,H j with
      | some ed,.row sz es=>bif Nat.beq sz ed.size then .need (es.length = L∧0 ≤ lo.getD 0∧lo.getD 0 ≤ hi.getD len∧hi.getD len ≤ len∧off + len ≤ L∧0 < L) (.row j L (off + (lo.getD 0).toNat) ((hi.getD len).toNat - (lo.getD 0).toNat)) else .stuck
      | _,_=>.stuck
    | _,_=>.stuck
  | _,_,_,_=>.stuck
def qsi (d:TypeDesc):Bool:=match d with | .slice _=>true | _=>false
def qu7 (τ:Tab) (H:Nat→AObj) (n:Nat) (ts:Array TypeId) (s x:V):OR :=
  match ts[0]?,ts[1]? with
  | some t,some t1=>match τ t,τ t1 with
    | some td,some td1=>match td.desc with
      | .slice e=>match τ e,qg9 H x with
        | some ed,some (px,ys)=>bif !qsi td1.desc || !Nat.beq ed.zero.cells.size ed.size || Nat.beq ed.size 0 then .stuck else match s with
          | .d .nils=>.needH (px∧ys.length * ed.bytes ≤ 140737488355328∧0 < ed.bytes∧ys ≠ []∧∀ y ∈ ys,y.length = ed.size) (.row n ys.length 0 ys.length) (upd H n (.row ed.size ys)) (n + 1)
          | .row j L off len=>match H j with
            | .row sz es=>bif Nat.beq sz ed.size then .needH (px∧es.length = L∧off = 0∧len = L∧(L + ys.length) * ed.bytes ≤ 140737488355328∧0 < ed.bytes∧∀ y ∈ ys,y.length = ed.size) (.row j (L + ys.length) 0 (L + ys.length)) (upd H j (.row sz (es ++ ys))) n else .stuck
            | _=>.stuck
          | .d (.sl true es)=>.needH (px∧(es.length + ys.length) * ed.bytes ≤ 140737488355328∧0 < ed.bytes∧ys ≠ []∧(∀ y ∈ es,y.length = ed.size)∧∀ y ∈ ys,y.length = ed.size) (.row n (es.length + ys.length) 0 (es.length + ys.length)) (upd H n (.row ed.size (es ++ ys))) (n + 1)
          | _=>.stuck
        | _,_=>.stuck
      | _=>.stuck
    | _,_=>.stuck
  | _,_=>.stuck
def setL {α:Type}:List α→Nat→List α→List α
  | l,_,[]=>l
  | l,o,z :: r=>setL (l.set o z) (o + 1) r
def copyV (τ:Tab) (H:Nat→AObj) (n:Nat) (ts:Array TypeId) (s x:V):OR :=
  match ts[0]? with
  | some t=>match τ t with
    | some td=>match td.desc with
      | .slice e=>match τ e,qg9 H x with
        | some ed,some (px,ys)=>match s with
          | .row j L off len=>match H j with
            | .row sz es=>bif Nat.beq sz ed.size && !Nat.beq ed.size 0 then .needH (px∧es.length = L∧off + len ≤ L∧0 < L∧∀ y ∈ ys,y.length = ed.size) (.d (.int .i64 ((min ys.length len:Nat):Int))) (upd H j (.row sz (setL es off (ys.take (min ys.length len))))) n else .stuck
            | _=>.stuck
          | _=>.stuck
        | _,_=>.stuck
      | _=>.stuck
    | none=>.stuck
  | none=>.stuck
def qw0 (x y:V) (mx:Bool):OR :=
  match x,y with
  | .d (.int k a),.d (.int k' b)=>bif ikEq k k' then .val (.d (.int k (bif mx then (if b > a then b else a) else (if b < a then b else a)))) else .stuck
  | _,_=>.stuck
def lenV (τ:Tab) (H:Nat→AObj) (t:TypeId) (x:V):OR :=
  match τ t with
  | some td=>match td.desc,x with
    | .string,.d (.str s)=>.val (.d (.int .i64 s.size))
    | .slice _,.d (.sl _ es)=>.val (.d (.int .i64 es.length))
    | .slice _,.d .nils=>.val (.d (.int .i64 0))
    | .slice _,.row j L off len=>match H j with
      | .row _ es=>.need (es.length = L) (.d (.int .i64 len))
      | _=>.stuck
    | _,_=>.stuck
  | none=>.stuck
def qnn (τ:Tab) (H:Nat→AObj) (n:Nat) (b:Builtin) (ts:Array TypeId) (args:List V):OR :=
  match b,args with
  | .len,[x]=>match ts[0]? with
    | some t=>lenV τ H t x
    | none=>.stuck
  | .append,[s,x]=>qu7 τ H n ts s x
  | .copy,[s,x]=>copyV τ H n ts s x
  | .complex,[.d (.fl k a),.d (.fl k' b)]=>bif fkEq k k' then .val (.d (.cx k a b)) else .stuck
  | .real,[.d (.cx k a _)]=>.val (.d (.fl k a))
  | .imag,[.d (.cx k _ b)]=>.val (.d (.fl k b))
  | .max,[x,y]=>qw0 x y true
  | .min,[x,y]=>qw0 x y false
  | _,_=>.stuck
/-! ### Maps of whole numbers to data of one cell -/
def qqh:List (Int × D)→Int→Option D
  | [],_=>none
  | (k,x) :: r,n=>bif k == n then some x else qqh r n
def qqi:List (Int × D)→Int→D→List (Int × D)
  | [],n,x=>[(n,x)]
  | (k,y) :: r,n,x=>bif k == n then (n,x) :: r else (k,y) :: qqi r n x
def mapT (τ:Tab) (t:TypeId):Option (IntKind × TD) :=
  match τ t with
  | some td=>match td.desc with
    | .map kt et=>match τ kt,τ et with
      | some ktd,some ed=>match ktd.desc with
        | .int k=>some (k,ed)
        | _=>none
      | _,_=>none
    | _=>none
  | none=>none
def qqg (τ:Tab) (H:Nat→AObj) (t:TypeId) (x i:V) (ok:Bool):OR :=
  match mapT τ t,x,i with
  | some (k,ed),.mref j,.d (.int k' n)=>match H j with
    | .map k'' es=>bif ikEq k k' && ikEq k k'' then
        match qqh es n with
        | some v=>.val (bif ok then .tup [.d v,.d (.bool true)] else .d v)
        | none=>.val (bif ok then .tup [qlj ed.zero,.d (.bool false)] else qlj ed.zero)
      else .stuck
    | _=>.stuck
  | _,_,_=>.stuck
def qrq (τ:Tab) (H:Nat→AObj) (n:Nat) (t:TypeId) (x i v:V):OR :=
  match mapT τ t,x,i,v with
  | some (k,_),.mref j,.d (.int k' m),.d y=>match H j with
    | .map k'' es=>bif ikEq k k' && ikEq k k'' then .valH .und (upd H j (.map k'' (qqi es m y))) n else .stuck
    | _=>.stuck
  | _,_,_,_=>.stuck
def qxc (c a b:V):OR :=
  match c,a,b with
  | .d (.bool c),.d (.bool x),.d (.bool y)=>.val (.d (.bool (bif c then x else y)))
  | .d (.bool true),a,_=>.val a
  | .d (.bool false),_,b=>.val b
  | _,_,_=>.stuck
def qbp (τ:Tab) (σ:St) (op:Op):OR :=
  match op with
  | .move x=>.val (σ.ev x)
  | .assign x=>.val (σ.ev x)
  | .pick c a b=>qxc (σ.ev c) (σ.ev a) (σ.ev b)
  | .box _ x=>match (σ.ev x).cells with
    | some cs=>.valH (.ptr σ.next 0) (upd σ.heap σ.next (.box cs)) (σ.next + 1)
    | none=>.stuck
  | .alloc t=>match τ t with
    | some td=>match (qlj td.zero).cells with
      | some cs=>.valH (.ptr σ.next 0) (upd σ.heap σ.next (.box cs)) (σ.next + 1)
      | none=>.stuck
    | none=>.stuck
  | .build t parts=>match τ t with
    | some td=>match td.desc,(qlj td.zero).cells with
      | .struct fs,some z=>match fs.toList.all (fun f=>(τ f.type).isSome),qr6 (fun i=>(qly τ t i).map fun p=>(p.1,p.2.size)) z (parts.toList.map fun p=>(p.1,σ.ev p.2)) with
        | true,some cs=>.val (.agg cs)
        | _,_=>.stuck
      | .array _ e,some z=>match τ e with
        | some ed=>match qr6 (fun i=>some (i * ed.size,ed.size)) z (parts.toList.map fun p=>(p.1,σ.ev p.2)) with
          | some cs=>.val (.agg cs)
          | none=>.stuck
        | none=>.stuck
      | _,_=>.stuck
    | none=>.stuck
  | .buildSlice t len parts=>match τ t with
    | some td=>match td.desc with
      | .slice e=>match τ e with
        | some ed=>match (qlj ed.zero).cells with
          | some z=>match qr6 (fun i=>some (i * ed.size,ed.size)) ((List.replicate len z).flatten) (parts.toList.map fun p=>(p.1,σ.ev p.2)) with
            | some cs=>match allD cs with
              | some ds=>bif Nat.ble (len * ed.size) 16777216 && Nat.beq z.length ed.size && !Nat.beq ed.size 0 then .valH (.row σ.next len 0 len) (upd σ.heap σ.next (.row ed.size ((List.range len).map fun i=>(ds.drop (i * ed.size)).take ed.size))) (σ.next + 1) else .stuck
              | none=>.stuck
            | none=>.stuck
          | none=>.stuck
        | none=>.stuck
      | _=>.stuck
    | none=>.stuck
  | .makeSlice t l c=>match τ t with
    | some td=>match td.desc with
      | .slice e=>match τ e with
        | some ed=>match allD ((qlj ed.zero).cells.getD [.junk]),σ.ev l,σ.ev c with
          | some ds,.d (.int _ n),.d (.int _ m)=>bif Nat.beq ds.length ed.size && !Nat.beq ed.size 0 then .needH (0 ≤ n∧n = m∧n * ed.bytes ≤ 140737488355328∧0 < ed.bytes) (.row σ.next n.toNat 0 n.toNat) (upd σ.heap σ.next (.row ed.size (List.replicate n.toNat ds))) (σ.next + 1) else .stuck
          | _,_,_=>.stuck
        | none=>.stuck
      | _=>.stuck
    | none=>.stuck
  | .load t x=>match τ t with
    | some td=>qsj σ.heap td (σ.ev x)
    | none=>.stuck
  | .store t x v=>match τ t with
    | some td=>qxu σ.heap σ.next td (σ.ev x) (σ.ev v)
    | none=>.stuck
  | .nilCheck x=>match σ.ev x with
    | .ptr j off=>.val (.ptr j off)
    | .rop cs off=>.val (.rop cs off)
    | .eptr j L i off=>match σ.heap j with
      | .row _ es=>.need (es.length = L) (.eptr j L i off)
      | _=>.stuck
    | _=>.stuck
  | .binOp op t x y _=>binV τ op t (σ.ev x) (σ.ev y)
  | .unOp op _ x=>unV op (σ.ev x)
  | .convert s d x=>qwg τ s d (σ.ev x)
  | .makeFunc (.func f) first caps=>.val (.func f (first.toList.map σ.ev) (caps.toList.map σ.ev))
  | .slice t x lo hi mx=>qpg τ σ.heap t (σ.ev x) (lo.map σ.ev) (hi.map σ.ev) (mx.map σ.ev)
  | .fieldAddr s x f=>match qly τ s f with
    | some (off,fd)=>bif Nat.beq fd.size 0 then .stuck else qpd σ.heap (σ.ev x) off
    | none=>.stuck
  | .field s x f=>match qly τ s f,σ.ev x with
    | some (off,fd),.agg cs=>qry (qp6 fd cs off)
    | _,_=>.stuck
  | .indexAddr t x i=>qkj τ σ.heap t (σ.ev x) (σ.ev i)
  | .index t x i=>qtj τ t (σ.ev x) (σ.ev i)
  | .extract x i=>match σ.ev x with
    | .tup vs=>qry vs[i]?
    | _=>.stuck
  | .makeMap t none=>match mapT τ t with
    | some (k,_)=>.valH (.mref σ.next) (upd σ.heap σ.next (.map k [])) (σ.next + 1)
    | none=>.stuck
  | .lookup t x i ok=>qqg τ σ.heap t (σ.ev x) (σ.ev i) ok
  | .mapUpdate t m k x=>qrq τ σ.heap σ.next t (σ.ev m) (σ.ev k) (σ.ev x)
  | .call c=>match c.callee with
    | .builtin b=>qnn τ σ.heap σ.next b c.argTypes (c.args.toList.map σ.ev)
    | .value f=>match σ.ev f with
      | .func f first caps=>.call f (first ++ c.args.toList.map σ.ev ++ caps)
      | _=>.stuck
    | _=>.stuck
  | _=>.stuck
end Go.Proofs.YtiegopnofbgoaaaGreat.AWN

namespace Go.Proofs.YtiegopnofbgoaaaGreat.AWN
open Go
def qrp:Nat→Option (Array Value):=fun _=>none
theorem layMem_elim {W:World}:∀ g vs,qrp g = some vs→∃ T fr,W.heap[g]? = some (.cells vs T fr):=fun _ _ h=>nomatch h
end Go.Proofs.YtiegopnofbgoaaaGreat.AWN

namespace Go.Proofs.YtiegopnofbgoaaaGreat.AWN
open Go
structure Ext (A:Nat→Prop) (w W:World):Prop where
  kept:∀ i,i < w.heap.size→¬ A i→W.heap[i]? = w.heap[i]?
  size:w.heap.size ≤ W.heap.size
  tape:W.tape = w.tape
  os:W.os = w.os
  output:W.output = w.output
structure qbd (W W':World):Prop where
  heap:W'.heap = W.heap
  tape:W'.tape = W.tape
  os:W'.os = W.os
  output:W'.output = W.output
theorem qbd.refl (W:World):qbd W W:=⟨rfl,rfl,rfl,rfl⟩
theorem qbd.trans {a b c:World} (h:qbd a b) (k:qbd b c):qbd a c:=⟨k.heap.trans h.heap,k.tape.trans h.tape,k.os.trans h.os,k.output.trans h.output⟩
theorem qbd.drew (W:World):qbd W { W with drawn:=W.drawn + 1 }:=⟨rfl,rfl,rfl,rfl⟩
theorem qbd.cell {W W':World} (h:qbd W W') (a:Addr):W'.cell? a = W.cell? a:=by unfold World.cell?;rw [h.heap]
theorem qbd.shape {W W':World} (h:qbd W W') (b:Nat):W'.shape? b = W.shape? b:=by unfold World.shape?;rw [h.heap]
theorem Ext.refl (A:Nat→Prop) (w:World):Ext A w w:=⟨fun _ _ _=>rfl,Nat.le_refl _,rfl,rfl,rfl⟩
theorem Ext.same {A:Nat→Prop} {w W W':World} (h:Ext A w W) (s:qbd W W'):Ext A w W' :=
  ⟨fun i hi ha=>by rw [s.heap];exact h.kept i hi ha,by rw [s.heap];exact h.size,s.tape.trans h.tape,s.os.trans h.os,s.output.trans h.output⟩
theorem Ext.alloc {A:Nat→Prop} {w W:World} (h:Ext A w W) (o:Obj):Ext A w (W.alloc o) :=
  ⟨fun i hi ha=>by
    have:=h.size
    rw [← h.kept i hi ha]
    show (W.heap.push o)[i]? = _
    rw [Array.getElem?_push]
    rw [if_neg (by omega)],by have:=h.size;show _ ≤ (W.heap.push o).size;simp;omega,h.tape,h.os,h.output⟩
structure Upd (W W':World) (b:Nat) (vals':Array Value):Prop where
  other:∀ i,i ≠ b→W'.heap[i]? = W.heap[i]?
  here:∃ vals T fr,W.heap[b]? = some (.cells vals T fr)∧W'.heap[b]? = some (.cells vals' T fr)∧vals'.size = vals.size
  size:W'.heap.size = W.heap.size
  tape:W'.tape = W.tape
  os:W'.os = W.os
  output:W'.output = W.output
def okF (w0:World) (okA:Nat→Prop) (hb:Handle) (H:Nat→AObj) (W:World):Nat→Prop :=
  fun b=>b < W.heap.size∧(okA b ∨ w0.heap.size ≤ b)∧∀ j,H j ≠ .none→hb j ≠ some b
def qxb (n:Nat) (fr:Nat × Nat):Prop:=∀ i,i < n→¬ (fr.1 ≤ i∧i < fr.2)
def qxy (W:World) (hb:Handle) (H:Nat→AObj) (ok:Nat→Prop) (j:Nat) (cs:List V):Prop :=
  ∃ b vals T fr,hb j = some b∧W.heap[b]? = some (.cells vals T fr)∧vals.size = cs.length∧qxb vals.size fr∧True∧∀ i,i < vals.size→Rel W hb H ok (cs.getD i .junk) (vals.getD i undef)
def qw4 (W:World) (hb:Handle) (ok:Nat→Prop) (j sz:Nat) (es:List (List D)):Prop :=
  (∀ e ∈ es,e.length = sz)∧((es = []∧hb j = none) ∨ ∃ b vals T fr,hb j = some b∧W.heap[b]? = some (.cells vals T fr)∧es.length * sz ≤ vals.size∧qxb vals.size fr ∧
    ∀ i c,i < es.length→c < sz→RelD W ok ((es.getD i []).getD c .nilp) (vals.getD (i * sz + c) undef))
def qy6 (W:World) (hb:Handle) (ok:Nat→Prop) (j:Nat) (k:IntKind) (es:List (Int × D)):Prop :=
  ∃ b ents clock,hb j = some b∧W.heap[b]? = some (.map ents clock)∧ents.size = es.length ∧
    ∀ (i:Nat) (e:MapEntry) (x:Int × D),ents[i]? = some e→es[i]? = some x→e.key = .int k x.1∧RelD W ok x.2 e.val
def qh5 (W:World) (hb:Handle) (H:Nat→AObj) (ok:Nat→Prop) (j:Nat):Prop :=
  match H j with
  | .none=>True
  | .box cs=>qxy W hb H ok j cs
  | .row sz es=>qw4 W hb ok j sz es
  | .map k es=>qy6 W hb ok j k es
structure Args where
  H0:Nat→AObj
  hb0:Handle
def Args.blk (A:Args) (b:Nat):Prop:=∃ j,A.H0 j ≠ .none∧A.hb0 j = some b
structure HSim (w0:World) (A:Args) (okA:Nat→Prop) (hb:Handle) (H:Nat→AObj) (n:Nat) (W:World):Prop where
  obj:∀ j,qh5 W hb H (okF w0 okA hb H W) j
  inj:∀ i j b,H i ≠ .none→H j ≠ .none→hb i = some b→hb j = some b→i = j
  hnd:∀ j b,H j ≠ .none→hb j = some b→b < W.heap.size∧((A.H0 j ≠ .none∧A.hb0 j = some b) ∨ w0.heap.size ≤ b)
  fresh:∀ j,n ≤ j→H j = .none
  ext:Ext A.blk w0 W
  keep:MovesR w0 W A.hb0 hb A.H0 H
  lay:∀ g vs,qrp g = some vs→(∃ T fr,w0.heap[g]? = some (.cells vs T fr))∧¬ A.blk g
structure Sim (w0:World) (A:Args) (okA:Nat→Prop) (hb:Handle) (σ:St) (a:Act) (W:World):Prop where
  defers:a.defers = []
  size:a.tmps.size = σ.nt
  env:∀ t,Rel W hb σ.heap (okF w0 okA hb σ.heap W) (σ.env t) (a.tmps.getD t undef)
  heap:HSim w0 A okA hb σ.heap σ.next W
  base:∀ j,σ.base ≤ j→A.H0 j = .none
abbrev RelS (w0:World) (okA:Nat→Prop) (hb:Handle) (H:Nat→AObj) (W:World):V→Value→Prop:=Rel W hb H (okF w0 okA hb H W)
section
variable {w0:World} {A:Args} {okA:Nat→Prop} {hb:Handle} {W W':World} {H:Nat→AObj} {n:Nat} {σ:St} {a:Act}
/-! ### The same memory -/
theorem qpp (s:qbd W W'):okF w0 okA hb H W' = okF w0 okA hb H W:=by funext b;unfold okF;rw [s.heap]
theorem qgt.same (s:qbd W W') (ok:Nat→Prop):qgt W W' hb hb H H ok ok :=
  { good:=fun _ h=>h,cell:=fun b o v _ h=>by rw [s.cell];exact h,box:=fun _ cs h=>⟨cs,h,rfl⟩,
    row:=fun _ _ es h=>⟨es,h,Nat.le_refl _,fun _=>⟨rfl,fun b bs _ h=>by rw [s.shape];exact h⟩⟩,map:=fun _ _ es h=>⟨es,h,rfl⟩ }
theorem Rel.same (s:qbd W W') {x:V} {v:Value} (h:RelS w0 okA hb H W x v):RelS w0 okA hb H W' x v:=by
  unfold RelS;rw [qpp s];exact h.mono (qgt.same s _)
theorem RelD.same (s:qbd W W') {ok:Nat→Prop} {x:D} {v:Value} (h:RelD W ok x v):RelD W' ok x v:=h.mono ⟨fun _ h=>h,fun b o v _ h=>by rw [s.cell];exact h⟩
theorem HSim.same (h:HSim w0 A okA hb H n W) (s:qbd W W'):HSim w0 A okA hb H n W' where
  obj:=fun j=>by
    have:=h.obj j
    unfold qh5 at *
    rw [qpp s]
    cases hj:H j with
    | none=>simp
    | box cs =>
      simp only [hj] at this ⊢
      obtain ⟨b,vals,T,fr,h1,h2,h3,h4,h5,h6⟩:=this
      exact ⟨b,vals,T,fr,h1,by rw [s.heap];exact h2,h3,h4,h5,fun i hi=>(h6 i hi).mono (qgt.same s _)⟩
    | row sz es =>
      simp only [hj] at this ⊢
      obtain ⟨h0,h⟩:=this
      refine ⟨h0,?_⟩
      rcases h with h | ⟨b,vals,T,fr,h1,h2,h3,h4,h5⟩
      · exact .inl h
      · exact .inr ⟨b,vals,T,fr,h1,by rw [s.heap];exact h2,h3,h4,fun i c hi hc=>(h5 i c hi hc).same s⟩
    | map k es =>
      simp only [hj] at this ⊢
      obtain ⟨b,ents,cl,h1,h2,h3,h4⟩:=this
      exact ⟨b,ents,cl,h1,by rw [s.heap];exact h2,h3,fun i e x he hx=>⟨(h4 i e x he hx).1,(h4 i e x he hx).2.same s⟩⟩
  inj:=h.inj
  hnd:=fun j b hj hbj=>by rw [s.heap];exact h.hnd j b hj hbj
  fresh:=h.fresh
  ext:=h.ext.same s
  keep:=h.keep.trans (qgt.same s (okF w0 okA hb H W)).toMovesR
  lay:=h.lay
theorem Sim.same (h:Sim w0 A okA hb σ a W) (s:qbd W W'):Sim w0 A okA hb σ a W':=⟨h.defers,h.size,fun t=>(h.env t).same s,h.heap.same s,h.base⟩
/-! ### A new block -/
theorem upd_same {α:Type} (f:Nat→α) (j:Nat) (x:α):upd f j x j = x:=by simp [upd]
theorem upd_ne {α:Type} (f:Nat→α) {i j:Nat} (x:α) (h:i ≠ j):upd f j x i = f i:=by
  have:Nat.beq i j = false:=by cases hb:Nat.beq i j with
    | false=>rfl
    | true=>exact absurd (Nat.eq_of_beq_eq_true hb) h
  simp [upd,this]
theorem qik {o:Obj} {i:Nat} (h:i < W.heap.size):(W.alloc o).heap[i]? = W.heap[i]?:=by
  show (W.heap.push o)[i]? = _
  rw [Array.getElem?_push,if_neg (by omega)]
theorem qjq (o:Obj):(W.alloc o).heap[W.heap.size]? = some o:=by
  show (W.heap.push o)[W.heap.size]? = _
  simp
theorem qnm (o:Obj):(W.alloc o).heap.size = W.heap.size + 1:=by show (W.heap.push o).size = _;simp
theorem qua {b o:Nat} {v:Value} (h:W.cell? ⟨b,o,none⟩ = some v):b < W.heap.size:=by
  unfold World.cell? at h
  rcases Nat.lt_or_ge b W.heap.size with h' | h'
  · exact h'
  · rw [Array.getElem?_eq_none h'] at h;simp at h
theorem qrd {o:Obj} {b i:Nat} (h:b < W.heap.size):(W.alloc o).cell? ⟨b,i,none⟩ = W.cell? ⟨b,i,none⟩:=by
  unfold World.cell?;rw [qik h]
theorem qqz {o:Obj} {b:Nat} (h:b < W.heap.size):(W.alloc o).shape? b = W.shape? b:=by
  unfold World.shape?;rw [qik h]
theorem qgt.new (h:HSim w0 A okA hb H n W) (ob:AObj) (o:Obj) :
    qgt W (W.alloc o) hb (upd hb n (some W.heap.size)) H (upd H n ob) (okF w0 okA hb H W) (okF w0 okA (upd hb n (some W.heap.size)) (upd H n ob) (W.alloc o)):=by
  have hn:=h.fresh n (Nat.le_refl _)
  refine { good:=?_,cell:=?_,box:=?_,row:=?_,map:=?_ }
  · intro b ⟨h1,h2,h3⟩
    refine ⟨by rw [qnm];omega,h2,fun j hj=>?_⟩
    by_cases hjn:j = n
    · subst hjn;rw [upd_same];intro e;simp at e;omega
    · rw [upd_ne _ _ hjn] at hj ⊢;exact h3 j hj
  · intro b i v hb' hc
    rw [qrd (qua hc)];exact hc
  · intro j cs hj
    have hjn:j ≠ n:=by intro e;subst e;rw [hn] at hj;cases hj
    exact ⟨cs,by rw [upd_ne _ _ hjn];exact hj,by rw [upd_ne _ _ hjn]⟩
  · intro j sz es hj
    have hjn:j ≠ n:=by intro e;subst e;rw [hn] at hj;cases hj
    refine ⟨es,by rw [upd_ne _ _ hjn];exact hj,Nat.le_refl _,fun _=>⟨by rw [upd_ne _ _ hjn],fun b bs hbj hs=>?_⟩⟩
    rw [qqz ((h.hnd j b (by rw [hj];simp) hbj).1)];exact hs
  · intro j k es hj
    have hjn:j ≠ n:=by intro e;subst e;rw [hn] at hj;cases hj
    exact ⟨es,by rw [upd_ne _ _ hjn];exact hj,by rw [upd_ne _ _ hjn]⟩
theorem HSim.new (h:HSim w0 A okA hb H n W) {ob:AObj} {o:Obj} (hne:ob ≠ .none)
    (hob:qh5 (W.alloc o) (upd hb n (some W.heap.size)) (upd H n ob) (okF w0 okA (upd hb n (some W.heap.size)) (upd H n ob) (W.alloc o)) n) :
    HSim w0 A okA (upd hb n (some W.heap.size)) (upd H n ob) (n + 1) (W.alloc o) where
  obj:=fun j=>by
    by_cases hjn:j = n
    · subst hjn;exact hob
    · have hj:=h.obj j
      have mv:=qgt.new h ob o
      unfold qh5 at hj ⊢
      rw [upd_ne _ _ hjn]
      cases hH:H j with
      | none=>simp
      | box cs =>
        simp only [hH] at hj ⊢
        obtain ⟨b,vals,T,fr,h1,h2,h3,h4,h5,h6⟩:=hj
        refine ⟨b,vals,T,fr,by rw [upd_ne _ _ hjn];exact h1,?_,h3,h4,h5,fun i hi=>(h6 i hi).mono mv⟩
        rw [qik ((h.hnd j b (by rw [hH];simp) h1).1)];exact h2
      | row sz es =>
        simp only [hH] at hj ⊢
        obtain ⟨h0,hj⟩:=hj
        refine ⟨h0,?_⟩
        rcases hj with ⟨e1,e2⟩ | ⟨b,vals,T,fr,h1,h2,h3,h4,h5⟩
        · exact .inl ⟨e1,by rw [upd_ne _ _ hjn];exact e2⟩
        · refine .inr ⟨b,vals,T,fr,by rw [upd_ne _ _ hjn];exact h1,?_,h3,h4,fun i c hi hc=>(h5 i c hi hc).mono mv.toMoves⟩
          rw [qik ((h.hnd j b (by rw [hH];simp) h1).1)];exact h2
      | map k es =>
        simp only [hH] at hj ⊢
        obtain ⟨b,ents,cl,h1,h2,h3,h4⟩:=hj
        refine ⟨b,ents,cl,by rw [upd_ne _ _ hjn];exact h1,?_,h3,fun i e x he hx=>⟨(h4 i e x he hx).1,(h4 i e x he hx).2.mono mv.toMoves⟩⟩
        rw [qik ((h.hnd j b (by rw [hH];simp) h1).1)];exact h2
  inj:=fun i j b hi hj hbi hbj=>by
    by_cases hin:i = n <;> by_cases hjn:j = n
    · rw [hin,hjn]
    · subst hin;rw [upd_same] at hbi;rw [upd_ne _ _ hjn] at hj hbj
      have:=(h.hnd j b hj hbj).1
      simp at hbi;omega
    · subst hjn;rw [upd_same] at hbj;rw [upd_ne _ _ hin] at hi hbi
      have:=(h.hnd i b hi hbi).1
      simp at hbj;omega
    · rw [upd_ne _ _ hin] at hi hbi;rw [upd_ne _ _ hjn] at hj hbj
      exact h.inj i j b hi hj hbi hbj
  hnd:=fun j b hj hbj=>by
    rw [qnm]
    by_cases hjn:j = n
    · subst hjn;rw [upd_same] at hbj;simp at hbj;subst hbj
      exact ⟨by omega,.inr h.ext.size⟩
    · rw [upd_ne _ _ hjn] at hj hbj
      have:=h.hnd j b hj hbj
      exact ⟨by omega,this.2⟩
  fresh:=fun j hj=>by
    rw [upd_ne _ _ (by omega)];exact h.fresh j (by omega)
  ext:=h.ext.alloc o
  keep:=h.keep.trans (qgt.new h ob o).toMovesR
  lay:=h.lay
theorem Sim.new (h:Sim w0 A okA hb σ a W) {ob:AObj} {o:Obj} (hne:ob ≠ .none)
    (hob:qh5 (W.alloc o) (upd hb σ.next (some W.heap.size)) (upd σ.heap σ.next ob) (okF w0 okA (upd hb σ.next (some W.heap.size)) (upd σ.heap σ.next ob) (W.alloc o)) σ.next) :
    Sim w0 A okA (upd hb σ.next (some W.heap.size)) { σ with heap:=upd σ.heap σ.next ob,next:=σ.next + 1 } a (W.alloc o) where
  defers:=h.defers
  size:=h.size
  env:=fun t=>(h.env t).mono (qgt.new h.heap ob o)
  heap:=h.heap.new hne hob
  base:=h.base
end
end Go.Proofs.YtiegopnofbgoaaaGreat.AWN

namespace Go.Proofs.YtiegopnofbgoaaaGreat.AWN
open Go
def qfl (P:Program) (τ:Tab):Prop :=
  ∀ t td,τ t = some td→P.underlying t = some td.desc∧∃ i,P.info? t = some i∧i.size = td.size∧i.bytes = td.bytes∧i.zero = some td.zero
def Does (P:Program) (o:Oper) (a:Act) (W:World) (R:Value→World→Prop):Prop :=
  ∃ cv W',((execOp a.eval o).run P W = .ok (.value cv) W' ∨ ((execOp a.eval o).run P W = .ok .skip W'∧cv = undef))∧R cv W'
section
variable {P:Program} {τ:Tab} (hτ:qfl P τ) {w0:World} {A:Args} {okA:Nat→Prop} {hb:Handle} {W:World} {H:Nat→AObj} {n:Nat} {σ:St} {a:Act} {ok:Nat→Prop}
include hτ in
theorem qiz {t:TypeId} {td:TD} (h:τ t = some td):∀ w,(underlying t).run P w = .ok td.desc w:=fun w=>by
  obtain ⟨h1,_⟩:=hτ t td h
  simp [underlying,h1]
include hτ in
theorem qk3 {t:TypeId} {td:TD} (h:τ t = some td):∀ w,(sizeOf t).run P w = .ok td.size w:=fun w=>by
  obtain ⟨_,i,h1,h2,_⟩:=hτ t td h
  simp [sizeOf,typeInfo,h1,h2]
include hτ in
include hτ in
theorem qoy {t:TypeId} {td:TD} (h:τ t = some td):∀ w,(zeroValue t).run P w = .ok td.zero w:=fun w=>by
  obtain ⟨_,i,h1,_,_,h4⟩:=hτ t td h
  simp [zeroValue,typeInfo,h1,h4]
include hτ in
theorem qox {t:TypeId} {td:TD} (h:τ t = some td):∀ w,(isAgg t).run P w = .ok (qpa td.desc) w:=fun w=>by
  have hu:=qiz hτ h w
  simp only [isAgg,Sem.run_bind,hu,Result.andThen_ok,qpa]
  cases td.desc <;> rfl
/-! ### Operands -/
theorem qtv (x:Value):Rel W hb H ok (cellV x) x:=by
  cases x with
  | bool b=>exact .d (.bool b)
  | int k n=>exact .d (.int k n)
  | float k b =>
    simp only [cellV]
    cases hc:Nat.blt b (2 ^ k.format.width) with
    | false=>exact .junk _
    | true=>exact .d (.fl rfl (by simpa [Nat.blt_eq] using hc))
  | complex k b c =>
    simp only [cellV]
    cases hc:Nat.blt b (2 ^ k.format.width) && Nat.blt c (2 ^ k.format.width) with
    | false=>exact .junk _
    | true =>
      simp only [Bool.and_eq_true,Nat.blt_eq] at hc
      exact .d (.cx rfl rfl hc.1 hc.2)
  | string s=>exact .d (.str s)
  | pointer p=>cases p with
    | none=>exact .d .nilp
    | some p=>exact .junk _
  | slice p l c =>
    cases p with
    | some p=>exact .junk _
    | none =>
      cases l with
      | succ l=>exact .junk _
      | zero=>cases c with
        | zero=>exact .d .nils
        | succ c=>exact .junk _
  | nilFunc=>exact .d .nilf
  | map p=>cases p with
    | none=>exact .d .nilm
    | some p=>exact .junk _
  | _=>exact .junk _
theorem getD_map_toList (f:Value→V) (c:Array Value) (i:Nat) (h:i < c.size):(c.toList.map f).getD i .junk = f (c.getD i undef):=by
  simp [List.getD_eq_getElem?_getD,Array.getD_eq_getD_getElem?,h]
theorem qkl (x:Value):Rel W hb H ok (qlj x) x:=by
  cases x with
  | agg c=>exact .agg (by simp) (fun i hi=>by rw [getD_map_toList _ _ _ hi];exact qtv _)
  | _=>simp only [qlj];exact qtv _
theorem qfi (h:Sim w0 A okA hb σ a W) (x:Operand):RelS w0 okA hb σ.heap W (σ.ev x) (a.eval x):=by
  cases x with
  | tmp t=>exact h.env t
  | const v=>exact qkl v
  | global g=>exact .junk _
  | func f=>exact .func rfl rfl (fun i hi=>by simp at hi) (fun i hi=>by simp at hi)
theorem rel_ev_list (h:Sim w0 A okA hb σ a W) (xs:Array Operand):(xs.toList.map σ.ev).length = (xs.map a.eval).size∧∀ i,i < (xs.map a.eval).size→RelS w0 okA hb σ.heap W ((xs.toList.map σ.ev).getD i .junk) ((xs.map a.eval).getD i undef):=by
  refine ⟨by simp,fun i hi=>?_⟩
  have hi':i < xs.size:=by simpa using hi
  have e1:(xs.toList.map σ.ev).getD i .junk = σ.ev xs[i]:=by simp [List.getD_eq_getElem?_getD,hi']
  have e2:(xs.map a.eval).getD i undef = a.eval xs[i]:=by simp [Array.getD_eq_getD_getElem?,hi']
  rw [e1,e2]
  exact qfi h _
/-! ### What a related value looks like -/
theorem relD_bool {x:Bool} {v:Value} (h:RelD W ok (.bool x) v):v = .bool x:=by cases h;rfl
theorem qvk {k:IntKind} {x:Int} {v:Value} (h:RelD W ok (.int k x) v):v = .int k x:=by cases h;rfl
theorem relD_str {s:ByteArray} {v:Value} (h:RelD W ok (.str s) v):v = .string s:=by cases h;rfl
theorem qk0 {x:Bool} {v:Value} (h:Rel W hb H ok (.d (.bool x)) v):v = .bool x:=by cases h with | d h=>exact relD_bool h
theorem qjo {k:IntKind} {x:Int} {v:Value} (h:Rel W hb H ok (.d (.int k x)) v):v = .int k x:=by cases h with | d h=>exact qvk h
theorem qlh {s:ByteArray} {v:Value} (h:Rel W hb H ok (.d (.str s)) v):v = .string s:=by cases h with | d h=>exact relD_str h
theorem qou {k:FloatKind} {x:Nat} {v:Value} (h:Rel W hb H ok (.d (.fl k x)) v):∃ b,v = .float k b∧canon k b = x∧b < 2 ^ k.format.width:=by
  cases h with | d h=>cases h with | fl h1 h2=>exact ⟨_,rfl,h1,h2⟩
theorem qpf {k:FloatKind} {x y:Nat} {v:Value} (h:Rel W hb H ok (.d (.cx k x y)) v):∃ b c,v = .complex k b c∧canon k b = x∧canon k c = y∧b < 2 ^ k.format.width∧c < 2 ^ k.format.width:=by
  cases h with | d h=>cases h with | cx h1 h2 h3 h4=>exact ⟨_,_,rfl,h1,h2,h3,h4⟩
theorem qi2 (x:Bool):Rel W hb H ok (.d (.bool x)) (.bool x):=.d (.bool x)
theorem qg8 (k:IntKind) (x:Int):Rel W hb H ok (.d (.int k x)) (.int k x):=.d (.int k x)
theorem qto (s:ByteArray):Rel W hb H ok (.d (.str s)) (.string s):=.d (.str s)
theorem qr7 {k:FloatKind} {x b:Nat} (h1:canon k b = x) (h2:b < 2 ^ k.format.width):Rel W hb H ok (.d (.fl k x)) (.float k b):=.d (.fl h1 h2)
theorem qp3 {k:FloatKind} {x y b c:Nat} (h1:canon k b = x) (h2:canon k c = y) (h3:b < 2 ^ k.format.width) (h4:c < 2 ^ k.format.width):Rel W hb H ok (.d (.cx k x y)) (.complex k b c):=.d (.cx h1 h2 h3 h4)
end
/-! ### Floats -/
theorem qlf (f:Ieee.Format) (neg:Bool) (r:Nat) (h:r < f.signWeight):f.read (f.word neg r) = if r < f.binade then .number neg r f.leastPlace
    else if r < f.infRung then .number neg (f.binade + r % f.binade) (f.leastPlace + (r / f.binade - 1:Nat)) else if r = f.infRung then .infinity neg else .nan neg (r - f.infRung):=by
  have hs:0 < f.signWeight:=Nat.two_pow_pos _
  have h1:f.word neg r / f.signWeight % 2 = neg.toNat:=by
    cases neg
    · simp [Ieee.Format.word,Nat.div_eq_of_lt h]
    · simp [Ieee.Format.word,Nat.add_div_left _ hs,Nat.div_eq_of_lt h]
  have h2:f.word neg r % f.signWeight = r:=by
    cases neg
    · simp [Ieee.Format.word,Nat.mod_eq_of_lt h]
    · simp [Ieee.Format.word,Nat.mod_eq_of_lt h]
  unfold Ieee.Format.read
  simp only [h1,h2]
  have h3:(neg.toNat == 1) = neg:=by cases neg <;> rfl
  rw [h3]
theorem ql1 (k:FloatKind) (d:Ieee.Datum) (h:d.isNaN = false):isnan k (k.format.write d) = false:=by
  have hlt:k.format.infRung < k.format.signWeight:=k.format.infRung_lt
  have key:∀ neg r,r ≤ k.format.infRung→isnan k (k.format.word neg r) = false:=by
    intro neg r hr
    unfold isnan
    rw [qlf _ _ _ (by omega)]
    repeat' split
    all_goals first | rfl | omega
  cases d with
  | nan s t=>simp [Ieee.Datum.isNaN] at h
  | infinity s=>exact key s _ (Nat.le_refl _)
  | number s m e =>
    show isnan k (k.format.nearest s m e) = false
    unfold Ieee.Format.nearest
    dsimp only
    split
    · exact key s 0 (Nat.zero_le _)
    · exact key s _ (Nat.min_le_right ..)
theorem qdx {k:FloatKind} {b:Nat} (h:isnan k b = false):canon k b = b:=by simp [canon,h]
theorem qkh {k:FloatKind} {b:Nat} (h:isnan k b = true):canon k b = qnan k:=by simp [canon,h]
theorem qro (k:FloatKind):isnan k (qnan k) = true:=by cases k <;> rfl
theorem qjl (k:FloatKind) (b:Nat):isnan k (canon k b) = isnan k b:=by
  unfold canon
  split
  · rename_i h;rw [qro,h]
  · rfl
theorem qji {d:Ieee.Datum} (h:d.isNaN = true):∃ s t,d = .nan s t:=by
  cases d with
  | nan s t=>exact ⟨s,t,rfl⟩
  | _=>simp [Ieee.Datum.isNaN] at h
def fraw (op:BinOp) (k:FloatKind) (x y:Nat):Option Nat:=match op with
  | .add=>k.format.add x y
  | .sub=>k.format.sub x y
  | .mul=>k.format.mul x y
  | _=>k.format.div x y
theorem farith_eq (op:BinOp) (k:FloatKind) (x y:Nat):qam op k x y = (fraw op k x y).getD (qnan k):=by
  unfold qam fraw;cases op <;> rfl
theorem sum_nan_l {s t} (d:Ieee.Datum):Ieee.Datum.sum (.nan s t) d = none:=by cases d <;> rfl
theorem sum_nan_r {s t} (d:Ieee.Datum):Ieee.Datum.sum d (.nan s t) = none:=by cases d <;> rfl
theorem product_nan_l {s t} (d:Ieee.Datum):Ieee.Datum.product (.nan s t) d = none:=by cases d <;> rfl
theorem product_nan_r {s t} (d:Ieee.Datum):Ieee.Datum.product d (.nan s t) = none:=by cases d <;> rfl
theorem quotient_nan_l {n s t} (d:Ieee.Datum):Ieee.Datum.quotient n (.nan s t) d = none:=by cases d <;> rfl
theorem quotient_nan_r {n s t} (d:Ieee.Datum):Ieee.Datum.quotient n d (.nan s t) = none:=by cases d <;> rfl
theorem qqm {s t} (d:Ieee.Datum):Ieee.Datum.order (.nan s t) d = none:=by cases d <;> rfl
theorem qqn {s t} (d:Ieee.Datum):Ieee.Datum.order d (.nan s t) = none:=by cases d <;> rfl
theorem qrm (op:BinOp) (k:FloatKind) (x y:Nat) (h:isnan k x = true):fraw op k x y = none:=by
  obtain ⟨s,t,e⟩:=qji h
  cases op <;> simp [fraw,Ieee.Format.add,Ieee.Format.sub,Ieee.Format.mul,Ieee.Format.div,e,sum_nan_l,product_nan_l,quotient_nan_l]
theorem qrn (op:BinOp) (k:FloatKind) (x y:Nat) (h:isnan k y = true):fraw op k x y = none:=by
  obtain ⟨s,t,e⟩:=qji h
  cases op <;> simp [fraw,Ieee.Format.add,Ieee.Format.sub,Ieee.Format.mul,Ieee.Format.div,e,Ieee.Datum.opposite,sum_nan_r,product_nan_r,quotient_nan_r]
theorem fraw_canon (op:BinOp) (k:FloatKind) (x y:Nat):fraw op k (canon k x) (canon k y) = fraw op k x y:=by
  cases hx:isnan k x with
  | true=>rw [qrm _ _ _ _ hx,qrm _ _ _ _ (by rw [qjl,hx])]
  | false =>
    cases hy:isnan k y with
    | true=>rw [qrn _ _ _ _ hy,qrn _ _ _ _ (by rw [qjl,hy])]
    | false=>rw [qdx hx,qdx hy]
theorem sum_not_nan {a b d:Ieee.Datum} (h:a.sum b = some d):d.isNaN = false:=by
  cases a <;> cases b <;> simp only [Ieee.Datum.sum] at h <;> (try split at h) <;> simp_all [Ieee.Datum.isNaN] <;> (subst h;rfl)
theorem product_not_nan {a b d:Ieee.Datum} (h:a.product b = some d):d.isNaN = false:=by
  cases a <;> cases b <;> simp only [Ieee.Datum.product] at h <;> (try split at h) <;> simp_all [Ieee.Datum.isNaN] <;> (subst h;rfl)
theorem quotient_not_nan {n:Nat} {a b d:Ieee.Datum} (h:Ieee.Datum.quotient n a b = some d):d.isNaN = false:=by
  cases a <;> cases b <;> simp only [Ieee.Datum.quotient] at h <;> (repeat' split at h) <;> simp_all [Ieee.Datum.isNaN] <;> (subst h;rfl)
theorem fraw_some (op:BinOp) (k:FloatKind) (x y r:Nat) (h:fraw op k x y = some r):isnan k r = false∧r < 2 ^ k.format.width:=by
  unfold fraw at h
  have key:∀ (d:Option Ieee.Datum),(∀ e,d = some e→e.isNaN = false)→d.map k.format.write = some r→isnan k r = false∧r < 2 ^ k.format.width:=by
    intro d hd he
    cases d with
    | none=>cases he
    | some d=>simp at he;subst he;exact ⟨ql1 k d (hd d rfl),k.format.write_lt d⟩
  cases op <;> simp only [Ieee.Format.add,Ieee.Format.sub,Ieee.Format.mul,Ieee.Format.div] at h <;>
    first | exact key _ (fun e he=>sum_not_nan he) h | exact key _ (fun e he=>product_not_nan he) h | exact key _ (fun e he=>quotient_not_nan he) h
theorem order_canon (k:FloatKind) (x y:Nat):k.format.order (canon k x) (canon k y) = k.format.order x y:=by
  unfold Ieee.Format.order
  cases hx:isnan k x with
  | true =>
    obtain ⟨s,t,e⟩:=qji hx
    obtain ⟨s',t',e'⟩:=qji (by rw [qjl,hx]:isnan k (canon k x) = true)
    rw [e,e',qqm,qqm]
  | false =>
    cases hy:isnan k y with
    | true =>
      obtain ⟨s,t,e⟩:=qji hy
      obtain ⟨s',t',e'⟩:=qji (by rw [qjl,hy]:isnan k (canon k y) = true)
      rw [e,e',qqn,qqn]
    | false=>rw [qdx hx,qdx hy]
theorem qrh (op:BinOp) (k:FloatKind) (x y:Nat):fcmp op k (canon k x) (canon k y) = fcmp op k x y:=by
  unfold fcmp;cases op <;> simp only [order_canon]
end Go.Proofs.YtiegopnofbgoaaaGreat.AWN

namespace Go.Proofs.YtiegopnofbgoaaaGreat.AWN
open Go
def Ev (P:Program) (W:World) (s:Sem Value) (R:Value→Prop):Prop:=∃ cv W',s.run P W = .ok cv W'∧qbd W W'∧R cv
theorem Ev.pure' {P:Program} {W:World} {s:Sem Value} {R:Value→Prop} {cv:Value} (h:s.run P W = .ok cv W) (hr:R cv):Ev P W s R:=⟨cv,W,h,qbd.refl W,hr⟩
def ORv (P:Program) (W:World) (s:Sem Value) (Rl:V→Value→Prop):OR→Prop
  | .val v=>Ev P W s (Rl v)
  | .need p v=>p→Ev P W s (Rl v)
  | .elem p es i k=>∀ e v,p→es[i]? = some e→k e = some v→Ev P W s (Rl v)
  | .pick R k=>Ev P W s (fun cv=>∃ r,R r∧Rl (k r) cv)
  | _=>True
theorem qo8 (P:Program) (W:World) (q:Question):∃ r W',(choose q).run P W = .ok r W'∧qbd W W'∧(q.forced = false→∃ t,r = q.cut t):=by
  rw [run_choose]
  cases hq:q.forced with
  | true=>exact ⟨0,W,by simp,qbd.refl W,by simp⟩
  | false=>exact ⟨_,_,by simp;rfl,qbd.drew W,fun _=>⟨_,rfl⟩⟩
theorem qo1 {k:FloatKind} {r:Nat} (neg:Bool) (t:Nat) (h0:0 < t) (ht:k.format.infRung + t < k.format.signWeight) (hr:r = k.format.word neg (k.format.infRung + t)):isnan k r = true:=by
  subst hr
  unfold isnan
  rw [qlf _ _ _ ht]
  have:k.format.binade ≤ k.format.infRung:=by cases k <;> decide
  rw [if_neg (by omega),if_neg (by omega),if_neg (by omega)]
  rfl
theorem nan_cut_val (k:FloatKind) (t:Nat) (r:Nat) (hr:r = match k with
    | .f32=>(t % 2) * 2 ^ 31 + 0x7f800000 + 1 + (t / 2) % (2 ^ 23 - 1)
    | .f64=>(t % 2) * 2 ^ 63 + 0x7ff0000000000000 + 1 + (t / 2) % (2 ^ 52 - 1)):isnan k r = true∧r < 2 ^ k.format.width:=by
  cases k with
  | f32 =>
    simp only at hr
    have hm:t / 2 % (2 ^ 23 - 1) < 2 ^ 23 - 1:=Nat.mod_lt _ (by decide)
    have hb:t % 2 = 0 ∨ t % 2 = 1:=by omega
    have e1:FloatKind.f32.format.infRung = 0x7f800000:=by decide
    have e2:FloatKind.f32.format.signWeight = 2 ^ 31:=by decide
    have e3:FloatKind.f32.format.width = 32:=by decide
    refine ⟨qo1 (t % 2 == 1) (1 + t / 2 % (2 ^ 23 - 1)) (by omega) (by rw [e1,e2];omega) ?_,by rw [e3];omega⟩
    unfold Ieee.Format.word
    rw [e1,e2,hr]
    rcases hb with hb | hb <;> simp [hb] <;> omega
  | f64 =>
    simp only at hr
    have hm:t / 2 % (2 ^ 52 - 1) < 2 ^ 52 - 1:=Nat.mod_lt _ (by decide)
    have hb:t % 2 = 0 ∨ t % 2 = 1:=by omega
    have e1:FloatKind.f64.format.infRung = 0x7ff0000000000000:=by decide
    have e2:FloatKind.f64.format.signWeight = 2 ^ 63:=by decide
    have e3:FloatKind.f64.format.width = 64:=by decide
    refine ⟨qo1 (t % 2 == 1) (1 + t / 2 % (2 ^ 52 - 1)) (by omega) (by rw [e1,e2];omega) ?_,by rw [e3];omega⟩
    unfold Ieee.Format.word
    rw [e1,e2,hr]
    rcases hb with hb | hb <;> simp [hb] <;> omega
theorem qp0 (P:Program) (W:World) (q:Question) (k:FloatKind) (hq:(∃ x y,q = .nanBits k x y) ∨ (∃ b,q = .nanConv k b) ∨ ∃ m x y,q = .nanMinMax k m x y) :
    ∃ r W',(choose q).run P W = .ok r W'∧qbd W W'∧isnan k r = true∧r < 2 ^ k.format.width:=by
  obtain ⟨r,W',h1,h2,h3⟩:=qo8 P W q
  have hf:q.forced = false:=by rcases hq with ⟨x,y,rfl⟩ | ⟨b,rfl⟩ | ⟨m,x,y,rfl⟩ <;> rfl
  obtain ⟨t,ht⟩:=h3 hf
  refine ⟨r,W',h1,h2,nan_cut_val k t r ?_⟩
  rcases hq with ⟨x,y,rfl⟩ | ⟨b,rfl⟩ | ⟨m,x,y,rfl⟩ <;> cases k <;> simpa [Question.cut] using ht
section
variable {P:Program} {τ:Tab} (hτ:qfl P τ) {w0:World} {A:Args} {okA:Nat→Prop} {hb:Handle} {W:World} {H:Nat→AObj} {n:Nat} {σ:St} {a:Act} {ok:Nat→Prop}
/-! ### Arithmetic -/
theorem qrg (op:BinOp) (hop:op = .add ∨ op = .sub ∨ op = .mul ∨ op = .quo) (k:FloatKind) (x y:Nat) :
    ∃ r W',(Op.floatArith op k x y).run P W = .ok (.float k r) W'∧qbd W W'∧canon k r = qam op k (canon k x) (canon k y)∧r < 2 ^ k.format.width:=by
  have hrw:(Op.floatArith op k x y).run P W = match fraw op k x y with
      | some r=>.ok (.float k r) W
      | none=>((choose (.nanBits k x y)).run P W).andThen fun r w=>.ok (.float k r) w:=by
    rcases hop with rfl | rfl | rfl | rfl <;> simp only [Op.floatArith,Sem.run_bind,Sem.run_pure,Result.andThen_ok,fraw] <;> split <;> simp_all
  rw [hrw,farith_eq,fraw_canon]
  cases hf:fraw op k x y with
  | some r =>
    obtain ⟨h1,h2⟩:=fraw_some _ _ _ _ _ hf
    exact ⟨r,W,rfl,qbd.refl W,by simp [qdx h1],h2⟩
  | none =>
    obtain ⟨r,W',h1,h2,h3,h4⟩:=qp0 P W (.nanBits k x y) k (.inl ⟨_,_,rfl⟩)
    exact ⟨r,W',by simp only [h1,Result.andThen_ok],h2,by simp [qkh h3],h4⟩
theorem qok (op:BinOp) (hop:op = .add ∨ op = .sub ∨ op = .mul ∨ op = .quo) {k:FloatKind} {x y u v:Nat} (hx:canon k u = x) (hy:canon k v = y) :
    Ev P W (Op.floatArith op k u v) (Rel W hb H ok (.d (.fl k (qam op k x y)))):=by
  obtain ⟨r,W',h1,h2,h3,h4⟩:=qrg (P:=P) (W:=W) op hop k u v
  exact ⟨_,W',h1,h2,qr7 (by rw [h3,hx,hy]) h4⟩
theorem binFl_sound (op:BinOp) (t:TypeId) {k:FloatKind} {x y u v:Nat} (hx:canon k u = x) (hy:canon k v = y) :
    ORv P W (binOp op t (.float k u) (.float k v)) (Rel W hb H ok) (qy1 op k x y):=by
  have e:∀ op,fcmp op k x y = fcmp op k u v:=fun op=>by rw [← hx,← hy,qrh]
  cases op <;> simp only [qy1,ORv]
  case add=>simpa [binOp] using qok .add (by simp) hx hy
  case sub=>simpa [binOp] using qok .sub (by simp) hx hy
  case mul=>simpa [binOp] using qok .mul (by simp) hx hy
  case quo=>simpa [binOp] using qok .quo (by simp) hx hy
  all_goals (rw [e];exact .pure' (by simp [binOp,Op.floatCmp] <;> rfl) (qi2 _))
theorem qrc (op:BinOp) (hop:op = .add ∨ op = .sub) (k:FloatKind) (x y:Nat) :
    ∃ r W',(Op.Complex.arith op k x y).run P W = .ok r W'∧qbd W W'∧canon k r = qam op k (canon k x) (canon k y)∧r < 2 ^ k.format.width:=by
  obtain ⟨r,W',h1,h2,h3,h4⟩:=qrg (P:=P) (W:=W) op (by rcases hop with h | h <;> simp [h]) k x y
  exact ⟨r,W',by simp [Op.Complex.arith,h1],h2,h3,h4⟩
theorem qpi (k:FloatKind) (x y:Nat) (w:World):(Op.Complex.cmp .eql k x y).run P w = .ok (fcmp .eql k x y) w:=by
  simp [Op.Complex.cmp,Op.floatCmp,asBool,fcmp]
theorem qwh (op:BinOp) (hop:op = .add ∨ op = .sub) {k:FloatKind} {x y z q u v s t:Nat} (hx:canon k u = x) (hy:canon k v = y) (hz:canon k s = z) (hq:canon k t = q) :
    Ev P W (Op.complexOp op k u v s t) (Rel W hb H ok (.d (.cx k (qam op k x z) (qam op k y q)))):=by
  obtain ⟨r,W',h1,h2,h3,h4⟩:=qrc (P:=P) (W:=W) op hop k u s
  obtain ⟨r',W'',g1,g2,g3,g4⟩:=qrc (P:=P) (W:=W') op hop k v t
  refine ⟨.complex k r r',W'',?_,h2.trans g2,qp3 (by rw [h3,hx,hz]) (by rw [g3,hy,hq]) h4 g4⟩
  rcases hop with rfl | rfl <;> simp [Op.complexOp,h1,g1]
theorem binCx_sound (op:BinOp) (t:TypeId) {k:FloatKind} {x y z q u v s r:Nat} (hx:canon k u = x) (hy:canon k v = y) (hz:canon k s = z) (hq:canon k r = q) :
    ORv P W (binOp op t (.complex k u v) (.complex k s r)) (Rel W hb H ok) (qy0 op k x y z q):=by
  have e:∀ {a b c d},canon k a = c→canon k b = d→fcmp .eql k c d = fcmp .eql k a b:=fun h1 h2=>by rw [← h1,← h2,qrh]
  cases op <;> simp only [qy0,ORv]
  case add=>simpa [binOp] using qwh .add (by simp) hx hy hz hq
  case sub=>simpa [binOp] using qwh .sub (by simp) hx hy hz hq
  case eql =>
    rw [e hx hz,e hy hq]
    refine .pure' ?_ (qi2 _)
    simp only [binOp,Op.complexOp,ne_eq,not_true,if_false,Sem.run_bind,qpi,Result.andThen_ok]
    cases fcmp .eql k u s <;> simp [qpi]
  case neq =>
    rw [e hx hz,e hy hq]
    refine .pure' ?_ (qi2 _)
    simp only [binOp,Op.complexOp,ne_eq,not_true,if_false,Sem.run_bind,qpi,Result.andThen_ok]
    cases fcmp .eql k u s <;> simp [qpi]
theorem binInt_sound (op:BinOp) (t:TypeId) (k:IntKind) (x y:Int) (hs:qoa op = false):ORv P W (binOp op t (.int k x) (.int k y)) (Rel W hb H ok) (qwb op k x y):=by
  cases op <;> simp only [qwb,ORv] <;> first | (simp [qoa] at hs;done) | skip
  case quo=>exact fun h0=>.pure' (by simp [binOp,Op.intDiv,h0] <;> rfl) (qg8 _ _)
  case rem=>exact fun h0=>.pure' (by simp [binOp,Op.intDiv,h0] <;> rfl) (qg8 _ _)
  case add=>exact .pure' (by simp [binOp,Op.intArith] <;> rfl) (qg8 _ _)
  case sub=>exact .pure' (by simp [binOp,Op.intArith] <;> rfl) (qg8 _ _)
  case mul=>exact .pure' (by simp [binOp,Op.intArith] <;> rfl) (qg8 _ _)
  case and=>exact .pure' (by simp [binOp,Op.intBits,qir] <;> rfl) (qg8 _ _)
  case or=>exact .pure' (by simp [binOp,Op.intBits,qir] <;> rfl) (qg8 _ _)
  case xor=>exact .pure' (by simp [binOp,Op.intBits,qir] <;> rfl) (qg8 _ _)
  case andNot=>exact .pure' (by simp [binOp,Op.intBits,qir] <;> rfl) (qg8 _ _)
  case eql=>exact .pure' (by simp [binOp,Op.intCmp] <;> rfl) (qi2 _)
  case neq=>exact .pure' (by simp [binOp,Op.intCmp] <;> rfl) (qi2 _)
  case lss=>exact .pure' (by simp [binOp,Op.intCmp] <;> rfl) (qi2 _)
  case leq=>exact .pure' (by simp [binOp,Op.intCmp] <;> rfl) (qi2 _)
  case gtr=>exact .pure' (by simp [binOp,Op.intCmp] <;> rfl) (qi2 _)
  case geq=>exact .pure' (by simp [binOp,Op.intCmp] <;> rfl) (qi2 _)
theorem shift_sound (op:BinOp) (t:TypeId) (k k':IntKind) (x y:Int) (hs:qoa op = true):ORv P W (binOp op t (.int k x) (.int k' y)) (Rel W hb H ok) (qst op k x y):=by
  cases op <;> first | (simp [qoa] at hs;done) | skip
  all_goals
    simp only [qst,ORv]
    intro h0
    exact .pure' (by simp [binOp,Op.shift,show ¬ y < 0 by omega] <;> rfl) (qg8 _ _)
theorem binStr_sound (op:BinOp) (t:TypeId) (x y:ByteArray):ORv P W (binOp op t (.string x) (.string y)) (Rel W hb H ok) (qwc op x y):=by
  cases op <;> simp only [qwc,ORv]
  case add =>
    intro h0
    refine .pure' ?_ (qto _)
    have:¬ (((x.size + y.size:Nat):Int) > IntKind.i64.max):=by
      have:IntKind.i64.max = 9223372036854775807:=rfl
      omega
    simp [binOp,Op.stringOp,this]
    omega
  case eql=>exact .pure' (by simp [binOp,Op.stringOp] <;> rfl) (qi2 _)
  case neq=>exact .pure' (by simp [binOp,Op.stringOp] <;> rfl) (qi2 _)
include hτ in
theorem binV_sound (op:BinOp) (t:TypeId) {x y:V} {u v:Value} (hx:Rel W hb H ok x u) (hy:Rel W hb H ok y v):ORv P W (binOp op t u v) (Rel W hb H ok) (binV τ op t x y):=by
  unfold binV
  split
  · rename_i k a' k' b'
    obtain rfl:=qjo hx
    obtain rfl:=qjo hy
    cases hs:qoa op with
    | true=>simpa using shift_sound op t k k' a' b' hs
    | false =>
      simp only [cond_false]
      cases hk:ikEq k k' with
      | false=>trivial
      | true =>
        obtain rfl:k = k':=by simpa [ikEq] using hk
        exact binInt_sound op t k a' b' hs
  · rename_i k a' k' b'
    obtain ⟨u',rfl,h1,_⟩:=qou hx
    obtain ⟨v',rfl,h2,_⟩:=qou hy
    cases hk:fkEq k k' with
    | false=>trivial
    | true =>
      obtain rfl:k = k':=by simpa [fkEq] using hk
      exact binFl_sound op t h1 h2
  · rename_i k a' b' k' c' e'
    obtain ⟨u1,u2,rfl,h1,h2,_⟩:=qpf hx
    obtain ⟨v1,v2,rfl,h3,h4,_⟩:=qpf hy
    cases hk:fkEq k k' with
    | false=>trivial
    | true =>
      obtain rfl:k = k':=by simpa [fkEq] using hk
      exact binCx_sound op t h1 h2 h3 h4
  · obtain rfl:=qlh hx
    obtain rfl:=qlh hy
    exact binStr_sound op t _ _
  · rename_i b1 b2
    obtain rfl:=qk0 hx
    obtain rfl:=qk0 hy
    split
    · rename_i td htd
      have hu:=qiz hτ htd W
      split
      · rename_i hd
        rw [hd] at hu
        have hq:∀ a b,(Op.equal t (.bool a) (.bool b)).run P W = .ok (a == b) W:=by
          intro a b
          unfold Op.equal Op.maxDepth
          rw [show (10000:Nat) = 9999 + 1 from rfl,Op.equalIn]
          simp only [Sem.run_bind,hu,Result.andThen_ok,Sem.run_pure]
        split
        · exact .pure' (by simp [binOp,hq] <;> rfl) (qi2 _)
        · exact .pure' (by simp [binOp,hq] <;> rfl) (qi2 _)
        · trivial
      · trivial
    · trivial
  · trivial
theorem qoc (n c:Nat) (h:c < 2 ^ n):2 ^ n + c = c ^^^ 2 ^ n:=by
  have e:=Nat.two_pow_add_eq_or_of_lt h 1
  rw [Nat.mul_one] at e
  rw [e]
  apply Nat.eq_of_testBit_eq
  intro i
  rw [Nat.testBit_or,Nat.testBit_xor,Nat.testBit_two_pow]
  by_cases hi:n = i
  · subst hi
    simp [Nat.testBit_lt_two_pow h]
  · simp [hi]
theorem qvg (k:FloatKind) (b:Nat) (h:b < 2 ^ k.format.width):(b < k.format.signWeight∧Op.negFloat k b = k.format.signWeight + b) ∨ (∃ c,b = k.format.signWeight + c∧c < k.format.signWeight∧Op.negFloat k b = c):=by
  have two:2 ^ k.format.width = 2 * k.format.signWeight:=by
    unfold Ieee.Format.width Ieee.Format.signWeight
    rw [Nat.add_assoc,Nat.add_comm 1,Nat.pow_succ,Nat.mul_comm]
  have e:Op.negFloat k b = b ^^^ k.format.signWeight:=rfl
  rw [e]
  rcases Nat.lt_or_ge b k.format.signWeight with hl | hl
  · exact .inl ⟨hl,(qoc _ b hl).symm⟩
  · refine .inr ⟨b - k.format.signWeight,by omega,by omega,?_⟩
    have hc:b - k.format.signWeight < k.format.signWeight:=by omega
    have:=qoc _ _ hc
    have hb:b = k.format.signWeight + (b - k.format.signWeight):=by omega
    rw [hb,show k.format.signWeight = 2 ^ (k.format.exponentBits + k.format.fractionBits) from rfl] at *
    generalize b - 2 ^ (k.format.exponentBits + k.format.fractionBits) = c at *
    simp only [Nat.add_sub_cancel_left] at *
    rw [qoc _ c hc,Nat.xor_assoc,Nat.xor_self,Nat.xor_zero]
theorem qwt {k:FloatKind} {b:Nat} (h:b < 2 ^ k.format.width):Op.negFloat k b < 2 ^ k.format.width:=by
  have two:2 ^ k.format.width = 2 * k.format.signWeight:=by
    unfold Ieee.Format.width Ieee.Format.signWeight
    rw [Nat.add_assoc,Nat.add_comm 1,Nat.pow_succ,Nat.mul_comm]
  rcases qvg k b h with ⟨h1,h2⟩ | ⟨c,h1,h2,h3⟩ <;> omega
theorem read_neg (k:FloatKind) (b:Nat) (h:b < 2 ^ k.format.width):k.format.read (Op.negFloat k b) = (k.format.read b).opposite:=by
  have e0:∀ c,c < k.format.signWeight→k.format.word false c = c:=fun c _=>rfl
  have e1:∀ c,c < k.format.signWeight→k.format.word true c = k.format.signWeight + c:=fun c _=>rfl
  rcases qvg k b h with ⟨h1,h2⟩ | ⟨c,h1,h2,h3⟩
  · have r1:=qlf k.format false b h1
    have r2:=qlf k.format true b h1
    rw [e0 b h1] at r1
    rw [e1 b h1] at r2
    rw [h2,r1,r2]
    repeat' split
    all_goals rfl
  · have r1:=qlf k.format true c h2
    have r2:=qlf k.format false c h2
    rw [e1 c h2,← h1] at r1
    rw [e0 c h2] at r2
    rw [h3,r1,r2]
    repeat' split
    all_goals rfl
theorem qtk (k:FloatKind) (b:Nat) (h:b < 2 ^ k.format.width):isnan k (Op.negFloat k b) = isnan k b:=by
  unfold isnan
  rw [read_neg k b h]
  cases k.format.read b <;> rfl
theorem qnan_lt (k:FloatKind):qnan k < 2 ^ k.format.width:=by cases k <;> decide
theorem quc (k:FloatKind) (b:Nat) (h:b < 2 ^ k.format.width):fneg k (canon k b) = canon k (Op.negFloat k b):=by
  unfold fneg
  cases hn:isnan k b with
  | false=>rw [qdx hn]
  | true =>
    rw [qkh (b:=b) hn,qkh,qkh]
    · rw [qtk k b h];exact hn
    · rw [qtk k _ (qnan_lt k)];exact qro k
theorem unV_sound (op:UnOp) {x:V} {u:Value} (hx:Rel W hb H ok x u):ORv P W (Op.unary op u) (Rel W hb H ok) (unV op x):=by
  unfold unV
  split
  · obtain rfl:=qk0 hx;exact .pure' (by simp [Op.unary] <;> rfl) (qi2 _)
  · obtain rfl:=qjo hx;exact .pure' (by simp [Op.unary,Op.intArith] <;> rfl) (qg8 _ _)
  · obtain ⟨b,rfl,h1,h2⟩:=qou hx
    exact .pure' (cv:=.float _ (Op.negFloat _ b)) (by simp [Op.unary]) (qr7 (by rw [← h1,quc _ _ h2]) (qwt h2))
  · obtain ⟨b,c,rfl,h1,h2,h3,h4⟩:=qpf hx
    exact .pure' (cv:=.complex _ (Op.negFloat _ b) (Op.negFloat _ c)) (by simp [Op.unary]) (qp3 (by rw [← h1,quc _ _ h3]) (by rw [← h2,quc _ _ h4]) (qwt h3) (qwt h4))
  · trivial
end
end Go.Proofs.YtiegopnofbgoaaaGreat.AWN

namespace Go.Proofs.YtiegopnofbgoaaaGreat.AWN
open Go
section
variable {P:Program} {τ:Tab} (hτ:qfl P τ) {w0:World} {A:Args} {okA:Nat→Prop} {hb:Handle} {W:World} {H:Nat→AObj} {n:Nat} {σ:St} {a:Act} {ok:Nat→Prop}
/-! ### Conversions -/
theorem decode_canon (k:FloatKind) (b:Nat) (h:isnan k b = false):k.decode (canon k b) = k.decode b:=by rw [qdx h]
theorem fconv_run (s k:FloatKind) (b:Nat) (hbw:b < 2 ^ s.format.width) :
    ∃ r W',(Conv.floatToFloat s b k).run P W = .ok (.float k r) W'∧qbd W W'∧r < 2 ^ k.format.width∧(∀ q,qmu s k (canon s b) = some q→canon k r = q):=by
  by_cases hsk:s = k
  · subst hsk
    exact ⟨b,W,by simp [Conv.floatToFloat],qbd.refl W,hbw,fun q hq=>by simpa [qmu,fkEq] using hq⟩
  have hf:fkEq s k = false:=by simp [fkEq,hsk]
  cases hn:isnan s b with
  | true =>
    obtain ⟨sg,t,e⟩:=qji hn
    have e':s.decode b = .nan sg t:=e
    obtain ⟨sg',t',e2⟩:=qji (by rw [qjl,hn]:isnan s (canon s b) = true)
    have e2':s.decode (canon s b) = .nan sg' t':=e2
    obtain ⟨r,W',h1,h2,h3,h4⟩:=qp0 P W (.nanConv k b) k (.inr (.inl ⟨_,rfl⟩))
    refine ⟨r,W',?_,h2,h4,fun q hq=>?_⟩
    · simp only [Conv.floatToFloat,hsk,if_false,e',Sem.run_bind,h1,Result.andThen_ok,Sem.run_pure]
    · simp only [qmu,hf,cond_false,e2'] at hq
      rw [qkh h3];exact Option.some.inj hq
  | false =>
    have ec:=decode_canon s b hn
    cases hd:s.decode b with
    | nan sg t=>have:(s.decode b).isNaN = true:=by rw [hd];rfl
                exact absurd hn (by unfold isnan;unfold FloatKind.decode at this;simp [this])
    | infinity sg =>
      have hw:=ql1 k (.infinity sg) rfl
      refine ⟨k.encode (.infinity sg),W,?_,qbd.refl W,k.format.write_lt _,fun q hq=>?_⟩
      · simp only [Conv.floatToFloat,hsk,if_false,hd,Sem.run_pure]
      · simp only [qmu,hf,cond_false,ec,hd] at hq
        rw [← Option.some.inj hq];exact qdx hw
    | number sg m e =>
      have hw:=ql1 k (.number sg m e) rfl
      cases hi:(k.decode (k.encode (.number sg m e))).isInfinity with
      | true =>
        obtain ⟨r,W',h1,h2,h3⟩:=qo8 P W (.floatToFloat b)
        obtain ⟨t,ht⟩:=h3 rfl
        refine ⟨r,W',?_,h2,?_,fun q hq=>?_⟩
        · simp only [Conv.floatToFloat,hsk,if_false,hd,hi,if_true,Sem.run_bind,h1,Result.andThen_ok,Sem.run_pure]
        · have:r < 2 ^ 32:=by rw [ht];exact Nat.mod_lt _ (by decide)
          cases k
          · exact this
          · have:(2:Nat) ^ 32 ≤ 2 ^ 64:=by decide
            show r < 2 ^ 64
            omega
        · simp only [qmu,hf,cond_false,ec,hd,hi,cond_true] at hq
          cases hq
      | false =>
        refine ⟨k.encode (.number sg m e),W,?_,qbd.refl W,k.format.write_lt _,fun q hq=>?_⟩
        · simp [Conv.floatToFloat,hsk,hd,hi]
        · simp only [qmu,hf,cond_false,ec,hd,hi] at hq
          rw [← Option.some.inj hq];exact qdx hw
theorem qrv (k:FloatKind) (z:Int):canon k (k.nearest z) = k.nearest z∧k.nearest z < 2 ^ k.format.width :=
  ⟨qdx (ql1 k (.number (z < 0) z.natAbs 0) rfl),k.format.write_lt (.number (z < 0) z.natAbs 0)⟩
include hτ in
theorem convV_sound (src dst:TypeId) {x:V} {u:Value} (hx:Rel W hb H ok x u):ORv P W (convert src dst u) (Rel W hb H ok) (qwg τ src dst x):=by
  unfold qwg
  split
  · rename_i s d hs hd
    have us:=qiz hτ hs
    have ud:=qiz hτ hd
    split
    · rename_i k k' z hdd
      obtain rfl:=qjo hx
      refine .pure' (cv:=.int k (k.wrap z)) ?_ (qg8 _ _)
      simp only [convert,Sem.run_bind,us,ud,hdd,Result.andThen_ok]
      cases s.desc <;> simp [Conv.intToInt]
    · rename_i k k' z hdd
      obtain rfl:=qjo hx
      refine .pure' (cv:=.float k (k.nearest z)) ?_ (qr7 (qrv k z).1 (qrv k z).2)
      simp only [convert,Sem.run_bind,us,ud,hdd,Result.andThen_ok]
      cases s.desc <;> simp [Conv.intToFloat]
    · rename_i k sk b hdd
      obtain ⟨c,rfl,h1,h2⟩:=qou hx
      obtain ⟨r,W',g1,g2,g3,g4⟩:=fconv_run (P:=P) (W:=W) sk k c h2
      have hrun:(convert src dst (.float sk c)).run P W = .ok (.float k r) W':=by
        simp only [convert,Sem.run_bind,us,ud,hdd,Result.andThen_ok]
        cases s.desc <;> simp [g1]
      split
      · rename_i q hq
        rw [← h1] at hq
        exact ⟨_,W',hrun,g2,qr7 (g4 q hq) g3⟩
      · exact ⟨_,W',hrun,g2,r,g3,qr7 rfl g3⟩
    · trivial
  · trivial
/-! ### Parts -/
theorem qfk {α:Type} (xs:List α) (off m i:Nat) (d:α) (h:i < m):((xs.drop off).take m).getD i d = xs.getD (off + i) d:=by
  simp [List.getD_eq_getElem?_getD,List.getElem?_take,h,List.getElem?_drop]
theorem getD_some {α:Type} {xs:List α} {i:Nat} {x:α} (h:xs[i]? = some x) (d:α):xs.getD i d = x:=by simp [List.getD_eq_getElem?_getD,h]
theorem qsk {t:TypeId} {td:TD} (hτ:qfl P τ) (ht:τ t = some td) {cs:List V} {b o off:Nat} (f:Nat→Value) {v:V} (hp:qp6 td cs off = some v)
    (hc:∀ c,c < cs.length→W.cell? ⟨b,o + c,none⟩ = some (f c)) (hr:∀ c,c < cs.length→Rel W hb H ok (cs.getD c .junk) (f c)) :
    Ev P W (loadVar t ⟨b,o + off,none⟩) (Rel W hb H ok v):=by
  have hi:=qox hτ ht
  have hz:=qk3 hτ ht
  have had:∀ m,(⟨b,o + off,none⟩:Addr).add m = ⟨b,o + (off + m),none⟩:=fun m=>by
    unfold Addr.add
    split
    · rename_i h0;subst h0;rfl
    · simp [Nat.add_assoc]
  unfold qp6 at hp
  cases hagg:qpa td.desc with
  | true =>
    rw [hagg] at hp
    simp only [cond_true] at hp
    cases hle:Nat.ble (off + td.size) cs.length with
    | false=>rw [hle] at hp;cases hp
    | true =>
      rw [hle] at hp
      simp only [cond_true,Option.some.injEq] at hp
      subst hp
      have hle':off + td.size ≤ cs.length:=by simpa using hle
      refine .pure' (cv:=.agg ((List.range td.size).map fun j=>f (off + j)).toArray) ?_ ?_
      · simp only [loadVar,Sem.run_bind,hi,hagg,Result.andThen_ok,if_true,hz]
        rw [run_loadCells W _ td.size (fun j=>f (off + j)) (fun j hj=>by rw [had];exact hc (off + j) (by omega))]
        rfl
      · refine .agg (by simp;omega) (fun i hi'=>?_)
        have hi2:i < td.size:=by simpa using hi'
        rw [qfk _ _ _ _ _ hi2]
        have:(((List.range td.size).map fun j=>f (off + j)).toArray).getD i undef = f (off + i):=by
          simp [Array.getD_eq_getD_getElem?,hi2]
        rw [this]
        exact hr _ (by omega)
  | false =>
    rw [hagg] at hp
    simp only [cond_false] at hp
    have hlt:off < cs.length:=(List.getElem?_eq_some_iff.1 hp).1
    refine .pure' (cv:=f off) ?_ ?_
    · simp only [loadVar,Sem.run_bind,hi,hagg,Result.andThen_ok]
      have hcc:=hc off hlt
      simp [hcc]
    · have:=hr off hlt
      rwa [getD_some hp] at this
/-! ### What a related pointer,slice looks like -/
theorem qwd (h:HSim w0 A okA hb H n W) {j:Nat} {cs:List V} (hj:H j = .box cs):qxy W hb H (okF w0 okA hb H W) j cs:=by
  have:=h.obj j;unfold qh5 at this;rw [hj] at this;exact this
theorem qtx (h:HSim w0 A okA hb H n W) {j sz:Nat} {es:List (List D)} (hj:H j = .row sz es):qw4 W hb (okF w0 okA hb H W) j sz es:=by
  have:=h.obj j;unfold qh5 at this;rw [hj] at this;exact this
theorem cell_of_heap {b o:Nat} {vals:Array Value} {T:TypeId} {fr:Nat × Nat} (h:W.heap[b]? = some (.cells vals T fr)):W.cell? ⟨b,o,none⟩ = vals[o]?:=by
  unfold World.cell?;rw [h];rfl
theorem qk1 {b:Nat} {vals:Array Value} {T:TypeId} {fr:Nat × Nat} (h:W.heap[b]? = some (.cells vals T fr)):(W.shape? b).map (·.2) = some vals.size:=by
  unfold World.shape?;rw [h];rfl
theorem qf7 {vals:Array Value} {i:Nat} (h:i < vals.size):vals[i]? = some (vals.getD i undef):=by
  simp [Array.getD_eq_getD_getElem?,h]
include hτ in
theorem loadV_sound (h:HSim w0 A okA hb H n W) {t:TypeId} {td:TD} (ht:τ t = some td) {x:V} {u:Value} (hx:RelS w0 okA hb H W x u) :
    ORv P W (Instr.loadAt t u) (RelS w0 okA hb H W) (qsj H td x):=by
  have hsure:∀ ad:Addr,(Instr.loadAt t (.pointer (some ad))).run P W = (loadVar t ad).run P W:=fun ad=>by
    simp [Instr.loadAt,Instr.sureAddr]
  have up:∀ (ad:Addr) (Q:Value→Prop),Ev P W (loadVar t ad) Q→Ev P W (Instr.loadAt t (.pointer (some ad))) Q:=fun ad Q ⟨cv,W',e1,e2,e3⟩=>⟨cv,W',by rw [hsure,e1],e2,e3⟩
  unfold qsj
  split
  · rename_i j off
    split
    · rename_i cs hj
      cases hx with
      | ptr e1 e2 =>
        obtain ⟨b,vals,T,fr,g1,g2,g3,g4,g5,g6⟩:=qwd h hj
        have hbb:=Option.some.inj (g1.symm.trans e2)
        subst hbb
        cases hp:qp6 td cs off with
        | none=>trivial
        | some v =>
          refine up _ _ ?_
          have:=qsk hτ ht (b:=b) (o:=0) (fun c=>vals.getD c undef) hp (fun c hc=>by rw [cell_of_heap g2,Nat.zero_add];exact qf7 (by omega)) (fun c hc=>g6 c (by omega)) (hb:=hb) (H:=H) (ok:=okF w0 okA hb H W) (W:=W)
          simpa using this
    · trivial
  · rename_i j L i off
    split
    · rename_i sz es hj
      intro e v hL he hv
      cases hx with
      | eptrStale _ e1 e2 _=>rw [hj] at e1;cases e1;omega
      | eptr e1 e2 e3 =>
        rw [hj] at e1;cases e1
        obtain ⟨g0,g⟩:=qtx h hj
        have hilt:i < es.length:=(List.getElem?_eq_some_iff.1 he).1
        rcases g with ⟨g1,_⟩ | ⟨b,vals,T,fr,g1,g2,g3,g4,g5⟩
        · subst g1;simp at hilt
        · have hbb:=Option.some.inj (g1.symm.trans e3)
          subst hbb
          have hsz:e.length = sz:=g0 e (List.mem_of_getElem? he)
          have heD:es.getD i [] = e:=getD_some he []
          have hbd:(i + 1) * sz ≤ vals.size:=Nat.le_trans (Nat.mul_le_mul_right _ hilt) g3
          rw [Nat.add_mul,Nat.one_mul] at hbd
          refine up _ _ ?_
          refine qsk hτ ht (b:=b) (o:=i * sz) (fun c=>vals.getD (i * sz + c) undef) hv (fun c hc=>?_) (fun c hc=>?_)
          · simp only [List.length_map] at hc
            rw [cell_of_heap g2];exact qf7 (by omega)
          · simp only [List.length_map] at hc
            have hcs:c < sz:=by omega
            have:=g5 i c hilt hcs
            rw [heD] at this
            have e4:(e.map V.d).getD c .junk = .d (e.getD c .nilp):=by
              simp [List.getD_eq_getElem?_getD,List.getElem?_map,List.getElem?_eq_getElem hc]
            rw [e4];exact .d this
    · trivial
  · rename_i cs off
    cases hx with
    | rop vals e1 e2 e3 =>
      cases hp:qp6 td (cs.map V.d) off with
      | none=>trivial
      | some v =>
        refine up _ _ ?_
        refine qsk hτ ht vals hp (fun c hc=>e2 c (by simpa using hc)) (fun c hc=>?_)
        simp only [List.length_map] at hc
        have e4:(cs.map V.d).getD c .junk = .d (cs.getD c .nilp):=by
          simp [List.getD_eq_getElem?_getD,List.getElem?_map,List.getElem?_eq_getElem hc]
        rw [e4];exact .d (e3 c hc)
  · trivial
/-! ### Addresses -/
theorem addr_add (b o m:Nat):(⟨b,o,none⟩:Addr).add m = ⟨b,o + m,none⟩:=by
  unfold Addr.add
  split
  · rename_i h0;subst h0;rfl
  · rfl
include hτ in
theorem qqc {s:TypeId} {f off:Nat} {fd:TD} (h:qly τ s f = some (off,fd)):∃ fs:Array Field,∃ fld:Field,(∀ w,(underlying s).run P w = .ok (.struct fs) w)∧fs[f]? = some fld∧fld.offset = off∧τ fld.type = some fd:=by
  unfold qly at h
  split at h
  · rename_i td ht
    split at h
    · rename_i fs hd
      split at h
      · rename_i fld hf
        split at h
        · rename_i fdt hft
          simp only [Option.some.injEq,Prod.mk.injEq] at h
          obtain ⟨rfl,rfl⟩:=h
          exact ⟨fs,fld,fun w=>by rw [qiz hτ ht w,hd],hf,rfl,hft⟩
        · cases h
      · cases h
    · cases h
  · cases h
include hτ in
theorem fieldAddr_sound {s:TypeId} {f off:Nat} {fd:TD} (h:qly τ s f = some (off,fd)) (hz:Nat.beq fd.size 0 = false) {x:V} {u:Value} (hx:Rel W hb H ok x u):ORv P W (Instr.fieldAt s u f) (Rel W hb H ok) (qpd H x off):=by
  obtain ⟨fs,fld,h1,h2,h3,h4⟩:=qqc hτ h
  have hzz:fd.size ≠ 0:=by intro e;rw [e] at hz;simp at hz
  have key:∀ (b o:Nat),(Instr.fieldAt s (.pointer (some ⟨b,o,none⟩)) f).run P W = .ok (.pointer (some ⟨b,o + off,none⟩)) W:=by
    intro b o
    simp only [Instr.fieldAt,Sem.run_bind,h1,Result.andThen_ok,h2,Instr.sureAddr,Sem.run_pure,fieldPlace,qk3 hτ h4,hzz,if_false,h3,addr_add]
  unfold qpd
  split
  · cases hx with
    | ptr e1 e2=>exact .pure' (key _ _) (.ptr e1 e2)
  · rename_i j L i o
    split
    · rename_i sz es hj
      intro hL
      cases hx with
      | eptr e1 e2 e3=>exact .pure' (key _ _) (by rw [Nat.add_assoc];exact .eptr e1 e2 e3)
      | eptrStale v e1 e2 _=>rw [hj] at e1;cases e1;omega
    · trivial
  · cases hx with
    | rop vals e1 e2 e3=>exact .pure' (key _ _) (by rw [Nat.add_assoc];exact .rop vals e1 e2 e3)
  · trivial
end
end Go.Proofs.YtiegopnofbgoaaaGreat.AWN

namespace Go.Proofs.YtiegopnofbgoaaaGreat.AWN
open Go
section
variable {P:Program} {τ:Tab} (hτ:qfl P τ) {w0:World} {A:Args} {okA:Nat→Prop} {hb:Handle} {W:World} {H:Nat→AObj} {n:Nat} {σ:St} {a:Act} {ok:Nat→Prop}
include hτ in
theorem indexAddr_sound {t:TypeId} {x i:V} {u v:Value} (hx:Rel W hb H ok x u) (hi:Rel W hb H ok i v):ORv P W (Instr.indexAt t u v) (Rel W hb H ok) (qkj τ H t x i):=by
  unfold qkj
  split
  · rename_i td k z ht
    obtain rfl:=qjo hi
    have hu:=qiz hτ ht
    split
    · rename_i et t' es hd
      split
      · rename_i ed hed
        have hsz:=qk3 hτ hed
        intro e v h0 he hv
        have hlt:z.toNat < es.length:=(List.getElem?_eq_some_iff.1 he).1
        simp only at hv
        cases hq:Nat.beq e.length ed.size with
        | false=>rw [hq] at hv;cases hv
        | true =>
          rw [hq] at hv
          simp only [cond_true,Option.some.injEq] at hv
          subst hv
          have hel:e.length = ed.size:=Nat.eq_of_beq_eq_true hq
          have heD:es.getD z.toNat [] = e:=getD_some he []
          cases hx with
          | d hx=>cases hx with
            | slnil=>simp at hlt
            | sle=>simp at hlt
            | @sl _ _ b o len cap sz vals g1 g2 g3 g4 gm g5 g6 g7 =>
              have hszz:sz = ed.size:=by have:=g5 z.toNat (by omega);rw [heD] at this;omega
              subst hszz
              refine .pure' (cv:=.pointer (some ⟨b,o + z.toNat * ed.size + 0,none⟩)) ?_ ?_
              · simp only [Instr.indexAt,Sem.run_bind,asIntOf,Sem.run_pure,Result.andThen_ok,hu,hd,hsz]
                have hc:0 ≤ z∧z < (len:Int):=by omega
                simp [hc,addr_add,hsz]
              · refine .rop (fun c=>vals z.toNat c) (fun _=>g1 (by intro h0';subst h0';simp at hlt)) (fun c hc=>?_) (fun c hc=>?_)
                · have:=g6 z.toNat c (by omega) (by omega)
                  rw [← Nat.add_assoc] at this;exact this
                · have:=g7 z.toNat c (by omega) (by omega)
                  rw [heD] at this;exact this
      · trivial
    · rename_i et j L off len hd
      split
      · rename_i ed sz es hed hj
        have hsz:=qk3 hτ hed
        cases hq:Nat.beq sz ed.size with
        | false=>trivial
        | true =>
          have hszz:sz = ed.size:=Nat.eq_of_beq_eq_true hq
          subst hszz
          intro ⟨h0,h1,h2,h3⟩
          cases hx with
          | rowStale v e1 e2 _=>rw [hj] at e1;cases e1;omega
          | rowEmpty e1 e2 e3=>simp at h1;omega
          | rowNil e1 e2=>simp at h1;omega
          | @row _ _ _ _ b _ cap bs _ e1 e2 e3 e4 e5 e6 e7 e8 e9 =>
            rw [hj] at e1;cases e1
            refine .pure' (cv:=.pointer (some ⟨b,(off + z.toNat) * ed.size + 0,none⟩)) ?_ (.eptr hj h3 e3)
            simp only [Instr.indexAt,Sem.run_bind,asIntOf,Sem.run_pure,Result.andThen_ok,hu,hd]
            have hc:0 ≤ z∧z < (len:Int):=⟨h0,h1⟩
            simp [hc,addr_add,hsz,Nat.add_mul]
      · trivial
    · trivial
  · trivial
theorem byte_get {s:ByteArray} {i:Nat} (h:i < s.size):s[i]? = some (s.data.getD i 0):=by
  have:s[i]? = some s[i]:=by simp [h]
  rw [this]
  congr 1
  have h':i < s.data.size:=h
  rw [Array.getD_eq_getD_getElem?,Array.getElem?_eq_getElem h']
  rfl
include hτ in
theorem index_sound {t:TypeId} {x i:V} {u v:Value} (hx:Rel W hb H ok x u) (hi:Rel W hb H ok i v):ORv P W (Instr.index t u v) (Rel W hb H ok) (qtj τ t x i):=by
  unfold qtj
  split
  · rename_i s k z
    obtain rfl:=qlh hx
    obtain rfl:=qjo hi
    split
    · rename_i td ht
      have hu:=qiz hτ ht
      split
      · rename_i hd
        intro ⟨h0,h1⟩
        refine .pure' (cv:=.int .u8 (bAt s z.toNat)) ?_ (qg8 _ _)
        have hb':z.toNat < s.size:=by omega
        simp only [Instr.index,Sem.run_bind,asIntOf,Sem.run_pure,Result.andThen_ok,hu,hd,h0,if_true,byte_get hb',bAt]
      · trivial
    · trivial
  · rename_i cs k z
    obtain rfl:=qjo hi
    split
    · rename_i td ht
      have hu:=qiz hτ ht
      split
      · rename_i len e hd
        split
        · rename_i ed he
          cases hq:(qpa ed.desc || !Nat.beq ed.size 1) with
          | true=>trivial
          | false =>
            simp only [Bool.or_eq_false_iff,Bool.not_eq_false'] at hq
            intro ⟨h0,h1,h2⟩
            cases hx with
            | @agg _ c e1 e2 =>
              have hsz:=qk3 (P:=P) hτ he W
              have hag:=qox (P:=P) hτ he W
              have hs1:ed.size = 1:=Nat.eq_of_beq_eq_true hq.2
              have hlt:z.toNat < c.size:=by omega
              have hc:=qf7 (vals:=c) (i:=z.toNat) hlt
              refine .pure' (cv:=c.getD z.toNat undef) ?_ (e2 _ hlt)
              have h01:0 ≤ z∧z < (len:Int):=⟨h0,h1⟩
              simp only [Instr.index,Sem.run_bind,asIntOf,Sem.run_pure,Result.andThen_ok,hu,hd,if_pos h01,hsz,hs1,Nat.mul_one,part,hag,hq.1,Bool.false_eq_true,if_false,hc]
        · trivial
      · trivial
    · trivial
  · trivial
def qt2 (v:Option Value):Option Int→Prop
  | none=>v = none
  | some z=>∃ k,v = some (.int k z)
theorem qrx {x:Option Operand} {o:Option Int} (h:Sim w0 A okA hb σ a W) (hx:qqk (x.map σ.ev) = some o):qt2 (x.map a.eval) o:=by
  cases x with
  | none=>simp [qqk] at hx;subst hx;rfl
  | some x =>
    simp only [Option.map_some] at hx ⊢
    have hr:=qfi h x
    generalize σ.ev x = e at hx hr
    unfold qqk at hx
    split at hx
    · rename_i heq;cases heq
    · rename_i k z heq
      simp only [Option.some.injEq] at hx heq
      subst heq;subst hx
      exact ⟨k,by rw [qjo hr]⟩
    · cases hx
theorem qla {k:IntKind} {z:Int} {y:Nat} (c:BoundsCode) (h0:0 ≤ z) (h1:z ≤ y) (w:World):(Instr.sliceBound (.int k z) y c).run P w = .ok z.toNat w:=by
  simp [Instr.sliceBound,asIntOf,h0,h1]
theorem qni {lo hi:Option Int} {x y:Option Value} (isS:Bool) (len cap:Nat) (hlo:qt2 x lo) (hhi:qt2 y hi) (hlc:len ≤ cap) (h0:0 ≤ lo.getD 0) (h1:lo.getD 0 ≤ hi.getD len) (h2:hi.getD len ≤ len) (w:World) :
    (Instr.sliceBounds isS len cap x y none).run P w = .ok ((lo.getD 0).toNat,(hi.getD len).toNat,cap) w:=by
  cases lo <;> cases hi
  · have hlo':x = none:=hlo
    have hhi':y = none:=hhi
    subst hlo';subst hhi'
    simp [Instr.sliceBounds]
  · rename_i z
    obtain ⟨k,rfl⟩:=hhi
    have hlo':x = none:=hlo
    subst hlo'
    simp only [Option.getD_none,Option.getD_some] at *
    simp only [Instr.sliceBounds,Sem.run_bind,Sem.run_pure,Result.andThen_ok]
    rw [qla _ (by omega) (by omega)]
    simp
  · rename_i z
    obtain ⟨k,rfl⟩:=hlo
    have hhi':y = none:=hhi
    subst hhi'
    simp only [Option.getD_none,Option.getD_some] at *
    simp only [Instr.sliceBounds,Sem.run_bind,Sem.run_pure,Result.andThen_ok]
    rw [qla _ (by omega) (by omega)]
    simp
  · rename_i z z'
    obtain ⟨k,rfl⟩:=hlo
    obtain ⟨k',rfl⟩:=hhi
    simp only [Option.getD_some] at *
    simp only [Instr.sliceBounds,Sem.run_bind,Sem.run_pure,Result.andThen_ok]
    rw [qla _ (by omega) (by omega)]
    simp only [Sem.run_bind,Sem.run_pure,Result.andThen_ok]
    rw [qla _ (by omega) (by omega)]
    simp
theorem qnj {lo hi:Option Int} {x y:Option Value} {t et:TypeId} {td ed:TD} (hτ:qfl P τ) (ht:τ t = some td) (hd:td.desc = .slice et) (he:τ et = some ed) (ad:Option Addr) (len cap:Nat)
    (hlo:qt2 x lo) (hhi:qt2 y hi) (hlc:len ≤ cap) (h0:0 ≤ lo.getD 0) (h1:lo.getD 0 ≤ hi.getD len) (h2:hi.getD len ≤ len) (w:World) :
    (Instr.sliceAt t (.slice ad len cap) x y none).run P w = .ok (.slice (if cap = (lo.getD 0).toNat then ad else ad.map (·.add ((lo.getD 0).toNat * ed.size))) ((hi.getD len).toNat - (lo.getD 0).toNat) (cap - (lo.getD 0).toNat)) w:=by
  have hu:=qiz hτ ht
  have hz:=qk3 hτ he
  simp only [Instr.sliceAt,Sem.run_bind,hu,hd,Result.andThen_ok,Instr.slice]
  rw [qni true len cap hlo hhi hlc h0 h1 h2]
  simp only [Result.andThen_ok,Sem.run_bind,hz,Sem.run_pure]
include hτ in
theorem slice_sound (h:Sim w0 A okA hb σ a W) {t:TypeId} {x:V} {u:Value} (lo hi mx:Option Operand) (hx:RelS w0 okA hb σ.heap W x u) :
    ORv P W (Instr.sliceAt t u (lo.map a.eval) (hi.map a.eval) (mx.map a.eval)) (RelS w0 okA hb σ.heap W) (qpg τ σ.heap t x (lo.map σ.ev) (hi.map σ.ev) (mx.map σ.ev)):=by
  unfold qpg
  split
  · rename_i td zl zh ht hzl hzh hm
    have hmx:mx = none:=by cases mx with
      | none=>rfl
      | some m=>simp at hm
    subst hmx
    have hl:=qrx h hzl
    have hh:=qrx h hzh
    have hu:=qiz hτ ht
    split
    · rename_i s hd
      obtain rfl:=qlh hx
      intro ⟨h0,h1,h2⟩
      refine .pure' ?_ (qto _)
      simp only [Instr.sliceAt,Sem.run_bind,hu,hd,Result.andThen_ok,Instr.slice,Option.map_none,Option.isSome_none,Bool.false_eq_true,if_false,Sem.run_pure]
      rw [qni false s.size s.size hl hh (Nat.le_refl _) h0 h1 h2]
      simp
    · rename_i et t' es hd
      split
      · rename_i ed hed
        intro ⟨h0,h1,h2,h3⟩
        cases hx with
        | d hx=>cases hx with
          | slnil =>
            refine .pure' (qnj hτ ht hd hed none 0 0 hl hh (Nat.le_refl _) h0 h1 h2 W) ?_
            simp only [List.length_nil] at *
            have e:((hi.map σ.ev).isSome ∨ True):=.inr trivial
            have e1:(zl.getD 0).toNat = 0:=by omega
            have e2:(zh.getD ((0:Nat):Int)).toNat = 0:=by omega
            rw [e1,e2]
            simp only [List.drop_nil,List.take_nil,Option.map_none,ite_self]
            exact .d (.slnil false)
          | sle _ a =>
            refine .pure' (qnj hτ ht hd hed (some a) 0 0 hl hh (Nat.le_refl _) h0 h1 h2 W) ?_
            simp only [List.length_nil] at *
            have e1:(zl.getD 0).toNat = 0:=by omega
            have e2:(zh.getD ((0:Nat):Int)).toNat = 0:=by omega
            rw [e1,e2]
            simp only [List.drop_nil,List.take_nil,Option.map_some]
            first | exact .d (.sle false _) | (split <;> exact .d (.sle false _)) | (split <;> first | exact .d (.sle false _) | exact .d (.slnil false))
          | @sl _ _ b o len cap sz vals g1 g2 g3 g4 gm g5 g6 g7 =>
            have h1':zl.getD 0 ≤ zh.getD ((len:Nat):Int):=by rw [← g2];exact h1
            have h2':zh.getD ((len:Nat):Int) ≤ len:=by rw [← g2];exact h2
            refine .pure' (qnj hτ ht hd hed (some ⟨b,o,none⟩) len cap hl hh g3 h0 h1' h2' W) ?_
            rw [g2]
            have hle:(zh.getD ((len:Nat):Int)).toNat ≤ len:=by omega
            have hlo':(zl.getD 0).toNat ≤ (zh.getD ((len:Nat):Int)).toNat:=by omega
            generalize (zl.getD 0).toNat = l at *
            generalize (zh.getD ((len:Nat):Int)).toNat = r at *
            have had:∃ o',(if cap = l then some (⟨b,o,none⟩:Addr) else (some (⟨b,o,none⟩:Addr)).map (·.add (l * ed.size))) = some ⟨b,o',none⟩∧(l < r→o' = o + l * ed.size):=by
              by_cases hc:cap = l
              · exact ⟨o,by simp [hc],fun hlr=>by omega⟩
              · exact ⟨o + l * ed.size,by simp [hc,addr_add],fun _=>rfl⟩
            obtain ⟨o',ho,ho'⟩:=had
            rw [ho]
            have hlen:((es.drop l).take (r - l)).length = r - l:=by simp;omega
            refine .d (.sl ed.size (fun i c=>vals (l + i) c) (fun hne=>g1 ?_) hlen (by omega) (fun hf=>by cases hf) (by omega) (fun i hi'=>?_) (fun i c hi' hc=>?_) (fun i c hi' hc=>?_))
            · intro h0';subst h0';simp at hne
            · rw [qfk _ _ _ _ _ (by omega)]
              have:l + i < es.length:=by omega
              rw [List.getD_eq_getElem?_getD,List.getElem?_eq_getElem this]
              exact h3 _ (List.getElem_mem this)
            · have hs:sz = ed.size:=by
                have e1:=g5 (l + i) (by omega)
                have:l + i < es.length:=by omega
                rw [List.getD_eq_getElem?_getD,List.getElem?_eq_getElem this] at e1
                have e2:=h3 _ (List.getElem_mem this)
                simp at e1;omega
              subst hs
              have:=g6 (l + i) c (by omega) hc
              rw [ho' (by omega)]
              rw [Nat.add_mul] at this
              rw [show o + l * ed.size + (i * ed.size + c) = o + (l * ed.size + i * ed.size + c) by omega]
              exact this
            · rw [qfk _ _ _ _ _ (by omega)]
              have hs:sz = ed.size:=by
                have e1:=g5 (l + i) (by omega)
                have:l + i < es.length:=by omega
                rw [List.getD_eq_getElem?_getD,List.getElem?_eq_getElem this] at e1
                have e2:=h3 _ (List.getElem_mem this)
                simp at e1;omega
              exact g7 (l + i) c (by omega) (by omega)
      · trivial
    · rename_i et j L off len hd
      split
      · rename_i ed sz es hed hj
        cases hq:Nat.beq sz ed.size with
        | false=>trivial
        | true =>
          have hszz:sz = ed.size:=Nat.eq_of_beq_eq_true hq
          subst hszz
          intro ⟨hL,h0,h1,h2,h3,h4⟩
          have hlo':(zl.getD 0).toNat ≤ (zh.getD ((len:Nat):Int)).toNat:=by omega
          have hle:(zh.getD ((len:Nat):Int)).toNat ≤ len:=by omega
          cases hx with
          | rowStale v e1 e2 _=>rw [hj] at e1;cases e1;omega
          | rowNil e1 e2=>omega
          | @rowEmpty _ _ _ _ cap b o _ e1 e2 e3 =>
            refine .pure' (qnj hτ ht hd hed (some ⟨b,o,none⟩) 0 cap hl hh (Nat.zero_le _) h0 h1 h2 W) ?_
            have q1:(zl.getD 0).toNat = 0:=by omega
            have q2:(zh.getD ((0:Nat):Int)).toNat = 0:=by omega
            rw [q1,q2]
            simp only [Nat.zero_mul,Nat.add_zero,Nat.sub_self,Option.map_some,addr_add,ite_self]
            exact .rowEmpty hj hL h4
          | @row _ _ _ _ b _ cap bs _ e1 e2 e3 e4 e5 e6 e7 e8 e9 =>
            rw [hj] at e1;cases e1
            refine .pure' (qnj hτ ht hd hed (some ⟨b,off * ed.size,none⟩) len cap hl hh e6 h0 h1 h2 W) ?_
            generalize (zl.getD 0).toNat = l at *
            generalize (zh.getD ((len:Nat):Int)).toNat = r at *
            by_cases hlr:l < r
            · rw [if_neg (by omega)]
              simp only [Option.map_some,addr_add]
              rw [← Nat.add_mul]
              refine .row hj hL e3 e4 (by omega) (by omega) ?_ e8 (by omega)
              have:off + l + (cap - l) = off + cap:=by omega
              rw [this];exact e7
            · have hrl:r - l = 0:=by omega
              rw [hrl]
              by_cases hc:cap = l
              · rw [if_pos hc];exact .rowEmpty hj hL h4
              · rw [if_neg hc]
                simp only [Option.map_some,addr_add]
                exact .rowEmpty hj hL h4
      · trivial
    · trivial
  · trivial
include hτ in
theorem len_sound {ts:Array TypeId} {t ty:TypeId} {x:V} {u:Value} (ht0:ts[0]? = some t) (hx:Rel W hb H ok x u):ORv P W (Builtin.len_ ts ty #[u]) (Rel W hb H ok) (lenV τ H t x):=by
  unfold lenV
  split
  · rename_i td ht
    have hu:=qiz hτ ht
    split
    · rename_i s hd
      obtain rfl:=qlh hx
      exact .pure' (by simp [Builtin.len_,ht0,hu,hd,goInt] <;> rfl) (qg8 _ _)
    · rename_i et t' es hd
      cases hx with
      | d hx=>cases hx with
        | slnil=>exact .pure' (by simp [Builtin.len_,ht0,hu,hd,goInt] <;> rfl) (qg8 _ _)
        | sle=>exact .pure' (by simp [Builtin.len_,ht0,hu,hd,goInt] <;> rfl) (qg8 _ _)
        | sl sz vals g1 g2 g3 g4 gm g5 g6 g7=>exact .pure' (by simp [Builtin.len_,ht0,hu,hd,goInt,g2] <;> rfl) (qg8 _ _)
    · rename_i et hd
      cases hx with
      | d hx=>cases hx with
        | nils=>exact .pure' (by simp [Builtin.len_,ht0,hu,hd,goInt] <;> rfl) (qg8 _ _)
    · rename_i et j L off len hd
      split
      · rename_i sz es hj
        intro hL
        cases hx with
        | rowStale v e1 e2 _=>rw [hj] at e1;cases e1;omega
        | rowEmpty e1 e2 e3=>exact .pure' (by simp [Builtin.len_,ht0,hu,hd,goInt] <;> rfl) (qg8 _ _)
        | rowNil e1 e2=>exact .pure' (by simp [Builtin.len_,ht0,hu,hd,goInt] <;> rfl) (qg8 _ _)
        | row e1 e2 e3 e4 e5 e6 e7 e8 e9=>exact .pure' (by simp [Builtin.len_,ht0,hu,hd,goInt] <;> rfl) (qg8 _ _)
      · trivial
    · trivial
  · trivial
theorem qru {ts:Array TypeId} {ty:TypeId} {x y:V} {u v:Value} (mx:Bool) (hx:Rel W hb H ok x u) (hy:Rel W hb H ok y v) :
    ORv P W (match mx with | true=>Builtin.max_ ts ty #[u,v] | false=>Builtin.min_ ts ty #[u,v]) (Rel W hb H ok) (qw0 x y mx):=by
  unfold qw0
  cases x with
  | d x=>cases x with
    | int k z=>cases y with
      | d y=>cases y with
        | int k' z' =>
          obtain rfl:=qjo hx
          obtain rfl:=qjo hy
          simp only
          cases hk:ikEq k k' with
          | false=>trivial
          | true =>
            obtain rfl:k = k':=by simpa [ikEq] using hk
            cases mx
            · exact .pure' (by simp [Builtin.min_,Builtin.min2] <;> rfl) (qg8 _ _)
            · exact .pure' (by simp [Builtin.max_,Builtin.max2] <;> rfl) (qg8 _ _)
        | _=>trivial
      | _=>trivial
    | _=>trivial
  | _=>trivial
end
end Go.Proofs.YtiegopnofbgoaaaGreat.AWN

namespace Go.Proofs.YtiegopnofbgoaaaGreat.AWN
open Go
def setAt:Array Value→Nat→List Value→Array Value
  | a,_,[]=>a
  | a,o,v :: r=>setAt (a.setIfInBounds o v) (o + 1) r
theorem qp7:∀ (vs:List Value) (a:Array Value) (o:Nat),(setAt a o vs).size = a.size
  | [],_,_=>rfl
  | v :: r,a,o=>by rw [setAt,qp7 r];simp
theorem qmo:∀ (vs:List Value) (a:Array Value) (o i:Nat),i < a.size→(setAt a o vs).getD i undef = if o ≤ i∧i < o + vs.length then vs.getD (i - o) undef else a.getD i undef
  | [],a,o,i,hi=>by simp [setAt];omega
  | v :: r,a,o,i,hi=>by
    rw [setAt,qmo r _ _ _ (by simpa using hi)]
    by_cases h1:o + 1 ≤ i∧i < o + 1 + r.length
    · rw [if_pos h1,if_pos (by simp;omega)]
      have:i - o = (i - (o + 1)) + 1:=by omega
      rw [this];simp
    · rw [if_neg h1]
      by_cases h2:i = o
      · subst h2
        rw [if_pos (by simp)]
        simp [Array.getD_eq_getD_getElem?,hi]
      · rw [if_neg (by simp;omega)]
        simp [Array.getD_eq_getD_getElem?,Array.getElem?_setIfInBounds,Ne.symm h2]
theorem qk2 {α:Type}:∀ (xs:List α) (off:Nat) (new:List α),off + new.length ≤ xs.length→(splice xs off new).length = xs.length
  | xs,0,new,h=>by simp [splice];omega
  | [],off + 1,new,h=>by simp at h
  | x :: xs,off + 1,new,h=>by simp only [splice,List.length_cons];rw [qk2 xs off new (by simp at h;omega)]
theorem qn0 {α:Type} (d:α):∀ (xs:List α) (off:Nat) (new:List α) (i:Nat),off + new.length ≤ xs.length→(splice xs off new).getD i d = if off ≤ i∧i < off + new.length then new.getD (i - off) d else xs.getD i d
  | xs,0,new,i,h=>by
    simp only [splice]
    by_cases h1:i < new.length
    · simp [List.getD_eq_getElem?_getD,List.getElem?_append_left h1,h1]
    · simp [List.getD_eq_getElem?_getD,List.getElem?_append_right (Nat.le_of_not_lt h1),h1,List.getElem?_drop,Nat.add_sub_cancel' (Nat.le_of_not_lt h1)]
  | [],off + 1,new,i,h=>by simp at h
  | x :: xs,off + 1,new,0,h=>by simp [splice]
  | x :: xs,off + 1,new,i + 1,h=>by
    simp only [splice,List.getD_cons_succ]
    rw [qn0 d xs off new i (by simp at h;omega)]
    by_cases h1:off ≤ i∧i < off + new.length
    · rw [if_pos h1,if_pos (by omega)];congr 1;omega
    · rw [if_neg h1,if_neg (by omega)]
theorem qrl (off:Nat):∀ (l:List Value) (k:Nat) (cells:Array Value),(l.zipIdx k).foldl (fun cs (p:Value × Nat)=>cs.setIfInBounds (off + p.2) p.1) cells = setAt cells (off + k) l
  | [],_,_=>rfl
  | v :: r,k,cells=>by
    simp only [List.zipIdx_cons,List.foldl_cons,setAt]
    rw [qrl off r (k + 1)]
    rfl
def RelL (W:World) (hb:Handle) (H:Nat→AObj) (ok:Nat→Prop) (cs:List V) (c:Array Value):Prop :=
  cs.length = c.size∧∀ i,i < c.size→Rel W hb H ok (cs.getD i .junk) (c.getD i undef)
section
variable {P:Program} {τ:Tab} (hτ:qfl P τ) {w0:World} {A:Args} {okA:Nat→Prop} {hb:Handle} {W:World} {H:Nat→AObj} {n:Nat} {σ:St} {a:Act} {ok:Nat→Prop}
theorem qwu {x:V} {v:Value} (h:Rel W hb H ok x v) (h1:x.one = true):v.oneCell' = true:=by
  cases h with
  | junk=>simp [V.one] at h1
  | und=>simp [V.one] at h1
  | d h=>cases h <;> rfl
  | agg=>simp [V.one] at h1
  | tup=>simp [V.one] at h1
  | eptrStale v e1 e2 e3=>exact e3
  | rowStale v e1 e2 e3=>exact e3
  | _=>rfl
theorem qko {x:V} {v:Value} {cs:List V} (h:Rel W hb H ok x v) (hc:x.cells = some cs):RelL W hb H ok cs v.cells∧(∀ c ∈ cs,c.one = true):=by
  unfold V.cells at hc
  split at hc
  · rename_i cs'
    cases hq:cs'.all V.one with
    | false=>rw [hq] at hc;cases hc
    | true =>
      rw [hq] at hc
      simp only [cond_true,Option.some.injEq] at hc
      subst hc
      cases h with
      | agg e1 e2=>exact ⟨⟨e1,e2⟩,fun c hc=>by rw [List.all_eq_true] at hq;exact hq c hc⟩
  · cases hq:x.one with
    | false=>rw [hq] at hc;cases hc
    | true =>
      rw [hq] at hc
      simp only [cond_true,Option.some.injEq] at hc
      subst hc
      have hcl:v.cells = #[v]:=by
        have:=qwu h hq
        cases v <;> first | rfl | (simp [Value.oneCell'] at this)
      rw [hcl]
      exact ⟨⟨rfl,fun i hi=>by have:i = 0:=by simpa using hi
                               subst this;simpa using h⟩,fun c hc=>by simp at hc;subst hc;exact hq⟩
theorem qoo {W:World} {hb:Handle} {H:Nat→AObj} {ok:Nat→Prop} {cs:List V} {c:Array Value} (h:RelL W hb H ok cs c) (h1:∀ x ∈ cs,x.one = true):∀ v ∈ c.toList,v.oneCell' = true:=by
  intro v hv
  obtain ⟨i,hi,e⟩:=List.getElem_of_mem hv
  have hi':i < c.size:=by simpa using hi
  have hr:=h.2 i hi'
  have e2:c.getD i undef = v:=by rw [Array.getD_eq_getD_getElem?,Array.getElem?_eq_getElem hi'];simpa using e
  rw [e2] at hr
  have hl:i < cs.length:=by rw [h.1];exact hi'
  have e3:cs.getD i .junk = cs[i]:=by rw [List.getD_eq_getElem?_getD,List.getElem?_eq_getElem hl];rfl
  rw [e3] at hr
  exact qwu hr (h1 _ (List.getElem_mem hl))
theorem qqx {cs new:List V} {c d:Array Value} {off:Nat} (h:RelL W hb H ok cs c) (h':RelL W hb H ok new d) (hle:off + new.length ≤ cs.length):RelL W hb H ok (splice cs off new) (setAt c off d.toList):=by
  refine ⟨by rw [qk2 _ _ _ hle,qp7];exact h.1,fun i hi=>?_⟩
  rw [qp7] at hi
  rw [qn0 _ _ _ _ _ hle,qmo _ _ _ _ hi]
  have hl:d.toList.length = new.length:=by rw [h'.1];simp
  rw [hl]
  by_cases hc:off ≤ i∧i < off + new.length
  · rw [if_pos hc,if_pos hc]
    have e:d.toList.getD (i - off) undef = d.getD (i - off) undef:=by simp [List.getD_eq_getElem?_getD,Array.getD_eq_getD_getElem?]
    rw [e]
    exact h'.2 _ (by rw [← h'.1];omega)
  · rw [if_neg hc,if_neg hc]
    exact h.2 i hi
theorem qpl {place:Nat→Option (Nat × Nat)}:∀ (pv:List (Nat × V)) (pc:List (Nat × Value)) (cs:List V) (c:Array Value) (r:List V),pv.length = pc.length →
    (∀ i,i < pv.length→(pv.getD i (0,.junk)).1 = (pc.getD i (0,undef)).1∧Rel W hb H ok (pv.getD i (0,.junk)).2 (pc.getD i (0,undef)).2) →
    RelL W hb H ok cs c→(∀ x ∈ cs,x.one = true)→qr6 place cs pv = some r→∃ d,Instr.fill place c pc = some d∧RelL W hb H ok r d∧(∀ x ∈ r,x.one = true)∧r.length = cs.length
  | [],[],cs,c,r,_,_,h,h1,hf=>by
    simp only [qr6,Option.some.injEq] at hf
    subst hf
    exact ⟨c,rfl,h,h1,rfl⟩
  | [],_ :: _,_,_,_,hl,_,_,_,_=>by simp at hl
  | _ :: _,[],_,_,_,hl,_,_,_,_=>by simp at hl
  | (i,v) :: pv,(i',u) :: pc,cs,c,r,hl,hp,h,h1,hf=>by
    have h0:=hp 0 (by simp)
    simp only [List.getD_cons_zero] at h0
    obtain ⟨rfl,hr⟩:=h0
    unfold qr6 at hf
    split at hf
    · rename_i off size vs hpl hvs
      cases hq:Nat.beq vs.length size && Nat.ble (off + size) cs.length with
      | false=>rw [hq] at hf;cases hf
      | true =>
        rw [hq] at hf
        simp only [cond_true] at hf
        simp only [Bool.and_eq_true] at hq
        have q1:vs.length = size:=Nat.eq_of_beq_eq_true hq.1
        have q2:off + size ≤ cs.length:=Nat.le_of_ble_eq_true hq.2
        obtain ⟨hc,hone⟩:=qko hr hvs
        have hle:off + vs.length ≤ cs.length:=by omega
        have hs:=qqx h hc hle
        have hone':∀ x ∈ splice cs off vs,x.one = true:=by
          intro x hx
          obtain ⟨k,hk,e⟩:=List.getElem_of_mem hx
          have e3:(splice cs off vs).getD k .junk = x:=by rw [List.getD_eq_getElem?_getD,List.getElem?_eq_getElem hk];simpa using e
          rw [qn0 _ _ _ _ _ hle] at e3
          rw [qk2 _ _ _ hle] at hk
          split at e3
          · rename_i hk2
            have hk3:k - off < vs.length:=by omega
            rw [List.getD_eq_getElem?_getD,List.getElem?_eq_getElem hk3] at e3
            rw [← e3];exact hone _ (List.getElem_mem hk3)
          · rw [List.getD_eq_getElem?_getD,List.getElem?_eq_getElem hk] at e3
            rw [← e3];exact h1 _ (List.getElem_mem hk)
        obtain ⟨d,g1,g2,g3,g4⟩:=qpl pv pc (splice cs off vs) (setAt c off u.cells.toList) r (by simpa using hl) (fun k hk=>by have:=hp (k + 1) (by simp;omega);simpa using this) hs hone' hf
        refine ⟨d,?_,g2,g3,by rw [g4,qk2 _ _ _ hle]⟩
        unfold Instr.fill
        simp only [hpl]
        have hsz:u.cells.size = size:=by rw [← hc.1];exact q1
        have hsz2:¬ (off + u.cells.size > c.size):=by rw [hsz,← h.1];omega
        rw [if_neg (by simp [hsz];rw [← h.1];omega)]
        have:u.cells.zipIdx.foldl (fun cs (p:Value × Nat)=>cs.setIfInBounds (off + p.2) p.1) c = setAt c off u.cells.toList:=by
          rw [← Array.foldl_toList,Array.toList_zipIdx]
          exact qrl off u.cells.toList 0 c
        exact (congrArg (fun z=>Instr.fill place z pc) this).trans g1
    · cases hf
end
end Go.Proofs.YtiegopnofbgoaaaGreat.AWN

namespace Go.Proofs.YtiegopnofbgoaaaGreat.AWN
open Go
def EvH (P:Program) (W:World) (w0:World) (A:Args) (okA:Nat→Prop) (s:Sem Value) (a:Act) (σ:St) (H:Nat→AObj) (n:Nat) (v:V):Prop :=
  ∃ cv W' hb',s.run P W = .ok cv W'∧Sim w0 A okA hb' { σ with heap:=H,next:=n } a W'∧RelS w0 okA hb' H W' v cv
section
variable {P:Program} {τ:Tab} (hτ:qfl P τ) {w0:World} {A:Args} {okA:Nat→Prop} {hb:Handle} {W:World} {H:Nat→AObj} {n:Nat} {σ:St} {a:Act} {ok:Nat→Prop}
theorem qp4 (n:Nat):qxb n (0,0):=fun i hi h=>by simp at h
theorem qwe (h:Sim w0 A okA hb σ a W) {cs:List V} {c:Array Value} (T:TypeId) (hc:RelL W hb σ.heap (okF w0 okA hb σ.heap W) cs c) (h1:∀ x ∈ cs,x.one = true) {s:Sem Value}
    (hs:s.run P W = .ok (.pointer (some ⟨W.heap.size,0,none⟩)) (W.alloc (.cells c T))) :
    EvH P W w0 A okA s a σ (upd σ.heap σ.next (.box cs)) (σ.next + 1) (.ptr σ.next 0):=by
  have mv:=qgt.new h.heap (.box cs) (.cells c T)
  refine ⟨_,_,upd hb σ.next (some W.heap.size),hs,h.new (ob:=.box cs) (by simp) ?_,?_⟩
  · unfold qh5
    rw [upd_same]
    exact ⟨W.heap.size,c,T,(0,0),upd_same _ _ _,qjq _,hc.1.symm,qp4 _,trivial,fun i hi=>(hc.2 i hi).mono mv⟩
  · exact .ptr (upd_same _ _ _) (upd_same _ _ _)
theorem qum (h:Sim w0 A okA hb σ a W) {es:List (List D)} {sz cap:Nat} {c:Array Value} (T:TypeId) (hlen:∀ e ∈ es,e.length = sz) (hcs:cap * sz ≤ c.size) (hcap:es.length ≤ cap) (hm:es.length ≤ maxLen) (hcm:cap ≤ maxLen)
    (hc:∀ i k,i < es.length→k < sz→RelD W (okF w0 okA hb σ.heap W) ((es.getD i []).getD k .nilp) (c.getD (i * sz + k) undef)) {s:Sem Value} {len:Nat} (hl:len = es.length) {W0:World}
    (hs:s.run P W0 = .ok (.slice (some ⟨W.heap.size,0,none⟩) len cap) (W.alloc (.cells c T))) :
    EvH P W0 w0 A okA s a σ (upd σ.heap σ.next (.row sz es)) (σ.next + 1) (.row σ.next len 0 len):=by
  subst hl
  have mv:=qgt.new h.heap (.row sz es) (.cells c T)
  refine ⟨_,_,upd hb σ.next (some W.heap.size),hs,h.new (ob:=.row sz es) (by simp) ?_,?_⟩
  · unfold qh5
    rw [upd_same]
    refine ⟨hlen,.inr ⟨W.heap.size,c,T,(0,0),upd_same _ _ _,qjq _,?_,qp4 _,fun i k hi hk=>(hc i k hi hk).mono mv.toMoves⟩⟩
    exact Nat.le_trans (Nat.mul_le_mul_right _ hcap) hcs
  · have:=Rel.row (W:=W.alloc (.cells c T)) (hb:=upd hb σ.next (some W.heap.size)) (H:=upd σ.heap σ.next (.row sz es)) (ok:=okF w0 okA (upd hb σ.next (some W.heap.size)) (upd σ.heap σ.next (.row sz es)) (W.alloc (.cells c T)))
      (j:=σ.next) (L:=es.length) (off:=0) (len:=es.length) (cap:=cap) (upd_same _ _ _) rfl (upd_same _ _ _) (qk1 (qjq _)) (by omega) hcap (by simpa using hcs) hm hcm
    simpa using this
theorem box_sound (h:Sim w0 A okA hb σ a W) (T:TypeId) {x:V} {u:Value} {cs:List V} (hx:RelS w0 okA hb σ.heap W x u) (hcs:x.cells = some cs) :
    EvH P W w0 A okA (Instr.box T u) a σ (upd σ.heap σ.next (.box cs)) (σ.next + 1) (.ptr σ.next 0):=by
  obtain ⟨h1,h2⟩:=qko hx hcs
  exact qwe h T h1 h2 (by simp [Instr.box,newVar,newRow] <;> rfl)
include hτ in
theorem alloc_sound (h:Sim w0 A okA hb σ a W) {t:TypeId} {td:TD} (ht:τ t = some td) {cs:List V} (hcs:(qlj td.zero).cells = some cs) :
    EvH P W w0 A okA (Instr.alloc t true (.tuple #[])) a σ (upd σ.heap σ.next (.box cs)) (σ.next + 1) (.ptr σ.next 0):=by
  have hz:=qoy hτ ht
  obtain ⟨h1,h2⟩:=qko (W:=W) (hb:=hb) (H:=σ.heap) (ok:=okF w0 okA hb σ.heap W) (qkl td.zero) hcs
  exact qwe h t h1 h2 (by simp [Instr.alloc,hz,newVar,newRow] <;> rfl)
/-! ### build -/
theorem qov {α β:Type} (f:α→Sem β) (g:α→β) (w:World):∀ (l:List α),(∀ x ∈ l,(f x).run P w = .ok (g x) w)→(l.mapM f).run P w = .ok (l.map g) w
  | [],_=>by simp
  | x :: l,h=>by
    rw [List.mapM_cons]
    simp only [Sem.run_bind,h x (by simp),Result.andThen_ok,qov f g w l (fun y hy=>h y (by simp [hy])),Sem.run_pure,List.map_cons]
theorem run_mapM_array {α β:Type} (f:α→Sem β) (g:α→β) (w:World) (l:Array α) (h:∀ x ∈ l.toList,(f x).run P w = .ok (g x) w):(l.mapM f).run P w = .ok (l.map g) w:=by
  rw [Array.mapM_eq_mapM_toList]
  simp only [Sem.run_map,qov f g w l.toList h,Result.andThen_ok]
  congr 1
  apply Array.ext'
  simp
theorem qqo (h:Sim w0 A okA hb σ a W) (parts:Array (Nat × Operand)):(parts.toList.map fun p=>(p.1,σ.ev p.2)).length = (parts.map fun p=>(p.1,a.eval p.2)).toList.length ∧
    ∀ i,i < (parts.toList.map fun p=>(p.1,σ.ev p.2)).length→((parts.toList.map fun p=>(p.1,σ.ev p.2)).getD i (0,.junk)).1 = ((parts.map fun p=>(p.1,a.eval p.2)).toList.getD i (0,undef)).1 ∧
      RelS w0 okA hb σ.heap W ((parts.toList.map fun p=>(p.1,σ.ev p.2)).getD i (0,.junk)).2 ((parts.map fun p=>(p.1,a.eval p.2)).toList.getD i (0,undef)).2:=by
  refine ⟨by simp,fun i hi=>?_⟩
  have hi':i < parts.toList.length:=by simpa using hi
  have e1:(parts.toList.map fun p=>(p.1,σ.ev p.2)).getD i (0,.junk) = (parts.toList[i].1,σ.ev parts.toList[i].2):=by
    rw [List.getD_eq_getElem?_getD,List.getElem?_map,List.getElem?_eq_getElem hi'];rfl
  have e2:(parts.map fun p=>(p.1,a.eval p.2)).toList.getD i (0,undef) = (parts.toList[i].1,a.eval parts.toList[i].2):=by
    rw [Array.toList_map,List.getD_eq_getElem?_getD,List.getElem?_map,List.getElem?_eq_getElem hi'];rfl
  rw [e1,e2]
  exact ⟨rfl,qfi h _⟩
include hτ in
theorem build_sound (h:Sim w0 A okA hb σ a W) {t:TypeId} {td:TD} (ht:τ t = some td) {fs:Array Field} (hd:td.desc = .struct fs) (hfs:∀ f ∈ fs.toList,(τ f.type).isSome = true) {z cs:List V} (hz:(qlj td.zero).cells = some z)
    (parts:Array (Nat × Operand)) (hf:qr6 (fun i=>(qly τ t i).map fun p=>(p.1,p.2.size)) z (parts.toList.map fun p=>(p.1,σ.ev p.2)) = some cs) :
    Ev P W (Instr.build t (parts.map fun p=>(p.1,a.eval p.2))) (RelS w0 okA hb σ.heap W (.agg cs)):=by
  have hu:=qiz hτ ht
  have hzv:=qoy hτ ht
  obtain ⟨z1,z2⟩:=qko (W:=W) (hb:=hb) (H:=σ.heap) (ok:=okF w0 okA hb σ.heap W) (qkl td.zero) hz
  obtain ⟨p1,p2⟩:=qqo h parts
  have hpl:∀ i,(qly τ t i).map (fun p=>(p.1,p.2.size)) = (fs.map fun f:Field=>(f.offset,((τ f.type).map (·.size)).getD 0))[i]?:=by
    intro i
    unfold qly
    simp only [ht,hd,Array.getElem?_map]
    cases hi:fs[i]? with
    | none=>rfl
    | some f =>
      have:=hfs f (Array.mem_toList_iff.2 (Array.mem_of_getElem? hi))
      obtain ⟨fd,hfd⟩:=Option.isSome_iff_exists.1 this
      simp [hfd]
  rw [show (fun i=>(qly τ t i).map fun p=>(p.1,p.2.size)) = fun i=>(fs.map fun f:Field=>(f.offset,((τ f.type).map (·.size)).getD 0))[i]? from funext hpl] at hf
  obtain ⟨d,g1,g2,g3,g4⟩:=qpl _ _ _ _ _ p1 p2 z1 z2 hf
  refine .pure' (cv:=.agg d) ?_ (.agg g2.1 g2.2)
  have hm:(fs.mapM fun f:Field=>do pure (f.offset,← sizeOf f.type)).run P W = .ok (fs.map fun f:Field=>(f.offset,((τ f.type).map (·.size)).getD 0)) W:=by
    refine run_mapM_array _ _ W fs (fun f hf'=>?_)
    obtain ⟨fd,hfd⟩:=Option.isSome_iff_exists.1 (hfs f hf')
    simp [qk3 hτ hfd,hfd]
  simp only [Instr.build,Sem.run_bind,hzv,Result.andThen_ok,hu,hd,hm]
  rw [g1]
  rfl
include hτ in
theorem build_array_sound (h:Sim w0 A okA hb σ a W) {t e:TypeId} {td ed:TD} (ht:τ t = some td) {len:Nat} (hd:td.desc = .array len e) (he:τ e = some ed) {z cs:List V} (hz:(qlj td.zero).cells = some z)
    (parts:Array (Nat × Operand)) (hf:qr6 (fun i=>some (i * ed.size,ed.size)) z (parts.toList.map fun p=>(p.1,σ.ev p.2)) = some cs) :
    Ev P W (Instr.build t (parts.map fun p=>(p.1,a.eval p.2))) (RelS w0 okA hb σ.heap W (.agg cs)):=by
  have hu:=qiz hτ ht
  have hzv:=qoy hτ ht
  obtain ⟨z1,z2⟩:=qko (W:=W) (hb:=hb) (H:=σ.heap) (ok:=okF w0 okA hb σ.heap W) (qkl td.zero) hz
  obtain ⟨p1,p2⟩:=qqo h parts
  obtain ⟨d,g1,g2,g3,g4⟩:=qpl _ _ _ _ _ p1 p2 z1 z2 hf
  refine .pure' (cv:=.agg d) ?_ (.agg g2.1 g2.2)
  simp only [Instr.build,Sem.run_bind,hzv,Result.andThen_ok,hu,hd,qk3 hτ he]
  rw [g1]
  rfl
theorem qn4:∀ (cs:List V) (ds:List D),allD cs = some ds→cs = ds.map .d
  | [],ds,h=>by simp [allD] at h;subst h;rfl
  | c :: cs,ds,h=>by
    unfold allD at h
    split at h
    · rename_i x y hx hy
      simp only [Option.some.injEq] at h
      subst h
      cases c <;> simp [V.toD] at hx
      subst hx
      simp [qn4 cs y hy]
    · cases h
theorem qtg (z:List V) (sz:Nat) (hz:z.length = sz):∀ (len i:Nat),i < len * sz→((List.replicate len z).flatten).getD i .junk = z.getD (i % sz) .junk
  | 0,i,h=>by simp at h
  | len + 1,i,h=>by
    simp only [List.replicate_succ,List.flatten_cons]
    by_cases hi:i < sz
    · rw [List.getD_eq_getElem?_getD,List.getElem?_append_left (by omega),← List.getD_eq_getElem?_getD,Nat.mod_eq_of_lt hi]
    · have h2:i - sz < len * sz:=by rw [Nat.add_mul,Nat.one_mul] at h;omega
      rw [List.getD_eq_getElem?_getD,List.getElem?_append_right (by omega),← List.getD_eq_getElem?_getD,hz,qtg z sz hz len (i - sz) h2]
      congr 1
      exact (Nat.mod_eq_sub_mod (by omega)).symm
theorem qo9 (z:List V) (sz:Nat) (hz:z.length = sz) (len:Nat):((List.replicate len z).flatten).length = len * sz:=by
  simp [hz]
include hτ in
theorem buildSlice_sound (h:Sim w0 A okA hb σ a W) {t e:TypeId} {td ed:TD} (ht:τ t = some td) (hd:td.desc = .slice e) (he:τ e = some ed) {z cs:List V} {ds:List D} (hz:(qlj ed.zero).cells = some z) (len:Nat)
    (hle:len * ed.size ≤ 16777216) (hzl:z.length = ed.size) (parts:Array (Nat × Operand)) (hf:qr6 (fun i=>some (i * ed.size,ed.size)) ((List.replicate len z).flatten) (parts.toList.map fun p=>(p.1,σ.ev p.2)) = some cs) (hds:allD cs = some ds) (hpos:0 < ed.size) :
    EvH P W w0 A okA (Instr.buildSlice t len (parts.map fun p=>(p.1,a.eval p.2))) a σ (upd σ.heap σ.next (.row ed.size ((List.range len).map fun i=>(ds.drop (i * ed.size)).take ed.size))) (σ.next + 1) (.row σ.next len 0 len):=by
  have hu:=qiz hτ ht
  have hsz:=qk3 hτ he
  have hzv:=qoy hτ he
  obtain ⟨z1,z2⟩:=qko (W:=W) (hb:=hb) (H:=σ.heap) (ok:=okF w0 okA hb σ.heap W) (qkl ed.zero) hz
  obtain ⟨p1,p2⟩:=qqo h parts
  have hzs:ed.zero.cells.size = ed.size:=by rw [← z1.1];exact hzl
  have hrel:RelL W hb σ.heap (okF w0 okA hb σ.heap W) ((List.replicate len z).flatten) ((Array.range (len * ed.size)).map (ed.zero.cells[· % ed.zero.cells.size]!)):=by
    refine ⟨by rw [qo9 z _ hzl];simp,fun i hi=>?_⟩
    have hi':i < len * ed.size:=by simpa using hi
    rw [qtg z _ hzl len i hi']
    have hmod:i % ed.size < ed.size:=Nat.mod_lt _ hpos
    have e1:((Array.range (len * ed.size)).map (ed.zero.cells[· % ed.zero.cells.size]!)).getD i undef = ed.zero.cells.getD (i % ed.size) undef:=by
      rw [Array.getD_eq_getD_getElem?,Array.getElem?_map]
      simp only [Array.getElem?_range,hi',if_true,Option.map_some,Option.getD_some,hzs]
      rw [getElem!_pos _ _ (by rw [hzs];exact hmod),Array.getD_eq_getD_getElem?,Array.getElem?_eq_getElem (by rw [hzs];exact hmod)]
      rfl
    rw [e1]
    exact z1.2 _ (by rw [hzs];exact hmod)
  have hone:∀ x ∈ (List.replicate len z).flatten,x.one = true:=by
    intro x hx
    simp only [List.mem_flatten,List.mem_replicate] at hx
    obtain ⟨l,⟨_,rfl⟩,hx⟩:=hx
    exact z2 x hx
  obtain ⟨d,g1,g2,g3,g4⟩:=qpl _ _ _ _ _ p1 p2 hrel hone hf
  have hcs:=qn4 cs ds hds
  have hdl:ds.length = len * ed.size:=by
    have:cs.length = ds.length:=by rw [hcs];simp
    rw [← this,g4,qo9 z _ hzl]
  have hel:((List.range len).map fun i=>(ds.drop (i * ed.size)).take ed.size).length = len:=by simp
  refine qum h e (c:=d) (cap:=len) (fun x hx=>?_) ?_ (by rw [hel];exact Nat.le_refl _) ?_ ?_ (fun i k hi hk=>?_) hel.symm ?_
  · simp only [List.mem_map,List.mem_range] at hx
    obtain ⟨i,hi,rfl⟩:=hx
    have:(i + 1) * ed.size ≤ len * ed.size:=Nat.mul_le_mul_right _ hi
    rw [Nat.add_mul,Nat.one_mul] at this
    simp;omega
  · rw [← g2.1,g4,qo9 z _ hzl];exact Nat.le_refl _
  · rw [hel]
    have:len * 1 ≤ len * ed.size:=Nat.mul_le_mul_left _ hpos
    have hmx:(16777216:Nat) ≤ maxLen:=by decide
    omega
  · have:len * 1 ≤ len * ed.size:=Nat.mul_le_mul_left _ hpos
    have hmx:(16777216:Nat) ≤ maxLen:=by decide
    omega
  · rw [hel] at hi
    have hb1:(i + 1) * ed.size ≤ len * ed.size:=Nat.mul_le_mul_right _ hi
    rw [Nat.add_mul,Nat.one_mul] at hb1
    have e1:((List.range len).map fun i=>(ds.drop (i * ed.size)).take ed.size).getD i [] = (ds.drop (i * ed.size)).take ed.size:=by
      rw [List.getD_eq_getElem?_getD,List.getElem?_map,List.getElem?_range hi];rfl
    rw [e1,qfk _ _ _ _ _ hk]
    have hds2:cs.length = d.size:=g2.1
    have hlt:i * ed.size + k < ds.length:=by omega
    have:=g2.2 (i * ed.size + k) (by rw [← hds2,hcs];simpa using hlt)
    rw [hcs] at this
    have e2:(ds.map V.d).getD (i * ed.size + k) .junk = .d (ds.getD (i * ed.size + k) .nilp):=by
      rw [List.getD_eq_getElem?_getD,List.getElem?_map,List.getElem?_eq_getElem hlt,List.getD_eq_getElem?_getD,List.getElem?_eq_getElem hlt];rfl
    rw [e2] at this
    cases this with | d this=>exact this
  · simp only [Instr.buildSlice,Sem.run_bind,hu,hd,Result.andThen_ok,hsz]
    rw [if_neg (by omega)]
    by_cases h0:len * ed.size = 0
    · rw [if_pos h0]
      have hz0:(Array.range (len * ed.size)).map ((#[]:Array Value)[· % (#[]:Array Value).size]!) = (Array.range (len * ed.size)).map (ed.zero.cells[· % ed.zero.cells.size]!):=by rw [h0];simp
      simp only [Sem.run_bind,Sem.run_pure,Result.andThen_ok,hz0,g1]
      rfl
    · rw [if_neg h0]
      simp only [Sem.run_bind,Sem.run_pure,Result.andThen_ok,hzv,g1]
      rfl
end
end Go.Proofs.YtiegopnofbgoaaaGreat.AWN

namespace Go.Proofs.YtiegopnofbgoaaaGreat.AWN
open Go
section
variable {P:Program} {τ:Tab} (hτ:qfl P τ) {w0:World} {A:Args} {okA:Nat→Prop} {hb:Handle} {W W':World} {H:Nat→AObj} {n:Nat} {σ:St} {a:Act} {ok:Nat→Prop}
theorem frozen_of_heap {b o:Nat} {vals:Array Value} {T:TypeId} {fr:Nat × Nat} (h:W.heap[b]? = some (.cells vals T fr)) (hf:¬ (fr.1 ≤ o∧o < fr.2)):W.frozen? ⟨b,o,none⟩ = false:=by
  unfold World.frozen?;rw [h]
  simp only [Bool.and_eq_false_iff,decide_eq_false_iff_not]
  by_cases h1:fr.1 ≤ o
  · exact .inr fun h2=>hf ⟨h1,h2⟩
  · exact .inl h1
theorem qhv {b o:Nat} {T:TypeId} {fr:Nat × Nat}:∀ (vs:List Value) (i:Nat) (vals:Array Value) (W:World),W.heap[b]? = some (.cells vals T fr)→o + i + vs.length ≤ vals.size→qxb vals.size fr →
    (∀ v ∈ vs,v.oneCell' = true)→∃ W',(storeCells ⟨b,o,none⟩ vs i).run P W = .ok () W'∧Upd W W' b (setAt vals (o + i) vs)
  | [],i,vals,W,h,_,_,_=>⟨W,rfl,⟨fun _ _=>rfl,⟨vals,T,fr,h,h,rfl⟩,rfl,rfl,rfl,rfl⟩⟩
  | v :: r,i,vals,W,h,hle,hf,h1=>by
    simp only [List.length_cons] at hle
    have hlt:o + i < vals.size:=by omega
    have hb:b < W.heap.size:=(Array.getElem?_eq_some_iff.1 h).1
    have hst:(store ((⟨b,o,none⟩:Addr).add i) v).run P W = .ok () (W.setCell ⟨b,o + i,none⟩ v):=by
      rw [addr_add,run_store P W _ v _ (h1 v (by simp)),cell_of_heap h,Array.getElem?_eq_getElem hlt,frozen_of_heap h (hf _ hlt)]
      rfl
    have hW1:(W.setCell ⟨b,o + i,none⟩ v).heap[b]? = some (.cells (vals.setIfInBounds (o + i) v) T fr):=by
      show (W.heap.modify b _)[b]? = _
      rw [Array.getElem?_modify]
      simp [h]
    obtain ⟨W',e1,e2⟩:=qhv (b:=b) (o:=o) r (i + 1) (vals.setIfInBounds (o + i) v) (W.setCell ⟨b,o + i,none⟩ v) hW1 (by simp;omega) (by simpa using hf) (fun x hx=>h1 x (by simp [hx]))
    refine ⟨W',?_,?_⟩
    · simp only [storeCells,Sem.run_bind,hst,Result.andThen_ok,e1]
    · have eq:setAt vals (o + i) (v :: r) = setAt (vals.setIfInBounds (o + i) v) (o + (i + 1)) r:=rfl
      rw [eq]
      obtain ⟨v',T',fr',g1,g2,g3⟩:=e2.here
      rw [hW1] at g1
      simp only [Option.some.injEq,Obj.cells.injEq] at g1
      obtain ⟨rfl,rfl,rfl⟩:=g1
      refine ⟨fun k hk=>?_,⟨vals,_,_,h,g2,by rw [g3];simp⟩,?_,e2.tape,e2.os,e2.output⟩
      · rw [e2.other k hk]
        show (W.heap.modify b _)[k]? = _
        rw [Array.getElem?_modify,if_neg (Ne.symm hk)]
      · rw [e2.size];show (W.heap.modify b _).size = _;simp
theorem upd_shape {b b':Nat} {vals:Array Value} (u:Upd W W' b vals):(W'.shape? b').map (·.2) = (W.shape? b').map (·.2):=by
  by_cases h:b' = b
  · subst h
    obtain ⟨v,T,fr,g1,g2,g3⟩:=u.here
    rw [qk1 g1,qk1 g2,g3]
  · unfold World.shape?;rw [u.other b' h]
structure UpdG (W W':World) (b:Nat):Prop where
  other:∀ i,i ≠ b→W'.heap[i]? = W.heap[i]?
  shape:(W'.shape? b).map (·.2) = (W.shape? b).map (·.2)
  size:W'.heap.size = W.heap.size
  tape:W'.tape = W.tape
  os:W'.os = W.os
  output:W'.output = W.output
theorem Upd.g {b:Nat} {vals:Array Value} (u:Upd W W' b vals):UpdG W W' b:=⟨u.other,upd_shape u,u.size,u.tape,u.os,u.output⟩
theorem updG_cell_other {b b' o:Nat} (u:UpdG W W' b) (h:b' ≠ b):W'.cell? ⟨b',o,none⟩ = W.cell? ⟨b',o,none⟩:=by
  unfold World.cell?;rw [u.other b' h]
theorem qs6 {b b':Nat} (u:UpdG W W' b):(W'.shape? b').map (·.2) = (W.shape? b').map (·.2):=by
  by_cases h:b' = b
  · subst h;exact u.shape
  · unfold World.shape?;rw [u.other b' h]
theorem qgt.store {j b:Nat} {ob:AObj} (u:UpdG W W' b) (hj:H j ≠ .none) (hbj:hb j = some b) (hob:ob ≠ .none)
    (hbox:∀ cs,H j = .box cs→∃ cs',ob = .box cs') (hrow:∀ sz es,H j = .row sz es→∃ es',ob = .row sz es'∧es.length ≤ es'.length) (hmap:∀ k es,H j = .map k es→∃ es',ob = .map k es') :
    qgt W W' hb hb H (upd H j ob) (okF w0 okA hb H W) (okF w0 okA hb (upd H j ob) W'):=by
  refine { good:=?_,cell:=?_,box:=?_,row:=?_,map:=?_ }
  · intro c ⟨h1,h2,h3⟩
    refine ⟨by rw [u.size];exact h1,h2,fun k hk=>h3 k ?_⟩
    by_cases hkj:k = j
    · subst hkj;exact hj
    · rwa [upd_ne _ _ hkj] at hk
  · intro c i v ⟨_,_,h3⟩ hc
    rw [updG_cell_other u (fun e=>by subst e;exact h3 j hj hbj)];exact hc
  · intro k cs hk
    by_cases hkj:k = j
    · subst hkj
      obtain ⟨cs',e⟩:=hbox cs hk
      exact ⟨cs',by rw [upd_same,e],rfl⟩
    · exact ⟨cs,by rw [upd_ne _ _ hkj];exact hk,rfl⟩
  · intro k sz es hk
    by_cases hkj:k = j
    · subst hkj
      obtain ⟨es',e,hl⟩:=hrow sz es hk
      exact ⟨es',by rw [upd_same,e],hl,fun _=>⟨rfl,fun c bs _ hs=>by rw [qs6 u];exact hs⟩⟩
    · exact ⟨es,by rw [upd_ne _ _ hkj];exact hk,Nat.le_refl _,fun _=>⟨rfl,fun c bs _ hs=>by rw [qs6 u];exact hs⟩⟩
  · intro k kk es hk
    by_cases hkj:k = j
    · subst hkj
      obtain ⟨es',e⟩:=hmap kk es hk
      exact ⟨es',by rw [upd_same,e],rfl⟩
    · exact ⟨es,by rw [upd_ne _ _ hkj];exact hk,rfl⟩
theorem HSim.store (h:HSim w0 A okA hb H n W) {j b:Nat} {ob:AObj} (u:UpdG W W' b) (hj:H j ≠ .none) (hbj:hb j = some b) (hob:ob ≠ .none)
    (hbox:∀ cs,H j = .box cs→∃ cs',ob = .box cs') (hrow:∀ sz es,H j = .row sz es→∃ es',ob = .row sz es'∧es.length ≤ es'.length) (hmap:∀ k es,H j = .map k es→∃ es',ob = .map k es')
    (hok:qh5 W' hb (upd H j ob) (okF w0 okA hb (upd H j ob) W') j):HSim w0 A okA hb (upd H j ob) n W' where
  obj:=fun k=>by
    by_cases hkj:k = j
    · subst hkj;exact hok
    · have hk:=h.obj k
      have mv:=qgt.store (w0:=w0) (okA:=okA) u hj hbj hob hbox hrow hmap
      unfold qh5 at hk ⊢
      rw [upd_ne _ _ hkj]
      have hne:∀ c,H k ≠ .none→hb k = some c→c ≠ b:=fun c hk' hc e=>hkj (h.inj k j b hk' hj (e ▸ hc) hbj)
      cases hH:H k with
      | none=>simp
      | box cs =>
        simp only [hH] at hk ⊢
        obtain ⟨c,vs,T,fr,h1,h2,h3,h4,h5,h6⟩:=hk
        exact ⟨c,vs,T,fr,h1,by rw [u.other c (hne c (by rw [hH];simp) h1)];exact h2,h3,h4,h5,fun i hi=>(h6 i hi).mono mv⟩
      | row sz es =>
        simp only [hH] at hk ⊢
        obtain ⟨h0,hk⟩:=hk
        refine ⟨h0,?_⟩
        rcases hk with hk | ⟨c,vs,T,fr,h1,h2,h3,h4,h5⟩
        · exact .inl hk
        · exact .inr ⟨c,vs,T,fr,h1,by rw [u.other c (hne c (by rw [hH];simp) h1)];exact h2,h3,h4,fun i k hi hk=>(h5 i k hi hk).mono mv.toMoves⟩
      | map kk es =>
        simp only [hH] at hk ⊢
        obtain ⟨c,ents,cl,h1,h2,h3,h4⟩:=hk
        exact ⟨c,ents,cl,h1,by rw [u.other c (hne c (by rw [hH];simp) h1)];exact h2,h3,fun i e x he hx=>⟨(h4 i e x he hx).1,(h4 i e x he hx).2.mono mv.toMoves⟩⟩
  inj:=fun i k c hi hk hci hck=>by
    refine h.inj i k c ?_ ?_ hci hck
    · by_cases e:i = j
      · subst e;exact hj
      · rwa [upd_ne _ _ e] at hi
    · by_cases e:k = j
      · subst e;exact hj
      · rwa [upd_ne _ _ e] at hk
  hnd:=fun k c hk hc=>by
    rw [u.size]
    refine h.hnd k c ?_ hc
    by_cases e:k = j
    · subst e;exact hj
    · rwa [upd_ne _ _ e] at hk
  fresh:=fun k hk=>by
    have:k ≠ j:=by intro e;subst e;exact hj (h.fresh k hk)
    rw [upd_ne _ _ this];exact h.fresh k hk
  keep:=h.keep.trans (qgt.store (w0:=w0) (okA:=okA) u hj hbj hob hbox hrow hmap).toMovesR
  lay:=h.lay
  ext:=by
    have hx:=h.ext
    have hbb:=(h.hnd j b hj hbj).2
    refine ⟨fun i hi ha=>?_,by rw [u.size];exact hx.size,u.tape.trans hx.tape,u.os.trans hx.os,u.output.trans hx.output⟩
    rw [u.other i (fun e=>by subst e;rcases hbb with h1 | h1;exact ha ⟨j,h1⟩;omega)]
    exact hx.kept i hi ha
theorem Sim.store (h:Sim w0 A okA hb σ a W) {j b:Nat} {ob:AObj} (u:UpdG W W' b) (hj:σ.heap j ≠ .none) (hbj:hb j = some b) (hob:ob ≠ .none)
    (hbox:∀ cs,σ.heap j = .box cs→∃ cs',ob = .box cs') (hrow:∀ sz es,σ.heap j = .row sz es→∃ es',ob = .row sz es'∧es.length ≤ es'.length) (hmap:∀ k es,σ.heap j = .map k es→∃ es',ob = .map k es')
    (hok:qh5 W' hb (upd σ.heap j ob) (okF w0 okA hb (upd σ.heap j ob) W') j):Sim w0 A okA hb { σ with heap:=upd σ.heap j ob } a W' where
  defers:=h.defers
  size:=h.size
  env:=fun t=>(h.env t).mono (qgt.store u hj hbj hob hbox hrow hmap)
  heap:=h.heap.store u hj hbj hob hbox hrow hmap hok
  base:=h.base
def EvU (P:Program) (W:World) (w0:World) (A:Args) (okA:Nat→Prop) (s:Sem Unit) (a:Act) (σ:St) (H:Nat→AObj) (n:Nat):Prop :=
  ∃ W' hb',s.run P W = .ok () W'∧Sim w0 A okA hb' { σ with heap:=H,next:=n } a W'
include hτ in
theorem store_box_sound (h:Sim w0 A okA hb σ a W) {t:TypeId} {td:TD} (ht:τ t = some td) {j off:Nat} {cs vs:List V} (hj:σ.heap j = .box cs) {x:V} {u:Value} (hx:RelS w0 okA hb σ.heap W x u) (hvs:x.cells = some vs)
    (hl:vs.length = td.size) (hle:off + td.size ≤ cs.length) {p:Value} (hp:RelS w0 okA hb σ.heap W (.ptr j off) p) :
    EvU P W w0 A okA (Instr.storeAt t p u) a σ (upd σ.heap j (.box (splice cs off vs))) σ.next:=by
  obtain ⟨c1,c2⟩:=qko hx hvs
  cases hp with
  | ptr e1 e2 =>
    obtain ⟨b,vals,T,fr,g1,g2,g3,g4,g5,g6⟩:=qwd h.heap hj
    have hbb:=Option.some.inj (g1.symm.trans e2)
    subst hbb
    have hones:=qoo c1 c2
    have hsz:u.cells.toList.length = td.size:=by rw [← hl,c1.1];simp
    obtain ⟨W',r1,r2⟩:=qhv (P:=P) (o:=off) u.cells.toList 0 vals W g2 (by rw [hsz];omega) g4 hones
    have hjn:σ.heap j ≠ .none:=by rw [hj];simp
    have hle':off + vs.length ≤ cs.length:=by omega
    have hbox:∀ cs',σ.heap j = .box cs'→∃ cs'',AObj.box (splice cs off vs) = .box cs'':=fun _ _=>⟨_,rfl⟩
    have hrow:∀ sz es,σ.heap j = .row sz es→∃ es',AObj.box (splice cs off vs) = .row sz es'∧es.length ≤ es'.length:=fun sz es he=>by rw [hj] at he;cases he
    refine ⟨W',hb,?_,h.store r2.g hjn g1 (ob:=.box (splice cs off vs)) (by simp) hbox hrow (fun _ _ he=>by rw [hj] at he;cases he) ?_⟩
    · have hz:=qk3 hτ ht
      simp only [Instr.storeAt,Instr.sureAddr,Sem.run_bind,Sem.run_pure,Result.andThen_ok,storeVar,hz]
      rw [if_neg (by have:u.cells.size = td.size:=by simpa using hsz
                     simp [this])]
      exact r1
    · have mv:=qgt.store (w0:=w0) (okA:=okA) (hb:=hb) (H:=σ.heap) (ob:=.box (splice cs off vs)) r2.g hjn g1 (by simp) hbox hrow (fun _ _ he=>by rw [hj] at he;cases he)
      unfold qh5
      rw [upd_same]
      obtain ⟨v',T',fr',q1,q2,q3⟩:=r2.here
      rw [g2] at q1
      simp only [Option.some.injEq,Obj.cells.injEq] at q1
      obtain ⟨rfl,rfl,rfl⟩:=q1
      have hrl:=qqx (W:=W) (hb:=hb) (H:=σ.heap) (ok:=okF w0 okA hb σ.heap W) ⟨g3.symm,g6⟩ c1 hle'
      refine ⟨b,_,_,_,g1,q2,?_,?_,trivial,fun i hi=>?_⟩
      · rw [q3,g3,qk2 _ _ _ hle']
      · rw [q3];exact g4
      · have:=hrl.2 i (by simpa using hi)
        exact this.mono mv
include hτ in
theorem store_row_sound (h:Sim w0 A okA hb σ a W) {t:TypeId} {td:TD} (ht:τ t = some td) {j L i off sz:Nat} {es:List (List D)} {e ds:List D} {vs:List V} (hj:σ.heap j = .row sz es) (hL:es.length = L) (he:es[i]? = some e)
    {x:V} {u:Value} (hx:RelS w0 okA hb σ.heap W x u) (hvs:x.cells = some vs) (hds:allD vs = some ds)
    (hl:vs.length = td.size) (hle:off + td.size ≤ e.length) {p:Value} (hp:RelS w0 okA hb σ.heap W (.eptr j L i off) p) :
    EvU P W w0 A okA (Instr.storeAt t p u) a σ (upd σ.heap j (.row sz (es.set i (splice e off ds)))) σ.next:=by
  obtain ⟨c1,c2⟩:=qko hx hvs
  have hvd:=qn4 vs ds hds
  have hdl:ds.length = td.size:=by rw [← hl,hvd];simp
  have hilt:i < es.length:=(List.getElem?_eq_some_iff.1 he).1
  cases hp with
  | eptrStale v e1 e2 _=>rw [hj] at e1;cases e1;omega
  | eptr e1 e2 e3 =>
    rw [hj] at e1;cases e1
    obtain ⟨g0,g⟩:=qtx h.heap hj
    have hsz0:e.length = sz:=g0 e (List.mem_of_getElem? he)
    rcases g with ⟨g1,_⟩ | ⟨b,vals,T,fr,g1,g2,g3,g4,g5⟩
    · subst g1;simp at hilt
    · have hbb:=Option.some.inj (g1.symm.trans e3)
      subst hbb
      have hones:=qoo c1 c2
      have hsz:u.cells.toList.length = td.size:=by rw [← hl,c1.1];simp
      have hbd:(i + 1) * sz ≤ vals.size:=Nat.le_trans (Nat.mul_le_mul_right _ hilt) g3
      rw [Nat.add_mul,Nat.one_mul] at hbd
      obtain ⟨W',r1,r2⟩:=qhv (P:=P) (o:=i * sz + off) u.cells.toList 0 vals W g2 (by rw [hsz];omega) g4 hones
      have hjn:σ.heap j ≠ .none:=by rw [hj];simp
      have hbox:∀ cs',σ.heap j = .box cs'→∃ cs'',AObj.row sz (es.set i (splice e off ds)) = .box cs'':=fun _ he=>by rw [hj] at he;cases he
      have hrow:∀ sz' es',σ.heap j = .row sz' es'→∃ es'',AObj.row sz (es.set i (splice e off ds)) = .row sz' es''∧es'.length ≤ es''.length:=fun sz' es' he'=>by
        rw [hj] at he';cases he';exact ⟨_,rfl,by simp⟩
      have hspl:(splice e off ds).length = sz:=by rw [qk2 _ _ _ (by omega)];exact hsz0
      refine ⟨W',hb,?_,h.store r2.g hjn g1 (ob:=.row sz (es.set i (splice e off ds))) (by simp) hbox hrow (fun _ _ he=>by rw [hj] at he;cases he) ?_⟩
      · have hz:=qk3 hτ ht
        simp only [Instr.storeAt,Instr.sureAddr,Sem.run_bind,Sem.run_pure,Result.andThen_ok,storeVar,hz]
        rw [if_neg (by have:u.cells.size = td.size:=by simpa using hsz
                       simp [this])]
        exact r1
      · have mv:=qgt.store (w0:=w0) (okA:=okA) (hb:=hb) (H:=σ.heap) (ob:=.row sz (es.set i (splice e off ds))) r2.g hjn g1 (by simp) hbox hrow (fun _ _ he=>by rw [hj] at he;cases he)
        unfold qh5
        rw [upd_same]
        obtain ⟨v',T',fr',q1,q2,q3⟩:=r2.here
        rw [g2] at q1
        simp only [Option.some.injEq,Obj.cells.injEq] at q1
        obtain ⟨rfl,rfl,rfl⟩:=q1
        refine ⟨fun y hy=>?_,.inr ⟨b,_,_,_,g1,q2,?_,?_,fun k c hk hc=>?_⟩⟩
        · rcases List.mem_or_eq_of_mem_set hy with hy | rfl
          · exact g0 y hy
          · exact hspl
        · rw [q3];simpa using g3
        · rw [q3];exact g4
        · have hk':k < es.length:=by simpa using hk
          have hkb:(k + 1) * sz ≤ vals.size:=Nat.le_trans (Nat.mul_le_mul_right _ hk') g3
          rw [Nat.add_mul,Nat.one_mul] at hkb
          rw [Nat.add_zero,qmo _ _ _ _ (by omega),hsz]
          by_cases hki:k = i
          · subst hki
            have e4:(es.set k (splice e off ds)).getD k [] = splice e off ds:=by rw [List.getD_eq_getElem?_getD,List.getElem?_set_self hilt];rfl
            rw [e4,qn0 _ _ _ _ _ (by omega)]
            by_cases hin:off ≤ c∧c < off + ds.length
            · rw [if_pos hin,if_pos (by omega)]
              have:=c1.2 (c - off) (by rw [← c1.1];omega)
              rw [hvd] at this
              have e5:(ds.map V.d).getD (c - off) .junk = .d (ds.getD (c - off) .nilp):=by
                have hlt:c - off < ds.length:=by omega
                rw [List.getD_eq_getElem?_getD,List.getElem?_map,List.getElem?_eq_getElem hlt,List.getD_eq_getElem?_getD,List.getElem?_eq_getElem hlt];rfl
              rw [e5] at this
              have e6:u.cells.toList.getD (k * sz + c - (k * sz + off)) undef = u.cells.getD (c - off) undef:=by
                rw [show k * sz + c - (k * sz + off) = c - off by omega]
                simp [List.getD_eq_getElem?_getD,Array.getD_eq_getD_getElem?]
              rw [e6]
              cases this with | d this=>exact this.mono mv.toMoves
            · rw [if_neg hin,if_neg (by omega)]
              have:=g5 k c hk' hc
              rw [getD_some he []] at this
              exact this.mono mv.toMoves
          · have e4:(es.set i (splice e off ds)).getD k [] = es.getD k []:=by rw [List.getD_eq_getElem?_getD,List.getElem?_set_ne (Ne.symm hki),← List.getD_eq_getElem?_getD]
            rw [e4,if_neg ?_]
            · exact (g5 k c hk' hc).mono mv.toMoves
            · intro ⟨z1,z2⟩
              rcases Nat.lt_or_gt_of_ne hki with hlt | hgt
              · have:(k + 1) * sz ≤ i * sz:=Nat.mul_le_mul_right _ hlt
                rw [Nat.add_mul,Nat.one_mul] at this;omega
              · have:(i + 1) * sz ≤ k * sz:=Nat.mul_le_mul_right _ hgt
                rw [Nat.add_mul,Nat.one_mul] at this;omega
end
end Go.Proofs.YtiegopnofbgoaaaGreat.AWN

namespace Go.Proofs.YtiegopnofbgoaaaGreat.AWN
open Go
def RelF (W:World) (ok:Nat→Prop) (sz:Nat) (ys:List (List D)) (c:Array Value):Prop :=
  c.size = ys.length * sz∧∀ i k,i < ys.length→k < sz→RelD W ok ((ys.getD i []).getD k .nilp) (c.getD (i * sz + k) undef)
section
variable {P:Program} {τ:Tab} (hτ:qfl P τ) {w0:World} {A:Args} {okA:Nat→Prop} {hb:Handle} {W W':World} {H:Nat→AObj} {n:Nat} {σ:St} {a:Act} {ok:Nat→Prop}
theorem qo2 (f:Nat→Value) (m i:Nat) (h:i < m):(((List.range m).map f).toArray).getD i undef = f i:=by
  simp [Array.getD_eq_getD_getElem?,h]
theorem qqd {ad:Addr} {b o sz:Nat} {ys:List (List D)} (f:Nat→Nat→Value) (ha:ad = ⟨b,o,none⟩) (hsz:0 < sz)
    (hc:∀ i k,i < ys.length→k < sz→W.cell? ⟨b,o + (i * sz + k),none⟩ = some (f i k)) (hr:∀ i k,i < ys.length→k < sz→RelD W ok ((ys.getD i []).getD k .nilp) (f i k)) :
    ∃ c,(∀ w,qbd W w→(loadCells ad (ys.length * sz)).run P w = .ok c w)∧RelF W ok sz ys c:=by
  subst ha
  refine ⟨_,fun w s=>run_loadCells w ⟨b,o,none⟩ (ys.length * sz) (fun m=>f (m / sz) (m % sz)) (fun m hm=>?_),by simp,fun i k hi hk=>?_⟩
  · rw [addr_add,s.cell]
    have h1:m / sz < ys.length:=Nat.div_lt_of_lt_mul (by rw [Nat.mul_comm];exact hm)
    have h2:m % sz < sz:=Nat.mod_lt _ hsz
    have:=hc (m / sz) (m % sz) h1 h2
    rwa [Nat.mul_comm (m / sz) sz,Nat.div_add_mod] at this
  · have hb1:(i + 1) * sz ≤ ys.length * sz:=Nat.mul_le_mul_right _ hi
    rw [Nat.add_mul,Nat.one_mul] at hb1
    rw [qo2 _ _ _ (by omega)]
    have e1:(i * sz + k) / sz = i:=by rw [Nat.mul_comm,Nat.mul_add_div hsz,Nat.div_eq_of_lt hk];rfl
    have e2:(i * sz + k) % sz = k:=by rw [Nat.mul_comm,Nat.mul_add_mod,Nat.mod_eq_of_lt hk]
    simp only [e1,e2]
    exact hr i k hi hk
theorem qq9 (h:HSim w0 A okA hb H n W) {x:V} {u:Value} {p:Prop} {ys:List (List D)} {sz:Nat} (hx:RelS w0 okA hb H W x u) (he:qg9 H x = some (p,ys)) (hp:p) (hys:∀ y ∈ ys,y.length = sz) (hsz:0 < sz) {m:Nat} (hm:m ≤ ys.length) :
    ∃ ad cap c,u = .slice ad ys.length cap∧(∀ w,qbd W w→(Builtin.firstCells sz m u).run P w = .ok c w)∧RelF W (okF w0 okA hb H W) sz (ys.take m) c:=by
  have hnil:∀ cap,ys = []→∃ ad' cap' c,(.slice none 0 cap:Value) = .slice ad' ys.length cap'∧(∀ w,qbd W w→(Builtin.firstCells sz m (.slice none 0 cap)).run P w = .ok c w)∧RelF W (okF w0 okA hb H W) sz (ys.take m) c:=by
    intro cap e;subst e
    obtain rfl:m = 0:=by simpa using hm
    exact ⟨none,cap,#[],rfl,fun _ _=>rfl,by simp,fun i k hi=>by simp at hi⟩
  have hemp:∀ ad cap,ys = []→∃ ad' cap' c,(.slice (some ad) 0 cap:Value) = .slice ad' ys.length cap'∧(∀ w,qbd W w→(Builtin.firstCells sz m (.slice (some ad) 0 cap)).run P w = .ok c w)∧RelF W (okF w0 okA hb H W) sz (ys.take m) c:=by
    intro ad cap e;subst e
    obtain rfl:m = 0:=by simpa using hm
    exact ⟨some ad,cap,#[],rfl,fun _ _=>by simp [Builtin.firstCells,loadCells,loadCellsFrom],by simp,fun i k hi=>by simp at hi⟩
  unfold qg9 at he
  split at he
  · rename_i t es
    simp only [Option.some.injEq,Prod.mk.injEq] at he
    obtain ⟨rfl,rfl⟩:=he
    cases hx with
    | d hx=>cases hx with
      | slnil=>exact hnil 0 rfl
      | sle=>exact hemp _ 0 rfl
      | @sl _ _ b o len cap sz' vals g1 g2 g3 g4 gm g5 g6 g7 =>
        by_cases hne:es = []
        · have:len = 0:=by rw [← g2,hne];rfl
          subst this
          exact hemp _ _ hne
        · have hpos:0 < es.length:=List.length_pos_iff.2 hne
          have hs:sz' = sz:=by
            have e1:=g5 0 (by omega)
            rw [List.getD_eq_getElem?_getD,List.getElem?_eq_getElem hpos] at e1
            have e2:=hys _ (List.getElem_mem hpos)
            simp at e1;omega
          subst hs
          obtain ⟨c,r1,r2⟩:=qqd (P:=P) (W:=W) (ok:=okF w0 okA hb H W) (ys:=es.take m) vals rfl hsz (fun i k hi hk=>g6 i k (by rw [List.length_take] at hi;omega) hk) (fun i k hi hk=>by
            rw [List.length_take] at hi
            have e:(es.take m).getD i [] = es.getD i []:=by rw [List.getD_eq_getElem?_getD,List.getElem?_take,if_pos (by omega),← List.getD_eq_getElem?_getD]
            rw [e];exact g7 i k (by omega) hk)
          rw [List.length_take,Nat.min_eq_left hm] at r1
          exact ⟨_,cap,c,by rw [g2],by simpa [Builtin.firstCells] using r1,r2⟩
  · simp only [Option.some.injEq,Prod.mk.injEq] at he
    obtain ⟨rfl,rfl⟩:=he
    cases hx with
    | d hx=>cases hx with
      | nils=>exact hnil 0 rfl
  · rename_i j L off len
    split at he
    · rename_i sz' es hj
      simp only [Option.some.injEq,Prod.mk.injEq] at he
      obtain ⟨rfl,rfl⟩:=he
      obtain ⟨hL,hle⟩:=hp
      have hlen:((es.drop off).take len).length = len:=by simp;omega
      cases hx with
      | rowStale v e1 e2 _=>rw [hj] at e1;cases e1;omega
      | rowEmpty e1 e2 e3=>exact hemp _ _ (by simp)
      | rowNil e1 e2=>exact hnil 0 (by simp)
      | @row _ _ _ _ b _ cap bs _ e1 e2 e3 e4 e5 e6 e7 e8 e9 =>
        rw [hj] at e1;cases e1
        by_cases hne:len = 0
        · subst hne;exact hemp _ _ (by simp)
        · obtain ⟨g0,g⟩:=qtx h hj
          rcases g with ⟨g1,_⟩ | ⟨b',vals,T,fr,g1,g2,g3,g4,g5⟩
          · subst g1;simp at e2;omega
          · have hbb:=Option.some.inj (g1.symm.trans e3)
            subst hbb
            have hoff:off < es.length:=by omega
            have hs:sz' = sz:=by
              have m1:((es.drop off).take len)[0]? = some es[off]:=by
                rw [List.getElem?_take,if_pos (by omega),List.getElem?_drop,Nat.add_zero,List.getElem?_eq_getElem hoff]
              have:=hys _ (List.mem_of_getElem? m1)
              have:=g0 _ (List.getElem_mem hoff)
              omega
            subst hs
            obtain ⟨c,r1,r2⟩:=qqd (P:=P) (W:=W) (ok:=okF w0 okA hb H W) (ys:=((es.drop off).take len).take m) (b:=b') (o:=off * sz') (fun i k=>vals.getD ((off + i) * sz' + k) undef) rfl hsz
              (fun i k hi hk=>by
                rw [List.length_take,hlen] at hi
                have hbd:(off + i + 1) * sz' ≤ es.length * sz':=Nat.mul_le_mul_right _ (by omega)
                rw [Nat.add_mul (off + i),Nat.one_mul] at hbd
                rw [cell_of_heap g2,← Nat.add_assoc,← Nat.add_mul]
                exact qf7 (by omega))
              (fun i k hi hk=>by
                rw [List.length_take,hlen] at hi
                have e:(((es.drop off).take len).take m).getD i [] = ((es.drop off).take len).getD i []:=by rw [List.getD_eq_getElem?_getD,List.getElem?_take,if_pos (by omega),← List.getD_eq_getElem?_getD]
                rw [e,qfk _ _ _ _ _ (by omega)]
                exact g5 (off + i) k (by omega) hk)
            rw [hlen] at hm
            rw [List.length_take,hlen,Nat.min_eq_left hm] at r1
            exact ⟨_,cap,c,by rw [hlen],by simpa [Builtin.firstCells] using r1,r2⟩
    · cases he
  · cases he
theorem qoh (h:HSim w0 A okA hb H n W) {x:V} {u:Value} {p:Prop} {ys:List (List D)} {sz:Nat} (hx:RelS w0 okA hb H W x u) (he:qg9 H x = some (p,ys)) (hp:p) (hys:∀ y ∈ ys,y.length = sz) (hsz:0 < sz) :
    ∃ ad cap c,u = .slice ad ys.length cap∧(∀ w,qbd W w→(Builtin.firstCells sz ys.length u).run P w = .ok c w)∧RelF W (okF w0 okA hb H W) sz ys c:=by
  have:=qq9 (P:=P) h hx he hp hys hsz (Nat.le_refl _)
  rw [List.take_length] at this
  exact this
/-! ### The two ways -/
theorem app_room {ts:Array TypeId} {t t1 e e1 ty:TypeId} {i:TypeInfo} (h0:ts[0]? = some t) (h1:ts[1]? = some t1) (ht:P.underlying t = some (.slice e)) (ht1:P.underlying t1 = some (.slice e1)) (hi:P.info? e = some i)
    (b off sLen sCap:Nat) (xa:Option Addr) (xn xc:Nat) (c:Array Value) (W':World) (hfc:(Builtin.firstCells i.size xn (.slice xa xn xc)).run P W = .ok c W)
    (hst:(storeCells ⟨b,off + sLen * i.size,none⟩ c.toList 0).run P W = .ok () W') (hroom:sLen + xn ≤ sCap) :
    (Builtin.append_ ts ty #[.slice (some ⟨b,off,none⟩) sLen sCap,.slice xa xn xc]).run P W = .ok (.slice (some ⟨b,off,none⟩) (sLen + xn) sCap) W':=by
  simp [Builtin.append_,h0,h1,run_underlying ht,run_underlying ht1,sizeOf,typeInfo,hi,Builtin.lenOf,hroom,hfc,Addr.add_lit,hst]
theorem app_room_nil {ts:Array TypeId} {t t1 e e1 ty:TypeId} {i:TypeInfo} (h0:ts[0]? = some t) (h1:ts[1]? = some t1) (ht:P.underlying t = some (.slice e)) (ht1:P.underlying t1 = some (.slice e1)) (hi:P.info? e = some i)
    (xa:Option Addr) (xc:Nat) (c:Array Value) (hfc:(Builtin.firstCells i.size 0 (.slice xa 0 xc)).run P W = .ok c W) :
    (Builtin.append_ ts ty #[.slice none 0 0,.slice xa 0 xc]).run P W = .ok (.slice none 0 0) W:=by
  simp [Builtin.append_,h0,h1,run_underlying ht,run_underlying ht1,sizeOf,typeInfo,hi,Builtin.lenOf,hfc]
theorem quw {ts:Array TypeId} {t t1 e e1 ty:TypeId} {i:TypeInfo} {z:Value} (h0:ts[0]? = some t) (h1:ts[1]? = some t1) (ht:P.underlying t = some (.slice e)) (ht1:P.underlying t1 = some (.slice e1)) (hi:P.info? e = some i) (hz:i.zero = some z)
    (base:Option Addr) (sLen sCap:Nat) (xa:Option Addr) (xn xc:Nat) (old c:Array Value) (hgrow:sCap < sLen + xn) (hb:(sLen + xn) * i.bytes ≤ 140737488355328) (hpos:0 < i.bytes)
    (hfo:∀ w,qbd W w→(Builtin.firstCells i.size sLen (.slice base sLen sCap)).run P w = .ok old w) (hfc:∀ w,qbd W w→(Builtin.firstCells i.size xn (.slice xa xn xc)).run P w = .ok c w) :
    ∃ newCap W1,(sLen + xn ≤ newCap∧newCap ≤ maxLen)∧qbd W W1∧(Builtin.append_ ts ty #[.slice base sLen sCap,.slice xa xn xc]).run P W =
      .ok (.slice (some ⟨W.heap.size,0,none⟩) (sLen + xn) newCap) (W1.alloc (.cells (old ++ c ++ Builtin.zeroCells z.cells (newCap - (sLen + xn))) e)):=by
  have hn:¬ (sLen + xn ≤ sCap):=by omega
  have hle:sLen + xn ≤ 140737488355328:=Nat.le_trans (Nat.le_mul_of_pos_right _ hpos) hb
  have h63:¬ (9223372036854775807 < ((sLen:Int) + (xn:Int))):=by omega
  have hfit:=growslice_fits hgrow hb
  have h48:¬ (281474976710656 < Builtin.nextslicecap (sLen + xn) sCap * i.bytes):=by omega
  obtain ⟨r,W1,g1,g2,g3⟩:=qo8 P W (.appendCap (sLen + xn) sCap e)
  obtain ⟨tt,hr⟩:=g3 rfl
  have hcap:sLen + xn ≤ r:=by rw [hr];exact Nat.le_add_right _ _
  have hcapm:r ≤ maxLen:=by
    rw [hr]
    show sLen + xn + tt % (2 ^ 63 - (sLen + xn)) ≤ 2 ^ 63 - 1
    have:=Nat.mod_lt tt (show 0 < 2 ^ 63 - (sLen + xn) by omega)
    omega
  refine ⟨r,W1,⟨hcap,hcapm⟩,g2,?_⟩
  rw [run_choose] at g1
  have hq:(Question.appendCap (sLen + xn) sCap e).forced = false:=rfl
  simp only [hq,Bool.false_eq_true,if_false,Result.ok.injEq] at g1
  obtain ⟨rfl,rfl⟩:=g1
  have s1:qbd W W.drew:=qbd.drew W
  have hfo':=hfo _ s1
  have hfc':=hfc _ s1
  simp [Builtin.append_,h0,h1,run_underlying ht,run_underlying ht1,sizeOf,typeInfo,hi,Builtin.lenOf,hn,h63,h48,hq,zeroValue,hz,newRow,hfo',hfc']
theorem qqu {sz:Nat} {xs ys:List (List D)} {c d:Array Value} (h:RelF W ok sz xs c) (h':RelF W ok sz ys d) (rest:Array Value) :
    ∀ i k,i < (xs ++ ys).length→k < sz→RelD W ok (((xs ++ ys).getD i []).getD k .nilp) ((c ++ d ++ rest).getD (i * sz + k) undef):=by
  intro i k hi hk
  simp only [List.length_append] at hi
  by_cases hx:i < xs.length
  · have hb:(i + 1) * sz ≤ xs.length * sz:=Nat.mul_le_mul_right _ hx
    rw [Nat.add_mul,Nat.one_mul] at hb
    have e1:(xs ++ ys).getD i [] = xs.getD i []:=by rw [List.getD_eq_getElem?_getD,List.getElem?_append_left hx,← List.getD_eq_getElem?_getD]
    have hlt:i * sz + k < c.size:=by rw [h.1];omega
    have e2:(c ++ d ++ rest).getD (i * sz + k) undef = c.getD (i * sz + k) undef:=by
      rw [Array.getD_eq_getD_getElem?,Array.getElem?_append_left (by simp;omega),Array.getElem?_append_left hlt,← Array.getD_eq_getD_getElem?]
    rw [e1,e2]
    exact h.2 i k hx hk
  · have hb:(i - xs.length + 1) * sz ≤ ys.length * sz:=Nat.mul_le_mul_right _ (by omega)
    rw [Nat.add_mul,Nat.one_mul] at hb
    have e1:(xs ++ ys).getD i [] = ys.getD (i - xs.length) []:=by rw [List.getD_eq_getElem?_getD,List.getElem?_append_right (by omega),← List.getD_eq_getElem?_getD]
    have e0:i * sz + k = c.size + ((i - xs.length) * sz + k):=by
      rw [h.1,← Nat.add_assoc,← Nat.add_mul];congr 2;omega
    have e2:(c ++ d ++ rest).getD (i * sz + k) undef = d.getD ((i - xs.length) * sz + k) undef:=by
      rw [e0,Array.getD_eq_getD_getElem?,Array.getElem?_append_left (by simp;rw [h'.1];omega),Array.getElem?_append_right (by omega),← Array.getD_eq_getD_getElem?]
      congr 1;omega
    rw [e1,e2]
    exact h'.2 _ k (by omega) hk
theorem relD_one {x:D} {v:Value} (h:RelD W ok x v):v.oneCell' = true:=by cases h <;> rfl
theorem qvl {sz:Nat} {ys:List (List D)} {c:Array Value} (h:RelF W ok sz ys c):∀ v ∈ c.toList,v.oneCell' = true:=by
  intro v hv
  obtain ⟨m,hm,e⟩:=List.getElem_of_mem hv
  have hm':m < c.size:=by simpa using hm
  have hsz:0 < sz:=by
    rcases Nat.eq_zero_or_pos sz with h0 | h0
    · subst h0;rw [h.1] at hm';simp at hm'
    · exact h0
  rw [h.1] at hm'
  have h1:m / sz < ys.length:=Nat.div_lt_of_lt_mul (by rw [Nat.mul_comm];exact hm')
  have h2:m % sz < sz:=Nat.mod_lt _ hsz
  have:=h.2 (m / sz) (m % sz) h1 h2
  rw [Nat.mul_comm (m / sz) sz,Nat.div_add_mod] at this
  have e2:c.getD m undef = v:=by rw [Array.getD_eq_getD_getElem?,Array.getElem?_eq_getElem (by simpa using hm)];simpa using e
  rw [e2] at this
  exact relD_one this
theorem qo5 (z:Array Value) (m:Nat):(Builtin.zeroCells z m).size = m * z.size:=by simp [Builtin.zeroCells]
include hτ in
theorem qr9 (h:Sim w0 A okA hb σ a W) {ts:Array TypeId} {t t1 e e1 ty:TypeId} {td td1 ed:TD} (h0:ts[0]? = some t) (h1:ts[1]? = some t1) (ht:τ t = some td) (ht1:τ t1 = some td1) (hd:td.desc = .slice e) (hd1:td1.desc = .slice e1) (he:τ e = some ed)
    (hzs:ed.zero.cells.size = ed.size) (hpz:0 < ed.size) {x:V} {u:Value} {p:Prop} {es ys:List (List D)} (hx:RelS w0 okA hb σ.heap W x u) (hse:qg9 σ.heap x = some (p,ys)) (hp:p)
    (hb8:(es.length + ys.length) * ed.bytes ≤ 140737488355328) (hpos:0 < ed.bytes) (hne:ys ≠ []) (hes:∀ y ∈ es,y.length = ed.size) (hys:∀ y ∈ ys,y.length = ed.size)
    {base:Option Addr} {old:Array Value} (hold:∀ w,qbd W w→(Builtin.firstCells ed.size es.length (.slice base es.length es.length)).run P w = .ok old w) (hro:RelF W (okF w0 okA hb σ.heap W) ed.size es old) :
    EvH P W w0 A okA (Builtin.append_ ts ty #[.slice base es.length es.length,u]) a σ (upd σ.heap σ.next (.row ed.size (es ++ ys))) (σ.next + 1) (.row σ.next (es.length + ys.length) 0 (es.length + ys.length)):=by
  have hyl:0 < ys.length:=List.length_pos_iff.2 hne
  obtain ⟨hu,_⟩:=hτ t td ht
  obtain ⟨hu1,_⟩:=hτ t1 td1 ht1
  obtain ⟨_,i,hi,hi1,hi2,hi3⟩:=hτ e ed he
  rw [hd] at hu
  rw [hd1] at hu1
  obtain ⟨ad,cap,c,rfl,r1,r2⟩:=qoh (P:=P) h.heap hx hse hp hys hpz
  obtain ⟨newCap,W1,g1,g2,g3⟩:=quw (P:=P) (W:=W) (ty:=ty) h0 h1 hu hu1 hi hi3 base es.length es.length ad ys.length cap old c (by omega) (by rw [hi2];exact hb8) (by rw [hi2];exact hpos)
    (by rw [hi1];exact hold) (by rw [hi1];exact r1)
  have hle:es.length + ys.length ≤ 140737488355328:=Nat.le_trans (Nat.le_mul_of_pos_right _ hpos) hb8
  have hm:(140737488355328:Nat) ≤ maxLen:=by decide
  have s1:=g2.heap
  have hsz1:W1.heap.size = W.heap.size:=by rw [s1]
  have h':=h.same g2
  refine qum (P:=P) (es:=es ++ ys) (sz:=ed.size) (cap:=newCap) (c:=old ++ c ++ Builtin.zeroCells ed.zero.cells (newCap - (es.length + ys.length))) (len:=es.length + ys.length) h' e (fun y hy=>?_) ?_ ?_ ?_ g1.2 (fun i k hi hk=>?_) (by simp) (W0:=W) ?_
  · rcases List.mem_append.1 hy with hy | hy
    · exact hes y hy
    · exact hys y hy
  · simp only [Array.size_append,qo5,hro.1,r2.1,hzs]
    rw [← Nat.add_mul,← Nat.add_mul]
    exact Nat.mul_le_mul_right _ (by omega)
  · simpa using g1.1
  · simp;omega
  · have:=qqu (W:=W) (ok:=okF w0 okA hb σ.heap W) hro r2 (Builtin.zeroCells ed.zero.cells (newCap - (es.length + ys.length))) i k hi hk
    rw [qpp g2]
    exact this.same g2
  · rw [hsz1];exact g3
theorem qgt.rebind (h:HSim w0 A okA hb H n W) {j sz:Nat} {es es':List (List D)} (hj:H j = .row sz es) (hl:es.length < es'.length) (o:Obj) :
    qgt W (W.alloc o) hb (upd hb j (some W.heap.size)) H (upd H j (.row sz es')) (okF w0 okA hb H W) (okF w0 okA (upd hb j (some W.heap.size)) (upd H j (.row sz es')) (W.alloc o)):=by
  refine { good:=?_,cell:=?_,box:=?_,row:=?_,map:=?_ }
  · intro b ⟨h1,h2,h3⟩
    refine ⟨by rw [qnm];omega,h2,fun k hk=>?_⟩
    by_cases hkj:k = j
    · subst hkj;rw [upd_same];intro e;simp at e;omega
    · rw [upd_ne _ _ hkj] at hk ⊢;exact h3 k hk
  · intro b i v hb' hc
    rw [qrd (qua hc)];exact hc
  · intro k cs hk
    have hkj:k ≠ j:=by intro e;subst e;rw [hj] at hk;cases hk
    exact ⟨cs,by rw [upd_ne _ _ hkj];exact hk,by rw [upd_ne _ _ hkj]⟩
  · intro k sz' fs hk
    by_cases hkj:k = j
    · subst hkj
      rw [hj] at hk;cases hk
      exact ⟨es',upd_same _ _ _,by omega,fun e=>by omega⟩
    · refine ⟨fs,by rw [upd_ne _ _ hkj];exact hk,Nat.le_refl _,fun _=>⟨by rw [upd_ne _ _ hkj],fun b bs hbj hs=>?_⟩⟩
      rw [qqz ((h.hnd k b (by rw [hk];simp) hbj).1)];exact hs
  · intro k kk es hk
    have hkj:k ≠ j:=by intro e;subst e;rw [hj] at hk;cases hk
    exact ⟨es,by rw [upd_ne _ _ hkj];exact hk,by rw [upd_ne _ _ hkj]⟩
theorem HSim.rebind (h:HSim w0 A okA hb H n W) {j sz:Nat} {es es':List (List D)} (hj:H j = .row sz es) (hl:es.length < es'.length) {o:Obj}
    (hob:qh5 (W.alloc o) (upd hb j (some W.heap.size)) (upd H j (.row sz es')) (okF w0 okA (upd hb j (some W.heap.size)) (upd H j (.row sz es')) (W.alloc o)) j) :
    HSim w0 A okA (upd hb j (some W.heap.size)) (upd H j (.row sz es')) n (W.alloc o) where
  obj:=fun k=>by
    by_cases hkj:k = j
    · subst hkj;exact hob
    · have hk:=h.obj k
      have mv:=qgt.rebind h hj hl o
      unfold qh5 at hk ⊢
      rw [upd_ne _ _ hkj]
      cases hH:H k with
      | none=>simp
      | box cs =>
        simp only [hH] at hk ⊢
        obtain ⟨b,vals,T,fr,h1,h2,h3,h4,h5,h6⟩:=hk
        refine ⟨b,vals,T,fr,by rw [upd_ne _ _ hkj];exact h1,?_,h3,h4,h5,fun i hi=>(h6 i hi).mono mv⟩
        rw [qik ((h.hnd k b (by rw [hH];simp) h1).1)];exact h2
      | row sz' fs =>
        simp only [hH] at hk ⊢
        obtain ⟨h0,hk⟩:=hk
        refine ⟨h0,?_⟩
        rcases hk with ⟨e1,e2⟩ | ⟨b,vals,T,fr,h1,h2,h3,h4,h5⟩
        · exact .inl ⟨e1,by rw [upd_ne _ _ hkj];exact e2⟩
        · refine .inr ⟨b,vals,T,fr,by rw [upd_ne _ _ hkj];exact h1,?_,h3,h4,fun i c hi hc=>(h5 i c hi hc).mono mv.toMoves⟩
          rw [qik ((h.hnd k b (by rw [hH];simp) h1).1)];exact h2
      | map kk es =>
        simp only [hH] at hk ⊢
        obtain ⟨b,ents,cl,h1,h2,h3,h4⟩:=hk
        refine ⟨b,ents,cl,by rw [upd_ne _ _ hkj];exact h1,?_,h3,fun i e x he hx=>⟨(h4 i e x he hx).1,(h4 i e x he hx).2.mono mv.toMoves⟩⟩
        rw [qik ((h.hnd k b (by rw [hH];simp) h1).1)];exact h2
  inj:=fun i k b hi hk hbi hbk=>by
    by_cases hin:i = j <;> by_cases hkn:k = j
    · rw [hin,hkn]
    · subst hin;rw [upd_same] at hbi;rw [upd_ne _ _ hkn] at hk hbk
      have:=(h.hnd k b hk hbk).1
      simp at hbi;omega
    · subst hkn;rw [upd_same] at hbk;rw [upd_ne _ _ hin] at hi hbi
      have:=(h.hnd i b hi hbi).1
      simp at hbk;omega
    · rw [upd_ne _ _ hin] at hi hbi;rw [upd_ne _ _ hkn] at hk hbk
      exact h.inj i k b hi hk hbi hbk
  hnd:=fun k b hk hbk=>by
    rw [qnm]
    by_cases hkj:k = j
    · subst hkj;rw [upd_same] at hbk;simp at hbk;subst hbk
      exact ⟨by omega,.inr h.ext.size⟩
    · rw [upd_ne _ _ hkj] at hk hbk
      have:=h.hnd k b hk hbk
      exact ⟨by omega,this.2⟩
  fresh:=fun k hk=>by
    have:k ≠ j:=by intro e;subst e;have:=h.fresh k hk;rw [hj] at this;cases this
    rw [upd_ne _ _ this];exact h.fresh k hk
  ext:=h.ext.alloc o
  keep:=h.keep.trans (qgt.rebind h hj hl o).toMovesR
  lay:=h.lay
theorem row_rebind (h:Sim w0 A okA hb σ a W) {j sz cap len:Nat} {es es':List (List D)} {c:Array Value} (T:TypeId) (hj:σ.heap j = .row sz es) (hl:es.length < es'.length) (hlen:∀ e ∈ es',e.length = sz) (hcs:cap * sz ≤ c.size) (hcap:es'.length ≤ cap) (hm:es'.length ≤ maxLen) (hcm:cap ≤ maxLen)
    (hc:∀ i k,i < es'.length→k < sz→RelD W (okF w0 okA hb σ.heap W) ((es'.getD i []).getD k .nilp) (c.getD (i * sz + k) undef)) {s:Sem Value} (hll:len = es'.length) {W0:World}
    (hs:s.run P W0 = .ok (.slice (some ⟨W.heap.size,0,none⟩) len cap) (W.alloc (.cells c T))) :
    EvH P W0 w0 A okA s a σ (upd σ.heap j (.row sz es')) σ.next (.row j len 0 len):=by
  subst hll
  have mv:=qgt.rebind h.heap hj hl (.cells c T)
  have hob:qh5 (W.alloc (.cells c T)) (upd hb j (some W.heap.size)) (upd σ.heap j (.row sz es')) (okF w0 okA (upd hb j (some W.heap.size)) (upd σ.heap j (.row sz es')) (W.alloc (.cells c T))) j:=by
    unfold qh5
    rw [upd_same]
    refine ⟨hlen,.inr ⟨W.heap.size,c,T,(0,0),upd_same _ _ _,qjq _,?_,qp4 _,fun i k hi hk=>(hc i k hi hk).mono mv.toMoves⟩⟩
    exact Nat.le_trans (Nat.mul_le_mul_right _ hcap) hcs
  refine ⟨_,_,upd hb j (some W.heap.size),hs,⟨h.defers,h.size,fun t=>(h.env t).mono mv,h.heap.rebind hj hl hob,h.base⟩,?_⟩
  have:=Rel.row (W:=W.alloc (.cells c T)) (hb:=upd hb j (some W.heap.size)) (H:=upd σ.heap j (.row sz es')) (ok:=okF w0 okA (upd hb j (some W.heap.size)) (upd σ.heap j (.row sz es')) (W.alloc (.cells c T)))
    (j:=j) (L:=es'.length) (off:=0) (len:=es'.length) (cap:=cap) (upd_same _ _ _) rfl (upd_same _ _ _) (qk1 (qjq _)) (by omega) hcap (by simpa using hcs) hm hcm
  simpa using this
theorem qsx {α:Type} (f:Nat→α) (j:Nat) (x:α) (h:f j = x):upd f j x = f:=by
  funext i
  by_cases hi:i = j
  · subst hi;rw [upd_same,h]
  · rw [upd_ne _ _ hi]
include hτ in
theorem append_row (h:Sim w0 A okA hb σ a W) {ts:Array TypeId} {t t1 e e1 ty:TypeId} {td td1 ed:TD} (h0:ts[0]? = some t) (h1:ts[1]? = some t1) (ht:τ t = some td) (ht1:τ t1 = some td1) (hd:td.desc = .slice e) (hd1:td1.desc = .slice e1) (he:τ e = some ed)
    (hzs:ed.zero.cells.size = ed.size) (hpz:0 < ed.size) {x:V} {u v:Value} {p:Prop} {j L:Nat} {es ys:List (List D)} (hx:RelS w0 okA hb σ.heap W x u) (hse:qg9 σ.heap x = some (p,ys)) (hp:p)
    (hj:σ.heap j = .row ed.size es) (hL:es.length = L) (hv:RelS w0 okA hb σ.heap W (.row j L 0 L) v)
    (hb8:(L + ys.length) * ed.bytes ≤ 140737488355328) (hpos:0 < ed.bytes) (hys:∀ y ∈ ys,y.length = ed.size) :
    EvH P W w0 A okA (Builtin.append_ ts ty #[v,u]) a σ (upd σ.heap j (.row ed.size (es ++ ys))) σ.next (.row j (L + ys.length) 0 (L + ys.length)):=by
  obtain ⟨hu,_⟩:=hτ t td ht
  obtain ⟨hu1,_⟩:=hτ t1 td1 ht1
  obtain ⟨_,i,hi,hi1,hi2,hi3⟩:=hτ e ed he
  rw [hd] at hu
  rw [hd1] at hu1
  obtain ⟨ad,xc,c,rfl,r1,r2⟩:=qoh (P:=P) h.heap hx hse hp hys hpz
  obtain ⟨g0,g⟩:=qtx h.heap hj
  have hjn:σ.heap j ≠ .none:=by rw [hj];simp
  have hle:L + ys.length ≤ 140737488355328:=Nat.le_trans (Nat.le_mul_of_pos_right _ hpos) hb8
  have hm:(140737488355328:Nat) ≤ maxLen:=by decide
  have hes:∀ y ∈ es ++ ys,y.length = ed.size:=fun y hy=>by
    rcases List.mem_append.1 hy with hy | hy
    · exact g0 y hy
    · exact hys y hy
  have hlen:(es ++ ys).length = L + ys.length:=by simp [hL]
  -- the way that grows
  have grow:∀ (base:Option Addr) (cap:Nat) (old:Array Value),v = .slice base L cap→cap < L + ys.length→L < L + ys.length→(∀ w,qbd W w→(Builtin.firstCells ed.size L (.slice base L cap)).run P w = .ok old w)→RelF W (okF w0 okA hb σ.heap W) ed.size es old →
      EvH P W w0 A okA (Builtin.append_ ts ty #[v,.slice ad ys.length xc]) a σ (upd σ.heap j (.row ed.size (es ++ ys))) σ.next (.row j (L + ys.length) 0 (L + ys.length)):=by
    intro base cap old hv' hcap hgr hold hro
    subst hv'
    obtain ⟨newCap,W1,q1,q2,q3⟩:=quw (P:=P) (W:=W) (ty:=ty) h0 h1 hu hu1 hi hi3 base L cap ad ys.length xc old c hcap (by rw [hi2];exact hb8) (by rw [hi2];exact hpos) (by rw [hi1];exact hold) (by rw [hi1];exact r1)
    have hsz1:W1.heap.size = W.heap.size:=by rw [q2.heap]
    refine row_rebind (h.same q2) (es':=es ++ ys) (cap:=newCap) (c:=old ++ c ++ Builtin.zeroCells ed.zero.cells (newCap - (L + ys.length))) e hj (by omega) hes ?_ (by omega) (by omega) q1.2 (fun i k hi hk=>?_) hlen.symm (W0:=W) ?_
    · simp only [Array.size_append,qo5,hro.1,r2.1,hzs,hL]
      rw [← Nat.add_mul,← Nat.add_mul]
      exact Nat.mul_le_mul_right _ (by omega)
    · have:=qqu (W:=W) (ok:=okF w0 okA hb σ.heap W) hro r2 (Builtin.zeroCells ed.zero.cells (newCap - (L + ys.length))) i k hi hk
      rw [qpp q2]
      exact this.same q2
    · rw [hsz1];exact q3
  cases hv with
  | rowStale v e1 e2 _=>rw [hj] at e1;cases e1;omega
  | rowEmpty e1 e2 e3=>omega
  | rowNil e1 e2 =>
    rw [hj] at e1;cases e1
    by_cases hy:ys = []
    · subst hy
      have r1':=r1 W (qbd.refl W)
      simp only [List.append_nil,List.length_nil,Nat.add_zero] at *
      rw [qsx _ _ _ hj]
      refine ⟨.slice none 0 0,W,hb,?_,h,.rowNil hj e2⟩
      exact app_room_nil h0 h1 hu hu1 hi ad xc c (by rw [hi1];exact r1')
    · have hyl:0 < ys.length:=List.length_pos_iff.2 hy
      exact grow none 0 #[] rfl (by omega) (by omega) (fun _ _=>rfl) ⟨by simp,fun i k hi=>by simp at hi⟩
  | @row _ _ _ _ b _ cap bs _ e1 e2 e3 e4 e5 e6 e7 e8 e9 =>
    rw [hj] at e1;cases e1
    rcases g with ⟨g1,g2⟩ | ⟨b',vals,T,fr,g1,g2,g3,g4,g5⟩
    · rw [g2] at e3;cases e3
    · have hbb:=Option.some.inj (g1.symm.trans e3)
      subst hbb
      have hbs:bs = vals.size:=by rw [qk1 g2] at e4;exact (Option.some.inj e4).symm
      subst hbs
      simp only [Nat.zero_mul,Nat.zero_add] at *
      have hro:∃ old,(∀ w,qbd W w→(Builtin.firstCells ed.size L (.slice (some ⟨b',0,none⟩) L cap)).run P w = .ok old w)∧RelF W (okF w0 okA hb σ.heap W) ed.size es old:=by
        obtain ⟨old,q1,q2⟩:=qqd (P:=P) (W:=W) (ok:=okF w0 okA hb σ.heap W) (ys:=es) (ad:=⟨b',0,none⟩) (b:=b') (o:=0) (fun i k=>vals.getD (i * ed.size + k) undef) rfl hpz
          (fun i k hi' hk=>by
            have hbd:(i + 1) * ed.size ≤ es.length * ed.size:=Nat.mul_le_mul_right _ hi'
            rw [Nat.add_mul,Nat.one_mul] at hbd
            rw [cell_of_heap g2,Nat.zero_add]
            exact qf7 (by omega))
          (fun i k hi' hk=>g5 i k hi' hk)
        exact ⟨old,by rw [hL] at q1;simpa [Builtin.firstCells] using q1,q2⟩
      obtain ⟨old,q1,q2⟩:=hro
      by_cases hroom:L + ys.length ≤ cap
      · have hbd:(L + ys.length) * ed.size ≤ cap * ed.size:=Nat.mul_le_mul_right _ hroom
        have hcl:c.toList.length = ys.length * ed.size:=by rw [← r2.1];simp
        have hfit:L * ed.size + c.toList.length ≤ vals.size:=by rw [hcl,← Nat.add_mul];omega
        obtain ⟨W',s1,s2⟩:=qhv (P:=P) (b:=b') (o:=L * ed.size) c.toList 0 vals W g2 (by omega) g4 (qvl r2)
        rw [Nat.add_zero] at s2
        have hbox:∀ cs',σ.heap j = .box cs'→∃ cs'',AObj.row ed.size (es ++ ys) = .box cs'':=fun _ he=>by rw [hj] at he;cases he
        have hrow:∀ sz es',σ.heap j = .row sz es'→∃ es'',AObj.row ed.size (es ++ ys) = .row sz es''∧es'.length ≤ es''.length:=fun sz es' he'=>by
          rw [hj] at he';cases he';exact ⟨_,rfl,by simp⟩
        have mv:=qgt.store (w0:=w0) (okA:=okA) (hb:=hb) (H:=σ.heap) (ob:=.row ed.size (es ++ ys)) s2.g hjn g1 (by simp) hbox hrow (fun _ _ he=>by rw [hj] at he;cases he)
        have hfin:=app_room (P:=P) (ty:=ty) h0 h1 hu hu1 hi b' 0 L cap ad ys.length xc c W' (by rw [hi1];exact r1 W (qbd.refl W)) (by rw [hi1,Nat.zero_add];exact s1) hroom
        have hfin':=hfin
        obtain ⟨v',T',fr',p1,p2,p3⟩:=s2.here
        rw [g2] at p1
        simp only [Option.some.injEq,Obj.cells.injEq] at p1
        obtain ⟨rfl,rfl,rfl⟩:=p1
        refine ⟨_,W',hb,hfin,h.store s2.g hjn g1 (ob:=.row ed.size (es ++ ys)) (by simp) hbox hrow (fun _ _ he=>by rw [hj] at he;cases he) ?_,?_⟩
        · unfold qh5
          rw [upd_same]
          refine ⟨hes,.inr ⟨b',_,_,_,g1,p2,?_,by rw [p3];exact g4,fun i k hi' hk=>?_⟩⟩
          · rw [p3,hlen];omega
          · rw [hlen] at hi'
            have hbi:(i + 1) * ed.size ≤ (L + ys.length) * ed.size:=Nat.mul_le_mul_right _ hi'
            rw [Nat.add_mul,Nat.one_mul] at hbi
            rw [qmo _ _ _ _ (by omega),hcl]
            by_cases hiL:i < L
            · have hbl:(i + 1) * ed.size ≤ L * ed.size:=Nat.mul_le_mul_right _ hiL
              rw [Nat.add_mul,Nat.one_mul] at hbl
              rw [if_neg (by omega)]
              have ee:(es ++ ys).getD i [] = es.getD i []:=by rw [List.getD_eq_getElem?_getD,List.getElem?_append_left (by omega),← List.getD_eq_getElem?_getD]
              rw [ee]
              exact (g5 i k (by omega) hk).mono mv.toMoves
            · have ei:i * ed.size = L * ed.size + (i - L) * ed.size:=by rw [← Nat.add_mul];congr 1;omega
              have hb2:(i - L + 1) * ed.size ≤ ys.length * ed.size:=Nat.mul_le_mul_right _ (by omega)
              rw [Nat.add_mul,Nat.one_mul] at hb2
              rw [if_pos (by omega)]
              have ee:(es ++ ys).getD i [] = ys.getD (i - L) []:=by rw [List.getD_eq_getElem?_getD,List.getElem?_append_right (by omega),← List.getD_eq_getElem?_getD,hL]
              have ec:c.toList.getD (i * ed.size + k - L * ed.size) undef = c.getD ((i - L) * ed.size + k) undef:=by
                rw [show i * ed.size + k - L * ed.size = (i - L) * ed.size + k by omega]
                simp [List.getD_eq_getElem?_getD,Array.getD_eq_getD_getElem?]
              rw [ee,ec]
              exact (r2.2 _ k (by omega) hk).mono mv.toMoves
        · have:=Rel.row (W:=W') (hb:=hb) (H:=upd σ.heap j (.row ed.size (es ++ ys))) (ok:=okF w0 okA hb (upd σ.heap j (.row ed.size (es ++ ys))) W')
            (j:=j) (L:=L + ys.length) (off:=0) (len:=L + ys.length) (cap:=cap) (upd_same _ _ _) hlen g1 (qk1 p2) (by omega) hroom (by rw [p3];simpa using e7) (by omega) e9
          simpa using this
      · by_cases hy:ys.length = 0
        · omega
        · exact grow (some ⟨b',0,none⟩) cap old rfl (by omega) (by omega) q1 q2
theorem qqy {α:Type}:∀ (zs l:List α) (o:Nat),(setL l o zs).length = l.length
  | [],l,o=>rfl
  | z :: r,l,o=>by rw [setL,qqy r];simp
theorem qty {α:Type} (d:α):∀ (zs l:List α) (o i:Nat),i < l.length→(setL l o zs).getD i d = if o ≤ i∧i < o + zs.length then zs.getD (i - o) d else l.getD i d
  | [],l,o,i,hi=>by rw [setL,if_neg (by simp only [List.length_nil];omega)]
  | z :: r,l,o,i,hi=>by
    rw [setL,qty d r _ _ _ (by simpa using hi)]
    by_cases h1:o + 1 ≤ i∧i < o + 1 + r.length
    · rw [if_pos h1,if_pos (by simp;omega)]
      have:i - o = (i - (o + 1)) + 1:=by omega
      rw [this];simp
    · rw [if_neg h1]
      by_cases h2:i = o
      · subst h2
        rw [if_pos (by simp)]
        simp [List.getD_eq_getElem?_getD,hi]
      · rw [if_neg (by simp;omega)]
        simp only [List.getD_eq_getElem?_getD]
        rw [List.getElem?_set_ne (fun h=>h2 h.symm)]
theorem qvp {α:Type} {q:α→Prop}:∀ (zs l:List α) (o:Nat),(∀ y ∈ l,q y)→(∀ y ∈ zs,q y)→∀ y ∈ setL l o zs,q y
  | [],l,o,h,_=>h
  | z :: r,l,o,h,h'=>qvp r (l.set o z) (o + 1) (fun y hy=>by
      rcases List.mem_or_eq_of_mem_set hy with h1 | h1
      · exact h y h1
      · subst h1;exact h' _ (by simp)) (fun y hy=>h' y (by simp [hy]))
theorem qt9 {ts:Array TypeId} {t e ty:TypeId} {i:TypeInfo} (h0:ts[0]? = some t) (ht:P.underlying t = some (.slice e)) (hi:P.info? e = some i) (a0:Addr) (dl dc n xc:Nat) (xa:Option Addr) (c:Array Value) (W':World)
    (hfc:(Builtin.firstCells i.size (min n dl) (.slice xa n xc)).run P W = .ok c W) (hst:(storeCells a0 c.toList 0).run P W = .ok () W') :
    (Builtin.copy_ ts ty #[.slice (some a0) dl dc,.slice xa n xc]).run P W = .ok (goInt ((min n dl:Nat):Int)) W':=by
  have hm:Nat.min n dl = min n dl:=rfl
  simp [Builtin.copy_,h0,run_underlying ht,sizeOf,typeInfo,hi,Builtin.lenOf,hm,hfc,hst]
include hτ in
theorem copy_row (h:Sim w0 A okA hb σ a W) {ts:Array TypeId} {t e ty:TypeId} {td ed:TD} (h0:ts[0]? = some t) (ht:τ t = some td) (hd:td.desc = .slice e) (he:τ e = some ed) (hpz:0 < ed.size)
    {x:V} {u v:Value} {p:Prop} {j L off len:Nat} {es ys:List (List D)} (hx:RelS w0 okA hb σ.heap W x u) (hse:qg9 σ.heap x = some (p,ys)) (hp:p)
    (hj:σ.heap j = .row ed.size es) (hL:es.length = L) (hle:off + len ≤ L) (hpos:0 < L) (hv:RelS w0 okA hb σ.heap W (.row j L off len) v) (hys:∀ y ∈ ys,y.length = ed.size) :
    EvH P W w0 A okA (Builtin.copy_ ts ty #[v,u]) a σ (upd σ.heap j (.row ed.size (setL es off (ys.take (min ys.length len))))) σ.next (.d (.int .i64 ((min ys.length len:Nat):Int))):=by
  obtain ⟨hu,_⟩:=hτ t td ht
  obtain ⟨_,i,hi,hi1,hi2,hi3⟩:=hτ e ed he
  rw [hd] at hu
  obtain ⟨ad,xc,c,rfl,r1,r2⟩:=qq9 (P:=P) h.heap hx hse hp hys hpz (m:=min ys.length len) (Nat.min_le_left _ _)
  obtain ⟨g0,g⟩:=qtx h.heap hj
  have hjn:σ.heap j ≠ .none:=by rw [hj];simp
  generalize hm:min ys.length len = m at *
  have hml:m ≤ len:=by omega
  have hzl:(ys.take m).length = m:=by rw [List.length_take];omega
  cases hv with
  | rowStale v e1 e2 _=>rw [hj] at e1;cases e1;omega
  | rowNil e1 e2=>rw [hj] at e1;cases e1;simp at hL;omega
  | @rowEmpty _ _ _ _ cap b o _ e1 e2 e3 =>
    obtain rfl:m = 0:=by omega
    have hc0:c.toList = []:=by
      have:=r2.1
      simp at this
      rw [this]
    have hst:(storeCells (⟨b,o,none⟩:Addr) c.toList 0).run P W = .ok () W:=by rw [hc0];rfl
    have hr:=qt9 (P:=P) (W:=W) (ty:=ty) h0 hu hi ⟨b,o,none⟩ 0 cap ys.length xc ad c W (by rw [hi1,hm];exact r1 W (qbd.refl W)) hst
    rw [hm] at hr
    have hself:upd σ.heap j (.row ed.size (setL es off (ys.take 0))) = σ.heap:=qsx _ _ _ hj
    rw [hself]
    exact ⟨_,W,hb,hr,h,.d (.int _ _)⟩
  | @row _ _ _ _ b _ cap bs _ e1 e2 e3 e4 e5 e6 e7 e8 e9 =>
    rw [hj] at e1;cases e1
    rcases g with ⟨g1,g2⟩ | ⟨b',vals,T,fr,g1,g2,g3,g4,g5⟩
    · subst g1;simp at hL;omega
    · have hbb:=Option.some.inj (g1.symm.trans e3)
      subst hbb
      have hcl:c.toList.length = m * ed.size:=by have:=r2.1;rw [hzl] at this;simpa using this
      have hbd:(off + m) * ed.size ≤ es.length * ed.size:=Nat.mul_le_mul_right _ (by omega)
      rw [Nat.add_mul] at hbd
      have hfit:off * ed.size + c.toList.length ≤ vals.size:=by omega
      obtain ⟨W',s1,s2⟩:=qhv (P:=P) (b:=b') (o:=off * ed.size) c.toList 0 vals W g2 (by omega) g4 (qvl r2)
      rw [Nat.add_zero] at s2
      have hlen:(setL es off (ys.take m)).length = es.length:=qqy _ _ _
      have hbox:∀ cs',σ.heap j = .box cs'→∃ cs'',AObj.row ed.size (setL es off (ys.take m)) = .box cs'':=fun _ he=>by rw [hj] at he;cases he
      have hrow:∀ sz es',σ.heap j = .row sz es'→∃ es'',AObj.row ed.size (setL es off (ys.take m)) = .row sz es''∧es'.length ≤ es''.length:=fun sz es' he'=>by
        rw [hj] at he';cases he';exact ⟨_,rfl,by rw [hlen];exact Nat.le_refl _⟩
      have mv:=qgt.store (w0:=w0) (okA:=okA) (hb:=hb) (H:=σ.heap) (ob:=.row ed.size (setL es off (ys.take m))) s2.g hjn g1 (by simp) hbox hrow (fun _ _ he=>by rw [hj] at he;cases he)
      have hr:=qt9 (P:=P) (W:=W) (ty:=ty) h0 hu hi ⟨b',off * ed.size,none⟩ len cap ys.length xc ad c W' (by rw [hi1,hm];exact r1 W (qbd.refl W)) s1
      rw [hm] at hr
      obtain ⟨v',T',fr',p1,p2,p3⟩:=s2.here
      rw [g2] at p1
      simp only [Option.some.injEq,Obj.cells.injEq] at p1
      obtain ⟨rfl,rfl,rfl⟩:=p1
      refine ⟨_,W',hb,hr,h.store s2.g hjn g1 (ob:=.row ed.size (setL es off (ys.take m))) (by simp) hbox hrow (fun _ _ he=>by rw [hj] at he;cases he) ?_,.d (.int _ _)⟩
      unfold qh5
      rw [upd_same]
      refine ⟨qvp _ _ _ g0 (fun y hy=>hys y (List.mem_of_mem_take hy)),.inr ⟨b',_,_,_,g1,p2,?_,by rw [p3];exact g4,fun i k hi' hk=>?_⟩⟩
      · rw [p3,hlen];omega
      · rw [hlen] at hi'
        have hbi:(i + 1) * ed.size ≤ es.length * ed.size:=Nat.mul_le_mul_right _ hi'
        rw [Nat.add_mul,Nat.one_mul] at hbi
        rw [qmo _ _ _ _ (by omega),hcl,qty _ _ _ _ _ hi',hzl]
        by_cases hin:off ≤ i∧i < off + m
        · have ei:i * ed.size = off * ed.size + (i - off) * ed.size:=by rw [← Nat.add_mul];congr 1;omega
          have hb2:(i - off + 1) * ed.size ≤ m * ed.size:=Nat.mul_le_mul_right _ (by omega)
          rw [Nat.add_mul,Nat.one_mul] at hb2
          rw [if_pos hin,if_pos (by omega)]
          have ec:c.toList.getD (i * ed.size + k - off * ed.size) undef = c.getD ((i - off) * ed.size + k) undef:=by
            rw [show i * ed.size + k - off * ed.size = (i - off) * ed.size + k by omega]
            simp [List.getD_eq_getElem?_getD,Array.getD_eq_getD_getElem?]
          rw [ec]
          exact (r2.2 _ k (by rw [hzl];omega) hk).mono mv.toMoves
        · rw [if_neg hin]
          have hnot:¬(off * ed.size ≤ i * ed.size + k∧i * ed.size + k < off * ed.size + m * ed.size):=by
            rintro ⟨q1,q2⟩
            apply hin
            constructor
            · rcases Nat.lt_or_ge i off with hlt | hge
              · exfalso
                have:(i + 1) * ed.size ≤ off * ed.size:=Nat.mul_le_mul_right _ hlt
                rw [Nat.add_mul,Nat.one_mul] at this
                omega
              · exact hge
            · rcases Nat.lt_or_ge i (off + m) with hlt | hge
              · exact hlt
              · exfalso
                have:(off + m) * ed.size ≤ i * ed.size:=Nat.mul_le_mul_right _ hge
                rw [Nat.add_mul] at this
                omega
          rw [if_neg hnot]
          exact (g5 i k hi' hk).mono mv.toMoves
include hτ in
theorem makeSlice_sound (h:Sim w0 A okA hb σ a W) {t e:TypeId} {td ed:TD} (ht:τ t = some td) (hd:td.desc = .slice e) (he:τ e = some ed) {ds:List D} (hds:allD ((qlj ed.zero).cells.getD [.junk]) = some ds) (hl:ds.length = ed.size) (hz:0 < ed.size) {k k':IntKind} {n:Int} (h0:0 ≤ n) (hb8:n * ed.bytes ≤ 140737488355328) (hpos:0 < ed.bytes) :
    EvH P W w0 A okA (Instr.makeSlice t (.int k n) (.int k' n)) a σ (upd σ.heap σ.next (.row ed.size (List.replicate n.toNat ds))) (σ.next + 1) (.row σ.next n.toNat 0 n.toNat):=by
  obtain ⟨m,rfl⟩:∃ m:Nat,n = m:=⟨n.toNat,by omega⟩
  obtain ⟨hu,_⟩:=hτ t td ht
  obtain ⟨_,i,hi,hi1,hi2,hi3⟩:=hτ e ed he
  rw [hd] at hu
  have hbN:m * ed.bytes ≤ 140737488355328:=by
    have:((m * ed.bytes:Nat):Int) ≤ 140737488355328:=by rw [Int.natCast_mul];exact hb8
    omega
  have hm:m ≤ 140737488355328:=Nat.le_trans (Nat.le_mul_of_pos_right _ hpos) hbN
  have hmx:(140737488355328:Nat) ≤ maxLen:=by decide
  obtain ⟨cs,hcs⟩:∃ cs,(qlj ed.zero).cells = some cs:=by
    cases hc:(qlj ed.zero).cells with
    | none=>rw [hc] at hds;simp [allD,V.toD] at hds
    | some cs=>exact ⟨cs,rfl⟩
  rw [hcs] at hds
  simp only [Option.getD_some] at hds
  have hcd:=qn4 cs ds hds
  obtain ⟨z1,z2⟩:=qko (W:=W) (hb:=hb) (H:=σ.heap) (ok:=okF w0 okA hb σ.heap W) (qkl ed.zero) hcs
  have hzs:ed.zero.cells.size = ed.size:=by rw [← z1.1,hcd];simpa using hl
  have hw:IntKind.i64.wrap (m:Int) = m:=by
    simp only [IntKind.wrap,IntKind.signed,IntKind.bits]
    simp
    omega
  have hget:∀ i,i < m * ed.size→((Array.range (m * ed.size)).map (ed.zero.cells[· % ed.zero.cells.size]!)).getD i undef = ed.zero.cells.getD (i % ed.size) undef:=by
    intro i hi'
    have hmod:i % ed.size < ed.size:=Nat.mod_lt _ hz
    rw [Array.getD_eq_getD_getElem?,Array.getElem?_map]
    simp only [Array.getElem?_range,hi',if_true,Option.map_some,Option.getD_some,hzs]
    rw [getElem!_pos _ _ (by rw [hzs];exact hmod),Array.getD_eq_getD_getElem?,Array.getElem?_eq_getElem (by rw [hzs];exact hmod)]
    rfl
  refine qum h e (es:=List.replicate m ds) (sz:=ed.size) (cap:=m) (c:=(Array.range (m * ed.size)).map (ed.zero.cells[· % ed.zero.cells.size]!)) (len:=m) (fun y hy=>by rw [List.eq_of_mem_replicate hy];exact hl) (by simp) (by simp) (by simp;omega) (by omega) (fun i k hi' hk=>?_) (by simp) (W0:=W) ?_
  · have hi2':i < m:=by simpa using hi'
    have hbd:(i + 1) * ed.size ≤ m * ed.size:=Nat.mul_le_mul_right _ hi2'
    rw [Nat.add_mul,Nat.one_mul] at hbd
    rw [hget _ (by omega),show (i * ed.size + k) % ed.size = k by rw [Nat.mul_comm,Nat.mul_add_mod,Nat.mod_eq_of_lt hk]]
    have e1:(List.replicate m ds).getD i [] = ds:=by rw [List.getD_eq_getElem?_getD,List.getElem?_replicate,if_pos hi2'];rfl
    rw [e1]
    have:=z1.2 k (by rw [hzs];exact hk)
    rw [hcd] at this
    have e2:(ds.map V.d).getD k .junk = .d (ds.getD k .nilp):=by
      have hlt:k < ds.length:=by omega
      rw [List.getD_eq_getElem?_getD,List.getElem?_map,List.getElem?_eq_getElem hlt,List.getD_eq_getElem?_getD,List.getElem?_eq_getElem hlt];rfl
    rw [e2] at this
    cases this with | d this=>exact this
  · have h1:¬ ((281474976710656:Int) < (ed.bytes:Int) * m):=by
      rw [Int.mul_comm];omega
    have hai:∀ (k:IntKind) (w:World),(asInt (.int k (m:Int))).run P w = .ok (m:Int) w:=fun k w=>rfl
    have h2:¬ ((m:Int) < 0):=by omega
    have hz0:m * ed.size = 0→(Array.range (m * ed.size)).map ((#[]:Array Value)[· % (#[]:Array Value).size]!) = (Array.range (m * ed.size)).map (ed.zero.cells[· % ed.zero.cells.size]!):=fun h=>by rw [h];simp
    simp only [Instr.makeSlice,Sem.run_bind,run_underlying hu,Result.andThen_ok,hai,typeInfo,hw,hi2]
    by_cases hn:m * ed.size = 0
    · simp [hi,hi2,hi1,sizeOf,typeInfo,h1,h2,hn,askRoom,newRow]
      have:∀ f:Nat→Value,(Array.range 0).map f = #[]:=fun f=>by apply Array.eq_empty_of_size_eq_zero;simp
      rw [this,this]
    · simp [hi,hi2,hi1,sizeOf,typeInfo,h1,h2,hn,askRoom,newRow,zeroValue,hi3]
end
end Go.Proofs.YtiegopnofbgoaaaGreat.AWN

namespace Go.Proofs.YtiegopnofbgoaaaGreat.AWN
open Go
section
variable {P:Program} {τ:Tab} (hτ:qfl P τ) {w0:World} {A:Args} {okA:Nat→Prop} {hb:Handle} {W:World} {σ:St} {a:Act}
def Owes (P:Program) (w0:World) (A:Args) (okA:Nat→Prop) (hb:Handle) (σ:St) (a:Act) (W:World) (o:Oper):OR→Prop
  | .val v=>Does P o a W (fun cv W'=>qbd W W'∧RelS w0 okA hb σ.heap W v cv)
  | .valH v H n=>Does P o a W (fun cv W'=>∃ hb',Sim w0 A okA hb' { σ with heap:=H,next:=n } a W'∧RelS w0 okA hb' H W' v cv)
  | .need p v=>p→Does P o a W (fun cv W'=>qbd W W'∧RelS w0 okA hb σ.heap W v cv)
  | .needH p v H n=>p→Does P o a W (fun cv W'=>∃ hb',Sim w0 A okA hb' { σ with heap:=H,next:=n } a W'∧RelS w0 okA hb' H W' v cv)
  | .elem p es i k=>∀ e v,p→es[i]? = some e→k e = some v→Does P o a W (fun cv W'=>qbd W W'∧RelS w0 okA hb σ.heap W v cv)
  | .elemH p es i k=>∀ e H,p→es[i]? = some e→k e = some H→Does P o a W (fun cv W'=>∃ hb',Sim w0 A okA hb' { σ with heap:=H } a W'∧cv = undef)
  | .pick R k=>Does P o a W (fun cv W'=>∃ r,R r∧qbd W W'∧RelS w0 okA hb σ.heap W (k r) cv)
  | .call f args=>∃ vals,(∀ w,(execOp a.eval o).run P w = (callFunc f vals).run P w)∧RelL W hb σ.heap (okF w0 okA hb σ.heap W) args vals
  | .stuck=>True
theorem owes_of_v {o:Oper} {s:Sem Value} {r:OR} (hrun:(execOp a.eval o).run P W = (s.run P W).andThen fun v w=>.ok (.value v) w) (h:ORv P W s (RelS w0 okA hb σ.heap W) r)
    (hr:∀ f args,r ≠ .call f args) (hr2:∀ v H n,r ≠ .valH v H n) (hr3:∀ p v H n,r ≠ .needH p v H n) (hr4:∀ p es i k,r ≠ .elemH p es i k):Owes P w0 A okA hb σ a W o r:=by
  have key:∀ {Q:Value→Prop},Ev P W s Q→Does P o a W (fun cv W'=>qbd W W'∧Q cv):=fun ⟨cv,W',e1,e2,e3⟩=>⟨cv,W',.inl (by rw [hrun,e1];rfl),e2,e3⟩
  cases r with
  | val v=>exact key h
  | need p v=>exact fun hp=>key (h hp)
  | elem p es i k=>exact fun e v hp he hk=>key (h e v hp he hk)
  | pick R k =>
    obtain ⟨cv,W',e1,e2,r,e3,e4⟩:=h
    exact ⟨cv,W',.inl (by rw [hrun,e1];rfl),r,e3,e2,e4⟩
  | call f args=>exact absurd rfl (hr f args)
  | valH v H n=>exact absurd rfl (hr2 v H n)
  | needH p v H n=>exact absurd rfl (hr3 p v H n)
  | elemH p es i k=>exact absurd rfl (hr4 p es i k)
  | stuck=>trivial
theorem qjj {o:Oper} {s:Sem Value} {H:Nat→AObj} {n:Nat} {v:V} (hrun:(execOp a.eval o).run P W = (s.run P W).andThen fun v w=>.ok (.value v) w) (h:EvH P W w0 A okA s a σ H n v) :
    Does P o a W (fun cv W'=>∃ hb',Sim w0 A okA hb' { σ with heap:=H,next:=n } a W'∧RelS w0 okA hb' H W' v cv):=by
  obtain ⟨cv,W',hb',e1,e2,e3⟩:=h
  exact ⟨cv,W',.inl (by rw [hrun,e1];rfl),hb',e2,e3⟩
def OR.plain:OR→Bool
  | .call _ _ | .valH _ _ _ | .needH _ _ _ _ | .elemH _ _ _ _=>false
  | _=>true
theorem qf6 {o:Oper} {s:Sem Value} {r:OR} (hrun:(execOp a.eval o).run P W = (s.run P W).andThen fun v w=>.ok (.value v) w) (h:ORv P W s (RelS w0 okA hb σ.heap W) r) (hr:r.plain = true):Owes P w0 A okA hb σ a W o r :=
  owes_of_v hrun h (fun _ _ e=>by subst e;simp [OR.plain] at hr) (fun _ _ _ e=>by subst e;simp [OR.plain] at hr) (fun _ _ _ _ e=>by subst e;simp [OR.plain] at hr) (fun _ _ _ _ e=>by subst e;simp [OR.plain] at hr)
theorem qpc (v:Option V):(qry v).plain = true:=by cases v <;> rfl
theorem pick_sound {c x y:V} {u v w:Value} (hc:RelS w0 okA hb σ.heap W c u) (hx:RelS w0 okA hb σ.heap W x v) (hy:RelS w0 okA hb σ.heap W y w) :
    ORv P W (do pure (if ← asBool u then v else w)) (RelS w0 okA hb σ.heap W) (qxc c x y)∧(qxc c x y).plain = true:=by
  unfold qxc
  split
  · obtain rfl:=qk0 hc
    obtain rfl:=qk0 hx
    obtain rfl:=qk0 hy
    rename_i b1 b2 b3
    refine ⟨.pure' (cv:=.bool (bif b1 then b2 else b3)) ?_ (qi2 _),rfl⟩
    cases b1 <;> simp [asBool]
  · obtain rfl:=qk0 hc
    exact ⟨.pure' (by simp [asBool]) hx,rfl⟩
  · obtain rfl:=qk0 hc
    exact ⟨.pure' (by simp [asBool]) hy,rfl⟩
  · exact ⟨trivial,rfl⟩
theorem load_plain (td:TD) (H:Nat→AObj) (x:V):(qsj H td x).plain = true:=by
  unfold qsj
  repeat' split
  all_goals first | exact qpc _ | rfl
theorem fieldPart_sound {s:TypeId} {f off:Nat} {fd:TD} (hτ:qfl P τ) (h:qly τ s f = some (off,fd)) {cs:List V} {u:Value} (hx:RelS w0 okA hb σ.heap W (.agg cs) u):ORv P W (Instr.field s u f) (RelS w0 okA hb σ.heap W) (qry (qp6 fd cs off)):=by
  obtain ⟨fs,fld,h1,h2,h3,h4⟩:=qqc hτ h
  cases hx with
  | @agg _ c e1 e2 =>
    cases hp:qp6 fd cs off with
    | none=>trivial
    | some v =>
      have hi:=qox hτ h4
      have hz:=qk3 hτ h4
      unfold qp6 at hp
      cases hagg:qpa fd.desc with
      | true =>
        rw [hagg] at hp
        simp only [cond_true] at hp
        cases hle:Nat.ble (off + fd.size) cs.length with
        | false=>rw [hle] at hp;cases hp
        | true =>
          rw [hle] at hp
          simp only [cond_true,Option.some.injEq] at hp
          subst hp
          have hle':off + fd.size ≤ cs.length:=by simpa using hle
          refine .pure' (cv:=.agg (c.extract off (off + fd.size))) ?_ ?_
          · simp [Instr.field,h1,h2,asAgg,part,hi,hagg,hz,h3]
          · refine .agg (by simp;omega) (fun i hi'=>?_)
            have hi2:i < fd.size:=by simp at hi';omega
            rw [qfk _ _ _ _ _ hi2]
            have:(c.extract off (off + fd.size)).getD i undef = c.getD (off + i) undef:=by
              rw [Array.getD_eq_getD_getElem?,Array.getElem?_extract,if_pos (by omega),← Array.getD_eq_getD_getElem?]
            rw [this]
            exact e2 _ (by omega)
      | false =>
        rw [hagg] at hp
        simp only [cond_false] at hp
        have hlt:off < cs.length:=(List.getElem?_eq_some_iff.1 hp).1
        refine .pure' (cv:=c.getD off undef) ?_ ?_
        · have:=qf7 (vals:=c) (i:=off) (by omega)
          simp only [Instr.field,Sem.run_bind,h1,h2,Result.andThen_ok,asAgg,Sem.run_pure,part,hi,hagg,h3,this,Bool.false_eq_true,if_false]
        · have:=e2 off (by omega)
          rwa [getD_some hp] at this
theorem ptrAdd_plain (H:Nat→AObj) (x:V) (n:Nat):(qpd H x n).plain = true:=by
  unfold qpd;repeat' split
  all_goals rfl
theorem indexAddr_plain (τ:Tab) (H:Nat→AObj) (t:TypeId) (x i:V):(qkj τ H t x i).plain = true:=by
  unfold qkj;repeat' split
  all_goals first | rfl | (cases Nat.beq _ _ <;> rfl)
theorem index_plain (τ:Tab) (t:TypeId) (x i:V):(qtj τ t x i).plain = true:=by
  unfold qtj;repeat' split
  all_goals first | rfl | (cases (_ || _:Bool) <;> rfl)
theorem slice_plain (τ:Tab) (H:Nat→AObj) (t:TypeId) (x:V) (l h m:Option V):(qpg τ H t x l h m).plain = true:=by
  unfold qpg;repeat' split
  all_goals first | rfl | (cases Nat.beq _ _ <;> rfl)
theorem conv_plain (τ:Tab) (s d:TypeId) (x:V):(qwg τ s d x).plain = true:=by
  unfold qwg;repeat' split
  all_goals rfl
theorem un_plain (op:UnOp) (x:V):(unV op x).plain = true:=by
  unfold unV;repeat' split
  all_goals rfl
theorem bin_plain (τ:Tab) (op:BinOp) (t:TypeId) (x y:V):(binV τ op t x y).plain = true:=by
  unfold binV
  split
  · cases qoa op
    · simp only [cond_false]
      cases ikEq _ _
      · rfl
      · cases op <;> rfl
    · cases op <;> rfl
  · cases fkEq _ _
    · rfl
    · cases op <;> rfl
  · cases fkEq _ _
    · rfl
    · cases op <;> rfl
  · cases op <;> rfl
  · split
    · split
      · split <;> rfl
      · rfl
    · rfl
  · rfl
theorem len_plain (τ:Tab) (H:Nat→AObj) (t:TypeId) (x:V):(lenV τ H t x).plain = true:=by
  unfold lenV;repeat' split
  all_goals rfl
theorem qtn (x y:V) (m:Bool):(qw0 x y m).plain = true:=by
  unfold qw0;repeat' split
  all_goals first | rfl | (cases ikEq _ _ <;> rfl)
include hτ in
theorem append_owes (h:Sim w0 A okA hb σ a W) {o:Oper} {ts:Array TypeId} {ty:TypeId} {s x:V} {u v:Value} (hs:RelS w0 okA hb σ.heap W s v) (hx:RelS w0 okA hb σ.heap W x u)
    (hrun:(execOp a.eval o).run P W = ((Builtin.append_ ts ty #[v,u]).run P W).andThen fun v w=>.ok (.value v) w):Owes P w0 A okA hb σ a W o (qu7 τ σ.heap σ.next ts s x):=by
  unfold qu7
  split
  · rename_i t t1 h0 h1
    split
    · rename_i td td1 ht ht1
      split
      · rename_i e hd
        split
        · rename_i ed px ys he hse
          cases hq:(!qsi td1.desc || !Nat.beq ed.zero.cells.size ed.size || Nat.beq ed.size 0) with
          | true=>trivial
          | false =>
            simp only [Bool.or_eq_false_iff,Bool.not_eq_false'] at hq
            obtain ⟨⟨q1,q2⟩,q3⟩:=hq
            obtain ⟨e1,hd1⟩:∃ e1,td1.desc = .slice e1:=by
              cases hdd:td1.desc <;> simp [qsi,hdd] at q1
              exact ⟨_,rfl⟩
            have hzs:ed.zero.cells.size = ed.size:=Nat.eq_of_beq_eq_true q2
            have hpz:0 < ed.size:=by
              rcases Nat.eq_zero_or_pos ed.size with h0' | h0'
              · rw [h0'] at q3;simp at q3
              · exact h0'
            simp only [cond_false]
            split
            · intro ⟨p1,p2,p3,p4,p5⟩
              cases hs with
              | d hs=>cases hs with
                | nils =>
                  have:=qr9 (P:=P) (es:=[]) (base:=none) (old:=#[]) (ty:=ty) hτ h h0 h1 ht ht1 hd hd1 he hzs hpz hx hse p1 (by simpa using p2) p3 p4 (by simp) p5 (fun _ _=>rfl) ⟨by simp,fun i k hi=>by simp at hi⟩
                  simp only [List.nil_append,List.length_nil,Nat.zero_add] at this
                  exact qjj hrun this
            · rename_i j L off len
              split
              · rename_i sz es hj
                cases hz:Nat.beq sz ed.size with
                | false=>trivial
                | true =>
                  have hzz:sz = ed.size:=Nat.eq_of_beq_eq_true hz
                  subst hzz
                  intro ⟨p1,p2,p3,p4,p5,p6,p7⟩
                  subst p3;subst p4
                  exact qjj hrun (append_row (P:=P) (ty:=ty) hτ h h0 h1 ht ht1 hd hd1 he hzs hpz hx hse p1 hj p2 hs p5 p6 p7)
              · trivial
            · rename_i es
              intro ⟨p1,p2,p3,p4,p5,p6⟩
              obtain ⟨ad,cap,old,rfl,r1,r2⟩:=qoh (P:=P) h.heap (p:=True) hs rfl trivial p5 hpz
              have hcap:cap = es.length:=by
                cases hs with
                | d hs=>cases hs with
                  | slnil=>rfl
                  | sle=>rfl
                  | sl sz vals g1 g2 g3 g4 gm g5 g6 g7=>exact g4 rfl
              subst hcap
              exact qjj hrun (qr9 (P:=P) (ty:=ty) hτ h h0 h1 ht ht1 hd hd1 he hzs hpz hx hse p1 p2 p3 p4 p5 p6 r1 r2)
            · trivial
        · trivial
      · trivial
    · trivial
  · trivial
include hτ in
theorem copy_owes (h:Sim w0 A okA hb σ a W) {o:Oper} {ts:Array TypeId} {ty:TypeId} {s x:V} {u v:Value} (hs:RelS w0 okA hb σ.heap W s v) (hx:RelS w0 okA hb σ.heap W x u)
    (hrun:(execOp a.eval o).run P W = ((Builtin.copy_ ts ty #[v,u]).run P W).andThen fun v w=>.ok (.value v) w):Owes P w0 A okA hb σ a W o (copyV τ σ.heap σ.next ts s x):=by
  unfold copyV
  split
  · rename_i t h0
    split
    · rename_i td ht
      split
      · rename_i e hd
        split
        · rename_i ed px ys he hse
          split
          · rename_i j L off len
            split
            · rename_i sz es hj
              cases hz:(Nat.beq sz ed.size && !Nat.beq ed.size 0) with
              | false=>trivial
              | true =>
                rw [Bool.and_eq_true] at hz
                have hzz:sz = ed.size:=Nat.eq_of_beq_eq_true hz.1
                subst hzz
                have hpz:0 < ed.size:=by
                  rcases Nat.eq_zero_or_pos ed.size with h0' | h0'
                  · rw [h0'] at hz;simp at hz
                  · exact h0'
                intro ⟨p1,p2,p3,p4,p5⟩
                exact qjj hrun (copy_row (P:=P) (ty:=ty) hτ h h0 ht hd he hpz hx hse p1 hj p2 p3 p4 hs p5)
            · trivial
          · trivial
        · trivial
      · trivial
    · trivial
  · trivial
theorem qqw (h:Sim w0 A okA hb σ a W) (xs:Array Operand):RelL W hb σ.heap (okF w0 okA hb σ.heap W) (xs.toList.map σ.ev) (xs.map a.eval):=rel_ev_list h xs
theorem qqv {W:World} {hb:Handle} {H:Nat→AObj} {ok:Nat→Prop} {cs ds:List V} {c d:Array Value} (h:RelL W hb H ok cs c) (h':RelL W hb H ok ds d):RelL W hb H ok (cs ++ ds) (c ++ d):=by
  refine ⟨by simp [h.1,h'.1],fun i hi=>?_⟩
  simp only [Array.size_append] at hi
  by_cases hc:i < c.size
  · have e1:(cs ++ ds).getD i .junk = cs.getD i .junk:=by rw [List.getD_eq_getElem?_getD,List.getElem?_append_left (by rw [h.1];exact hc),← List.getD_eq_getElem?_getD]
    have e2:(c ++ d).getD i undef = c.getD i undef:=by rw [Array.getD_eq_getD_getElem?,Array.getElem?_append_left hc,← Array.getD_eq_getD_getElem?]
    rw [e1,e2];exact h.2 i hc
  · have e1:(cs ++ ds).getD i .junk = ds.getD (i - c.size) .junk:=by rw [List.getD_eq_getElem?_getD,List.getElem?_append_right (by rw [h.1];omega),← List.getD_eq_getElem?_getD,h.1]
    have e2:(c ++ d).getD i undef = d.getD (i - c.size) undef:=by rw [Array.getD_eq_getD_getElem?,Array.getElem?_append_right (by omega),← Array.getD_eq_getD_getElem?]
    rw [e1,e2];exact h'.2 _ (by omega)
theorem arr_map_two {xs:Array Operand} {c d:Operand} (h:xs.toList = [c,d]):xs.map a.eval = #[a.eval c,a.eval d]:=by
  apply Array.ext';simp [h]
theorem arr_map_one {xs:Array Operand} {c:Operand} (h:xs.toList = [c]):xs.map a.eval = #[a.eval c]:=by
  apply Array.ext';simp [h]
theorem qqj {xs:Array Operand} {x y:V} (h:Sim w0 A okA hb σ a W) (he:xs.toList.map σ.ev = [x,y]):∃ u v,xs.map a.eval = #[u,v]∧RelS w0 okA hb σ.heap W x u∧RelS w0 okA hb σ.heap W y v:=by
  rcases hl:xs.toList with _ | ⟨c,_ | ⟨d,_ | ⟨e,l⟩⟩⟩ <;> rw [hl] at he <;> simp at he
  exact ⟨_,_,arr_map_two hl,by rw [← he.1];exact qfi h c,by rw [← he.2];exact qfi h d⟩
theorem que {xs:Array Operand} {x:V} (h:Sim w0 A okA hb σ a W) (he:xs.toList.map σ.ev = [x]):∃ u,xs.map a.eval = #[u]∧RelS w0 okA hb σ.heap W x u:=by
  rcases hl:xs.toList with _ | ⟨c,_ | ⟨d,l⟩⟩ <;> rw [hl] at he <;> simp at he
  exact ⟨_,arr_map_one hl,by rw [← he];exact qfi h c⟩
theorem owes_move (h:Sim w0 A okA hb σ a W) (o:Oper) (x:Operand) (ho:o.op = .move x):Owes P w0 A okA hb σ a W o (qbp τ σ (.move x)):=by
  have R:=fun x=>qfi h x
  exact ⟨_,W,.inl (by simp [execOp,ho] <;> rfl),qbd.refl W,R x⟩
theorem owes_assign (h:Sim w0 A okA hb σ a W) (o:Oper) (x:Operand) (ho:o.op = .assign x):Owes P w0 A okA hb σ a W o (qbp τ σ (.assign x)):=by
  have R:=fun x=>qfi h x
  exact ⟨_,W,.inl (by simp [execOp,ho] <;> rfl),qbd.refl W,R x⟩
theorem owes_pick (h:Sim w0 A okA hb σ a W) (o:Oper) (c:Operand) (x:Operand) (y:Operand) (ho:o.op = .pick c x y):Owes P w0 A okA hb σ a W o (qbp τ σ (.pick c x y)):=by
  have R:=fun x=>qfi h x
  obtain ⟨h1,h2⟩:=pick_sound (P:=P) (R c) (R x) (R y)
  exact qf6 (by simp [execOp,ho];cases (Sem.run P (asBool (a.eval c)) W) <;> rfl) h1 h2
theorem owes_box (h:Sim w0 A okA hb σ a W) (o:Oper) (t:TypeId) (x:Operand) (ho:o.op = .box t x):Owes P w0 A okA hb σ a W o (qbp τ σ (.box t x)):=by
  have R:=fun x=>qfi h x
  simp only [qbp]
  split
  · rename_i cs hcs
    exact qjj (by simp [execOp,ho]) (box_sound (P:=P) h t (R x) hcs)
  · trivial
include hτ in
theorem owes_alloc (h:Sim w0 A okA hb σ a W) (o:Oper) (t:TypeId) (ho:o.op = .alloc t):Owes P w0 A okA hb σ a W o (qbp τ σ (.alloc t)):=by
  have R:=fun x=>qfi h x
  simp only [qbp]
  split
  · rename_i td ht
    split
    · rename_i cs hcs
      exact qjj (by simp [execOp,ho]) (alloc_sound hτ h ht hcs)
    · trivial
  · trivial
include hτ in
theorem owes_build (h:Sim w0 A okA hb σ a W) (o:Oper) (t:TypeId) (parts:Array (Nat × Operand)) (ho:o.op = .build t parts):Owes P w0 A okA hb σ a W o (qbp τ σ (.build t parts)):=by
  have R:=fun x=>qfi h x
  simp only [qbp]
  split
  · rename_i td ht
    split
    · rename_i fs z hd hz
      split
      · rename_i cs hall hf
        exact qf6 (s:=Instr.build t (parts.map fun p:Nat × Operand=>(p.1,a.eval p.2))) (by simp [execOp,ho]) (build_sound hτ h ht hd (by rw [List.all_eq_true] at hall;exact hall) hz parts hf) rfl
      · trivial
    · rename_i len e z hd hz
      split
      · rename_i ed he
        split
        · rename_i cs hf
          exact qf6 (s:=Instr.build t (parts.map fun p:Nat × Operand=>(p.1,a.eval p.2))) (by simp [execOp,ho]) (build_array_sound hτ h ht hd he hz parts hf) rfl
        · trivial
      · trivial
    · trivial
  · trivial
include hτ in
theorem owes_buildSlice (h:Sim w0 A okA hb σ a W) (o:Oper) (t:TypeId) (len:Nat) (parts:Array (Nat × Operand)) (ho:o.op = .buildSlice t len parts):Owes P w0 A okA hb σ a W o (qbp τ σ (.buildSlice t len parts)):=by
  have R:=fun x=>qfi h x
  simp only [qbp]
  split
  · rename_i td ht
    split
    · rename_i e hd
      split
      · rename_i ed he
        split
        · rename_i z hz
          split
          · rename_i cs hf
            split
            · rename_i ds hds
              cases hq:(Nat.ble (len * ed.size) 16777216 && Nat.beq z.length ed.size && !Nat.beq ed.size 0) with
              | false=>trivial
              | true =>
                simp only [Bool.and_eq_true,Bool.not_eq_true'] at hq
                obtain ⟨⟨q1,q2⟩,q3⟩:=hq
                have hpz:0 < ed.size:=by
                  rcases Nat.eq_zero_or_pos ed.size with h0' | h0'
                  · rw [h0'] at q3;simp at q3
                  · exact h0'
                exact qjj (s:=Instr.buildSlice t len (parts.map fun p:Nat × Operand=>(p.1,a.eval p.2))) (by simp [execOp,ho]) (buildSlice_sound hτ h ht hd he hz len (Nat.le_of_ble_eq_true q1) (Nat.eq_of_beq_eq_true q2) parts hf hds hpz)
            · trivial
          · trivial
        · trivial
      · trivial
    · trivial
  · trivial
include hτ in
theorem owes_makeSlice (h:Sim w0 A okA hb σ a W) (o:Oper) (t:TypeId) (l c:Operand) (ho:o.op = .makeSlice t l c):Owes P w0 A okA hb σ a W o (qbp τ σ (.makeSlice t l c)):=by
  have R:=fun x=>qfi h x
  simp only [qbp]
  split
  · rename_i td ht
    split
    · rename_i e hd
      split
      · rename_i ed he
        split
        · rename_i ds k n k' m hds hl hc
          cases hq:(Nat.beq ds.length ed.size && !Nat.beq ed.size 0) with
          | false=>trivial
          | true =>
            simp only [Bool.and_eq_true,Bool.not_eq_true'] at hq
            have hpz:0 < ed.size:=by
              rcases Nat.eq_zero_or_pos ed.size with h0' | h0'
              · have:=hq.2;rw [h0'] at this;simp at this
              · exact h0'
            rintro ⟨p1,rfl,p2,p3⟩
            have e1:=R l
            have e2:=R c
            rw [hl] at e1
            rw [hc] at e2
            have f1:=qjo e1
            have f2:=qjo e2
            refine qjj (s:=Instr.makeSlice t (a.eval l) (a.eval c)) (by simp [execOp,ho]) ?_
            rw [f1,f2]
            exact makeSlice_sound hτ h ht hd he hds (Nat.eq_of_beq_eq_true hq.1) hpz p1 p2 p3
        · trivial
      · trivial
    · trivial
  · trivial
include hτ in
theorem owes_load (h:Sim w0 A okA hb σ a W) (o:Oper) (t:TypeId) (x:Operand) (ho:o.op = .load t x):Owes P w0 A okA hb σ a W o (qbp τ σ (.load t x)):=by
  have R:=fun x=>qfi h x
  simp only [qbp]
  split
  · rename_i td ht
    exact qf6 (by simp [execOp,ho]) (loadV_sound hτ h.heap ht (R x)) (load_plain _ _ _)
  · trivial
include hτ in
theorem owes_store (h:Sim w0 A okA hb σ a W) (o:Oper) (t:TypeId) (x:Operand) (v:Operand) (ho:o.op = .store t x v):Owes P w0 A okA hb σ a W o (qbp τ σ (.store t x v)):=by
  have R:=fun x=>qfi h x
  simp only [qbp]
  have up:∀ {H:Nat→AObj},EvU P W w0 A okA (Instr.storeAt t (a.eval x) (a.eval v)) a σ H σ.next→Does P o a W (fun cv W'=>∃ hb',Sim w0 A okA hb' { σ with heap:=H } a W'∧cv = undef):=by
    rintro H ⟨W',hb',e1,e2⟩
    exact ⟨undef,W',.inr ⟨by simp [execOp,ho,e1],rfl⟩,hb',e2,rfl⟩
  split
  · rename_i td ht
    unfold qxu
    split
    · rename_i vs hvs
      cases hq:Nat.beq vs.length td.size with
      | false=>trivial
      | true =>
        have hl:=Nat.eq_of_beq_eq_true hq
        simp only [cond_true]
        have Rx:=R x
        split
        · rename_i j off hx
          rw [hx] at Rx
          split
          · rename_i cs hj
            cases hle:Nat.ble (off + td.size) cs.length with
            | false=>trivial
            | true =>
              obtain ⟨cv,W',e1,hb',e2,rfl⟩:=up (store_box_sound hτ h ht hj (R v) hvs hl (Nat.le_of_ble_eq_true hle) Rx)
              exact ⟨undef,W',e1,hb',e2,.und⟩
          · trivial
        · rename_i j L i off hx
          rw [hx] at Rx
          split
          · rename_i sz es hj
            split
            · rename_i ds hds
              intro e H hp he hk
              simp only at hk
              cases hle:Nat.ble (off + td.size) e.length with
              | false=>rw [hle] at hk;cases hk
              | true =>
                rw [hle] at hk
                simp only [cond_true,Option.some.injEq] at hk
                subst hk
                exact up (store_row_sound hτ h ht hj hp he (R v) hvs hds hl (Nat.le_of_ble_eq_true hle) Rx)
            · trivial
          · trivial
        · trivial
    · trivial
  · trivial
theorem owes_nilCheck (h:Sim w0 A okA hb σ a W) (o:Oper) (x:Operand) (ho:o.op = .nilCheck x):Owes P w0 A okA hb σ a W o (qbp τ σ (.nilCheck x)):=by
  have Rx:=qfi h x
  simp only [qbp]
  have key:∀ ad,a.eval x = .pointer (some ad)→∀ v,RelS w0 okA hb σ.heap W v (a.eval x)→Does P o a W (fun cv W'=>qbd W W'∧RelS w0 okA hb σ.heap W v cv):=by
    intro ad he v hv
    refine ⟨a.eval x,W,.inl ?_,qbd.refl W,hv⟩
    simp only [execOp,ho,he]
    rfl
  split
  · rename_i j off hx
    rw [hx] at Rx
    obtain ⟨ad,he⟩:∃ ad,a.eval x = .pointer (some ad):=by
      generalize a.eval x = u at *
      cases Rx with
      | ptr e1 e2=>exact ⟨_,rfl⟩
    exact key ad he _ Rx
  · rename_i cs off hx
    rw [hx] at Rx
    obtain ⟨ad,he⟩:∃ ad,a.eval x = .pointer (some ad):=by
      generalize a.eval x = u at *
      cases Rx with
      | rop vals e1 e2 e3=>exact ⟨_,rfl⟩
    exact key ad he _ Rx
  · rename_i j L i off hx
    rw [hx] at Rx
    split
    · rename_i sz es hj
      intro hL
      obtain ⟨ad,he⟩:∃ ad,a.eval x = .pointer (some ad):=by
        generalize a.eval x = u at *
        cases Rx with
        | eptr e1 e2 e3=>exact ⟨_,rfl⟩
        | eptrStale v e1 e2 e3=>rw [hj] at e1;cases e1;omega
      exact key ad he _ Rx
    · trivial
  · trivial
theorem binV_notd {op:BinOp} {t:TypeId} {x y:V} (h:∀ d,x ≠ .d d):binV τ op t x y = .stuck:=by
  unfold binV
  split <;> first | rfl | (exfalso;exact h _ rfl)
theorem qrf (op:BinOp) (t:TypeId) (x y:Operand) (u v:Value) (h1:u ≠ .nilIface) (h2:∀ c,u ≠ .agg c) (w:World):(eqGuard op t x y u v).run P w = .ok () w:=by
  unfold eqGuard
  cases op
  case eql =>
    cases u with
    | nilIface=>exact absurd rfl h1
    | agg c=>exact absurd rfl (h2 c)
    | _=>cases v <;> rfl
  case neq =>
    cases u with
    | nilIface=>exact absurd rfl h1
    | agg c=>exact absurd rfl (h2 c)
    | _=>cases v <;> rfl
  all_goals rfl
include hτ in
theorem owes_binOp (h:Sim w0 A okA hb σ a W) (o:Oper) (op:BinOp) (t:TypeId) (x:Operand) (y:Operand) (yt:TypeId) (ho:o.op = .binOp op t x y yt):Owes P w0 A okA hb σ a W o (qbp τ σ (.binOp op t x y yt)):=by
  have R:=fun x=>qfi h x
  by_cases hd:∃ d,σ.ev x = .d d
  · obtain ⟨d,hd⟩:=hd
    have Rx:=R x
    rw [hd] at Rx
    have hg:a.eval x ≠ .nilIface∧∀ c,a.eval x ≠ .agg c:=by
      generalize a.eval x = u at *
      cases Rx with
      | d h=>cases h <;> exact ⟨by simp,by simp⟩
    refine qf6 (s:=binOp op t (a.eval x) (a.eval y)) ?_ (binV_sound hτ op t (R x) (R y)) (bin_plain _ _ _ _ _)
    simp only [execOp,ho,Sem.run_bind,qrf op t x y _ _ hg.1 hg.2,Result.andThen_ok,Sem.run_pure]
  · have:qbp τ σ (.binOp op t x y yt) = .stuck:=binV_notd (fun d hd'=>hd ⟨d,hd'⟩)
    rw [this]
    trivial
theorem owes_unOp (h:Sim w0 A okA hb σ a W) (o:Oper) (op:UnOp) (t:TypeId) (x:Operand) (ho:o.op = .unOp op t x):Owes P w0 A okA hb σ a W o (qbp τ σ (.unOp op t x)):=by
  have R:=fun x=>qfi h x
  exact qf6 (by simp [execOp,ho]) (unV_sound op (R x)) (un_plain _ _)
include hτ in
theorem owes_convert (h:Sim w0 A okA hb σ a W) (o:Oper) (s:TypeId) (d:TypeId) (x:Operand) (ho:o.op = .convert s d x):Owes P w0 A okA hb σ a W o (qbp τ σ (.convert s d x)):=by
  have R:=fun x=>qfi h x
  exact qf6 (by simp [execOp,ho]) (convV_sound hτ s d (R x)) (conv_plain _ _ _ _)
theorem owes_makeFunc (h:Sim w0 A okA hb σ a W) (o:Oper) (fn:Fn) (first:Array Operand) (caps:Array Operand) (ho:o.op = .makeFunc fn first caps):Owes P w0 A okA hb σ a W o (qbp τ σ (.makeFunc fn first caps)):=by
  cases fn with
  | func f =>
    obtain ⟨f1,f2⟩:=qqw h first
    obtain ⟨c1,c2⟩:=qqw h caps
    exact ⟨_,W,.inl (by simp [execOp,ho,Instr.makeFunc] <;> rfl),qbd.refl W,.func f1 c1 f2 c2⟩
  | method n=>trivial
  | methodOf t n=>trivial
  | via t p f b=>trivial
  | yield l=>trivial
include hτ in
theorem owes_slice (h:Sim w0 A okA hb σ a W) (o:Oper) (t:TypeId) (x:Operand) (lo:Option Operand) (hi:Option Operand) (mx:Option Operand) (ho:o.op = .slice t x lo hi mx):Owes P w0 A okA hb σ a W o (qbp τ σ (.slice t x lo hi mx)):=by
  have R:=fun x=>qfi h x
  exact qf6 (by simp [execOp,ho]) (slice_sound hτ h lo hi mx (R x)) (slice_plain _ _ _ _ _ _ _)
include hτ in
theorem owes_fieldAddr (h:Sim w0 A okA hb σ a W) (o:Oper) (s:TypeId) (x:Operand) (f:Nat) (ho:o.op = .fieldAddr s x f):Owes P w0 A okA hb σ a W o (qbp τ σ (.fieldAddr s x f)):=by
  have R:=fun x=>qfi h x
  simp only [qbp]
  split
  · rename_i off fd hf
    cases hq:Nat.beq fd.size 0 with
    | true=>trivial
    | false=>exact qf6 (by simp [execOp,ho]) (fieldAddr_sound hτ hf hq (R x)) (ptrAdd_plain _ _ _)
  · trivial
include hτ in
theorem owes_field (h:Sim w0 A okA hb σ a W) (o:Oper) (s:TypeId) (x:Operand) (f:Nat) (ho:o.op = .field s x f):Owes P w0 A okA hb σ a W o (qbp τ σ (.field s x f)):=by
  have R:=fun x=>qfi h x
  simp only [qbp]
  have Rx:=R x
  split
  · rename_i off fd cs hf hx
    rw [hx] at Rx
    exact qf6 (by simp [execOp,ho]) (fieldPart_sound hτ hf Rx) (qpc _)
  · trivial
include hτ in
theorem owes_indexAddr (h:Sim w0 A okA hb σ a W) (o:Oper) (t:TypeId) (x:Operand) (i:Operand) (ho:o.op = .indexAddr t x i):Owes P w0 A okA hb σ a W o (qbp τ σ (.indexAddr t x i)):=by
  have R:=fun x=>qfi h x
  exact qf6 (by simp [execOp,ho]) (indexAddr_sound hτ (R x) (R i)) (indexAddr_plain _ _ _ _ _)
include hτ in
theorem owes_index (h:Sim w0 A okA hb σ a W) (o:Oper) (t:TypeId) (x:Operand) (i:Operand) (ho:o.op = .index t x i):Owes P w0 A okA hb σ a W o (qbp τ σ (.index t x i)):=by
  have R:=fun x=>qfi h x
  exact qf6 (by simp [execOp,ho]) (index_sound hτ (R x) (R i)) (index_plain _ _ _ _)
theorem owes_extract (h:Sim w0 A okA hb σ a W) (o:Oper) (x:Operand) (i:Nat) (ho:o.op = .extract x i):Owes P w0 A okA hb σ a W o (qbp τ σ (.extract x i)):=by
  have R:=fun x=>qfi h x
  simp only [qbp]
  have Rx:=R x
  split
  · rename_i vs hx
    rw [hx] at Rx
    cases hv:vs[i]? with
    | none=>trivial
    | some v =>
      generalize hu:a.eval x = u at *
      cases Rx with
      | @tup _ c e1 e2 =>
        have hlt:i < vs.length:=(List.getElem?_eq_some_iff.1 hv).1
        have:=e2 i (by omega)
        rw [getD_some hv] at this
        have hc:=qf7 (vals:=c) (i:=i) (by omega)
        exact ⟨_,W,.inl (by simp only [execOp,ho,hu,Instr.extract,hc,Sem.run_bind,Sem.run_pure,Result.andThen_ok]),qbd.refl W,this⟩
  · trivial
include hτ in
theorem owes_call (h:Sim w0 A okA hb σ a W) (o:Oper) (c:Call) (ho:o.op = .call c):Owes P w0 A okA hb σ a W o (qbp τ σ (.call c)):=by
  have R:=fun x=>qfi h x
  simp only [qbp]
  cases hc:c.callee with
  | builtin b =>
    simp only
    unfold qnn
    split
    · rename_i x hx
      obtain ⟨u,h1,h2⟩:=que h hx
      split
      · rename_i t ht
        exact qf6 (s:=Builtin.len_ c.argTypes o.type #[u]) (by simp [execOp,ho,resolve,hc,invoke,builtin,h1]) (len_sound hτ ht h2) (len_plain _ _ _ _)
      · trivial
    · rename_i s x hx
      obtain ⟨u,v,h1,h2,h3⟩:=qqj h hx
      exact append_owes hτ h h2 h3 (ty:=o.type) (by simp [execOp,ho,resolve,hc,invoke,builtin,h1])
    · rename_i s x hx
      obtain ⟨u,v,h1,h2,h3⟩:=qqj h hx
      exact copy_owes hτ h h2 h3 (ty:=o.type) (by simp [execOp,ho,resolve,hc,invoke,builtin,h1])
    · rename_i k x k' y hx
      obtain ⟨u,v,h1,h2,h3⟩:=qqj h hx
      obtain ⟨b1,rfl,g1,g2⟩:=qou h2
      obtain ⟨b2,rfl,g3,g4⟩:=qou h3
      cases hk:fkEq k k' with
      | false=>trivial
      | true =>
        obtain rfl:k = k':=by simpa [fkEq] using hk
        exact ⟨.complex k b1 b2,W,.inl (by simp [execOp,ho,resolve,hc,invoke,builtin,h1,run_complex]),qbd.refl W,qp3 g1 g3 g2 g4⟩
    · rename_i k x y hx
      obtain ⟨u,h1,h2⟩:=que h hx
      obtain ⟨b1,b2,rfl,g1,g2,g3,g4⟩:=qpf h2
      exact ⟨.float k b1,W,.inl (by simp [execOp,ho,resolve,hc,invoke,builtin,h1,run_real]),qbd.refl W,qr7 g1 g3⟩
    · rename_i k x y hx
      obtain ⟨u,h1,h2⟩:=que h hx
      obtain ⟨b1,b2,rfl,g1,g2,g3,g4⟩:=qpf h2
      exact ⟨.float k b2,W,.inl (by simp [execOp,ho,resolve,hc,invoke,builtin,h1,run_imag]),qbd.refl W,qr7 g2 g4⟩
    · rename_i x y hx
      obtain ⟨u,v,h1,h2,h3⟩:=qqj h hx
      exact qf6 (s:=Builtin.max_ c.argTypes o.type #[u,v]) (by simp [execOp,ho,resolve,hc,invoke,builtin,h1]) (qru true h2 h3) (qtn _ _ _)
    · rename_i x y hx
      obtain ⟨u,v,h1,h2,h3⟩:=qqj h hx
      exact qf6 (s:=Builtin.min_ c.argTypes o.type #[u,v]) (by simp [execOp,ho,resolve,hc,invoke,builtin,h1]) (qru false h2 h3) (qtn _ _ _)
    · trivial
  | value f =>
    simp only
    have Rf:=R f
    split
    · rename_i fid first caps hf
      rw [hf] at Rf
      generalize hu:a.eval f = u at *
      cases Rf with
      | @func _ _ _ af ac e1 e2 e3 e4 =>
        obtain ⟨r1,r2⟩:=qqw h c.args
        refine ⟨af ++ c.args.map a.eval ++ ac,fun w=>by simp [execOp,ho,resolve,hc,hu,Deferred.ofValue,invoke],?_⟩
        exact qqv (qqv ⟨e1,e3⟩ ⟨r1,r2⟩) ⟨e2,e4⟩
    · trivial
  | invoke r m=>trivial
/-! ### Maps -/
theorem qtm (hτ:qfl P τ) {t:TypeId} {k:IntKind} {ed:TD} (h:mapT τ t = some (k,ed)):∃ kt et,(∀ w,(underlying t).run P w = .ok (.map kt et) w)∧(∀ w,(underlying kt).run P w = .ok (.int k) w)∧(∀ w,(zeroValue et).run P w = .ok ed.zero w):=by
  unfold mapT at h
  split at h
  · rename_i td ht
    split at h
    · rename_i kt et hd
      split at h
      · rename_i ktd ed' hk he
        split at h
        · rename_i k' hkd
          simp only [Option.some.injEq,Prod.mk.injEq] at h
          obtain ⟨rfl,rfl⟩:=h
          exact ⟨kt,et,fun w=>by rw [qiz hτ ht,hd],fun w=>by rw [qiz hτ hk,hkd],fun w=>qoy hτ he w⟩
        · cases h
      · cases h
    · cases h
  · cases h
theorem qp8 {kt:TypeId} {k k':IntKind} {n:Int} (t2:∀ w,(underlying kt).run P w = .ok (.int k') w) (m:Nat) (e:Bool) (w:World):(Instr.checkKey e (m + 1) kt (.int k n)).run P w = .ok () w:=by
  simp [Instr.checkKey,t2]
theorem qp1 (k kk:IntKind) (n:Int) (z:D) {R:D→Value→Prop}:∀ (ents:List MapEntry) (es:List (Int × D)) (i:Nat),ents.length = es.length →
    (∀ (q:Nat) (e:MapEntry) (x:Int × D),ents[q]? = some e→es[q]? = some x→e.key = .int k x.1∧R x.2 e.val) →
    (∃ q e y,qqh es n = some y∧Instr.findNow (.int kk) (.int k n) ents i = some (some (i + q,e.val))∧ents[q]? = some e∧es[q]? = some (n,y)∧qqi es n z = es.set q (n,z)) ∨
    (qqh es n = none∧Instr.findNow (.int kk) (.int k n) ents i = some none∧qqi es n z = es ++ [(n,z)])
  | [],[],i,_,_=>.inr ⟨rfl,rfl,rfl⟩
  | [],_ :: _,i,h,_=>by simp at h
  | _ :: _,[],i,h,_=>by simp at h
  | e :: ents,(m,y) :: es,i,hl,h=>by
    obtain ⟨h1,h2⟩:=h 0 e (m,y) rfl rfl
    by_cases hm:m = n
    · subst hm
      refine .inl ⟨0,e,y,?_,?_,rfl,rfl,?_⟩
      · simp [qqh]
      · simp [Instr.findNow,h1,Instr.sameNow]
      · simp [qqi]
    · have hmb:(m == n) = false:=by simpa using hm
      have hnb:(n == m) = false:=by simpa using fun e=>hm e.symm
      rcases qp1 k kk n z (R:=R) ents es (i + 1) (by simpa using hl) (fun q e x he hx=>h (q + 1) e x (by simpa using he) (by simpa using hx)) with ⟨q,e',y',g1,g2,g3,g4,g5⟩ | ⟨g1,g2,g3⟩
      · refine .inl ⟨q + 1,e',y',by simp [qqh,hmb,g1],?_,by simpa using g3,by simpa using g4,by simp [qqi,hmb,g5]⟩
        simp only [Instr.findNow,h1,Instr.sameNow,if_true,hnb]
        rw [g2];congr 3;omega
      · refine .inr ⟨by simp [qqh,hmb,g1],?_,by simp [qqi,hmb,g3]⟩
        simp only [Instr.findNow,h1,Instr.sameNow,if_true,hnb]
        exact g2
theorem qxo {H:Nat→AObj} {n:Nat} (h:HSim w0 A okA hb H n W) {j:Nat} {k:IntKind} {es:List (Int × D)} (hj:H j = .map k es):qy6 W hb (okF w0 okA hb H W) j k es:=by
  have:=h.obj j
  unfold qh5 at this
  rw [hj] at this;exact this
theorem owes_makeMap (h:Sim w0 A okA hb σ a W) (o:Oper) (t:TypeId) (r:Option Operand) (ho:o.op = .makeMap t r):Owes P w0 A okA hb σ a W o (qbp τ σ (.makeMap t r)):=by
  cases r with
  | some r=>trivial
  | none =>
    simp only [qbp]
    split
    · rename_i k ed ht
      have mv:=qgt.new h.heap (.map k []) (.map #[] 0)
      refine ⟨.map (some W.heap.size),W.alloc (.map #[] 0),.inl ?_,upd hb σ.next (some W.heap.size),h.new (ob:=.map k []) (by simp) ?_,.mref (upd_same _ _ _) (upd_same _ _ _)⟩
      · simp [execOp,ho,Instr.makeMap] <;> rfl
      · unfold qh5
        rw [upd_same]
        exact ⟨W.heap.size,#[],0,upd_same _ _ _,qjq _,rfl,fun i e x he=>by simp at he⟩
    · trivial
include hτ in
theorem owes_lookup (h:Sim w0 A okA hb σ a W) (o:Oper) (t:TypeId) (x i:Operand) (ok:Bool) (ho:o.op = .lookup t x i ok):Owes P w0 A okA hb σ a W o (qbp τ σ (.lookup t x i ok)):=by
  have Rx:=qfi h x
  have Ri:=qfi h i
  simp only [qbp,qqg]
  split
  · rename_i k ed j k' n ht hx hi
    obtain ⟨kt,et,t1,t2,t3⟩:=qtm hτ ht
    rw [hx] at Rx
    rw [hi] at Ri
    have hiv:=qjo Ri
    split
    · rename_i k'' es hj
      cases hk:ikEq k k' && ikEq k k'' with
      | false=>trivial
      | true =>
        simp only [Bool.and_eq_true,ikEq,decide_eq_true_eq] at hk
        obtain ⟨rfl,rfl⟩:=hk
        obtain ⟨b,ents,cl,m1,m2,m3,m4⟩:=qxo h.heap hj
        generalize hu:a.eval x = u at *
        cases Rx with
        | mref g1 g2 =>
          obtain rfl:=Option.some.inj (m1.symm.trans g2)
          have m4':∀ (q:Nat) (e:MapEntry) (x:Int × D),ents.toList[q]? = some e→es[q]? = some x→e.key = .int k x.1∧RelD W (okF w0 okA hb σ.heap W) x.2 e.val:=fun q e x he hx=>m4 q e x (by simpa using he) hx
          have hck:∀ w,(Instr.checkKey ents.isEmpty 10000 kt (.int k n)).run P w = .ok () w:=fun w=>qp8 t2 9999 _ w
          simp only [cond_true]
          rcases qp1 k k n .nilp (R:=RelD W (okF w0 okA hb σ.heap W)) ents.toList es 0 (by simpa using m3) m4' with ⟨q,e,y,f1,f2,f3,f4,_⟩ | ⟨f1,f2,_⟩
          · rw [f1]
            have hr:(Instr.lookup t (.map (some b)) (.int k n) ok).run P W = .ok (if ok then .tuple #[e.val,.bool true] else e.val) W:=by
              simp [Instr.lookup,t1,MapKept.run_getObj_map m2,hck,Instr.findKey,t2,f2]
            have hy:=(m4' q e (n,y) f3 f4).2
            refine ⟨if ok then .tuple #[e.val,.bool true] else e.val,W,.inl ?_,qbd.refl W,?_⟩
            · simp [execOp,ho,hu,hiv,hr]
            · cases ok with
              | false=>exact .d hy
              | true =>
                refine .tup rfl (fun i hi=>?_)
                rcases i with _ | _ | i
                · exact .d hy
                · exact qi2 true
                · simp at hi;omega
          · rw [f1]
            have hr:(Instr.lookup t (.map (some b)) (.int k n) ok).run P W = .ok (if ok then .tuple #[ed.zero,.bool false] else ed.zero) W:=by
              simp [Instr.lookup,t1,MapKept.run_getObj_map m2,hck,Instr.findKey,t2,f2,t3]
            refine ⟨if ok then .tuple #[ed.zero,.bool false] else ed.zero,W,.inl ?_,qbd.refl W,?_⟩
            · simp [execOp,ho,hu,hiv,hr]
            · cases ok with
              | false=>exact qkl _
              | true =>
                refine .tup rfl (fun i hi=>?_)
                rcases i with _ | _ | i
                · exact qkl _
                · exact qi2 false
                · simp at hi;omega
    · trivial
  · trivial
theorem qrr (h:Sim w0 A okA hb σ a W) {j b:Nat} {k:IntKind} {es es':List (Int × D)} {ents ents':Array MapEntry} {cl cl':Nat} (hj:σ.heap j = .map k es) (m1:hb j = some b) (m2:W.heap[b]? = some (.map ents cl))
    (hs:ents'.size = es'.length) (hr:∀ (i:Nat) (e:MapEntry) (x:Int × D),ents'[i]? = some e→es'[i]? = some x→e.key = .int k x.1∧RelD W (okF w0 okA hb σ.heap W) x.2 e.val) :
    Sim w0 A okA hb { σ with heap:=upd σ.heap j (.map k es') } a { W with heap:=W.heap.setIfInBounds b (.map ents' cl') }:=by
  have hlt:b < W.heap.size:=(Array.getElem?_eq_some_iff.1 m2).1
  have hnew:({ W with heap:=W.heap.setIfInBounds b (.map ents' cl') }:World).heap[b]? = some (.map ents' cl'):=by simp [hlt]
  have u:UpdG W { W with heap:=W.heap.setIfInBounds b (.map ents' cl') } b :=
    ⟨fun i hi=>by simp [Array.getElem?_setIfInBounds,Ne.symm hi],by
      unfold World.shape?
      rw [hnew,m2],by simp,rfl,rfl,rfl⟩
  have hjn:σ.heap j ≠ .none:=by rw [hj];simp
  have hbox:∀ cs,σ.heap j = .box cs→∃ cs',AObj.map k es' = .box cs':=fun _ he=>by rw [hj] at he;cases he
  have hrow:∀ sz es,σ.heap j = .row sz es→∃ es'',AObj.map k es' = .row sz es''∧es.length ≤ es''.length:=fun _ _ he=>by rw [hj] at he;cases he
  have hmap:∀ kk es,σ.heap j = .map kk es→∃ es'',AObj.map k es' = .map kk es'':=fun _ _ he=>by rw [hj] at he;cases he;exact ⟨_,rfl⟩
  have mv:=qgt.store (w0:=w0) (okA:=okA) (hb:=hb) (H:=σ.heap) (ob:=.map k es') u hjn m1 (by simp) hbox hrow hmap
  refine h.store u hjn m1 (ob:=.map k es') (by simp) hbox hrow hmap ?_
  unfold qh5
  rw [upd_same]
  exact ⟨b,ents',cl',m1,hnew,hs,fun i e x he hx=>⟨(hr i e x he hx).1,(hr i e x he hx).2.mono mv.toMoves⟩⟩
include hτ in
theorem owes_mapUpdate (h:Sim w0 A okA hb σ a W) (o:Oper) (t:TypeId) (x i v:Operand) (ho:o.op = .mapUpdate t x i v):Owes P w0 A okA hb σ a W o (qbp τ σ (.mapUpdate t x i v)):=by
  have Rx:=qfi h x
  have Ri:=qfi h i
  have Rv:=qfi h v
  simp only [qbp,qrq]
  split
  · rename_i k ed j k' n z ht hx hi hv
    obtain ⟨kt,et,t1,t2,t3⟩:=qtm hτ ht
    rw [hx] at Rx
    rw [hi] at Ri
    rw [hv] at Rv
    have hiv:=qjo Ri
    split
    · rename_i k'' es hj
      cases hk:ikEq k k' && ikEq k k'' with
      | false=>trivial
      | true =>
        simp only [Bool.and_eq_true,ikEq,decide_eq_true_eq] at hk
        obtain ⟨rfl,rfl⟩:=hk
        obtain ⟨b,ents,cl,m1,m2,m3,m4⟩:=qxo h.heap hj
        generalize hu:a.eval x = u at *
        generalize hy:a.eval v = y at *
        cases Rv with
        | d Rz =>
        cases Rx with
        | mref g1 g2 =>
          obtain rfl:=Option.some.inj (m1.symm.trans g2)
          have m4':∀ (q:Nat) (e:MapEntry) (x:Int × D),ents.toList[q]? = some e→es[q]? = some x→e.key = .int k x.1∧RelD W (okF w0 okA hb σ.heap W) x.2 e.val:=fun q e x he hx=>m4 q e x (by simpa using he) hx
          have hck:∀ w,(Instr.checkKey false 10000 kt (.int k n)).run P w = .ok () w:=fun w=>qp8 t2 9999 _ w
          simp only [cond_true]
          rcases qp1 k k n z (R:=RelD W (okF w0 okA hb σ.heap W)) ents.toList es 0 (by simpa using m3) m4' with ⟨q,e,y',f1,f2,f3,f4,f5⟩ | ⟨f1,f2,f3⟩
          · have f3':ents[q]? = some e:=by simpa using f3
            have hq:q < ents.size:=(Array.getElem?_eq_some_iff.1 f3').1
            have hkey:=(m4 q e (n,y') f3' f4).1
            have hr:(Instr.mapUpdate t (.map (some b)) (.int k n) y).run P W = .ok () { W with heap:=W.heap.setIfInBounds b (.map (ents.modify q fun e=>{ e with key:=.int k n,val:=y }) cl) }:=by
              simp [Instr.mapUpdate,t1,MapKept.run_getObj_map m2,hck,Instr.findKey,t2,f2,f3',hkey,Instr.keyThatStays,Instr.sameBits,MapKept.run_setObj_map _ m2]
            refine ⟨undef,_,.inr ⟨by simp [execOp,ho,hu,hiv,hy,hr] <;> rfl,rfl⟩,hb,qrr h hj m1 m2 ?_ ?_,.und⟩
            · rw [f5];simp [m3]
            · intro i e' x' he hx'
              rw [f5] at hx'
              by_cases hiq:i = q
              · subst hiq
                have hl:i < es.length:=by omega
                simp [hl] at hx'
                subst hx'
                simp [Array.getElem?_modify,f3'] at he
                subst he
                exact ⟨rfl,Rz⟩
              · rw [List.getElem?_set_ne (Ne.symm hiq)] at hx'
                rw [Array.getElem?_modify,if_neg (Ne.symm hiq)] at he
                exact m4 i e' x' he hx'
          · have hr:(Instr.mapUpdate t (.map (some b)) (.int k n) y).run P W = .ok () { W with heap:=W.heap.setIfInBounds b (.map (ents.push { key:=.int k n,val:=y,born:=cl }) (cl + 1)) }:=by
              simp [Instr.mapUpdate,t1,MapKept.run_getObj_map m2,hck,Instr.findKey,t2,f2,MapKept.run_setObj_map _ m2]
            refine ⟨undef,_,.inr ⟨by simp [execOp,ho,hu,hiv,hy,hr] <;> rfl,rfl⟩,hb,qrr h hj m1 m2 ?_ ?_,.und⟩
            · rw [f3];simp [m3]
            · intro i e' x' he hx'
              rw [f3] at hx'
              by_cases hiq:i = ents.size
              · subst hiq
                rw [m3] at hx'
                simp at hx' he
                subst hx' he
                exact ⟨rfl,Rz⟩
              · have hl:i < ents.size:=by
                  have:=(Array.getElem?_eq_some_iff.1 he).1
                  simp at this;omega
                rw [List.getElem?_append_left (by omega)] at hx'
                rw [Array.getElem?_push,if_neg (by omega)] at he
                exact m4 i e' x' he hx'
    · trivial
  · trivial
include hτ in
theorem qh3 (h:Sim w0 A okA hb σ a W) (o:Oper):Owes P w0 A okA hb σ a W o (qbp τ σ o.op):=by
  cases ho:o.op with
  | move x0=>exact owes_move h o x0 ho
  | assign x0=>exact owes_assign h o x0 ho
  | pick x0 x1 x2=>exact owes_pick h o x0 x1 x2 ho
  | box x0 x1=>exact owes_box h o x0 x1 ho
  | alloc x0=>exact owes_alloc hτ h o x0 ho
  | build x0 x1=>exact owes_build hτ h o x0 x1 ho
  | buildSlice x0 x1 x2=>exact owes_buildSlice hτ h o x0 x1 x2 ho
  | load x0 x1=>exact owes_load hτ h o x0 x1 ho
  | store x0 x1 x2=>exact owes_store hτ h o x0 x1 x2 ho
  | makeSlice x0 x1 x2=>exact owes_makeSlice hτ h o x0 x1 x2 ho
  | nilCheck x0=>exact owes_nilCheck h o x0 ho
  | binOp x0 x1 x2 x3 x4=>exact owes_binOp hτ h o x0 x1 x2 x3 x4 ho
  | unOp x0 x1 x2=>exact owes_unOp h o x0 x1 x2 ho
  | convert x0 x1 x2=>exact owes_convert hτ h o x0 x1 x2 ho
  | makeFunc x0 x1 x2=>exact owes_makeFunc h o x0 x1 x2 ho
  | slice x0 x1 x2 x3 x4=>exact owes_slice hτ h o x0 x1 x2 x3 x4 ho
  | fieldAddr x0 x1 x2=>exact owes_fieldAddr hτ h o x0 x1 x2 ho
  | field x0 x1 x2=>exact owes_field hτ h o x0 x1 x2 ho
  | indexAddr x0 x1 x2=>exact owes_indexAddr hτ h o x0 x1 x2 ho
  | index x0 x1 x2=>exact owes_index hτ h o x0 x1 x2 ho
  | extract x0 x1=>exact owes_extract h o x0 x1 ho
  | call x0=>exact owes_call hτ h o x0 ho
  | makeMap x0 x1=>exact owes_makeMap h o x0 x1 ho
  | lookup x0 x1 x2 x3=>exact owes_lookup hτ h o x0 x1 x2 x3 ho
  | mapUpdate x0 x1 x2 x3=>exact owes_mapUpdate hτ h o x0 x1 x2 x3 ho
  | _=>trivial
end
end Go.Proofs.YtiegopnofbgoaaaGreat.AWN

namespace Go.Proofs.YtiegopnofbgoaaaGreat.AWN
open Go
def St.put (σ:St) (d:Nat) (v:V):St:={ σ with env:=upd σ.env d v }
def St.putO (σ:St):Option Nat→V→St
  | some d,v=>σ.put d v
  | none,_=>σ
def qhy (σ:St):Option Nat→Bool
  | some d=>Nat.blt d σ.nt
  | none=>true
def lift (w0:World) (A:Args) (okA:Nat→Prop) (Q:Exit→St→Prop):Exit→Act→World→Prop:=fun e a W=>∃ hb σ,Q e σ∧Sim w0 A okA hb σ a W
def AW (P:Program) (c:Code) (σ:St) (Q:Exit→St→Prop):Prop:=∀ w0 A okA hb a W,Sim w0 A okA hb σ a W→c.wp P (lift w0 A okA Q) a W
def AWL (P:Program) (ops:Array Oper) (l:List Oper) (σ:St) (Q:Exit→St→Prop):Prop:=∀ w0 A okA hb a W,Sim w0 A okA hb σ a W→wpList P ops (lift w0 A okA Q) l a W
def qs7 (ops:Array Oper) (σ:St) (j:Nat):Option (Option Bool) :=
  match ops[j]? with
  | some o=>match o.dst with
    | some d=>match σ.env d with
      | .d (.bool b)=>some (some b)
      | .und=>some none
      | _=>none
    | none=>some none
  | none=>some none
def qcq (ops:Array Oper) (σ:St) (o:Oper):Option Bool :=
  match o.guard with
  | none=>some true
  | some (j,want)=>match qs7 ops σ j with
    | some (some b)=>some (b == want)
    | some none=>some false
    | none=>none
section
variable {P:Program} {τ:Tab} {w0:World} {A:Args} {okA:Nat→Prop} {hb:Handle} {W:World} {σ:St} {a:Act} {Q:Exit→St→Prop} {ops:Array Oper} {rest:List Oper} {o:Oper}
theorem getD_setIf (c:Array Value) (d t:Nat) (v:Value) (h:d < c.size):(c.setIfInBounds d v).getD t undef = if t = d then v else c.getD t undef:=by
  rw [Array.getD_eq_getD_getElem?,Array.getElem?_setIfInBounds]
  by_cases ht:d = t
  · subst ht;simp [h]
  · rw [if_neg ht,if_neg (Ne.symm ht),← Array.getD_eq_getD_getElem?]
theorem qih (h:Sim w0 A okA hb σ a W) {v:V} {cv:Value} (hv:RelS w0 okA hb σ.heap W v cv) (dst:Option Nat) (hd:qhy σ dst = true):Sim w0 A okA hb (σ.putO dst v) (a.put dst cv) W:=by
  cases dst with
  | none=>exact h
  | some d =>
    have hlt:d < a.tmps.size:=by rw [h.size];simpa [qhy,Nat.blt_eq] using hd
    refine ⟨h.defers,?_,fun t=>?_,h.heap,h.base⟩
    · show (a.tmps.setIfInBounds d cv).size = σ.nt
      simpa using h.size
    · show Rel W hb σ.heap _ (upd σ.env d v t) ((a.tmps.setIfInBounds d cv).getD t undef)
      rw [getD_setIf _ _ _ _ hlt]
      by_cases ht:t = d
      · subst ht;rw [upd_same,if_pos rfl];exact hv
      · rw [upd_ne _ _ ht,if_neg ht];exact h.env t
theorem qmr (h:Sim w0 A okA hb σ a W) {b:Bool} (hw:qcq ops σ o = some b):Region.wanted o (yielded ops a.tmps) = b:=by
  unfold qcq at hw
  unfold Region.wanted
  split at hw
  · rename_i hg;rw [hg];simpa using hw
  · rename_i j want hg
    rw [hg]
    simp only
    have key:∀ y,qs7 ops σ j = some y→yielded ops a.tmps j = y:=by
      intro y hy
      unfold qs7 at hy
      unfold yielded
      split at hy
      · rename_i o' ho'
        rw [ho']
        simp only [Option.bind_some]
        split at hy
        · rename_i d hd
          rw [hd]
          simp only [Option.bind_some]
          have he:=h.env d
          split at hy
          · rename_i b' hb'
            rw [hb'] at he
            have hv:=qk0 he
            have hlt:d < a.tmps.size:=by
              rcases Nat.lt_or_ge d a.tmps.size with hl | hl
              · exact hl
              · rw [Array.getD_eq_getD_getElem?,Array.getElem?_eq_none hl] at hv;cases hv
            rw [qf7 hlt,hv]
            simpa using hy
          · rename_i hb'
            rw [hb'] at he
            have hv:a.tmps.getD d undef = undef:=by
              generalize a.tmps.getD d undef = u at he
              cases he;rfl
            rcases Nat.lt_or_ge d a.tmps.size with hl | hl
            · rw [qf7 hl,hv];simpa [undef] using hy
            · rw [Array.getElem?_eq_none hl];simpa using hy
          · cases hy
        · rename_i hd;rw [hd];simpa using hy
      · rename_i ho';rw [ho'];simpa using hy
    split at hw
    · rename_i b' hy;rw [key _ hy];simpa using hw
    · rename_i hy;rw [key _ hy];simpa using hw
    · cases hw
theorem qa4 (h:Q .normal σ):AWL P ops [] σ Q:=fun w0 A okA hb a W hs=>wpList_nil ⟨hb,σ,h,hs⟩
theorem qin (hw:qcq ops σ o = some true) (h:∀ w0 A okA hb a W,Sim w0 A okA hb σ a W→Does P o a W (fun cv W'=>wpList P ops (lift w0 A okA Q) rest (a.put o.dst cv) W')):AWL P ops (o :: rest) σ Q:=by
  intro w0 A okA hb a W hs
  have hwn:=qmr hs hw
  obtain ⟨cv,W',hrun,hk⟩:=h w0 A okA hb a W hs
  simp only [wpList,hwn,if_true]
  refine .inl ?_
  unfold Oper.wp
  rcases hrun with hrun | ⟨hrun,rfl⟩
  · rw [hrun];exact hk
  · rw [hrun];exact hk
theorem qa3 (hw:qcq ops σ o = some false) (hd:qhy σ o.dst = true) (hK:AWL P ops rest (σ.putO o.dst .und) Q):AWL P ops (o :: rest) σ Q:=by
  intro w0 A okA hb a W hs
  have hwn:=qmr hs hw
  simp only [wpList,hwn,Bool.false_eq_true,if_false]
  exact hK w0 A okA hb _ W (qih hs .und _ hd)
/-! ### One operation -/
theorem qa0 (hτ:qfl P τ) {v:V} (hw:qcq ops σ o = some true) (hd:qhy σ o.dst = true) (h:qbp τ σ o.op = .val v) (hK:AWL P ops rest (σ.putO o.dst v) Q):AWL P ops (o :: rest) σ Q :=
  qin hw fun w0 A okA hb a W hs=>by
    have:=qh3 hτ hs o
    rw [h] at this
    obtain ⟨cv,W',hrun,s,hr⟩:=this
    exact ⟨cv,W',hrun,hK w0 A okA hb _ W' (qih (hs.same s) (hr.same s) _ hd)⟩
theorem qdp (hτ:qfl P τ) {v:V} {p:Prop} (hw:qcq ops σ o = some true) (hd:qhy σ o.dst = true) (h:qbp τ σ o.op = .need p v) (hp:p) (hK:AWL P ops rest (σ.putO o.dst v) Q):AWL P ops (o :: rest) σ Q :=
  qin hw fun w0 A okA hb a W hs=>by
    have:=qh3 hτ hs o
    rw [h] at this
    obtain ⟨cv,W',hrun,s,hr⟩:=this hp
    exact ⟨cv,W',hrun,hK w0 A okA hb _ W' (qih (hs.same s) (hr.same s) _ hd)⟩
theorem qgh (hτ:qfl P τ) {v:V} {p:Prop} {es:List (List D)} {i:Nat} {k:List D→Option V} {e:List D} (hw:qcq ops σ o = some true) (hd:qhy σ o.dst = true) (h:qbp τ σ o.op = .elem p es i k) (hp:p) (he:es[i]? = some e) (hv:k e = some v)
    (hK:AWL P ops rest (σ.putO o.dst v) Q):AWL P ops (o :: rest) σ Q :=
  qin hw fun w0 A okA hb a W hs=>by
    have:=qh3 hτ hs o
    rw [h] at this
    obtain ⟨cv,W',hrun,s,hr⟩:=this e v hp he hv
    exact ⟨cv,W',hrun,hK w0 A okA hb _ W' (qih (hs.same s) (hr.same s) _ hd)⟩
theorem awl_pick (hτ:qfl P τ) {R:Nat→Prop} {k:Nat→V} (hw:qcq ops σ o = some true) (hd:qhy σ o.dst = true) (h:qbp τ σ o.op = .pick R k) (hK:∀ r,R r→AWL P ops rest (σ.putO o.dst (k r)) Q):AWL P ops (o :: rest) σ Q :=
  qin hw fun w0 A okA hb a W hs=>by
    have:=qh3 hτ hs o
    rw [h] at this
    obtain ⟨cv,W',hrun,r,hR,s,hr⟩:=this
    exact ⟨cv,W',hrun,hK r hR w0 A okA hb _ W' (qih (hs.same s) (hr.same s) _ hd)⟩
theorem qaf (hτ:qfl P τ) {v:V} {H:Nat→AObj} {n:Nat} (hw:qcq ops σ o = some true) (hd:qhy σ o.dst = true) (h:qbp τ σ o.op = .valH v H n) (hK:AWL P ops rest (({ σ with heap:=H,next:=n }:St).putO o.dst v) Q):AWL P ops (o :: rest) σ Q :=
  qin hw fun w0 A okA hb a W hs=>by
    have:=qh3 hτ hs o
    rw [h] at this
    obtain ⟨cv,W',hrun,hb',s,hr⟩:=this
    exact ⟨cv,W',hrun,hK w0 A okA hb' _ W' (qih s hr _ (by cases hdd:o.dst <;> rw [hdd] at hd <;> exact hd))⟩
theorem qk4 (hτ:qfl P τ) {v:V} {p:Prop} {H:Nat→AObj} {n:Nat} (hw:qcq ops σ o = some true) (hd:qhy σ o.dst = true) (h:qbp τ σ o.op = .needH p v H n) (hp:p) (hK:AWL P ops rest (({ σ with heap:=H,next:=n }:St).putO o.dst v) Q):AWL P ops (o :: rest) σ Q :=
  qin hw fun w0 A okA hb a W hs=>by
    have:=qh3 hτ hs o
    rw [h] at this
    obtain ⟨cv,W',hrun,hb',s,hr⟩:=this hp
    exact ⟨cv,W',hrun,hK w0 A okA hb' _ W' (qih s hr _ (by cases hdd:o.dst <;> rw [hdd] at hd <;> exact hd))⟩
theorem qpr {t:Nat} {v:V} (h:σ.env t = v):σ.put t v = σ:=by
  unfold St.put;rw [qsx _ _ _ h]
theorem qay (t:Nat) {b:Bool} (h:σ.env t = .d (.bool b)) {l:List Oper} (ht:b = true→AWL P ops l (σ.put t (.d (.bool true))) Q) (hf:b = false→AWL P ops l (σ.put t (.d (.bool false))) Q):AWL P ops l σ Q:=by
  cases b
  · have:=hf rfl;rwa [qpr h] at this
  · have:=ht rfl;rwa [qpr h] at this
/-! ### Code -/
theorem lift_then {P:Program} {c:Code} {e:Exit} {w0:World} {A:Args} {okA:Nat→Prop} {a:Act} {W:World} (h:lift w0 A okA (fun e σ=>match e with
    | .normal=>AW P c σ Q
    | e=>Q e σ) e a W):Exit.then (c.wp P (lift w0 A okA Q)) (lift w0 A okA Q) e a W:=by
  obtain ⟨hb,σ,hq,hs⟩:=h
  cases e with
  | normal=>exact hq w0 A okA hb a W hs
  | _=>exact ⟨hb,σ,hq,hs⟩
def ThenQ (P:Program) (c:Code) (Q:Exit→St→Prop):Exit→St→Prop:=fun e σ=>match e with
  | .normal=>AW P c σ Q
  | e=>Q e σ
theorem qa6 {x y:Code} (h:AW P x σ (ThenQ P y Q)):AW P (.seq x y) σ Q:=fun w0 A okA hb a W hs =>
  wp_seq (Code.wp_mono (fun e a W he=>lift_then (c:=y) he) (h w0 A okA hb a W hs))
theorem qb1 (h:Q .normal σ):AW P .skip σ Q:=fun w0 A okA hb a W hs=>wp_skip ⟨hb,σ,h,hs⟩
theorem qe4 {id:Nat} (h:Q (.exit id) σ):AW P (.exit id) σ Q:=fun w0 A okA hb a W hs=>wp_exit ⟨hb,σ,h,hs⟩
theorem qaq (h:Q .ret σ):AW P .ret σ Q:=fun w0 A okA hb a W hs=>wp_ret ⟨hb,σ,h,hs⟩
def qxf (id:Nat) (Q:Exit→St→Prop):Exit→St→Prop:=fun e σ=>match e with
  | .exit id'=>if id' = id then Q .normal σ else Q (.exit id') σ
  | e=>Q e σ
theorem qb9 {id:Nat} {c:Code} (h:AW P c σ (qxf id Q)):AW P (.block id c) σ Q:=fun w0 A okA hb a W hs =>
  wp_block (Code.wp_mono (fun e a W ⟨hb,σ,hq,hs⟩=>by
    cases e with
    | exit id' =>
      simp only [qxf] at hq
      simp only [Exit.inBlock]
      split
      · rename_i he;rw [if_pos he] at hq;exact ⟨hb,σ,hq,hs⟩
      · rename_i he;rw [if_neg he] at hq;exact ⟨hb,σ,hq,hs⟩
    | _=>exact ⟨hb,σ,hq,hs⟩) (h w0 A okA hb a W hs))
theorem qaw {c:Operand} {x y:Code} {b:Bool} (hc:σ.ev c = .d (.bool b)) (ht:b = true→AW P x σ Q) (hf:b = false→AW P y σ Q):AW P (.cond c x y) σ Q:=fun w0 A okA hb a W hs=>by
  have:=qfi hs c
  rw [hc] at this
  exact wp_cond_split (qk0 this) (fun h=>ht h w0 A okA hb a W hs) (fun h=>hf h w0 A okA hb a W hs)
theorem qa2 {id:Nat} {l:List Oper} (h:AWL P l.toArray l σ Q):AW P (.region id l.toArray false) σ Q:=fun w0 A okA hb a W hs=>wp_region_lit (h w0 A okA hb a W hs)
def Weak (σ σ':St):Prop:=∀ w0 A okA hb a W,Sim w0 A okA hb σ a W→∃ hb',Sim w0 A okA hb' σ' a W
theorem Weak.trans {a b c:St} (h:Weak a b) (k:Weak b c):Weak a c:=fun w0 A okA hb x W hs=>by
  obtain ⟨hb',h1⟩:=h w0 A okA hb x W hs
  exact k w0 A okA hb' x W h1
theorem qa8 {c:Code} {σ':St} (h:Weak σ σ') (k:AW P c σ' Q):AW P c σ Q:=fun w0 A okA hb a W hs=>by
  obtain ⟨hb',h1⟩:=h w0 A okA hb a W hs
  exact k w0 A okA hb' a W h1
theorem qar {l:List Oper} {σ':St} (h:Weak σ σ') (k:AWL P ops l σ' Q):AWL P ops l σ Q:=fun w0 A okA hb a W hs=>by
  obtain ⟨hb',h1⟩:=h w0 A okA hb a W hs
  exact k w0 A okA hb' a W h1
def RoundQ {ι:Type} (inv:ι→St) (μ:ι→Nat) (i:ι) (I:ι→Prop) (Q:Exit→St→Prop):Exit→St→Prop:=fun e σ=>match e with
  | .normal=>∃ j,I j∧μ j < μ i∧Weak σ (inv j)
  | e=>Q e σ
theorem qev {c:Code} {ι:Type} (inv:ι→St) (I:ι→Prop) (μ:ι→Nat) (i0:ι) (h0:I i0) (hw:Weak σ (inv i0)) (round:∀ i,I i→AW P c (inv i) (RoundQ inv μ i I Q)):AW P (.loop c) σ Q:=by
  intro w0 A okA hb a W hs b k cs
  have key:∀ n i,μ i = n→I i→∀ hb a W,Sim w0 A okA hb (inv i) a W →
      ∃ e a' w',lift w0 A okA Q e a' w'∧Arrives P (lone (b.at a (.code c :: .inLoop c :: k)) cs W) b k cs e a' w':=by
    intro n
    induction n using Nat.strongRecOn with
    | _ n ih =>
      intro i hn hI hb a W hs
      obtain ⟨e,a₁,w₁,⟨hb₁,σ₁,hq,hs₁⟩,harr⟩:=round i hI w0 A okA hb a W hs b (.inLoop c :: k) cs
      cases e with
      | normal =>
        obtain ⟨j,hj,hlt,hwk⟩:=hq
        obtain ⟨hb₂,hs₂⟩:=hwk w0 A okA hb₁ a₁ w₁ hs₁
        obtain ⟨e₂,a₂,w₂,hq₂,harr₂⟩:=ih (μ j) (hn ▸ hlt) j rfl hj hb₂ a₁ w₁ hs₂
        exact ⟨e₂,a₂,w₂,hq₂,.of_steps (Steps.trans harr (.one step_inLoop)) harr₂⟩
      | exit id=>exact ⟨_,a₁,w₁,⟨hb₁,σ₁,hq,hs₁⟩,.pass (x:=.inLoop c) rfl (fun _ _=>.inl (by simp)) harr⟩
      | goto l=>exact ⟨_,a₁,w₁,⟨hb₁,σ₁,hq,hs₁⟩,.pass (x:=.inLoop c) rfl (fun _ _=>.inl (by simp)) harr⟩
      | ret=>exact ⟨_,a₁,w₁,⟨hb₁,σ₁,hq,hs₁⟩,.pass (x:=.inLoop c) rfl (fun _ _=>.inl (by simp)) harr⟩
      | panic ch=>exact ⟨_,a₁,w₁,⟨hb₁,σ₁,hq,hs₁⟩,.pass (x:=.inLoop c) rfl (fun _ _=>.inl (by simp)) harr⟩
      | outgrown=>exact ⟨_,a₁,w₁,⟨hb₁,σ₁,hq,hs₁⟩,.pass (x:=.inLoop c) rfl (fun _ _=>.inl (by simp)) harr⟩
  obtain ⟨hb',hs'⟩:=hw w0 A okA hb a W hs
  obtain ⟨e,a',w',hq,harr⟩:=key _ i0 rfl h0 hb' a W hs'
  exact ⟨e,a',w',hq,.of_steps (.one step_loop) harr⟩
end
end Go.Proofs.YtiegopnofbgoaaaGreat.AWN

namespace Go.Proofs.YtiegopnofbgoaaaGreat.AWN
open Go
def mapO {α β:Type} (f:α→Option β):List α→Option (List β)
  | []=>some []
  | x :: r=>match f x,mapO f r with
    | some y,some s=>some (y :: s)
    | _,_=>none
theorem qm4 {α β:Type} {f:α→Option β}:∀ {l:List α} {r:List β},mapO f l = some r→r.length = l.length∧∀ (i:Nat) (x:α),l[i]? = some x→∃ y:β,f x = some y∧r[i]? = some y
  | [],r,h=>by simp [mapO] at h;subst h;exact ⟨rfl,fun i x hx=>by simp at hx⟩
  | x :: l,r,h=>by
    unfold mapO at h
    split at h
    · rename_i y s hy hs
      simp only [Option.some.injEq] at h
      subst h
      obtain ⟨h1,h2⟩:=qm4 hs
      refine ⟨by simp [h1],fun i z hz=>?_⟩
      cases i with
      | zero=>simp at hz;subst hz;exact ⟨y,hy,by simp⟩
      | succ i=>simp at hz;simpa using h2 i z hz
    · cases h
def exC (ρ:Nat→Option Nat) (H:Nat→AObj) (sn:Bool):V→Option V
  | .junk=>some .junk
  | .und=>some .und
  | .d x=>some (.d x)
  | .ptr j off=>match ρ j with
    | some i=>some (.ptr i off)
    | none=>match sn,H j with
      | true,.box cs=>match allD cs with
        | some ds=>some (.rop ds off)
        | none=>none
      | _,_=>none
  | .eptr j L i off=>match ρ j with
    | some k=>some (.eptr k L i off)
    | none=>none
  | .rop cs off=>some (.rop cs off)
  | .row j L off len=>match ρ j with
    | some i=>some (.row i L off len)
    | none=>match sn,H j with
      | true,.row _ es=>some (.d (.sl false ((es.drop off).take len)))
      | _,_=>none
  | .agg _=>none
  | .tup _=>none
  | .func f [] []=>some (.func f [] [])
  | .func _ _ _=>none
  | .mref j=>match ρ j with
    | some i=>some (.mref i)
    | none=>none
def exP (ρ:Nat→Option Nat) (H:Nat→AObj):V→Prop
  | .row j L off len=>match ρ j with
    | some _=>True
    | none=>match H j with
      | .row _ es=>es.length = L∧off + len ≤ L
      | _=>True
  | _=>True
def exPL (ρ:Nat→Option Nat) (H:Nat→AObj):List V→Prop
  | []=>True
  | [v]=>exP ρ H v
  | v :: r=>exP ρ H v∧exPL ρ H r
theorem qoi {ρ:Nat→Option Nat} {H:Nat→AObj}:∀ {l:List V},exPL ρ H l→∀ v ∈ l,exP ρ H v
  | [],_,v,hv=>by simp at hv
  | [x],h,v,hv=>by simp at hv;subst hv;exact h
  | x :: y :: r,h,v,hv=>by
    rcases List.mem_cons.1 hv with rfl | hv
    · exact h.1
    · exact qoi (l:=y :: r) h.2 v hv
def exA (ρ:Nat→Option Nat) (H:Nat→AObj) (sn:Bool):V→Option V
  | .agg cs=>match mapO (exC ρ H sn) cs with
    | some r=>some (.agg r)
    | none=>none
  | .func f a c=>match mapO (exC ρ H sn) a,mapO (exC ρ H sn) c with
    | some a',some c'=>some (.func f a' c')
    | _,_=>none
  | v=>exC ρ H sn v
def exAP (ρ:Nat→Option Nat) (H:Nat→AObj):V→Prop
  | .agg cs=>exPL ρ H cs
  | .func _ a c=>exPL ρ H a∧exPL ρ H c
  | v=>exP ρ H v
def qy2 (ρ:Nat→Option Nat) (H:Nat→AObj):List V→Prop
  | []=>True
  | [v]=>exAP ρ H v
  | v :: r=>exAP ρ H v∧qy2 ρ H r
theorem qte {ρ:Nat→Option Nat} {H:Nat→AObj}:∀ {l:List V},qy2 ρ H l→∀ v ∈ l,exAP ρ H v
  | [],_,v,hv=>by simp at hv
  | [x],h,v,hv=>by simp at hv;subst hv;exact h
  | x :: y :: r,h,v,hv=>by
    rcases List.mem_cons.1 hv with rfl | hv
    · exact h.1
    · exact qte (l:=y :: r) h.2 v hv
def exV (ρ:Nat→Option Nat) (H:Nat→AObj) (sn:Bool):V→Option V
  | .tup vs=>match mapO (exA ρ H sn) vs with
    | some r=>some (.tup r)
    | none=>none
  | v=>exA ρ H sn v
def exVP (ρ:Nat→Option Nat) (H:Nat→AObj):V→Prop
  | .tup vs=>qy2 ρ H vs
  | v=>exAP ρ H v
def exO (ρ:Nat→Option Nat) (H:Nat→AObj) (sn:Bool):AObj→Option AObj
  | .none=>none
  | .box cs=>match mapO (exC ρ H sn) cs with
    | some r=>some (.box r)
    | none=>none
  | .row sz es=>some (.row sz es)
  | .map k es=>some (.map k es)
def exOP (ρ:Nat→Option Nat) (H:Nat→AObj):AObj→Prop
  | .box cs=>exPL ρ H cs
  | _=>True
structure qr4 (W:World) (ρ:Nat→Option Nat) (hb hb':Handle) (H H':Nat→AObj) (ok ok':Nat→Prop) (sn:Bool):Prop where
  good:∀ b,ok b→ok' b
  box:∀ j i cs,ρ j = some i→H j = .box cs→hb' i = hb j∧∃ cs',H' i = .box cs'
  row:∀ j i sz es,ρ j = some i→H j = .row sz es→hb' i = hb j∧H' i = .row sz es
  map:∀ j i k es,ρ j = some i→H j = .map k es→hb' i = hb j∧H' i = .map k es
  snap:sn = true→∀ j b,ρ j = none→H j ≠ .none→hb j = some b→ok' b
  obj:∀ j,qh5 W hb H ok j
section
variable {P:Program} {τ:Tab} {W:World} {ρ:Nat→Option Nat} {hb hb':Handle} {H H':Nat→AObj} {ok ok':Nat→Prop} {sn:Bool}
theorem qn9 (N:qr4 W ρ hb hb' H H' ok ok' sn) {x y:V} {v:Value} (h:Rel W hb H ok x v) (he:exC ρ H sn x = some y) (hp:exP ρ H x):Rel W hb' H' ok' y v:=by
  have mD:Moves W W ok ok':=⟨N.good,fun _ _ _ _ h=>h⟩
  cases h with
  | junk v=>simp [exC] at he;subst he;exact .junk v
  | und=>simp [exC] at he;subst he;exact .und
  | d h=>simp [exC] at he;subst he;exact .d (h.mono mD)
  | agg=>simp [exC] at he
  | tup=>simp [exC] at he
  | rop vals h1 h2 h3 =>
    simp [exC] at he;subst he
    exact .rop vals (fun hne=>N.good _ (h1 hne)) h2 (fun c hc=>(h3 c hc).mono mD)
  | @func f first caps fa fc h1 h2 h3 h4 =>
    cases first with
    | cons x l=>simp [exC] at he
    | nil =>
      cases caps with
      | cons x l=>simp [exC] at he
      | nil =>
        simp only [exC,Option.some.injEq] at he;subst he
        exact .func h1 h2 (fun i hi=>by rw [← h1] at hi;simp at hi) (fun i hi=>by rw [← h2] at hi;simp at hi)
  | @ptr j b off cs h1 h2 =>
    simp only [exC] at he
    split at he
    · rename_i i hi
      simp only [Option.some.injEq] at he;subst he
      obtain ⟨e1,cs',e2⟩:=N.box _ _ _ hi h1
      exact .ptr e2 (e1.trans h2)
    · rename_i hi
      split at he
      · rename_i cs2 hj
        rw [h1] at hj;cases hj
        split at he
        · rename_i ds hds
          simp only [Option.some.injEq] at he;subst he
          have ho:=N.obj j
          unfold qh5 at ho
          rw [h1] at ho
          obtain ⟨b',vals,T,fr,g1,g2,g3,g4,g5,g6⟩:=ho
          have hbb:=Option.some.inj (g1.symm.trans h2)
          subst hbb
          have hcs:=qn4 _ _ hds
          have hl:cs.length = ds.length:=by rw [hcs];simp
          have:=Rel.rop (W:=W) (hb:=hb') (H:=H') (ok:=ok') (cs:=ds) (b:=b') (o:=0) (off:=off) (fun c=>vals.getD c undef) (fun _=>N.snap rfl j b' hi (by rw [h1];simp) g1)
            (fun c hc=>by rw [cell_of_heap g2,Nat.zero_add];exact qf7 (by omega)) (fun c hc=>by
              have:=g6 c (by omega)
              rw [hcs] at this
              have e2:(ds.map V.d).getD c .junk = .d (ds.getD c .nilp):=by
                rw [List.getD_eq_getElem?_getD,List.getElem?_map,List.getElem?_eq_getElem hc,List.getD_eq_getElem?_getD,List.getElem?_eq_getElem hc];rfl
              rw [e2] at this
              cases this with | d this=>exact this.mono mD)
          simpa using this
        · cases he
      · cases he
  | @eptr j L i off b sz es h1 h2 h3 =>
    simp only [exC] at he
    split at he
    · rename_i k hk
      simp only [Option.some.injEq] at he;subst he
      obtain ⟨e1,e2⟩:=N.row _ _ _ _ hk h1
      exact .eptr e2 h2 (e1.trans h3)
    · cases he
  | @eptrStale j L i off sz es v h1 h2 h3 =>
    simp only [exC] at he
    split at he
    · rename_i k hk
      simp only [Option.some.injEq] at he;subst he
      obtain ⟨e1,e2⟩:=N.row _ _ _ _ hk h1
      exact .eptrStale _ e2 h2 h3
    · cases he
  | @row j L off len b sz cap bs es h1 h2 h3 h4 h5 h6 h7 h8 h9 =>
    simp only [exC] at he
    split at he
    · rename_i k hk
      simp only [Option.some.injEq] at he;subst he
      obtain ⟨e1,e2⟩:=N.row _ _ _ _ hk h1
      exact .row e2 h2 (e1.trans h3) h4 h5 h6 h7 h8 h9
    · rename_i hk
      split at he
      · rename_i sz' es' hj
        rw [h1] at hj;cases hj
        simp only [Option.some.injEq] at he;subst he
        have ho:=N.obj j
        unfold qh5 at ho
        rw [h1] at ho
        obtain ⟨g0,g⟩:=ho
        rcases g with ⟨g1,g2⟩ | ⟨b',vals,T,fr,g1,g2,g3,g4,g5⟩
        · rw [g2] at h3;cases h3
        · have hbb:=Option.some.inj (g1.symm.trans h3)
          subst hbb
          have hlen:((es.drop off).take len).length = len:=by simp;omega
          refine .d (.sl sz (fun i c=>vals.getD ((off + i) * sz + c) undef) (fun _=>N.snap rfl j b' hk (by rw [h1];simp) g1) hlen h6 (fun hf=>by cases hf) (by omega) (fun i hi=>?_) (fun i c hi hc=>?_) (fun i c hi hc=>?_))
          · rw [qfk _ _ _ _ _ hi]
            have:off + i < es.length:=by omega
            rw [List.getD_eq_getElem?_getD,List.getElem?_eq_getElem this]
            exact g0 _ (List.getElem_mem this)
          · have hbd:(off + i + 1) * sz ≤ es.length * sz:=Nat.mul_le_mul_right _ (by omega)
            rw [Nat.add_mul (off + i),Nat.one_mul] at hbd
            rw [cell_of_heap g2,← Nat.add_assoc,← Nat.add_mul]
            exact qf7 (by omega)
          · rw [qfk _ _ _ _ _ hi]
            exact (g5 (off + i) c (by omega) hc).mono mD
      · cases he
  | @rowEmpty j L off sz cap b o es h1 h2 h3 =>
    simp only [exC] at he
    split at he
    · rename_i k hk
      simp only [Option.some.injEq] at he;subst he
      obtain ⟨e1,e2⟩:=N.row _ _ _ _ hk h1
      exact .rowEmpty e2 h2 h3
    · split at he
      · simp only [Option.some.injEq] at he;subst he
        rw [List.take_zero]
        exact .d (.sl (len:=0) 0 (fun _ _=>undef) (fun h=>absurd rfl h) rfl (Nat.zero_le _) (fun hf=>by cases hf) (Nat.zero_le _) (fun i hi=>by omega) (fun i c hi=>by omega) (fun i c hi=>by omega))
      · cases he
  | @rowNil j sz h1 h2 =>
    simp only [exC] at he
    split at he
    · rename_i k hk
      simp only [Option.some.injEq] at he;subst he
      obtain ⟨e1,e2⟩:=N.row _ _ _ _ hk h1
      exact .rowNil e2 (e1.trans h2)
    · split at he
      · simp only [Option.some.injEq] at he;subst he
        rw [List.take_zero]
        exact .d (.slnil false)
      · cases he
  | @rowStale j L off len sz es v h1 h2 h3 =>
    simp only [exC] at he
    split at he
    · rename_i k hk
      simp only [Option.some.injEq] at he;subst he
      obtain ⟨e1,e2⟩:=N.row _ _ _ _ hk h1
      exact .rowStale _ e2 h2 h3
    · rename_i hk
      simp only [exP,hk,h1] at hp
      omega
  | @mref j b k es h1 h2 =>
    simp only [exC] at he
    split at he
    · rename_i i hk
      simp only [Option.some.injEq] at he;subst he
      obtain ⟨e1,e2⟩:=N.map _ _ _ _ hk h1
      exact .mref e2 (e1.trans h2)
    · cases he
theorem qlx (N:qr4 W ρ hb hb' H H' ok ok' sn) {f:V→Option V} {pr:V→Prop} (hf:∀ {x y:V} {v:Value},Rel W hb H ok x v→f x = some y→pr x→Rel W hb' H' ok' y v) {cs ds:List V} {c:Array Value} (h:RelL W hb H ok cs c) (he:mapO f cs = some ds) (hp:∀ v ∈ cs,pr v):RelL W hb' H' ok' ds c:=by
  obtain ⟨h1,h2⟩:=qm4 he
  refine ⟨by rw [h1,h.1],fun i hi=>?_⟩
  have hl:i < cs.length:=by rw [h.1];exact hi
  obtain ⟨y,e1,e2⟩:=h2 i cs[i] (List.getElem?_eq_getElem hl)
  have hr:=h.2 i hi
  rw [List.getD_eq_getElem?_getD,List.getElem?_eq_getElem hl] at hr
  rw [getD_some e2]
  exact hf hr e1 (hp _ (List.getElem_mem hl))
theorem qtf (N:qr4 W ρ hb hb' H H' ok ok' sn) {x y:V} {v:Value} (h:Rel W hb H ok x v) (he:exA ρ H sn x = some y) (hp:exAP ρ H x):Rel W hb' H' ok' y v:=by
  unfold exA at he
  split at he
  · split at he
    · rename_i r hr
      simp only [Option.some.injEq] at he;subst he
      cases h with
      | agg e1 e2 =>
        obtain ⟨q1,q2⟩:=qlx N (fun a b c=>qn9 N a b c) ⟨e1,e2⟩ hr (qoi hp)
        exact .agg q1 q2
    · cases he
  · split at he
    · rename_i a' c' ha hc
      simp only [Option.some.injEq] at he;subst he
      cases h with
      | func e1 e2 e3 e4 =>
        obtain ⟨q1,q2⟩:=qlx N (fun a b c=>qn9 N a b c) ⟨e1,e3⟩ ha (qoi hp.1)
        obtain ⟨q3,q4⟩:=qlx N (fun a b c=>qn9 N a b c) ⟨e2,e4⟩ hc (qoi hp.2)
        exact .func q1 q3 q2 q4
    · cases he
  · rename_i h1 h2
    refine qn9 N h he ?_
    cases x <;> first | exact hp | (exfalso;exact h1 _ rfl) | (exfalso;exact h2 _ _ _ rfl)
theorem qoj (N:qr4 W ρ hb hb' H H' ok ok' sn) {x y:V} {v:Value} (h:Rel W hb H ok x v) (he:exV ρ H sn x = some y) (hp:exVP ρ H x):Rel W hb' H' ok' y v:=by
  unfold exV at he
  split at he
  · split at he
    · rename_i r hr
      simp only [Option.some.injEq] at he;subst he
      cases h with
      | tup e1 e2 =>
        obtain ⟨q1,q2⟩:=qlx N (fun a b c=>qtf N a b c) ⟨e1,e2⟩ hr (qte hp)
        exact .tup q1 q2
    · cases he
  · rename_i h1
    refine qtf N h he ?_
    cases x <;> first | exact hp | (exfalso;exact h1 _ rfl)
theorem qqb (N:qr4 W ρ hb hb' H H' ok ok' sn) {j i:Nat} {o:AObj} (hji:ρ j = some i) (ho:exO ρ H sn (H j) = some o) (hp:exOP ρ H (H j)) (hH:H' i = o) (hh:hb' i = hb j):qh5 W hb' H' ok' i:=by
  have hobj:=N.obj j
  have mD:Moves W W ok ok':=⟨N.good,fun _ _ _ _ h=>h⟩
  unfold qh5 at *
  rw [hH]
  cases hj:H j with
  | none=>rw [hj] at ho;simp [exO] at ho
  | box cs =>
    rw [hj] at ho hobj hp
    simp only [exO] at ho
    split at ho
    · rename_i r hr
      simp only [Option.some.injEq] at ho;subst ho
      obtain ⟨b,vals,T,fr,h1,h2,h3,h4,h5,h6⟩:=hobj
      obtain ⟨q1,q2⟩:=qlx N (fun a b c=>qn9 N a b c) ⟨h3.symm,h6⟩ hr (qoi hp)
      exact ⟨b,vals,T,fr,hh.trans h1,h2,q1.symm,h4,trivial,q2⟩
    · cases ho
  | row sz es =>
    rw [hj] at ho hobj
    simp only [exO,Option.some.injEq] at ho;subst ho
    obtain ⟨h0,h⟩:=hobj
    refine ⟨h0,?_⟩
    rcases h with ⟨e1,e2⟩ | ⟨b,vals,T,fr,h1,h2,h3,h4,h5⟩
    · exact .inl ⟨e1,hh.trans e2⟩
    · exact .inr ⟨b,vals,T,fr,hh.trans h1,h2,h3,h4,fun i k hi hk=>(h5 i k hi hk).mono mD⟩
  | map k es =>
    rw [hj] at ho hobj
    simp only [exO,Option.some.injEq] at ho;subst ho
    obtain ⟨b,ents,cl,h1,h2,h3,h4⟩:=hobj
    exact ⟨b,ents,cl,hh.trans h1,h2,h3,fun i e x he hx=>⟨(h4 i e x he hx).1,(h4 i e x he hx).2.mono mD⟩⟩
end
/-! ### A call's contract -/
def qb3 (objs:List AObj):Nat→AObj:=fun j=>objs.getD j .none
def noOk:Nat→Prop:=fun _=>False
def qax (P:Program) (fr:Bool) (k:FuncId) (args:List V) (objs:List AObj) (R:V→List AObj→List AObj→Prop):Prop :=
  ∀ (W:World) (A:Args) (hb:Handle) (okA:Nat→Prop) (vals:Array Value),A.H0 = qb3 objs→A.hb0 = hb →
    HSim W A okA hb (qb3 objs) objs.length W→RelL W hb (qb3 objs) (okF W okA hb (qb3 objs) W) args vals →
    Calls P k vals W (fun e W'=>∃ v r objs' new hb',e = .returned v∧R r objs' new∧objs'.length = objs.length ∧
      HSim W A (if fr then noOk else okA) hb' (qb3 (objs' ++ new)) (objs' ++ new).length W'∧RelS W (if fr then noOk else okA) hb' (qb3 (objs' ++ new)) W' r v)
theorem qax.mono {P:Program} {fr:Bool} {k:FuncId} {args:List V} {objs:List AObj} {R R':V→List AObj→List AObj→Prop} (h:qax P fr k args objs R) (hr:∀ r o n,R r o n→R' r o n):qax P fr k args objs R' :=
  fun W A hb okA vals h1 h2 h3 h4=>(h W A hb okA vals h1 h2 h3 h4).mono fun e W' ⟨v,r,o,n,hb',e1,e2,e3⟩=>⟨v,r,o,n,hb',e1,hr _ _ _ e2,e3⟩
end Go.Proofs.YtiegopnofbgoaaaGreat.AWN

namespace Go.Proofs.YtiegopnofbgoaaaGreat.AWN
open Go
def qdn:List Nat→Nat→Option Nat
  | [],_=>none
  | x :: r,j=>bif Nat.beq x j then some 0 else match qdn r j with
    | some i=>some (i + 1)
    | none=>none
def updL {α:Type} (f:Nat→α):List Nat→List α→(Nat→α)
  | j :: js,x :: xs=>updL (upd f j x) js xs
  | _,_=>f
def renC (nm:List Nat):V→V
  | .ptr j off=>.ptr (nm.getD j 0) off
  | .eptr j L i off=>.eptr (nm.getD j 0) L i off
  | .row j L off len=>.row (nm.getD j 0) L off len
  | .mref j=>.mref (nm.getD j 0)
  | .func f [] []=>.func f [] []
  | .func _ _ _=>.junk
  | .agg _=>.junk
  | .tup _=>.junk
  | v=>v
def renA (nm:List Nat):V→V
  | .agg cs=>.agg (cs.map (renC nm))
  | .func f a c=>.func f (a.map (renC nm)) (c.map (renC nm))
  | v=>renC nm v
def renV (nm:List Nat):V→V
  | .tup vs=>.tup (vs.map (renA nm))
  | v=>renA nm v
def renO (nm:List Nat):AObj→AObj
  | .box cs=>.box (cs.map (renC nm))
  | o=>o
def St.names (σ:St) (js:List Nat) (k:Nat):List Nat:=js ++ List.range' σ.next k
def St.after (σ:St) (js:List Nat) (objs' new:List AObj):St :=
  { σ with heap:=updL σ.heap (σ.names js new.length) ((objs' ++ new).map (renO (σ.names js new.length))),next:=σ.next + new.length }
theorem qgp:∀ {js:List Nat} {j i:Nat},qdn js j = some i→js[i]? = some j
  | [],j,i,h=>by simp [qdn] at h
  | x :: r,j,i,h=>by
    unfold qdn at h
    cases hb:Nat.beq x j with
    | true =>
      rw [hb] at h
      simp only [cond_true,Option.some.injEq] at h
      subst h
      simp [Nat.eq_of_beq_eq_true hb]
    | false =>
      rw [hb] at h
      simp only [cond_false] at h
      split at h
      · rename_i k hk
        simp only [Option.some.injEq] at h
        subst h
        simpa using qgp hk
      · cases h
theorem ql5:∀ {js:List Nat} {j:Nat},qdn js j = none→j ∉ js
  | [],j,h=>by simp
  | x :: r,j,h=>by
    unfold qdn at h
    cases hb:Nat.beq x j with
    | true=>rw [hb] at h;cases h
    | false =>
      rw [hb] at h
      simp only [cond_false] at h
      split at h
      · cases h
      · rename_i hk
        intro hm
        rcases List.mem_cons.1 hm with rfl | hm
        · simp at hb
        · exact ql5 hk hm
theorem qpt {α:Type}:∀ (js:List Nat) (xs:List α) (f:Nat→α) (j:Nat),j ∉ js→updL f js xs j = f j
  | [],xs,f,j,h=>by cases xs <;> rfl
  | k :: js,[],f,j,h=>rfl
  | k :: js,x :: xs,f,j,h=>by
    simp only [List.mem_cons,not_or] at h
    rw [updL,qpt js xs _ j h.2,upd_ne _ _ h.1]
theorem qus {α:Type}:∀ (js:List Nat) (xs:List α) (f:Nat→α) (i j:Nat) (x:α),js.Nodup→js[i]? = some j→xs[i]? = some x→updL f js xs j = x
  | [],xs,f,i,j,x,_,h,_=>by simp at h
  | k :: js,[],f,i,j,x,_,_,h=>by simp at h
  | k :: js,y :: xs,f,0,j,x,hn,h1,h2=>by
    simp at h1 h2;subst h1;subst h2
    rw [updL,qpt js xs _ k (List.nodup_cons.1 hn).1,upd_same]
  | k :: js,y :: xs,f,i + 1,j,x,hn,h1,h2=>by
    simp at h1 h2
    rw [updL]
    exact qus js xs _ i j x (List.nodup_cons.1 hn).2 h1 h2
section
variable {P:Program} {τ:Tab} {W:World} {hb hb':Handle} {H H':Nat→AObj} {ok ok':Nat→Prop} {nm:List Nat}
structure Back (nm:List Nat) (hb hb':Handle) (H H':Nat→AObj) (ok ok':Nat→Prop):Prop where
  good:∀ b,ok b→ok' b
  obj:∀ j,H j ≠ .none→H' (nm.getD j 0) = renO nm (H j)∧hb' (nm.getD j 0) = hb j
theorem qmn (N:Back nm hb hb' H H' ok ok') {x:V} {v:Value} (h:Rel W hb H ok x v):Rel W hb' H' ok' (renC nm x) v:=by
  have mD:Moves W W ok ok':=⟨N.good,fun _ _ _ _ h=>h⟩
  have hrow:∀ {j sz es},H j = .row sz es→H' (nm.getD j 0) = .row sz es∧hb' (nm.getD j 0) = hb j:=fun {j sz es} hj=>by
    obtain ⟨e1,e2⟩:=N.obj j (by rw [hj];simp)
    rw [hj] at e1;exact ⟨e1,e2⟩
  cases h with
  | junk v=>exact .junk v
  | und=>exact .und
  | d h=>exact .d (h.mono mD)
  | agg=>exact .junk _
  | tup=>exact .junk _
  | ptr h1 h2 =>
    obtain ⟨e1,e2⟩:=N.obj _ (by rw [h1];simp)
    rw [h1] at e1
    exact .ptr e1 (e2.trans h2)
  | eptr h1 h2 h3=>exact .eptr (hrow h1).1 h2 ((hrow h1).2.trans h3)
  | eptrStale v h1 h2 h3=>exact .eptrStale _ (hrow h1).1 h2 h3
  | rop vals h1 h2 h3=>exact .rop vals (fun hne=>N.good _ (h1 hne)) h2 (fun c hc=>(h3 c hc).mono mD)
  | row h1 h2 h3 h4 h5 h6 h7 h8 h9=>exact .row (hrow h1).1 h2 ((hrow h1).2.trans h3) h4 h5 h6 h7 h8 h9
  | rowEmpty h1 h2 h3=>exact .rowEmpty (hrow h1).1 h2 h3
  | rowNil h1 h2=>exact .rowNil (hrow h1).1 ((hrow h1).2.trans h2)
  | rowStale v h1 h2 h3=>exact .rowStale _ (hrow h1).1 h2 h3
  | @func f first caps fa fc h1 h2 h3 h4 =>
    cases first with
    | cons x l=>exact .junk _
    | nil =>
      cases caps with
      | cons x l=>exact .junk _
      | nil=>exact .func h1 h2 (fun i hi=>by rw [← h1] at hi;simp at hi) (fun i hi=>by rw [← h2] at hi;simp at hi)
  | mref h1 h2 =>
    obtain ⟨e1,e2⟩:=N.obj _ (by rw [h1];simp)
    rw [h1] at e1
    exact .mref e1 (e2.trans h2)
theorem qot {f:V→V} (hf:∀ {x:V} {v:Value},Rel W hb H ok x v→Rel W hb' H' ok' (f x) v) {cs:List V} {c:Array Value} (h:RelL W hb H ok cs c):RelL W hb' H' ok' (cs.map f) c:=by
  refine ⟨by simpa using h.1,fun i hi=>?_⟩
  have hl:i < cs.length:=by rw [h.1];exact hi
  have:=h.2 i hi
  rw [List.getD_eq_getElem?_getD,List.getElem?_eq_getElem hl] at this
  rw [List.getD_eq_getElem?_getD,List.getElem?_map,List.getElem?_eq_getElem hl]
  exact hf this
theorem qs1 (N:Back nm hb hb' H H' ok ok') {x:V} {v:Value} (h:Rel W hb H ok x v):Rel W hb' H' ok' (renA nm x) v:=by
  unfold renA
  split
  · cases h with
    | agg e1 e2 =>
      obtain ⟨q1,q2⟩:=qot (fun h=>qmn N h) ⟨e1,e2⟩
      exact .agg q1 q2
  · cases h with
    | func e1 e2 e3 e4 =>
      obtain ⟨q1,q2⟩:=qot (fun h=>qmn N h) ⟨e1,e3⟩
      obtain ⟨q3,q4⟩:=qot (fun h=>qmn N h) ⟨e2,e4⟩
      exact .func q1 q3 q2 q4
  · exact qmn N h
theorem qs2 (N:Back nm hb hb' H H' ok ok') {x:V} {v:Value} (h:Rel W hb H ok x v):Rel W hb' H' ok' (renV nm x) v:=by
  unfold renV
  split
  · cases h with
    | tup e1 e2 =>
      obtain ⟨q1,q2⟩:=qot (fun h=>qs1 N h) ⟨e1,e2⟩
      exact .tup q1 q2
  · exact qs1 N h
end
def qn3 (P:Program) (k:FuncId):Prop:=∀ vals w,(callFunc k vals).run P w = .ok (.enter k vals) w
theorem qai {P:Program} {k:FuncId} {fn:Func} (hf:P.funcs[k]? = some fn) (hn:(fn.name == "runtime.NumGoroutine") = false) (hb:fn.body.isNone = false):qn3 P k:=fun vals w=>by
  simp only [callFunc,Sem.run_bind,run_program,Result.andThen_ok,hf,hn,hb,Bool.false_eq_true,if_false,Sem.run_pure]
section
variable {P:Program} {τ:Tab} {w0:World} {A:Args} {okA:Nat→Prop} {hb:Handle} {W:World} {σ:St} {a:Act} {Q:Exit→St→Prop} {ops:Array Oper} {rest:List Oper} {o:Oper}
theorem qwf (h:HSim w0 A okA hb σ.heap σ.next W) {fr:Bool} {js:List Nat} {objs:List AObj} (hnd:js.Nodup) (hobjs:mapO (fun j=>exO (qdn js) σ.heap fr (σ.heap j)) js = some objs) (hpo:∀ j ∈ js,exOP (qdn js) σ.heap (σ.heap j)) :
    let hbc:Handle:=fun i=>match js[i]? with
      | some j=>hb j
      | none=>none
    let okc:Nat→Prop:=fun b=>b < W.heap.size∧(okF w0 okA hb σ.heap W b ∨ (fr = true∧∃ j,σ.heap j ≠ .none∧j ∉ js∧hb j = some b))
    let Ac:Args:=⟨qb3 objs,hbc⟩
    HSim W Ac okc hbc (qb3 objs) objs.length W∧qr4 W (qdn js) hb hbc σ.heap (qb3 objs) (okF w0 okA hb σ.heap W) (okF W okc hbc (qb3 objs) W) fr∧(∀ j ∈ js,σ.heap j ≠ .none):=by
  intro hbc okc Ac
  obtain ⟨m1,m2⟩:=qm4 hobjs
  have hlive:∀ j ∈ js,σ.heap j ≠ .none:=by
    intro j hj e
    obtain ⟨i,hi,ei⟩:=List.getElem_of_mem hj
    obtain ⟨y,e1,_⟩:=m2 i js[i] (List.getElem?_eq_getElem hi)
    rw [ei,e] at e1;simp [exO] at e1
  have hobj:∀ i j,js[i]? = some j→∃ y,exO (qdn js) σ.heap fr (σ.heap j) = some y∧qb3 objs i = y:=by
    intro i j hij
    obtain ⟨y,e1,e2⟩:=m2 i j hij
    exact ⟨y,e1,by unfold qb3;exact getD_some e2 _⟩
  have hbj:∀ i j,js[i]? = some j→hbc i = hb j:=by intro i j hij;show (match js[i]? with | some j=>hb j | none=>none) = _;rw [hij]
  have hnone:∀ i,js.length ≤ i→qb3 objs i = .none:=by
    intro i hi
    unfold qb3
    rw [List.getD_eq_getElem?_getD,List.getElem?_eq_none (by omega)];rfl
  have hin:∀ i,qb3 objs i ≠ .none→∃ j,js[i]? = some j:=by
    intro i hi
    rcases Nat.lt_or_ge i js.length with hl | hl
    · exact ⟨js[i],List.getElem?_eq_getElem hl⟩
    · exact absurd (hnone i hl) hi
  have N:qr4 W (qdn js) hb hbc σ.heap (qb3 objs) (okF w0 okA hb σ.heap W) (okF W okc hbc (qb3 objs) W) fr:=by
    refine ⟨fun b hb'=>⟨hb'.1,.inl ⟨hb'.1,.inl hb'⟩,fun i hi e=>?_⟩,fun j i cs hj hcs=>?_,fun j i sz es hj hes=>?_,fun j i kk es hj hes=>?_,fun hfr j b hj hne hbjj=>?_,h.obj⟩
    · obtain ⟨j,hij⟩:=hin i hi
      rw [hbj i j hij] at e
      exact hb'.2.2 j (hlive j (List.mem_of_getElem? hij)) e
    · have hij:=qgp hj
      obtain ⟨y,e1,e2⟩:=hobj i j hij
      refine ⟨hbj i j hij,?_⟩
      rw [hcs] at e1
      simp only [exO] at e1
      split at e1
      · simp only [Option.some.injEq] at e1;subst e1;exact ⟨_,e2⟩
      · cases e1
    · have hij:=qgp hj
      obtain ⟨y,e1,e2⟩:=hobj i j hij
      refine ⟨hbj i j hij,?_⟩
      rw [hes] at e1
      simp only [exO,Option.some.injEq] at e1
      rw [e2,← e1]
    · have hij:=qgp hj
      obtain ⟨y,e1,e2⟩:=hobj i j hij
      refine ⟨hbj i j hij,?_⟩
      rw [hes] at e1
      simp only [exO,Option.some.injEq] at e1
      rw [e2,← e1]
    · have hnm:=ql5 hj
      have hlt:=(h.hnd j b hne hbjj).1
      refine ⟨hlt,.inl ⟨hlt,.inr ⟨hfr,j,hne,hnm,hbjj⟩⟩,fun i hi e=>?_⟩
      obtain ⟨j',hij⟩:=hin i hi
      rw [hbj i j' hij] at e
      have:=h.inj j j' b hne (hlive j' (List.mem_of_getElem? hij)) hbjj e
      subst this
      exact hnm (List.mem_of_getElem? hij)
  refine ⟨{ obj:=fun i=>?_,inj:=fun i k b hi hk hbi hbk=>?_,hnd:=fun i b hi hbi=>?_,fresh:=fun i hi=>hnone i (by omega),ext:=Ext.refl _ _,keep:=MovesR.refl _ _ _,lay:=fun g vs hg=>?_ },N,hlive⟩
  · by_cases hi:qb3 objs i = .none
    · unfold qh5;rw [hi];trivial
    · obtain ⟨j,hij⟩:=hin i hi
      obtain ⟨y,e1,e2⟩:=hobj i j hij
      have hix:qdn js j = some i:=by
        cases hx:qdn js j with
        | none=>exact absurd (List.mem_of_getElem? hij) (ql5 hx)
        | some i' =>
          have h1:=qgp hx
          have hl1:i' < js.length:=(List.getElem?_eq_some_iff.1 h1).1
          have hl2:i < js.length:=(List.getElem?_eq_some_iff.1 hij).1
          have:=(List.getElem_inj (h₀:=hl1) (h₁:=hl2) hnd).1 (by rw [List.getElem?_eq_getElem hl1] at h1;rw [List.getElem?_eq_getElem hl2] at hij;rw [Option.some.inj h1,Option.some.inj hij])
          rw [this]
      exact qqb N hix e1 (hpo j (List.mem_of_getElem? hij)) e2 (hbj i j hij)
  · obtain ⟨j,hij⟩:=hin i hi
    obtain ⟨j',hkj⟩:=hin k hk
    rw [hbj i j hij] at hbi
    rw [hbj k j' hkj] at hbk
    have:=h.inj j j' b (hlive j (List.mem_of_getElem? hij)) (hlive j' (List.mem_of_getElem? hkj)) hbi hbk
    subst this
    have hl1:i < js.length:=(List.getElem?_eq_some_iff.1 hij).1
    have hl2:k < js.length:=(List.getElem?_eq_some_iff.1 hkj).1
    exact (List.getElem_inj (h₀:=hl1) (h₁:=hl2) hnd).1 (by rw [List.getElem?_eq_getElem hl1] at hij;rw [List.getElem?_eq_getElem hl2] at hkj;rw [Option.some.inj hij,Option.some.inj hkj])
  · obtain ⟨j,hij⟩:=hin i hi
    rw [hbj i j hij] at hbi
    exact ⟨(h.hnd j b (hlive j (List.mem_of_getElem? hij)) hbi).1,.inl ⟨hi,by show hbc i = some b;rw [hbj i j hij];exact hbi⟩⟩
  · obtain ⟨⟨T,fr',h1⟩,h2⟩:=h.lay g vs hg
    have hlt:g < w0.heap.size:=(Array.getElem?_eq_some_iff.1 h1).1
    refine ⟨⟨T,fr',by rw [h.ext.kept g hlt h2];exact h1⟩,fun ⟨i,hi,hbi⟩=>?_⟩
    obtain ⟨j,hij⟩:=hin i hi
    have hbi':hbc i = some g:=hbi
    rw [hbj i j hij] at hbi'
    rcases (h.hnd j g (hlive j (List.mem_of_getElem? hij)) hbi').2 with h3 | h3
    · exact h2 ⟨j,h3⟩
    · omega
end
end Go.Proofs.YtiegopnofbgoaaaGreat.AWN

namespace Go.Proofs.YtiegopnofbgoaaaGreat.AWN
open Go
section
variable {P:Program} {τ:Tab} {w0:World} {A:Args} {okA:Nat→Prop} {hb:Handle} {W W':World} {σ:St} {a:Act} {Q:Exit→St→Prop} {ops:Array Oper} {rest:List Oper} {o:Oper}
theorem qml {js:List Nat} (h:js.Nodup) {i k j:Nat} (h1:js[i]? = some j) (h2:js[k]? = some j):i = k:=by
  have hl1:i < js.length:=(List.getElem?_eq_some_iff.1 h1).1
  have hl2:k < js.length:=(List.getElem?_eq_some_iff.1 h2).1
  rw [List.getElem?_eq_getElem hl1] at h1
  rw [List.getElem?_eq_getElem hl2] at h2
  exact (List.getElem_inj (h₀:=hl1) (h₁:=hl2) h).1 (by rw [Option.some.inj h1,Option.some.inj h2])
def handles (hb':Handle) (m:Nat):List (Option Nat):=(List.range m).map hb'
theorem qv2 (h:HSim w0 A okA hb σ.heap σ.next W) {fr:Bool} {js:List Nat} {objs objs' new:List AObj} (hnd:js.Nodup) (hlive:∀ j ∈ js,σ.heap j ≠ .none)
    {hbc hb':Handle} (hbj:∀ i j,js[i]? = some j→hbc i = hb j) (hol:objs.length = js.length) {okc:Nat→Prop}
    (hokc:∀ b,fr = false→okc b→okF w0 okA hb σ.heap W b) {Ac:Args} (hH0:Ac.H0 = qb3 objs) (hhb0:Ac.hb0 = hbc)
    (hbox:∀ i j cs,js[i]? = some j→σ.heap j = .box cs→∃ cs',qb3 objs i = .box cs') (hrow:∀ i j sz es,js[i]? = some j→σ.heap j = .row sz es→qb3 objs i = .row sz es) (hmp:∀ i j kk es,js[i]? = some j→σ.heap j = .map kk es→qb3 objs i = .map kk es)
    (hl:objs'.length = objs.length) (h':HSim W Ac (if fr then noOk else okc) hb' (qb3 (objs' ++ new)) (objs' ++ new).length W') :
    ∃ hb'',Sim w0 A okA hb σ a W→Sim w0 A okA hb'' (σ.after js objs' new) a W'∧Back (σ.names js new.length) hb' hb'' (qb3 (objs' ++ new)) (σ.after js objs' new).heap (okF W (if fr then noOk else okc) hb' (qb3 (objs' ++ new)) W') (okF w0 okA hb'' (σ.after js objs' new).heap W'):=by
  have hlt:∀ j ∈ js,j < σ.next:=fun j hj=>by
    rcases Nat.lt_or_ge j σ.next with h1 | h1
    · exact h1
    · exact absurd (h.fresh j h1) (hlive j hj)
  let nm:=σ.names js new.length
  have hnmd:nm = js ++ List.range' σ.next new.length:=rfl
  have hnn:nm.Nodup:=by
    rw [hnmd]
    refine List.nodup_append.2 ⟨hnd,List.nodup_range',fun x hx y hy=>?_⟩
    have:=hlt x hx
    simp [List.mem_range'_1] at hy
    omega
  have hnl:nm.length = (objs' ++ new).length:=by rw [hnmd];simp;omega
  let H'':=(σ.after js objs' new).heap
  have hH'':H'' = updL σ.heap nm ((objs' ++ new).map (renO nm)):=rfl
  let hb'':Handle:=updL hb nm (handles hb' (objs' ++ new).length)
  have hin:∀ i j,nm[i]? = some j→H'' j = renO nm (qb3 (objs' ++ new) i)∧hb'' j = hb' i:=by
    intro i j hij
    have hil:i < nm.length:=(List.getElem?_eq_some_iff.1 hij).1
    have hil':i < (objs' ++ new).length:=by omega
    refine ⟨?_,?_⟩
    · refine qus _ _ _ i j _ hnn hij ?_
      rw [List.getElem?_map,List.getElem?_eq_getElem hil']
      unfold qb3
      rw [List.getD_eq_getElem?_getD,List.getElem?_eq_getElem hil'];rfl
    · refine qus _ _ _ i j _ hnn hij ?_
      unfold handles
      rw [List.getElem?_map,List.getElem?_range hil'];rfl
  have hout:∀ j,j ∉ nm→H'' j = σ.heap j∧hb'' j = hb j:=fun j hj=>⟨qpt _ _ _ _ hj,qpt _ _ _ _ hj⟩
  have hren:∀ x,renO nm x ≠ .none→x ≠ .none:=fun x hx e=>by subst e;exact hx rfl
  have hsz:W.heap.size ≤ W'.heap.size:=h'.ext.size
  have hobjs:∀ i,qb3 objs i ≠ .none→∃ j,js[i]? = some j:=fun i hi=>by
    rcases Nat.lt_or_ge i js.length with h1 | h1
    · exact ⟨js[i],List.getElem?_eq_getElem h1⟩
    · refine absurd ?_ hi
      unfold qb3
      rw [List.getD_eq_getElem?_getD,List.getElem?_eq_none (by omega)];rfl
  have hblk:∀ b,Ac.blk b→∃ j,j ∈ js∧hb j = some b:=fun b ⟨i,h1,h2⟩=>by
    rw [hH0] at h1
    obtain ⟨j,hij⟩:=hobjs i h1
    rw [hhb0,hbj i j hij] at h2
    exact ⟨j,List.mem_of_getElem? hij,h2⟩
  -- a handle of the callee's: one that was passed,or new
  have hc0:∀ i b,qb3 (objs' ++ new) i ≠ .none→hb' i = some b→b < W'.heap.size∧((∃ j,js[i]? = some j∧hb j = some b) ∨ W.heap.size ≤ b):=fun i b hi hbi=>by
    obtain ⟨h1,h2⟩:=h'.hnd i b hi hbi
    refine ⟨h1,h2.imp (fun ⟨h3,h4⟩=>?_) id⟩
    rw [hH0] at h3
    obtain ⟨j,hij⟩:=hobjs i h3
    rw [hhb0,hbj i j hij] at h4
    exact ⟨j,hij,h4⟩
  have hc':∀ i b,qb3 (objs' ++ new) i ≠ .none→hb' i = some b→b < W'.heap.size∧((∃ j,j ∈ js∧hb j = some b) ∨ W.heap.size ≤ b):=fun i b hi hbi=>by
    obtain ⟨h1,h2⟩:=hc0 i b hi hbi
    exact ⟨h1,h2.imp (fun ⟨j,h3,h4⟩=>⟨j,List.mem_of_getElem? h3,h4⟩) id⟩
  have hmem:∀ j,j ∈ nm→∃ i,nm[i]? = some j:=fun j hj=>by
    obtain ⟨i,hi,e⟩:=List.getElem_of_mem hj
    exact ⟨i,by rw [List.getElem?_eq_getElem hi,e]⟩
  have hjs_nm:∀ i j,js[i]? = some j→nm[i]? = some j:=fun i j hij=>by
    rw [hnmd,List.getElem?_append_left (List.getElem?_eq_some_iff.1 hij).1];exact hij
  -- what does not lie in a passed block is as it was
  have hblock:∀ b,b < W.heap.size→(¬ ∃ j,j ∈ js∧hb j = some b)→W'.heap[b]? = W.heap[b]?:=fun b hb1 hb2=>h'.ext.kept b hb1 (fun hh=>hb2 (hblk b hh))
  have mv:qgt W W' hb hb'' σ.heap H'' (okF w0 okA hb σ.heap W) (okF w0 okA hb'' H'' W'):=by
    refine { good:=?_,cell:=?_,box:=?_,row:=?_,map:=?_ }
    · intro b ⟨h1,h2,h3⟩
      refine ⟨by omega,h2,fun j hj hjb=>?_⟩
      by_cases hjn:j ∈ nm
      · obtain ⟨i,hij⟩:=hmem j hjn
        obtain ⟨e1,e2⟩:=hin i j hij
        rw [e1] at hj
        rw [e2] at hjb
        rcases (hc' i b (hren _ hj) hjb).2 with ⟨j',hj',hb'⟩ | hge
        · exact h3 j' (hlive j' hj') hb'
        · omega
      · obtain ⟨e1,e2⟩:=hout j hjn
        rw [e1] at hj
        rw [e2] at hjb
        exact h3 j hj hjb
    · intro b i v ⟨h1,h2,h3⟩ hcell
      have:=hblock b h1 (fun ⟨j,hj,e⟩=>h3 j (hlive j hj) e)
      unfold World.cell? at *
      rw [this];exact hcell
    · intro j cs hj
      by_cases hjs:j ∈ js
      · obtain ⟨i,hi,e⟩:=List.getElem_of_mem hjs
        have hij:js[i]? = some j:=by rw [List.getElem?_eq_getElem hi,e]
        obtain ⟨cs',e1⟩:=hbox i j cs hij hj
        obtain ⟨cs'',e2,e3⟩:=h'.keep.box i cs' (by rw [hH0];exact e1)
        obtain ⟨q1,q2⟩:=hin i j (hjs_nm i j hij)
        exact ⟨_,by rw [q1,e2];rfl,by rw [q2,e3,hhb0,hbj i j hij]⟩
      · have hjn:j ∉ nm:=by
          rw [hnmd]
          intro hm
          rcases List.mem_append.1 hm with hm | hm
          · exact hjs hm
          · simp [List.mem_range'_1] at hm
            have:=h.fresh j hm.1
            rw [hj] at this;cases this
        obtain ⟨q1,q2⟩:=hout j hjn
        exact ⟨cs,by rw [q1];exact hj,q2⟩
    · intro j sz es hj
      by_cases hjs:j ∈ js
      · obtain ⟨i,hi,e⟩:=List.getElem_of_mem hjs
        have hij:js[i]? = some j:=by rw [List.getElem?_eq_getElem hi,e]
        have e1:=hrow i j sz es hij hj
        obtain ⟨es',e2,e3,e4⟩:=h'.keep.row i sz es (by rw [hH0];exact e1)
        obtain ⟨q1,q2⟩:=hin i j (hjs_nm i j hij)
        refine ⟨es',by rw [q1,e2];rfl,e3,fun hll=>?_⟩
        obtain ⟨g1,g2⟩:=e4 hll
        rw [hhb0,hbj i j hij] at g1
        refine ⟨by rw [q2,g1],fun b bs hbb hs=>?_⟩
        exact g2 b bs (by rw [hhb0,hbj i j hij];exact hbb) hs
      · have hjn:j ∉ nm:=by
          rw [hnmd]
          intro hm
          rcases List.mem_append.1 hm with hm | hm
          · exact hjs hm
          · simp [List.mem_range'_1] at hm
            have:=h.fresh j hm.1
            rw [hj] at this;cases this
        obtain ⟨q1,q2⟩:=hout j hjn
        refine ⟨es,by rw [q1];exact hj,Nat.le_refl _,fun _=>⟨q2,fun b bs hbb hs=>?_⟩⟩
        have hlt':=(h.hnd j b (by rw [hj];simp) hbb).1
        have:=hblock b hlt' (fun ⟨j',hj',e⟩=>by
          have:=h.inj j j' b (by rw [hj];simp) (hlive j' hj') hbb e
          subst this;exact hjs hj')
        unfold World.shape? at *
        rw [this];exact hs
    · intro j kk es hj
      by_cases hjs:j ∈ js
      · obtain ⟨i,hi,e⟩:=List.getElem_of_mem hjs
        have hij:js[i]? = some j:=by rw [List.getElem?_eq_getElem hi,e]
        have e1:=hmp i j kk es hij hj
        obtain ⟨es',e2,e3⟩:=h'.keep.map i kk es (by rw [hH0];exact e1)
        obtain ⟨q1,q2⟩:=hin i j (hjs_nm i j hij)
        exact ⟨es',by rw [q1,e2];rfl,by rw [q2,e3,hhb0,hbj i j hij]⟩
      · have hjn:j ∉ nm:=by
          rw [hnmd]
          intro hm
          rcases List.mem_append.1 hm with hm | hm
          · exact hjs hm
          · simp [List.mem_range'_1] at hm
            have:=h.fresh j hm.1
            rw [hj] at this;cases this
        obtain ⟨q1,q2⟩:=hout j hjn
        exact ⟨es,by rw [q1];exact hj,q2⟩
  have bk:Back nm hb' hb'' (qb3 (objs' ++ new)) H'' (okF W (if fr then noOk else okc) hb' (qb3 (objs' ++ new)) W') (okF w0 okA hb'' H'' W'):=by
    refine ⟨fun b ⟨h1,h2,h3⟩=>?_,fun j hj=>?_⟩
    · have hcase:W.heap.size ≤ b ∨ okF w0 okA hb σ.heap W b:=by
        rcases h2 with h2 | h2
        · cases fr with
          | true=>exact h2.elim
          | false=>exact .inr (hokc b rfl h2)
        · exact .inl h2
      refine ⟨h1,?_,fun j hj hjb=>?_⟩
      · rcases hcase with hc | hc
        · exact .inr (Nat.le_trans h.ext.size hc)
        · exact hc.2.1
      · by_cases hjn:j ∈ nm
        · obtain ⟨i,hij⟩:=hmem j hjn
          obtain ⟨e1,e2⟩:=hin i j hij
          rw [e1] at hj
          rw [e2] at hjb
          exact h3 i (hren _ hj) hjb
        · obtain ⟨e1,e2⟩:=hout j hjn
          rw [e1] at hj
          rw [e2] at hjb
          rcases hcase with hc | hc
          · have:=(h.hnd j b hj hjb).1;omega
          · exact hc.2.2 j hj hjb
    · have hjl:j < (objs' ++ new).length:=by
        rcases Nat.lt_or_ge j (objs' ++ new).length with h1 | h1
        · exact h1
        · exact absurd (h'.fresh j h1) hj
      have hjn:j < nm.length:=by omega
      have hg:nm[j]? = some (nm.getD j 0):=by rw [List.getD_eq_getElem?_getD,List.getElem?_eq_getElem hjn];rfl
      exact hin j _ hg
  refine ⟨hb'',fun hs=>⟨⟨hs.defers,hs.size,fun t=>(hs.env t).mono mv,?_,hs.base⟩,bk⟩⟩
  refine { obj:=fun j=>?_,inj:=fun i k b hi hk hbi hbk=>?_,hnd:=fun j b hj hjb=>?_,fresh:=fun j hj=>?_,ext:=?_,keep:=h.keep.trans mv.toMovesR,lay:=h.lay }
  · show qh5 W' hb'' H'' (okF w0 okA hb'' H'' W') j
    by_cases hjn:j ∈ nm
    · obtain ⟨i,hij⟩:=hmem j hjn
      obtain ⟨e1,e2⟩:=hin i j hij
      have ho:=h'.obj i
      unfold qh5 at *
      rw [e1]
      cases hi:qb3 (objs' ++ new) i with
      | none=>trivial
      | box cs =>
        rw [hi] at ho
        obtain ⟨b,vals,T,frz,g1,g2,g3,g4,g5,g6⟩:=ho
        obtain ⟨q1,q2⟩:=qot (fun hr=>qmn bk hr) ⟨g3.symm,g6⟩
        exact ⟨b,vals,T,frz,e2.trans g1,g2,q1.symm,g4,trivial,q2⟩
      | row sz es =>
        rw [hi] at ho
        obtain ⟨g0,g⟩:=ho
        refine ⟨g0,?_⟩
        rcases g with ⟨g1,g2⟩ | ⟨b,vals,T,frz,g1,g2,g3,g4,g5⟩
        · exact .inl ⟨g1,e2.trans g2⟩
        · exact .inr ⟨b,vals,T,frz,e2.trans g1,g2,g3,g4,fun x c hx hc=>(g5 x c hx hc).mono ⟨bk.good,fun _ _ _ _ hh=>hh⟩⟩
      | map kk es =>
        rw [hi] at ho
        obtain ⟨b,ents,cl,g1,g2,g3,g4⟩:=ho
        exact ⟨b,ents,cl,e2.trans g1,g2,g3,fun x e y he hy=>⟨(g4 x e y he hy).1,(g4 x e y he hy).2.mono ⟨bk.good,fun _ _ _ _ hh=>hh⟩⟩⟩
    · obtain ⟨e1,e2⟩:=hout j hjn
      have hjs:j ∉ js:=fun hj=>hjn (by rw [hnmd];exact List.mem_append_left _ hj)
      have ho:=h.obj j
      have hbl:∀ b,σ.heap j ≠ .none→hb j = some b→W'.heap[b]? = W.heap[b]?:=fun b hj hjb =>
        hblock b (h.hnd j b hj hjb).1 (fun ⟨j',hj',e⟩=>by
          have:=h.inj j j' b hj (hlive j' hj') hjb e
          subst this;exact hjs hj')
      unfold qh5 at *
      rw [e1]
      cases hi:σ.heap j with
      | none=>trivial
      | box cs =>
        rw [hi] at ho
        obtain ⟨b,vals,T,frz,g1,g2,g3,g4,g5,g6⟩:=ho
        exact ⟨b,vals,T,frz,e2.trans g1,by rw [hbl b (by rw [hi];simp) g1];exact g2,g3,g4,trivial,fun x hx=>(g6 x hx).mono mv⟩
      | row sz es =>
        rw [hi] at ho
        obtain ⟨g0,g⟩:=ho
        refine ⟨g0,?_⟩
        rcases g with ⟨g1,g2⟩ | ⟨b,vals,T,frz,g1,g2,g3,g4,g5⟩
        · exact .inl ⟨g1,e2.trans g2⟩
        · exact .inr ⟨b,vals,T,frz,e2.trans g1,by rw [hbl b (by rw [hi];simp) g1];exact g2,g3,g4,fun x c hx hc=>(g5 x c hx hc).mono mv.toMoves⟩
      | map kk es =>
        rw [hi] at ho
        obtain ⟨b,ents,cl,g1,g2,g3,g4⟩:=ho
        exact ⟨b,ents,cl,e2.trans g1,by rw [hbl b (by rw [hi];simp) g1];exact g2,g3,fun x e y he hy=>⟨(g4 x e y he hy).1,(g4 x e y he hy).2.mono mv.toMoves⟩⟩
  · -- two names,one block
    have hcls:∀ j,H'' j ≠ .none→hb'' j = some b→(∃ i,nm[i]? = some j∧qb3 (objs' ++ new) i ≠ .none∧hb' i = some b) ∨ (j ∉ nm∧σ.heap j ≠ .none∧hb j = some b):=by
      intro j hj hjb
      by_cases hjn:j ∈ nm
      · obtain ⟨i,hij⟩:=hmem j hjn
        obtain ⟨e1,e2⟩:=hin i j hij
        rw [e1] at hj
        rw [e2] at hjb
        exact .inl ⟨i,hij,hren _ hj,hjb⟩
      · obtain ⟨e1,e2⟩:=hout j hjn
        rw [e1] at hj
        rw [e2] at hjb
        exact .inr ⟨hjn,hj,hjb⟩
    have hmix:∀ i j k,nm[i]? = some j→qb3 (objs' ++ new) i ≠ .none→hb' i = some b→k ∉ nm→σ.heap k ≠ .none→hb k = some b→False:=by
      intro i j k hij hi hbi' hkn hk' hbk'
      rcases (hc' i b hi hbi').2 with ⟨j',hj',e⟩ | hge
      · have:=h.inj k j' b hk' (hlive j' hj') hbk' e
        subst this
        exact hkn (by rw [hnmd];exact List.mem_append_left _ hj')
      · have:=(h.hnd k b hk' hbk').1;omega
    rcases hcls i hi hbi with ⟨i',h1,h2,h3⟩ | ⟨h1,h2,h3⟩ <;> rcases hcls k hk hbk with ⟨k',g1,g2,g3⟩ | ⟨g1,g2,g3⟩
    · have:=h'.inj i' k' b h2 g2 h3 g3
      subst this
      rw [h1] at g1
      exact Option.some.inj g1
    · exact (hmix i' i k h1 h2 h3 g1 g2 g3).elim
    · exact (hmix k' k i g1 g2 g3 h1 h2 h3).elim
    · exact h.inj i k b h2 g2 h3 g3
  · have hj2:H'' j ≠ .none:=hj
    by_cases hjn:j ∈ nm
    · obtain ⟨i,hij⟩:=hmem j hjn
      obtain ⟨e1,e2⟩:=hin i j hij
      rw [e1] at hj2
      have hjb2:hb' i = some b:=by rw [← e2];exact hjb
      obtain ⟨q1,q2⟩:=hc0 i b (hren _ hj2) hjb2
      refine ⟨q1,?_⟩
      rcases q2 with ⟨j',hj',e⟩ | hge
      · have hjj:=hjs_nm i j' hj'
        rw [hij] at hjj
        obtain rfl:=Option.some.inj hjj
        exact (h.hnd j b (hlive j (List.mem_of_getElem? hj')) e).2
      · exact .inr (Nat.le_trans h.ext.size hge)
    · obtain ⟨e1,e2⟩:=hout j hjn
      rw [e1] at hj2
      have hjb2:hb j = some b:=by rw [← e2];exact hjb
      have:=h.hnd j b hj2 hjb2
      exact ⟨by omega,this.2⟩
  · have hjn:j ∉ nm:=by
      rw [hnmd]
      intro hm
      have hj':σ.next + new.length ≤ j:=hj
      rcases List.mem_append.1 hm with hm | hm
      · have:=hlt j hm;omega
      · simp [List.mem_range'_1] at hm;omega
    show H'' j = .none
    rw [(hout j hjn).1]
    exact h.fresh j (by have hj':σ.next + new.length ≤ j:=hj;omega)
  · have hx:=h.ext
    refine ⟨fun i hi ha=>?_,Nat.le_trans hx.size hsz,h'.ext.tape.trans hx.tape,h'.ext.os.trans hx.os,h'.ext.output.trans hx.output⟩
    rw [hblock i (by have:=hx.size;omega) (fun ⟨j,hj,e⟩=>by
      rcases (h.hnd j i (hlive j hj) e).2 with h1 | h1
      · exact ha ⟨j,h1⟩
      · omega)]
    exact hx.kept i hi ha
theorem awl_call (hτ:qfl P τ) (fr:Bool) (js:List Nat) {k:FuncId} {args args':List V} {objs:List AObj} {R:V→List AObj→List AObj→Prop} (hw:qcq ops σ o = some true) (hd:qhy σ o.dst = true) (h:qbp τ σ o.op = .call k args) (hfn:qn3 P k)
    (hargs:mapO (exV (qdn js) σ.heap fr) args = some args') (hobjs:mapO (fun j=>exO (qdn js) σ.heap fr (σ.heap j)) js = some objs) (hnd:js.Nodup) (hpa:∀ v ∈ args,exVP (qdn js) σ.heap v) (hpo:∀ j ∈ js,exOP (qdn js) σ.heap (σ.heap j))
    (hc:qax P fr k args' objs R) (hK:∀ r objs' new,R r objs' new→objs'.length = js.length→AWL P ops rest ((σ.after js objs' new).putO o.dst (renV (σ.names js new.length) r)) Q):AWL P ops (o :: rest) σ Q:=by
  intro w0 A okA hb a W hs
  have hwn:=qmr hs hw
  have ho:=qh3 hτ hs o
  rw [h] at ho
  obtain ⟨vals,hrun,hrel⟩:=ho
  obtain ⟨c1,c2,c3⟩:=qwf hs.heap hnd hobjs hpo
  obtain ⟨m1,m2⟩:=qm4 hobjs
  simp only [wpList,hwn,if_true]
  refine .inl ?_
  unfold Oper.wp
  rw [hrun,hfn]
  simp only [Oper.upon]
  have hrel':=qlx c2 (fun a b c=>qoj c2 a b c) hrel hargs hpa
  refine (hc W ⟨qb3 objs,fun i=>match js[i]? with
    | some j=>hb j
    | none=>none⟩ _ _ vals rfl rfl c1 hrel').mono fun e W' hpost=>?_
  obtain ⟨v,r,objs',new,hb',rfl,hR,hl,hsim,hrv⟩:=hpost
  simp only
  have hbj:∀ (i j:Nat),js[i]? = some j→(match js[i]? with | some j=>hb j | none=>none) = hb j:=fun i j hij=>by rw [hij]
  have hobj:∀ i j,js[i]? = some j→∃ y,exO (qdn js) σ.heap fr (σ.heap j) = some y∧qb3 objs i = y:=by
    intro i j hij
    obtain ⟨y,e1,e2⟩:=m2 i j hij
    exact ⟨y,e1,by unfold qb3;exact getD_some e2 _⟩
  obtain ⟨hb'',hout⟩:=qv2 (a:=a) hs.heap (fr:=fr) (objs:=objs) hnd c3 hbj m1 (okc:=fun b=>b < W.heap.size∧(okF w0 okA hb σ.heap W b ∨ (fr = true∧∃ j,σ.heap j ≠ .none∧j ∉ js∧hb j = some b)))
    (fun b hfr hb1=>by
      rcases hb1.2 with h1 | ⟨h1,_⟩
      · exact h1
      · rw [hfr] at h1;cases h1)
    (Ac:=⟨qb3 objs,_⟩) rfl rfl
    (fun i j cs hij hj=>by
      obtain ⟨y,e1,e2⟩:=hobj i j hij
      rw [hj] at e1
      simp only [exO] at e1
      split at e1
      · simp only [Option.some.injEq] at e1;subst e1;exact ⟨_,e2⟩
      · cases e1)
    (fun i j sz es hij hj=>by
      obtain ⟨y,e1,e2⟩:=hobj i j hij
      rw [hj] at e1
      simp only [exO,Option.some.injEq] at e1
      rw [e2,← e1])
    (fun i j kk es hij hj=>by
      obtain ⟨y,e1,e2⟩:=hobj i j hij
      rw [hj] at e1
      simp only [exO,Option.some.injEq] at e1
      rw [e2,← e1]) hl hsim
  obtain ⟨s1,s2⟩:=hout hs
  have hr2:=qs2 s2 hrv
  exact hK r objs' new hR (by rw [hl,m1]) w0 A okA hb'' _ W' (qih s1 hr2 _ (by cases hdd:o.dst <;> rw [hdd] at hd <;> exact hd))
end
end Go.Proofs.YtiegopnofbgoaaaGreat.AWN
