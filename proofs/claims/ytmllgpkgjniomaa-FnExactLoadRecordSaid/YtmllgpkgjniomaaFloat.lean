/- Rounding: what is exact; what stays between 0 and 1. -/
import Derived.Test.YtmllgpkgjniomaaCalcA
import Derived.Test.YtmllgpkgjniomaaCalcC
set_option linter.unusedVariables false
set_option linter.unusedSimpArgs false
set_option linter.unusedSectionVars false
namespace Go.Proofs.Ytmllgpkgjniomaa.AWN
open Go Ieee
theorem qsq (a b:Nat):a <<< b = a * 2 ^ b:=Nat.shiftLeft_eq a b
theorem cut_zero (neg:Bool) (n:Nat):Toward.even.cut neg n 0 = n:=by
  simp [Toward.cut,Nat.mod_one]
theorem qmg (neg:Bool) (n drop:Nat):Toward.even.cut neg n drop = n / 2 ^ drop + (decide (2 ^ drop < 2 * (n % 2 ^ drop)) || (2 ^ drop == 2 * (n % 2 ^ drop) && n / 2 ^ drop % 2 == 1)).toNat:=by
  by_cases h:drop ≤ n.log2 + 2
  · unfold Toward.cut
    rw [Nat.min_eq_left h]
    simp [qsq]
  · have hn:n < 2 ^ (n.log2 + 1):=Nat.lt_log2_self
    have h1:2 ^ (n.log2 + 2) ≤ 2 ^ drop:=Nat.pow_le_pow_right (by decide) (by omega)
    have h2:2 ^ (n.log2 + 2) = 2 * 2 ^ (n.log2 + 1):=by rw [Nat.pow_succ];omega
    have h3:n < 2 ^ (n.log2 + 2):=by omega
    have d1:n / 2 ^ drop = 0:=Nat.div_eq_of_lt (by omega)
    have d2:n % 2 ^ drop = n:=Nat.mod_eq_of_lt (by omega)
    have d3:n / 2 ^ (n.log2 + 2) = 0:=Nat.div_eq_of_lt h3
    have d4:n % 2 ^ (n.log2 + 2) = n:=Nat.mod_eq_of_lt h3
    unfold Toward.cut
    rw [Nat.min_eq_right (by omega),qsq,Nat.one_mul]
    simp only [d1,d2,d3,d4]
    have e1:decide (2 ^ (n.log2 + 2) < 2 * n) = false:=by simp;omega
    have e2:decide (2 ^ drop < 2 * n) = false:=by simp;omega
    rw [e1,e2]
    simp
theorem nearest_zero (f:Format) (neg:Bool) (p:Int):f.nearest neg 0 p = f.word neg 0:=by simp [Format.nearest]
def qh5 (f:Format) (m:Nat) (p:Int):Int:=max (p + m.log2 - f.fractionBits) f.leastPlace
def qkk (f:Format) (m:Nat) (p:Int):Nat:=Toward.even.cut false (m <<< (p - qh5 f m p).toNat) (qh5 f m p - p).toNat
theorem nearest_eq (f:Format) (neg:Bool) {m:Nat} (p:Int) (hm:m ≠ 0):f.nearest neg m p = f.word neg (min ((qh5 f m p - f.leastPlace).toNat * f.binade + qkk f m p) f.infRung):=by
  unfold Format.nearest
  rw [if_neg hm]
  dsimp only
  rw [show Toward.even.cut neg = Toward.even.cut false by funext a b;rw [qmg,qmg]]
  rfl
theorem cut_le (n drop M:Nat) (h:n ≤ M * 2 ^ drop):Toward.even.cut false n drop ≤ M:=by
  rw [qmg]
  have hp:=Nat.two_pow_pos drop
  have hdm:=Nat.div_add_mod n (2 ^ drop)
  have hml:=Nat.mod_lt n hp
  by_cases hr:n % 2 ^ drop = 0
  · have:n / 2 ^ drop ≤ M:=Nat.div_le_of_le_mul (by rw [Nat.mul_comm];exact h)
    have e1:decide (2 ^ drop < 2 * (n % 2 ^ drop)) = false:=by rw [hr];simp
    have e2:(2 ^ drop == 2 * (n % 2 ^ drop)) = false:=by rw [hr];simp
    rw [e1,e2]
    simpa using this
  · have:n / 2 ^ drop < M:=by
      rw [Nat.div_lt_iff_lt_mul hp]
      rcases Nat.lt_or_eq_of_le h with h' | h'
      · exact h'
      · exfalso;apply hr;rw [h'];exact Nat.mul_mod_left ..
    have hb:∀ b:Bool,b.toNat ≤ 1:=by intro b;cases b <;> decide
    have:=hb (decide (2 ^ drop < 2 * (n % 2 ^ drop)) || (2 ^ drop == 2 * (n % 2 ^ drop) && n / 2 ^ drop % 2 == 1))
    omega
theorem cut_ge (n drop M:Nat) (h:M * 2 ^ drop ≤ n):M ≤ Toward.even.cut false n drop:=by
  rw [qmg]
  have:M ≤ n / 2 ^ drop:=(Nat.le_div_iff_mul_le (Nat.two_pow_pos drop)).2 h
  omega
theorem kept_bounds (f:Format) {m:Nat} {p:Int} (hm:m ≠ 0):qkk f m p ≤ 2 * f.binade∧(f.leastPlace ≤ p + m.log2 - f.fractionBits→f.binade ≤ qkk f m p):=by
  unfold qkk
  have h1:=Nat.log2_self_le hm
  have h2:=@Nat.lt_log2_self m
  generalize hL:m.log2 = L at *
  have hlast:qh5 f m p = max (p + L - f.fractionBits) f.leastPlace:=by rw [qh5,hL]
  rw [hlast]
  generalize hlst:max (p + L - f.fractionBits:Int) f.leastPlace = last at *
  rw [qsq]
  have hb:2 * f.binade = 2 ^ (f.fractionBits + 1):=by rw [Format.binade,Nat.pow_succ];omega
  constructor
  · apply cut_le
    rw [hb]
    rw [← Nat.pow_add]
    have:m * 2 ^ (p - last).toNat ≤ 2 ^ (L + 1) * 2 ^ (p - last).toNat:=Nat.mul_le_mul_right _ (Nat.le_of_lt h2)
    refine Nat.le_trans this ?_
    rw [← Nat.pow_add]
    exact Nat.pow_le_pow_right (by decide) (by omega)
  · intro hle
    apply cut_ge
    rw [Format.binade,← Nat.pow_add]
    have:2 ^ L * 2 ^ (p - last).toNat ≤ m * 2 ^ (p - last).toNat:=Nat.mul_le_mul_right _ h1
    refine Nat.le_trans ?_ this
    rw [← Nat.pow_add]
    exact Nat.pow_le_pow_right (by decide) (by omega)
theorem kept_exact (f:Format) {m:Nat} {p:Int} (hm:m ≠ 0) (hs:m < 2 ^ (f.fractionBits + 1)) (hp:f.leastPlace ≤ p):qh5 f m p ≤ p∧qkk f m p = m * 2 ^ (p - qh5 f m p).toNat:=by
  have hL:m.log2 < f.fractionBits + 1:=(Nat.log2_lt hm).2 hs
  have h1:qh5 f m p ≤ p:=by unfold qh5;omega
  refine ⟨h1,?_⟩
  unfold qkk
  rw [show (qh5 f m p - p).toNat = 0 by omega,cut_zero,qsq]
def qiw (f:Format):Nat:=2 ^ f.exponentBits - 1
theorem read_nearest (f:Format) (hf:f.infRung < f.signWeight) (hr:0 < qiw f) (neg:Bool) {m:Nat} {p:Int} (hm:m ≠ 0) (hs:m < 2 ^ (f.fractionBits + 1)) (hp:f.leastPlace ≤ p) (hmax:(p + m.log2 - f.fractionBits - f.leastPlace + 1:Int) < qiw f) :
    f.read (f.nearest neg m p) = .number neg (m * 2 ^ (p - qh5 f m p).toNat) (qh5 f m p):=by
  obtain ⟨hle,hk⟩:=kept_exact f hm hs hp
  obtain ⟨b1,b2⟩:=kept_bounds f (p:=p) hm
  rw [nearest_eq f neg p hm]
  have hbp:0 < f.binade:=Nat.two_pow_pos _
  have hL:m.log2 < f.fractionBits + 1:=(Nat.log2_lt hm).2 hs
  have hkl:qkk f m p < 2 * f.binade:=by
    rw [hk]
    have h2:=@Nat.lt_log2_self m
    have:m * 2 ^ (p - qh5 f m p).toNat < 2 ^ (m.log2 + 1) * 2 ^ (p - qh5 f m p).toNat:=Nat.mul_lt_mul_of_pos_right h2 (Nat.two_pow_pos _)
    rw [← Nat.pow_add] at this
    have h3:2 * f.binade = 2 ^ (f.fractionBits + 1):=by rw [Format.binade,Nat.pow_succ];omega
    rw [h3]
    exact Nat.lt_of_lt_of_le this (Nat.pow_le_pow_right (by decide) (by unfold qh5;omega))
  have hrung:(qh5 f m p - f.leastPlace).toNat * f.binade + qkk f m p < f.infRung:=by
    have h0:(qh5 f m p - f.leastPlace).toNat + 2 ≤ qiw f ∨ qh5 f m p = f.leastPlace∧(qkk f m p < f.binade ∨ 2 ≤ qiw f):=by
      unfold qh5
      rcases Int.le_total (p + m.log2 - f.fractionBits) f.leastPlace with h | h
      · right
        refine ⟨by omega,?_⟩
        by_cases he:p + m.log2 - f.fractionBits = f.leastPlace
        · right;omega
        · left
          rw [hk]
          have h2:=@Nat.lt_log2_self m
          have:m * 2 ^ (p - qh5 f m p).toNat < 2 ^ (m.log2 + 1) * 2 ^ (p - qh5 f m p).toNat:=Nat.mul_lt_mul_of_pos_right h2 (Nat.two_pow_pos _)
          rw [← Nat.pow_add] at this
          refine Nat.lt_of_lt_of_le this ?_
          rw [Format.binade]
          exact Nat.pow_le_pow_right (by decide) (by unfold qh5;omega)
      · left;omega
    have hi:f.infRung = qiw f * f.binade:=rfl
    rw [hi]
    rcases h0 with h0 | ⟨h0,h1 | h1⟩
    · have:=Nat.mul_le_mul_right f.binade h0
      rw [Nat.add_mul] at this
      omega
    · rw [h0]
      simp only [Int.sub_self,Int.toNat_zero,Nat.zero_mul,Nat.zero_add]
      have:1 ≤ qiw f:=hr
      have:=Nat.mul_le_mul_right f.binade this
      omega
    · rw [h0]
      simp only [Int.sub_self,Int.toNat_zero,Nat.zero_mul,Nat.zero_add]
      have:=Nat.mul_le_mul_right f.binade h1
      omega
  rw [Nat.min_eq_left (Nat.le_of_lt hrung),qj5 _ _ _ (by omega)]
  rw [← hk]
  by_cases hb:qkk f m p < f.binade
  · have hl:qh5 f m p = f.leastPlace:=by
      rcases Int.le_total f.leastPlace (p + m.log2 - f.fractionBits) with h | h
      · exact absurd (b2 h) (by omega)
      · unfold qh5;omega
    rw [hl]
    simp only [Int.sub_self,Int.toNat_zero,Nat.zero_mul,Nat.zero_add]
    rw [if_pos hb]
  · have hge:f.binade ≤ qkk f m p:=by omega
    have e:(qh5 f m p - f.leastPlace).toNat * f.binade + qkk f m p = (qkk f m p - f.binade) + f.binade * ((qh5 f m p - f.leastPlace).toNat + 1):=by
      rw [Nat.mul_add,Nat.mul_comm];omega
    have hmod:((qh5 f m p - f.leastPlace).toNat * f.binade + qkk f m p) % f.binade = qkk f m p - f.binade:=by
      rw [e,Nat.add_mul_mod_self_left,Nat.mod_eq_of_lt (by omega)]
    have hdiv:((qh5 f m p - f.leastPlace).toNat * f.binade + qkk f m p) / f.binade = (qh5 f m p - f.leastPlace).toNat + 1:=by
      rw [e,Nat.add_mul_div_left _ _ hbp,Nat.div_eq_of_lt (by omega)];omega
    have hn:¬ (qh5 f m p - f.leastPlace).toNat * f.binade + qkk f m p < f.binade:=by omega
    rw [hmod,hdiv,if_neg hn,if_pos hrung]
    congr 1
    · omega
    · have:f.leastPlace ≤ qh5 f m p:=by unfold qh5;omega
      omega
end Go.Proofs.Ytmllgpkgjniomaa.AWN

namespace Go.Proofs.Ytmllgpkgjniomaa.AWN
open Go Ieee
structure qv1 (f:Format):Prop where
  rung:f.infRung < f.signWeight
  most:0 < qiw f
theorem fmtOk (k:FloatKind):qv1 k.format:=⟨k.format.infRung_lt,by cases k <;> decide⟩
structure Ex (f:Format) (m:Nat) (p:Int):Prop where
  size:m < 2 ^ (f.fractionBits + 1)
  least:f.leastPlace ≤ p
  most:(p + m.log2 - f.fractionBits - f.leastPlace + 1:Int) < qiw f
theorem read_ex {f:Format} (hf:qv1 f) (neg:Bool) {m:Nat} {p:Int} (h:Ex f m p):∃ (a:Nat) (P:Int),f.read (f.nearest neg m p) = .number neg (m * 2 ^ a) P∧(m ≠ 0→P = p - a∧m.log2 + a ≤ f.fractionBits):=by
  by_cases hm:m = 0
  · subst hm
    refine ⟨0,f.leastPlace,?_,fun h=>absurd rfl h⟩
    rw [nearest_zero,qj5 _ _ _ (by have:=hf.rung;omega),if_pos (show 0 < f.binade from Nat.two_pow_pos _)]
  · have hL:m.log2 < f.fractionBits + 1:=(Nat.log2_lt hm).2 h.size
    have h1:qh5 f m p ≤ p:=by have:=h.least;unfold qh5;omega
    refine ⟨(p - qh5 f m p).toNat,qh5 f m p,read_nearest f hf.rung hf.most neg hm h.size h.least h.most,fun _=>⟨by omega,?_⟩⟩
    unfold qh5;omega
/-! ### Between 0 and 1 -/
end Go.Proofs.Ytmllgpkgjniomaa.AWN

namespace Go.Proofs.Ytmllgpkgjniomaa.AWN
open Go Ieee
end Go.Proofs.Ytmllgpkgjniomaa.AWN

namespace Go.Proofs.Ytmllgpkgjniomaa.AWN
open Go Ieee
theorem ex_read {f:Format} (h2:1 < qiw f) {w:Nat} {neg:Bool} {m:Nat} {p:Int} (h:f.read w = .number neg m p):Ex f m p:=by
  unfold Format.read at h
  simp only at h
  have hb:0 < f.binade:=Nat.two_pow_pos _
  have e2:2 ^ (f.fractionBits + 1) = 2 * f.binade:=by rw [Format.binade,Nat.pow_succ];omega
  split at h
  · rename_i hr
    injection h with h0 h1 h3
    subst h3;subst h1
    have hl:w % f.signWeight = 0 ∨ (w % f.signWeight).log2 < f.fractionBits:=by
      by_cases h0:w % f.signWeight = 0
      · exact .inl h0
      · exact .inr ((Nat.log2_lt h0).2 hr)
    refine ⟨by omega,Int.le_refl _,?_⟩
    rcases hl with hl | hl
    · rw [hl,show Nat.log2 0 = 0 from by decide];omega
    · omega
  · split at h
    · rename_i hr hi
      injection h with h0 h1 h3
      subst h3;subst h1
      have hm:=Nat.mod_lt (w % f.signWeight) hb
      have hd:w % f.signWeight / f.binade < qiw f:=(Nat.div_lt_iff_lt_mul hb).2 hi
      have hd0:1 ≤ w % f.signWeight / f.binade:=(Nat.le_div_iff_mul_le hb).2 (by omega)
      have hlo:(f.binade + w % f.signWeight % f.binade).log2 < f.fractionBits + 1:=(Nat.log2_lt (by omega)).2 (by omega)
      exact ⟨by omega,by omega,by omega⟩
    · split at h <;> cases h
theorem ex_wide {m:Nat} {p:Int} (h:Ex single m p):Ex double m p:=by
  obtain ⟨h1,h2,h3⟩:=h
  have e1:single.fractionBits = 23:=rfl
  have e2:double.fractionBits = 52:=rfl
  have e3:single.leastPlace = -149:=by decide
  have e4:double.leastPlace = -1074:=by decide
  have e5:qiw single = 255:=by decide
  have e6:qiw double = 2047:=by decide
  rw [e1,e3,e5] at h3
  rw [e3] at h2
  rw [e1] at h1
  exact ⟨by rw [e2];exact Nat.lt_of_lt_of_le h1 (by decide),by rw [e4];omega,by rw [e2,e4,e6];omega⟩
theorem sgl_ok:1 < qiw single:=by decide
theorem qgh (x:Nat):∃ r,qcf .f32 .f64 x = some r∧isnan .f64 r = isnan .f32 x∧(∀ neg m p,single.read x = .number neg m p→r = double.nearest neg m p):=by
  unfold qcf
  rw [show fkEq .f32 .f64 = false from rfl,cond_false]
  have hd:FloatKind.f32.decode x = single.read x:=rfl
  rw [hd]
  cases h:single.read x with
  | nan s t =>
    refine ⟨qnan .f64,rfl,?_,fun _ _ _ h=>nomatch h⟩
    unfold isnan
    rw [show FloatKind.f32.format.read x = single.read x from rfl,h];show _ = true;decide
  | infinity s =>
    refine ⟨_,rfl,?_,fun _ _ _ h=>nomatch h⟩
    unfold isnan
    rw [show FloatKind.f32.format.read x = single.read x from rfl,h]
    cases s <;> decide
  | number s m p =>
    have hx:=ex_wide (ex_read sgl_ok h)
    obtain ⟨a,P,hr,_⟩:=read_ex (fmtOk .f64) s hx
    have hr':FloatKind.f64.decode (FloatKind.f64.encode (.number s m p)) = .number s (m * 2 ^ a) P:=hr
    refine ⟨FloatKind.f64.encode (.number s m p),?_,?_,fun neg m' p' he=>?_⟩
    · simp only [hr'];rfl
    · unfold isnan
      rw [show FloatKind.f32.format.read x = single.read x from rfl,h]
      have:FloatKind.f64.format.read (FloatKind.f64.encode (.number s m p)) = .number s (m * 2 ^ a) P:=hr
      rw [this];rfl
    · injection he with e1 e2 e3;subst e1;subst e2;subst e3;rfl
theorem eql_self (k:FloatKind) (a:Nat):fcmp .eql k a a = !isnan k a:=by
  unfold fcmp isnan
  simp only [Ieee.Format.order]
  have cc:∀ (z:Int),compare z z = .eq:=fun z=>by
    show compareOfLessAndEq z z = .eq
    unfold compareOfLessAndEq
    rw [if_neg (by omega),if_pos rfl]
  have cn:∀ (z:Nat),compare z z = .eq:=fun z=>by
    show compareOfLessAndEq z z = .eq
    unfold compareOfLessAndEq
    rw [if_neg (by omega),if_pos rfl]
  cases k.format.read a with
  | number s m i=>simp only [Ieee.Datum.order,cc];rfl
  | infinity s=>simp only [Ieee.Datum.order,cn];rfl
  | nan s m=>rfl
end Go.Proofs.Ytmllgpkgjniomaa.AWN
