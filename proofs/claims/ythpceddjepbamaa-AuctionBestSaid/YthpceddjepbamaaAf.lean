/- Several texts in one. No condition. -/
import Derived.Test.YthpceddjepbamaaSt
import Derived.Test.YthpceddjepbamaaTU
namespace Go.Proofs.Ythpceddjepbamaa
set_option linter.unusedVariables false
set_option linter.unusedSimpArgs false
open Go.RowKit
abbrev st_self:=Int→Int→Int→List Qd→Option (List Qd)
theorem st_half{a b:Nat}(h:a+b≤1000000000):wr64 (shrK .u64 (Qt (wr64 ((a:Int)+(b:Int)))) 1)=(((a+b) / 2:Nat):Int):=by
 rw [show (a:Int)+(b:Int)=((a+b:Nat):Int) by omega]; exact half_eq h
section
variable {c:Qd→Qd→Int} (hc:∀x y,f55 x y=some (c x y)) (self:st_self)
include hc
theorem st_n3{l:List Qd}{x:Qd}{a:Int}(hx:at? l a=some x)(hl:l.length≤1000000):∀(f lo hi:Nat),hi≤l.length→lo≤1000000→f81r1n3 self f a l (lo:Int) (hi:Int)=(bsN (pq (fun y=>decide (c y x<0)) l) f lo hi).map fun r=>.exit0 (r:Int)
 | 0,lo,hi,_,_=>rfl
 | f+1,lo,hi,h,h0=>by
  rw [f81r1n3,bsN]
  by_cases hlt:lo<hi
  ·have hk:(lo+hi) / 2<l.length:=by omega
   rw [decide_eq_true hlt,decide_eq_true (by omega:(lo:Int)<(hi:Int)),st_half (by omega),at_in hk,hx];simp only [cond_true,Option.bind_some,hc];have ep:pq (fun y=>decide (c y x<0)) l ((lo+hi) / 2)=decide (c l[(lo+hi) / 2] x<0):=by unfold pq; rw [List.getElem?_eq_getElem hk]
   rw [ep];cases decide (c l[(lo+hi) / 2] x<0) with
   | true=>rw [cond_true,cond_true,show wr64 ((((lo+hi) / 2:Nat):Int)+1)=(((lo+hi) / 2+1:Nat):Int) by rw [wrIn (by omega) (by omega)]; omega]; exact st_n3 hx hl f _ _ h (by omega)
   | false=>rw [cond_false,cond_false]; exact st_n3 hx hl f _ _ (by omega) h0
  ·rw [decide_eq_false hlt,decide_eq_false (by omega:¬(lo:Int)<(hi:Int))]; rfl
theorem st_n8{l:List Qd}{x:Qd}{a:Int}(hx:at? l a=some x)(hl:l.length≤1000000):∀(f lo hi:Nat),hi≤l.length→lo≤1000000→f81r1n8 self f a l (lo:Int) (hi:Int)=(bsN (pq (fun y=>!decide (c x y<0)) l) f lo hi).map fun r=>.exit4 (r:Int)
 | 0,lo,hi,_,_=>rfl
 | f+1,lo,hi,h,h0=>by
  rw [f81r1n8,bsN]
  by_cases hlt:lo<hi
  ·have hk:(lo+hi) / 2<l.length:=by omega
   rw [decide_eq_true hlt,decide_eq_true (by omega:(lo:Int)<(hi:Int)),st_half (by omega),at_in hk,hx];simp only [cond_true,Option.bind_some,hc];have ep:pq (fun y=>!decide (c x y<0)) l ((lo+hi) / 2) = !decide (c x l[(lo+hi) / 2]<0):=by unfold pq; rw [List.getElem?_eq_getElem hk]
   rw [ep];cases decide (c x l[(lo+hi) / 2]<0) with
   | true=>simp only [cond_true,Bool.not_true,cond_false]; exact st_n8 hx hl f _ _ (by omega) h0
   | false=>simp only [cond_true,Bool.not_false,cond_false]; rw [show wr64 ((((lo+hi) / 2:Nat):Int)+1)=(((lo+hi) / 2+1:Nat):Int) by rw [wrIn (by omega) (by omega)]; omega]; exact st_n8 hx hl f _ _ h (by omega)
  ·rw [decide_eq_false hlt,decide_eq_false (by omega:¬(lo:Int)<(hi:Int))]; rfl
def st_pr(c:Qd→Qd→Int)(l:List Qd)(n h:Nat):Bool:=match l[n-1-h]?,l[h]? with | some y,some x=>!decide (c y x<0) | _,_=>false
theorem st_n12{l:List Qd}{a m b:Nat}(hl:l.length≤1000000)(hb:b≤l.length)(ham:a≤m)(hmb:m≤b):∀(f lo hi:Nat),(∀h,lo≤h→h<hi→h+1≤(a+b) / 2+m∧(a+b) / 2+m-1-h<l.length∧h<l.length)→lo≤1000000→hi≤1000000 →
  f81r1n12 self f (a:Int) (m:Int) (b:Int) l (lo:Int) (hi:Int)=(bsN (st_pr c l ((a+b) / 2+m)) f lo hi).map fun r=>.exit8 (r:Int)
 | 0,lo,hi,_,_,_=>rfl
 | f+1,lo,hi,h,h0,h00=>by
  rw [f81r1n12,bsN]
  by_cases hlt:lo<hi
  ·obtain ⟨k1,k2,k3⟩:=h ((lo+hi) / 2) (by omega) (by omega);rw [decide_eq_true hlt,decide_eq_true (by omega:(lo:Int)<(hi:Int)),st_half (a:=lo) (b:=hi) (by omega),st_half (a:=a) (b:=b) (by omega),at_in k3];rw [wrIn (n:=(((a+b) / 2:Nat):Int)+(m:Int)) (by omega) (by omega),wrIn (n:=(((a+b) / 2:Nat):Int)+(m:Int)-1) (by omega) (by omega),wrIn (by omega) (by omega)];rw [show (((a+b) / 2:Nat):Int)+(m:Int)-1-(((lo+hi) / 2:Nat):Int)=(((a+b) / 2+m-1-(lo+hi) / 2:Nat):Int) by omega,at_in k2];simp only [cond_true,Option.bind_some,hc];have ep:st_pr c l ((a+b) / 2+m) ((lo+hi) / 2) = !decide (c l[(a+b) / 2+m-1-(lo+hi) / 2] l[(lo+hi) / 2]<0):=by unfold st_pr; rw [List.getElem?_eq_getElem k3,List.getElem?_eq_getElem k2]
   rw [ep];cases decide (c l[(a+b) / 2+m-1-(lo+hi) / 2] l[(lo+hi) / 2]<0) with
   | true=>simp only [cond_true,Bool.not_true,cond_false]; exact st_n12 hl hb ham hmb f _ _ (fun i hi1 hi2=>h i hi1 (by omega)) h0 (by omega)
   | false =>
    simp only [cond_true,Bool.not_false,cond_false];rw [show wr64 ((((lo+hi) / 2:Nat):Int)+1)=(((lo+hi) / 2+1:Nat):Int) by rw [wrIn (by omega) (by omega)]; omega];exact st_n12 hl hb ham hmb f _ _ (fun i hi1 hi2=>h i (by omega) hi2) (by omega) h00
  ·rw [decide_eq_false hlt,decide_eq_false (by omega:¬(lo:Int)<(hi:Int))]; rfl
omit hc
theorem st_n5:∀(Z A R:List Qd)(x:Qd)(f i:Nat),Z.length<f→i=A.length+Z.length+1→i≤1000000→f81r1n5 self f (i:Int) (A.length:Int) (A++x::(Z++R))=some (.exit2 (A++(Z++x::R)))
 | _,_,_,_,0,_,h,_,_=>absurd h (Nat.not_lt_zero _)
 | [],A,R,x,f+1,i,_,hi,hl=>by
  simp only [List.length_nil] at hi;rw [f81r1n5,wrIn (by omega) (by omega),decide_eq_false (by omega),cond_false]; rfl
 | z::Z,A,R,x,f+1,i,hf,hi,hl=>by
  simp only [List.length_cons] at hf hi;have e1:A++x::(z::Z++R)=(A++[x])++z::(Z++R):=by simp
  have e2:A++x::(z::Z++R)=A++x::(z::Z++R):=rfl;have e3:A++z::(z::Z++R)=(A++[z])++z::(Z++R):=by simp
  rw [f81r1n5,wrIn (n:=(i:Int)-1) (by omega) (by omega),decide_eq_true (by omega),cond_true,show wr64 ((A.length:Int)+1)=((A.length+1:Nat):Int) by rw [wrIn (by omega) (by omega)]; omega];rw [at_len e1 (by simp),at_len e2 rfl];simp only [Option.bind_some];rw [show (Int.toNat (A.length:Int))=A.length from rfl,show (Int.toNat ((A.length+1:Nat):Int))=A.length+1 from rfl,set_len (y:=z) e2 rfl,at_len e3 (by simp),set_len (y:=x) e3 (by simp)];simp only [Option.bind_some];have ih:=st_n5 Z (A++[z]) R x f i (by omega) (by simp<;>omega) hl;rw [List.length_append] at ih;simp only [List.length_cons,List.length_nil] at ih;rw [show A.length+1=A.length+(0+1) by omega,ih]
  simp
theorem st_n10:∀(n:Nat)(Z A R:List Qd)(x:Qd)(f:Nat),Z.length=n→n<f→A.length+n≤1000000→f81r1n10 self f (A.length:Int) ((A.length+n:Nat):Int) (A++(Z++x::R))=some (.exit6 (A++x::(Z++R)))
 | _,_,_,_,_,0,_,h,_=>absurd h (Nat.not_lt_zero _)
 | n,Z,A,R,x,f+1,hz,hf,hl=>by
  rcases List.eq_nil_or_concat Z with rfl | ⟨Z0,z,rfl⟩
  ·have:n=0:=by simpa using hz.symm
   subst this;rw [f81r1n10,decide_eq_false (by omega),cond_false]; rfl
  ·rw [List.concat_eq_append] at hz ⊢;have hz':n=Z0.length+1:=by simpa using hz.symm
   subst hz';have e1:A++((Z0++[z])++x::R)=(A++Z0)++z::(x::R):=by simp
   have e2:A++((Z0++[z])++x::R)=((A++Z0)++[z])++x::R:=by simp
   have e3:((A++Z0)++[z])++z::R=(A++Z0)++z::(z::R):=by simp
   rw [f81r1n10,decide_eq_true (by omega),cond_true,show wr64 (((A.length+(Z0.length+1):Nat):Int)-1)=((A.length+Z0.length:Nat):Int) by rw [wrIn (by omega) (by omega)]; omega];rw [at_len e1 (by simp),at_len e2 (by simp<;>omega)];simp only [Option.bind_some];rw [show (Int.toNat ((A.length+Z0.length:Nat):Int))=A.length+Z0.length from rfl,show (Int.toNat ((A.length+(Z0.length+1):Nat):Int))=A.length+(Z0.length+1) from rfl,set_len (y:=z) e2 (by simp<;>omega),at_len e3 (by simp),set_len (y:=x) e3 (by simp)];simp only [Option.bind_some];rw [show (A++Z0)++x::(z::R)=A++(Z0++x::(z::R)) by simp,st_n10 Z0.length Z0 A (z::R) x f rfl (by omega) (by omega)]
   simp
end
section
variable {c:Qd→Qd→Int} (hc:∀x y,f55 x y=some (c x y)) (o:SWo (Qu c)) (self:st_self)
include hc o
theorem st_one(P B S:List Qd)(x:Qd)(hb:Sd (Qu c) B)(hl:P.length+1+B.length+S.length≤500000) :
  f81r1n2 self (P.length:Int) ((P.length+1:Nat):Int) ((P.length+1+B.length:Nat):Int) (P++x::(B++S))=some (.ret (P++(Qba (Qu c) (x::B)++S))):=by
 have e0:P++x::(B++S)=(P++[x])++(B++S):=by simp
 have hlen:(P++x::(B++S)).length=P.length+1+B.length+S.length:=by simp<;>omega
 have h3:=st_n3 hc self (l:=P++x::(B++S)) (a:=(P.length:Int)) (at_len rfl rfl) (by omega) FUEL (P.length+1) (P.length+1+B.length) (by omega) (by omega);obtain ⟨r,q1,q2,q3,q4,q5⟩:=bsN_ok (p:=pq (fun y=>decide (c y x<0)) (P++x::(B++S))) FUEL (P.length+1) (P.length+1+B.length) (by omega) (Qav (Nat.le_trans (by omega:P.length+1+B.length-(P.length+1)≤1000000) (by unfold maxLen; decide))) fun i j a1 a2 a3 a4=>by
  rw [e0] at a4 ⊢;exact pq_mono (X:=P++[x]) (B:=B) (R:=S) (hb.imp fun {u w} huw hq=>o.le_lt huw hq) i j (by simp<;>omega) a2 (by simp<;>omega) a4
 obtain ⟨B1,B2,rfl,hB1⟩:=cutL_ (l:=B) (n:=r-(P.length+1)) (by omega);simp only [List.length_append] at *;have hb':=List.pairwise_append.1 hb;have f1:∀y∈B1,decide (c y x<0)=true:=pq_seg (X:=P++[x]) (R:=B2++S) fun i a1 a2=>by
  have:=q4 i (by simp at a1; omega) (by simp at a2; omega);simpa using this
 have f2:∀y∈B2,decide (c y x<0)=false:=pq_seg (X:=P++[x]++B1) (R:=S) fun i a1 a2=>by
  have:=q5 i (by simp at a1; omega) (by simp at a2; omega);simpa using this
 unfold f81r1n2 f81r1n4;rw [show wr64 (((P.length+1:Nat):Int)-(P.length:Int))=1 by rw [wrIn (by omega) (by omega)]; omega,h3,q1];simp only [decide_true,cond_true,Option.map_some,Option.bind_some];have h5:=st_n5 self B1 P (B2++S) x FUEL r (Qav (Nat.le_trans (by omega:B1.length≤1000000) (by unfold maxLen; decide))) (by omega) (by omega);rw [show P++x::(B1++B2++S)=P++x::(B1++(B2++S)) by simp,h5];simp only [Option.bind_some];have hS:B1++x::B2=Qba (Qu c) (x::(B1++B2)):=by
  refine sortS_of o ?_ ?_
  ·refine Sd.app hb'.1 (List.pairwise_cons.2 ⟨fun y hy=>f2 y hy,hb'.2.1⟩) fun u hu w hw=>?_;rcases List.mem_cons.1 hw with rfl | hw
   ·exact o.asym (f1 u hu)
   ·exact hb'.2.2 u hu w hw
  ·have:=(Cl.swap (lt:=Qu c) (u:=[x]) (v:=B1) o (fun a ha b hb=>by rw [List.mem_singleton.1 ha]; exact f1 b hb)).app (Cl.refl (lt:=Qu c) B2);simpa using this
 rw [←hS]; simp
theorem st_last(P A S:List Qd)(y:Qd)(ha:Sd (Qu c) A)(hl:P.length+A.length+1+S.length≤500000) :
  f81r1n7 self (P.length:Int) ((P.length+A.length:Nat):Int) ((P.length+A.length+1:Nat):Int) (P++(A++y::S))=some (.ret (P++(Qba (Qu c) (A++[y])++S))):=by
 have hlen:(P++(A++y::S)).length=P.length+A.length+1+S.length:=by simp<;>omega
 have h3:=st_n8 hc self (l:=P++(A++y::S)) (x:=y) (a:=((P.length+A.length:Nat):Int)) (at_len (a:=P++A) (b:=S) (by simp) (by simp)) (by omega) FUEL P.length (P.length+A.length) (by omega) (by omega);obtain ⟨r,q1,q2,q3,q4,q5⟩:=bsN_ok (p:=pq (fun z=>!decide (c y z<0)) (P++(A++y::S))) FUEL P.length (P.length+A.length) (by omega) (Qav (Nat.le_trans (by omega:P.length+A.length-P.length≤1000000) (by unfold maxLen; decide))) fun i j a1 a2 a3 a4=>by
  refine pq_mono (X:=P) (B:=A) (R:=y::S) (ha.imp fun {u w} huw hq=>?_) i j a1 a2 a3 a4;simp only [Bool.not_eq_true'] at hq ⊢;exact o.nt hq huw
 obtain ⟨A1,A2,rfl,hA1⟩:=cutL_ (l:=A) (n:=r-P.length) (by omega);simp only [List.length_append] at *;have ha':=List.pairwise_append.1 ha;have f1:∀z∈A1,(!decide (c y z<0))=true:=pq_seg (X:=P) (R:=A2++y::S) fun i a1 a2=>by
  have:=q4 i a1 (by omega);simpa using this
 have f2:∀z∈A2,(!decide (c y z<0))=false:=pq_seg (X:=P++A1) (R:=y::S) fun i a1 a2=>by
  have:=q5 i (by simp at a1; omega) (by simp at a2; omega);simpa using this
 unfold f81r1n7 f81r1n9;rw [show wr64 (((P.length+(A1.length+A2.length)+1:Nat):Int)-((P.length+(A1.length+A2.length):Nat):Int))=1 by rw [wrIn (by omega) (by omega)]; omega,h3,q1];simp only [decide_true,cond_true,Option.map_some,Option.bind_some];have h5:=st_n10 self A2.length A2 (P++A1) S y FUEL rfl (Qav (Nat.le_trans (by omega:A2.length≤1000000) (by unfold maxLen; decide))) (by simp<;>omega);rw [List.length_append] at h5;rw [show P++(A1++A2++y::S)=(P++A1)++(A2++y::S) by simp,show P.length+(A1.length+A2.length)=P.length+A1.length+A2.length by omega,show r=P.length+A1.length by omega,h5];simp only [Option.bind_some];have hS:A1++y::A2=Qba (Qu c) ((A1++A2)++[y]):=by
  refine sortS_of o ?_ ?_
  ·refine Sd.app ha'.1 (List.pairwise_cons.2 ⟨fun z hz=>?_,ha'.2.1⟩) fun u hu w hw=>?_
   ·have:=f2 z hz;simp only [Bool.not_eq_false'] at this;exact o.asym this
   ·rcases List.mem_cons.1 hw with rfl | hw
    ·have:=f1 u hu;simpa using this
    ·exact ha'.2.2 u hu w hw
  ·have:=(Cl.refl (lt:=Qu c) A1).app (Cl.swap (lt:=Qu c) (u:=A2) (v:=[y]) o (fun a ha b hb=>by
    rw [List.mem_singleton.1 hb];have:=f2 a ha;simpa using this))
   simpa using this
 rw [←hS]; simp
end
end Go.Proofs.Ythpceddjepbamaa
namespace Go.Proofs.Ythpceddjepbamaa
set_option linter.unusedVariables false
set_option linter.unusedSimpArgs false
open Go.RowKit
section
variable {c:Qd→Qd→Int} (hc:∀x y,f55 x y=some (c x y)) (o:SWo (Qu c))
theorem st_sdg{l:List Qd}(h:Sd (Qu c) l){i j:Nat}{x y:Qd}(hij:i≤j)(hx:l[i]?=some x)(hy:l[j]?=some y)(o:SWo (Qu c)):decide (c y x<0)=false:=by
 rcases Nat.lt_or_ge i j with hlt | hge
 ·obtain ⟨h1,rfl⟩:=List.getElem?_eq_some_iff.1 hx;obtain ⟨h2,rfl⟩:=List.getElem?_eq_some_iff.1 hy;exact List.pairwise_iff_getElem.1 h i j h1 h2 hlt
 ·have:i=j:=by omega
  subst this;rw [hx] at hy; obtain rfl:=Option.some.inj hy;exact o.irr x
include hc o in
theorem st_round(self:st_self)(K:Nat) (hs:∀(P A B S:List Qd),0<A.length→0<B.length→A.length+B.length≤K→Sd (Qu c) A→Sd (Qu c) B→P.length+A.length+B.length+S.length≤500000 →
   self (P.length:Int) ((P.length+A.length:Nat):Int) ((P.length+A.length+B.length:Nat):Int) (P++(A++(B++S)))=some (P++(Qba (Qu c) (A++B)++S)))
  (P A B S:List Qd) (ha0:1<A.length) (hb0:1<B.length) (hK:A.length+B.length≤2*K) (ha:Sd (Qu c) A) (hb:Sd (Qu c) B) (hl:P.length+A.length+B.length+S.length≤500000) :
  f81r1n0 self (P.length:Int) ((P.length+A.length:Nat):Int) ((P.length+A.length+B.length:Nat):Int) (P++(A++(B++S)))=some (.norm (P++(Qba (Qu c) (A++B)++S))):=by
 have hlen:(P++(A++(B++S))).length=P.length+A.length+B.length+S.length:=by simp<;>omega
 -- the numbers
 obtain ⟨a,ea⟩:∃a,a=P.length:=⟨_,rfl⟩;obtain ⟨m,em⟩:∃m,m=P.length+A.length:=⟨_,rfl⟩;obtain ⟨b,eb⟩:∃b,b=P.length+A.length+B.length:=⟨_,rfl⟩;obtain ⟨mid,emid⟩:∃mid,mid=(a+b) / 2:=⟨_,rfl⟩;obtain ⟨s0,r0,e11,hs0,hr0,hrm,hrmid,hsb,hsa,hse,hre⟩:∃s0 r0:Nat,f81r1n11 self (a:Int) (m:Int) (b:Int) (P++(A++(B++S)))=some (.norm (s0:Int) (r0:Int))∧a≤s0∧s0≤r0∧r0≤m∧r0≤mid∧mid+m≤b+s0∧s0≤m∧(s0=a∨mid+m=b+s0)∧(r0=m∨r0=mid):=by
  unfold f81r1n11;rw [st_half (by omega),←emid]
  by_cases h:mid<m
  ·rw [decide_eq_true (by omega),cond_true];refine ⟨mid+m-b,mid,?_,by omega,by omega,by omega,by omega,by omega,by omega,by omega,by omega⟩;rw [wrIn (n:=(mid:Int)+(m:Int)) (by omega) (by omega),wrIn (by omega) (by omega)]
   congr 2; omega
  ·rw [decide_eq_false (by omega),cond_false];exact ⟨a,m,rfl,by omega,by omega,by omega,by omega,by omega,by omega,by omega,by omega⟩
 -- where to cut
 have gA:∀i,a≤i→i<m→(P++(A++(B++S)))[i]?=A[i-a]?:=fun i h1 h2=>by rw [get_seg (by omega) (by omega),ea]
 have gB:∀i,m≤i→i<b→(P++(A++(B++S)))[i]?=B[i-m]?:=fun i h1 h2=>by
  rw [show P++(A++(B++S))=(P++A)++(B++S) by simp,get_seg (by simp<;>omega) (by simp<;>omega),List.length_append,em]
 have h12:=st_n12 hc self (l:=P++(A++(B++S))) (a:=a) (m:=m) (b:=b) (by omega) (by omega) (by omega) (by omega) FUEL s0 r0 (fun h h1 h2=>⟨by omega,by omega,by omega⟩) (by omega) (by omega);rw [←emid] at h12;obtain ⟨s,q1,q2,q3,q4,q5⟩:=bsN_ok (p:=st_pr c (P++(A++(B++S))) (mid+m)) FUEL s0 r0 hr0 (Qav (Nat.le_trans (by omega:r0-s0≤1000000) (by unfold maxLen; decide))) fun i j a1 a2 a3 a4=>by
  unfold st_pr at a4 ⊢;have iA:i-a<A.length:=by omega
  have jA:j-a<A.length:=by omega
  have iB:mid+m-1-i-m<B.length:=by omega
  have jB:mid+m-1-j-m<B.length:=by omega
  rw [gA j (by omega) (by omega),gB (mid+m-1-j) (by omega) (by omega),List.getElem?_eq_getElem jA,List.getElem?_eq_getElem jB] at a4;rw [gA i (by omega) (by omega),gB (mid+m-1-i) (by omega) (by omega),List.getElem?_eq_getElem iA,List.getElem?_eq_getElem iB];simp only [Bool.not_eq_true'] at a4 ⊢;have k1:=st_sdg ha (i:=i-a) (j:=j-a) (by omega) (List.getElem?_eq_getElem iA) (List.getElem?_eq_getElem jA) o;have k2:=st_sdg hb (i:=mid+m-1-j-m) (j:=mid+m-1-i-m) (by omega) (List.getElem?_eq_getElem jB) (List.getElem?_eq_getElem iB) o;exact o.nt (o.nt k2 a4) k1
 obtain ⟨A1,A2,eA,hA1⟩:=cutL_ (l:=A) (n:=s-a) (by omega);obtain ⟨B1,B2,eB,hB1⟩:=cutL_ (l:=B) (n:=mid-s) (by omega);have lA:A.length=A1.length+A2.length:=by rw [eA]; simp
 have lB:B.length=B1.length+B2.length:=by rw [eB]; simp
 have h1:∀x∈A1,∀y∈B2,decide (c y x<0)=false:=by
  rcases List.eq_nil_or_concat A1 with e | ⟨A0,u,e⟩
  ·rw [e]; simp
  ·cases hB2:B2 with
   | nil=>simp
   | cons v B3 =>
    rw [List.concat_eq_append] at e;have l1:A1.length=A0.length+1:=by rw [e]; simp
    have l2:B2.length=B3.length+1:=by rw [hB2]; simp
    have hp:=q4 (s-1) (by omega) (by omega);unfold st_pr at hp;rw [gA (s-1) (by omega) (by omega),gB (mid+m-1-(s-1)) (by omega) (by omega)] at hp;rw [get_len (l:=A) (k:=s-1-a) (x:=u) (a:=A0) (b:=A2) (by rw [eA,e]; simp) (by omega),get_len (l:=B) (k:=mid+m-1-(s-1)-m) (x:=v) (a:=B1) (b:=B3) (by rw [eB,hB2]) (by omega)] at hp;simp only [Bool.not_eq_true'] at hp;intro x hx y hy;have hx':decide (c u x<0)=false:=by
     rw [e] at hx;have hsA:=List.pairwise_append.1 (by rw [eA,e] at ha; exact (List.pairwise_append.1 ha).1:Sd (Qu c) (A0++[u]));rcases List.mem_append.1 hx with hx | hx
     ·exact hsA.2.2 x hx u (by simp)
     ·rw [List.mem_singleton.1 hx]; exact o.irr u
    have hy':decide (c y v<0)=false:=by
     have hsB:=List.pairwise_cons.1 (by rw [eB,hB2] at hb; exact (List.pairwise_append.1 hb).2.1:Sd (Qu c) (v::B3));rcases List.mem_cons.1 hy with rfl | hy
     ·exact o.irr _
     ·exact hsB.1 y hy
    exact o.nt (o.nt hy' hp) hx'
 have h2:∀x∈A2,∀y∈B1,decide (c y x<0)=true:=by
  rcases List.eq_nil_or_concat B1 with e | ⟨B0,v,e⟩
  ·rw [e]; simp
  ·cases hA2:A2 with
   | nil=>simp
   | cons u A3 =>
    rw [List.concat_eq_append] at e;have l1:B1.length=B0.length+1:=by rw [e]; simp
    have l2:A2.length=A3.length+1:=by rw [hA2]; simp
    have hp:=q5 s (by omega) (by omega);unfold st_pr at hp;rw [gA s (by omega) (by omega),gB (mid+m-1-s) (by omega) (by omega)] at hp;rw [get_len (l:=A) (k:=s-a) (x:=u) (a:=A1) (b:=A3) (by rw [eA,hA2]) (by omega),get_len (l:=B) (k:=mid+m-1-s-m) (x:=v) (a:=B0) (b:=B2) (by rw [eB,e]; simp) (by omega)] at hp;simp only [Bool.not_eq_false'] at hp;intro x hx y hy;have hx':decide (c x u<0)=false:=by
     have hsA:=List.pairwise_cons.1 (by rw [eA,hA2] at ha; exact (List.pairwise_append.1 ha).2.1:Sd (Qu c) (u::A3));rcases List.mem_cons.1 hx with rfl | hx
     ·exact o.irr _
     ·exact hsA.1 x hx
    have hy':decide (c v y<0)=false:=by
     rw [e] at hy;have hsB:=List.pairwise_append.1 (by rw [eB,e] at hb; exact (List.pairwise_append.1 hb).1:Sd (Qu c) (B0++[v]));rcases List.mem_append.1 hy with hy | hy
     ·exact hsB.2.2 y hy v (by simp)
     ·rw [List.mem_singleton.1 hy]; exact o.irr v
    exact o.lt_le (o.le_lt hy' hp) hx'
 have hcut:=merge_cut o (a1:=A1) (a2:=A2) (b1:=B1) (b2:=B2) (by rw [←eA]; exact ha) (by rw [←eB]; exact hb) h1 h2;rw [←eA,←eB] at hcut;have sA:=List.pairwise_append.1 (by rw [←eA]; exact ha:Sd (Qu c) (A1++A2));have sB:=List.pairwise_append.1 (by rw [←eB]; exact hb:Sd (Qu c) (B1++B2))
 -- the rotation
 have e_end:wr64 (wr64 ((mid:Int)+(m:Int))-(s:Int))=((mid+m-s:Nat):Int):=by rw [wrIn (n:=(mid:Int)+(m:Int)) (by omega) (by omega),wrIn (by omega) (by omega)]; omega
 have h13:f81r1n13 self (a:Int) (m:Int) (b:Int) (s:Int) (P++(A++(B++S)))=some (.norm (P++((A1++B1)++((A2++B2)++S)))):=by
  unfold f81r1n13 f81r1n14;rw [st_half (by omega),←emid,e_end]
  by_cases c1:s<m
  ·by_cases c2:m<mid+m-s
   ·rw [decide_eq_true (by omega:(s:Int)<(m:Int)),decide_eq_true (by omega:(m:Int)<((mid+m-s:Nat):Int))];simp only [cond_true,Option.bind_some];have k:=st_rot_ok (P++A1) A2 B1 (B2++S) (a:=s) (m:=m) (b:=mid+m-s) (by simp<;>omega) (by simp<;>omega) (by simp<;>omega) (by omega) (by omega) (by simp<;>omega);rw [show P++(A++(B++S))=(P++A1)++(A2++(B1++(B2++S))) by rw [eA,eB]; simp,k]
    simp
   ·rw [decide_eq_true (by omega:(s:Int)<(m:Int)),decide_eq_false (by omega:¬(m:Int)<((mid+m-s:Nat):Int))];have:B1=[]:=List.eq_nil_of_length_eq_zero (by omega);simp only [cond_true,cond_false,Option.bind_some];rw [eA,eB,this]; simp
  ·rw [decide_eq_false (by omega:¬(s:Int)<(m:Int))];have:A2=[]:=List.eq_nil_of_length_eq_zero (by omega);simp only [cond_false,Option.bind_some];rw [eA,eB,this]; simp
 -- the left half
 have h15:f81r1n15 self (a:Int) (b:Int) (s:Int) (m:Int) (P++((A1++B1)++((A2++B2)++S)))=some (.norm (P++(Qba (Qu c) (A1++B1)++((A2++B2)++S)))):=by
  unfold f81r1n15 f81r1n16;rw [st_half (by omega),←emid]
  by_cases c1:a<s
  ·by_cases c2:s<mid
   ·rw [decide_eq_true (by omega:(a:Int)<(s:Int)),decide_eq_true (by omega:(s:Int)<(mid:Int))];simp only [cond_true,Option.bind_some];have k:=hs P A1 B1 ((A2++B2)++S) (by omega) (by omega) (by omega) sA.1 sB.1 (by simp<;>omega);rw [show P.length=a by omega,show a+A1.length=s by omega,show s+B1.length=mid by omega] at k;rw [show P++((A1++B1)++((A2++B2)++S))=P++(A1++(B1++((A2++B2)++S))) by simp,k];rfl
   ·rw [decide_eq_true (by omega:(a:Int)<(s:Int)),decide_eq_false (by omega:¬(s:Int)<(mid:Int))];have:B1=[]:=List.eq_nil_of_length_eq_zero (by omega);simp only [cond_true,cond_false,Option.bind_some];rw [this,List.append_nil,←sortS_of o sA.1 (Cl.refl _)]
  ·rw [decide_eq_false (by omega:¬(a:Int)<(s:Int))];have:A1=[]:=List.eq_nil_of_length_eq_zero (by omega);simp only [cond_false,Option.bind_some];rw [this,List.nil_append,←sortS_of o sB.1 (Cl.refl _)]
 have lS1:(Qba (Qu c) (A1++B1)).length=A1.length+B1.length:=by rw [sortS_len o]; simp
 -- the right half
 have hfin:f81r1n17 self (b:Int) (a:Int) (m:Int) (s:Int) (P++(Qba (Qu c) (A1++B1)++((A2++B2)++S)))=some (.norm (decide (mid<mid+m-s)&&decide (mid+m-s<b))):=by
  unfold f81r1n17;rw [st_half (by omega),←emid,e_end]
  by_cases c1:mid<mid+m-s
  ·rw [decide_eq_true (by omega:(mid:Int)<((mid+m-s:Nat):Int)),decide_eq_true c1];simp only [cond_true,Bool.true_and]
   congr 2
   exact decide_eq_decide.2 (by omega)
  ·rw [decide_eq_false (by omega:¬(mid:Int)<((mid+m-s:Nat):Int)),decide_eq_false c1]; rfl
 have n1:f81r1n1 self (a:Int) (m:Int) (b:Int) (P++(A++(B++S)))=some .norm:=by
  unfold f81r1n1 f81r1n2;rw [wrIn (n:=(m:Int)-(a:Int)) (by omega) (by omega),decide_eq_false (by omega)]; rfl
 have n6:f81r1n6 self (a:Int) (m:Int) (b:Int) (P++(A++(B++S)))=some .norm:=by
  unfold f81r1n6 f81r1n7;rw [wrIn (n:=(b:Int)-(m:Int)) (by omega) (by omega),decide_eq_false (by omega)]; rfl
 unfold f81r1n0;rw [←ea,show a+A.length=m by omega,show m+B.length=b by omega,n1];simp only [Option.bind_some,n6,e11,h12,q1,Option.map_some,h13,h15,hfin];rw [st_half (by omega),←emid,e_end,hcut]
 by_cases c3:mid<mid+m-s∧mid+m-s<b
 ·rw [decide_eq_true c3.1,decide_eq_true c3.2];simp only [Bool.and_self,cond_true];have k:=hs (P++Qba (Qu c) (A1++B1)) A2 B2 S (by omega) (by omega) (by omega) sA.2.1 sB.2.1 (by simp [lS1]<;>omega);rw [List.length_append,lS1,show P.length+(A1.length+B1.length)=mid by omega,show mid+A2.length=mid+m-s by omega,show mid+m-s+B2.length=b by omega] at k;rw [show P++(Qba (Qu c) (A1++B1)++((A2++B2)++S))=(P++Qba (Qu c) (A1++B1))++(A2++(B2++S)) by simp,k]
  simp
 ·have e1:(decide (mid<mid+m-s)&&decide (mid+m-s<b))=false:=by
   rw [Bool.and_eq_false_iff,decide_eq_false_iff_not,decide_eq_false_iff_not];omega
  rw [e1];have:Qba (Qu c) (A2++B2)=A2++B2:=by
   rcases (by omega:A2.length=0∨B2.length=0) with h | h
   ·rw [List.eq_nil_of_length_eq_zero h,List.nil_append,←sortS_of o sB.2.1 (Cl.refl _)]
   ·rw [List.eq_nil_of_length_eq_zero h,List.append_nil,←sortS_of o sA.2.1 (Cl.refl _)]
  rw [this]
  simp
include hc o in
theorem st_sym_ok:∀(k:Nat)(P A B S:List Qd),0<A.length→0<B.length→A.length+B.length≤2 ^ k→Sd (Qu c) A→Sd (Qu c) B→P.length+A.length+B.length+S.length≤500000 →
  f81r1F k (P.length:Int) ((P.length+A.length:Nat):Int) ((P.length+A.length+B.length:Nat):Int) (P++(A++(B++S)))=some (P++(Qba (Qu c) (A++B)++S))
 | 0,P,A,B,S,h1,h2,h3,_,_,_=>by simp at h3; omega
 | k+1,P,A,B,S,h1,h2,h3,ha,hb,hl=>by
  rw [f81r1F]
  by_cases hA:A.length=1
  ·obtain ⟨x,rfl⟩:=List.length_eq_one_iff.1 hA;have:=st_one hc o (f81r1F k) P B S x hb (by simp at hl; omega);unfold f81r1n0 f81r1n1;simp only [List.length_cons,List.length_nil,List.cons_append,List.nil_append] at this ⊢;rw [this]; rfl
  ·by_cases hB:B.length=1
   ·obtain ⟨y,rfl⟩:=List.length_eq_one_iff.1 hB;have:=st_last hc o (f81r1F k) P A S y ha (by simp at hl; omega);have n1:f81r1n1 (f81r1F k) (P.length:Int) ((P.length+A.length:Nat):Int) ((P.length+A.length+1:Nat):Int) (P++(A++y::S))=some .norm:=by
     unfold f81r1n1 f81r1n2;rw [wrIn (n:=((P.length+A.length:Nat):Int)-(P.length:Int)) (by omega) (by simp at hl; omega),decide_eq_false (by omega)]; rfl
    unfold f81r1n0 f81r1n6;simp only [List.length_cons,List.length_nil,List.cons_append,List.nil_append] at this ⊢;rw [n1];simp only [Option.bind_some];rw [this]; rfl
   ·rw [st_round hc o (f81r1F k) (2 ^ k) (fun P A B S a1 a2 a3 a4 a5 a6=>st_sym_ok k P A B S a1 a2 a3 a4 a5 a6) P A B S (by omega) (by omega) (by rw [Nat.pow_succ] at h3; omega) ha hb hl];rfl
include hc o in
theorem st_mrg(P A B S:List Qd)(h1:0<A.length)(h2:0<B.length)(ha:Sd (Qu c) A)(hb:Sd (Qu c) B)(hl:P.length+A.length+B.length+S.length≤500000) :
  f81r1 (P.length:Int) ((P.length+A.length:Nat):Int) ((P.length+A.length+B.length:Nat):Int) (P++(A++(B++S)))=some (P++(Qba (Qu c) (A++B)++S)) :=
 st_sym_ok hc o 200 P A B S h1 h2 (Nat.le_trans (by omega:A.length+B.length≤500000) (by decide)) ha hb hl
end
end Go.Proofs.Ythpceddjepbamaa
namespace Go.Proofs.Ythpceddjepbamaa
set_option linter.unusedVariables false
set_option linter.unusedSimpArgs false
open Go.RowKit
section
variable {c:Qd→Qd→Int} (hc:∀x y,f55 x y=some (c x y)) (o:SWo (Qu c))
include hc o
theorem st_blocks:∀(f:Nat)(D R:List Qd),R.length<f→D.length+R.length≤500000→D.length % 20=0→Bl (Qu c) 20 D →
  ∃D' R',f68r1n1 f ((D.length+R.length:Nat):Int) (D.length:Int) ((D.length+20:Nat):Int) (D++R)=some (.exit0 (D'.length:Int) (D'++R'))∧D'.length % 20=0∧Bl (Qu c) 20 D'∧R'.length<20∧Cl (Qu c) (D++R) (D'++R')∧D'.length+R'.length=D.length+R.length
 | 0,_,_,h,_,_,_=>absurd h (Nat.not_lt_zero _)
 | f+1,D,R,hf,hl,hm,hD=>by
  rw [f68r1n1]
  by_cases h:20≤R.length
  ·obtain ⟨X,R1,rfl,hX⟩:=cutL_ (l:=R) (n:=20) h;simp only [List.length_append] at *;have k:=st_ins_ok hc o D X R1 (by omega);rw [hX] at k;have lS:(Qba (Qu c) X).length=20:=by rw [sortS_len o,hX]
   rw [decide_eq_true (by omega:((D.length+20:Nat):Int)≤((D.length+(X.length+R1.length):Nat):Int)),cond_true,show D++(X++R1)=D++(X++R1) from rfl,k];simp only [Option.bind_some];obtain ⟨D',R',q1,q2,q3,q4,q5,q6⟩:=st_blocks f (D++Qba (Qu c) X) R1 (by omega) (by simp<;>omega) (by simp<;>omega) (hD.snoc hm (by decide) (sortS_sd o X) (by omega));rw [List.length_append,lS] at q1 q6;refine ⟨D',R',?_,q2,q3,q4,?_,by omega⟩
   ·rw [show wr64 (((D.length+20:Nat):Int)+20)=((D.length+20+20:Nat):Int) by rw [wrIn (by omega) (by omega)]; omega,show D++(Qba (Qu c) X++R1)=(D++Qba (Qu c) X)++R1 by simp,show D.length+(X.length+R1.length)=D.length+20+R1.length by omega];exact q1
   ·have:=(((Cl.refl (lt:=Qu c) D).app (Qbo o X)).app (Cl.refl (lt:=Qu c) R1)).trans q5;simpa using this
  ·rw [decide_eq_false (by omega:¬((D.length+20:Nat):Int)≤((D.length+R.length:Nat):Int)),cond_false];exact ⟨D,R,rfl,hm,hD,by omega,Cl.refl _,rfl⟩
theorem st_pairs(s:Nat)(hs:0<s)(hs1:s≤1000000):∀(f:Nat)(D R:List Qd),R.length<f→D.length+R.length≤500000→D.length % (2*s)=0→Bl (Qu c) (2*s) D→Bl (Qu c) s R →
  ∃D' R',f68r1n3 f ((D.length+R.length:Nat):Int) (s:Int) (D.length:Int) ((D.length+2*s:Nat):Int) (D++R)=some (.exit4 (D'.length:Int) (D'++R'))∧D'.length % (2*s)=0∧Bl (Qu c) (2*s) D'∧Bl (Qu c) s R'∧R'.length<2*s∧Cl (Qu c) (D++R) (D'++R')∧D'.length+R'.length=D.length+R.length
 | 0,_,_,h,_,_,_,_=>absurd h (Nat.not_lt_zero _)
 | f+1,D,R,hf,hl,hm,hD,hR=>by
  rw [f68r1n3]
  by_cases h:2*s≤R.length
  ·obtain ⟨X,R1,rfl,hX,sX,hR1⟩:=hR.uncons (by omega);simp only [List.length_append] at *;obtain ⟨Y,R2,rfl,hY,sY,hR2⟩:=hR1.uncons (by omega);simp only [List.length_append] at *;have k:=st_mrg hc o D X Y R2 (by omega) (by omega) sX sY (by omega);rw [hX,hY] at k;have lS:(Qba (Qu c) (X++Y)).length=2*s:=by rw [sortS_len o,List.length_append]; omega
   rw [decide_eq_true (by omega:((D.length+2*s:Nat):Int)≤((D.length+(X.length+(Y.length+R2.length)):Nat):Int)),cond_true,show wr64 ((D.length:Int)+(s:Int))=((D.length+s:Nat):Int) by rw [wrIn (by omega) (by omega)]; omega,show D.length+2*s=D.length+s+s by omega,k];simp only [Option.bind_some];obtain ⟨D',R',q1,q2,q3,q4,q5,q6,q7⟩:=st_pairs s hs hs1 f (D++Qba (Qu c) (X++Y)) R2 (by omega) (by simp [lS]<;>omega) (by rw [List.length_append,lS,Nat.add_mod_right]; exact hm) (hD.snoc hm (by omega) (sortS_sd o _) (by omega)) hR2;rw [List.length_append,lS] at q1 q7;refine ⟨D',R',?_,q2,q3,q4,q5,?_,by omega⟩
   ·rw [show wr64 ((2:Int)*(s:Int))=((2*s:Nat):Int) by rw [wrIn (by omega) (by omega)]; omega,show wr64 (((D.length+s+s:Nat):Int)+((2*s:Nat):Int))=((D.length+2*s+2*s:Nat):Int) by rw [wrIn (by omega) (by omega)]; omega,show D.length+s+s=D.length+2*s by omega,show D++(Qba (Qu c) (X++Y)++R2)=(D++Qba (Qu c) (X++Y))++R2 by simp,show D.length+(X.length+(Y.length+R2.length))=D.length+2*s+R2.length by omega];exact q1
   ·have:=(((Cl.refl (lt:=Qu c) D).app (Qbo o (X++Y))).app (Cl.refl (lt:=Qu c) R2)).trans q6;simpa using this
  ·rw [decide_eq_false (by omega:¬((D.length+2*s:Nat):Int)≤((D.length+R.length:Nat):Int)),cond_false];exact ⟨D,R,rfl,hm,hD,hR,by omega,Cl.refl _,rfl⟩
theorem st_pass(s:Nat)(hs:0<s)(hs1:s≤1000000)(l:List Qd)(hl:l.length≤500000)(hb:Bl (Qu c) s l):∃l',f68r1n2 (l.length:Int) (s:Int) l=some (.norm l')∧Bl (Qu c) (2*s) l'∧Cl (Qu c) l l':=by
 obtain ⟨D,R,q1,q2,q3,q4,q5,q6,q7⟩:=st_pairs hc o s hs hs1 FUEL [] l (Qav (Nat.le_trans (by omega:l.length≤1000000) (by unfold maxLen; decide))) (by simpa using hl) (by simp) (.last List.Pairwise.nil (by simp)) hb;simp only [List.length_nil,Nat.zero_add,List.nil_append] at q1 q6 q7;unfold f68r1n2;rw [show wr64 ((2:Int)*(s:Int))=((2*s:Nat):Int) by rw [wrIn (by omega) (by omega)]; omega,show (0:Int)=((0:Nat):Int) from rfl,q1];simp only [Option.bind_some];rw [show wr64 ((D.length:Int)+(s:Int))=((D.length+s:Nat):Int) by rw [wrIn (by omega) (by omega)]; omega]
 by_cases h:D.length+s<l.length
 ·obtain ⟨X,Y,rfl,hX,sX,hY⟩:=q4.uncons (by omega);simp only [List.length_append] at *;have sY:=hY.whole (by omega) hs;have k:=st_mrg hc o D X Y [] (by omega) (by omega) sX sY (by simp<;>omega);rw [hX] at k;rw [decide_eq_true (by omega),cond_true,show l.length=D.length+s+Y.length by omega,show D++(X++Y)=D++(X++(Y++[])) by simp,k];refine ⟨_,rfl,?_,?_⟩
  ·rw [List.append_nil];exact q3.snoc q2 (by omega) (sortS_sd o _) (by rw [sortS_len o,List.length_append]; omega)
  ·rw [List.append_nil];exact q6.trans ((Cl.refl _).app (Qbo o _))
 ·rw [decide_eq_false (by omega),cond_false];exact ⟨_,rfl,q3.snoc q2 (by omega) (q4.whole (by omega) hs) (by omega),q6⟩
theorem st_passes:∀(n f s:Nat)(l:List Qd),l.length-s≤n→n<f→0<s→s≤1000000→l.length≤500000→Bl (Qu c) s l→∃l',f68r1n4 f (l.length:Int) (s:Int) l=some (.exit2 l')∧Sd (Qu c) l'∧Cl (Qu c) l l'
 | _,0,_,_,_,h,_,_,_,_=>absurd h (Nat.not_lt_zero _)
 | n,f+1,s,l,hn,hf,hs,hs1,hl,hb=>by
  rw [f68r1n4]
  by_cases h:s<l.length
  ·obtain ⟨l1,k1,k2,k3⟩:=st_pass hc o s hs hs1 l hl hb;have hlen:=k3.len;obtain ⟨l',q1,q2,q3⟩:=st_passes (n-1) f (2*s) l1 (by omega) (by omega) (by omega) (by omega) (by omega) k2;rw [decide_eq_true (by omega),cond_true,k1];simp only [Option.bind_some];rw [show wr64 ((s:Int)*2)=((2*s:Nat):Int) by rw [wrIn (by omega) (by omega)]; omega,←hlen,q1];exact ⟨l',rfl,q2,k3.trans q3⟩
  ·rw [decide_eq_false (by omega),cond_false];exact ⟨l,rfl,hb.whole (by omega) hs,Cl.refl _⟩
theorem st_sorted(l:List Qd)(hl:l.length≤500000):f54r1 l=some (Qba (Qu c) l):=by
 obtain ⟨D,R,q1,q2,q3,q4,q5,q6⟩:=st_blocks hc o FUEL [] l (Qav (Nat.le_trans (by omega:l.length≤1000000) (by unfold maxLen; decide))) (by simpa using hl) (by simp) (.last List.Pairwise.nil (by simp));simp only [List.length_nil,Nat.zero_add,List.nil_append] at q1 q5 q6;have k:=st_ins_ok hc o D R [] (by omega);simp only [List.append_nil] at k;rw [q6] at k;have hb:Bl (Qu c) 20 (D++Qba (Qu c) R):=q3.snoc q2 (by decide) (sortS_sd o R) (by rw [sortS_len o]; omega);have hcl:Cl (Qu c) l (D++Qba (Qu c) R):=q5.trans ((Cl.refl _).app (Qbo o R));have hlen:=hcl.len;obtain ⟨l',k1,k2,k3⟩:=st_passes hc o (D++Qba (Qu c) R).length FUEL 20 (D++Qba (Qu c) R) (by omega) (Qav (Nat.le_trans (by omega:(D++Qba (Qu c) R).length≤1000000) (by unfold maxLen; decide))) (by decide) (by decide) (by omega) hb;have e:f68r1 (l.length:Int) l=some l':=by
  unfold f68r1 f68r1n0;rw [show (0:Int)=((0:Nat):Int) from rfl,show (20:Int)=((20:Nat):Int) from rfl,q1];simp only [Option.bind_some,k];rw [←hlen,k1]; rfl
 unfold f54r1 f54r1n0;rw [e];simp only [Option.bind_some];rw [sortS_of o k2 (hcl.trans k3)]
end
end Go.Proofs.Ythpceddjepbamaa
namespace Go.Proofs.Ythpceddjepbamaa
set_option linter.unusedVariables false
set_option linter.unusedSimpArgs false
open Go.RowKit
abbrev AA:=Qe
abbrev AL:=Qa
abbrev AB:=Qc
abbrev AW:=Qb
abbrev SH:=Qd

theorem f67_eq(c:Int):f67 c=some (ltrI c):=by
 unfold f67 f67n0 ltrI;cases decide (97≤c)<;>cases decide (c≤122)<;>cases decide (65≤c)<;>cases decide (c≤90)<;>rfl
theorem f50n2_eq{s:ByteArray}{k:Int}{b:UInt8}(h:at? s.data.toList k=some b):f50n2 s k=some (bif chB b then .norm else .ret):=by
 have h3:f50n3 s b k=some (.norm (!(chB b))):=by
  unfold f50n3 chB othI;rw [f67_eq,ltNot,ltNot];simp only [Option.bind_some];cases ltrI b.toNat<;>cases decide ((48:Int)≤(b.toNat:Int))<;>cases decide ((b.toNat:Int)≤57)<;>cases decide ((b.toNat:Int)=95)<;>cases decide ((b.toNat:Int)=45)<;>rfl
 unfold f50n2;rw [h];simp only [Option.bind_some,h3];cases chB b<;>rfl
theorem f50n4_at(s:ByteArray)(hs:s.data.toList.length≤1000):∀(r:List UInt8)(f k:Nat),s.data.toList.drop k=r→r.length<f→f50n4 f s (k:Int)=some (bif r.all chB then .exit0 else .ret)
 | _,0,_,_,h=>absurd h (Nat.not_lt_zero _)
 | [],f+1,k,hd,_=>by
  have:=Qah hd;rw [f50n4,sizeList,decide_eq_false (by omega),cond_false]; rfl
 | b::r,f+1,k,hd,hf=>by
  obtain ⟨h1,h2,h3⟩:=dropAt hd;rw [f50n4,sizeList,decide_eq_true (by omega),cond_true,f50n2_eq h1,List.all_cons];cases chB b with
  | false=>rfl
  | true =>
   simp only [cond_true,Option.bind_some,Bool.true_and];rw [wrSucc (by omega)];exact f50n4_at s hs r f (k+1) h3 (by simpa using hf)
theorem f50_eq(s:ByteArray):f50 s=some (nmB s):=by
 unfold f50 f50n0 nmB;rw [sizeList]
 by_cases hs:s.data.toList.length≤40
 ·have h1:f50n1 s=some (bif s.data.toList.all chB then .norm else .ret):=by
   unfold f50n1;have:=f50n4_at s (by omega) s.data.toList FUEL 0 List.drop_zero (Qaz (by omega));rw [show ((0:Nat):Int)=0 from rfl] at this;rw [this];cases s.data.toList.all chB<;>rfl
  rw [h1];generalize s.data.toList=l at hs;rw [decide_eq_false (by omega:¬(40:Int)<(l.length:Int))];cases l with
  | nil=>rfl
  | cons b r =>
   have h0:at? (b::r) 0=some b:=rfl;rw [decide_eq_false (by simp; omega:¬(((b::r).length:Nat):Int)<1),h0];simp only [cond_false,Option.bind_some,f67_eq,isNm,decide_eq_true hs,Bool.true_and,List.all_cons,chB];cases ltrI b.toNat<;>cases othI b.toNat<;>cases r.all chB<;>rfl
 ·rw [decide_eq_false (by omega:¬((s.data.toList.length:Nat):Int)<1),decide_eq_true (by omega:(40:Int)<((s.data.toList.length:Nat):Int))];have:isNm s.data.toList=false:=by
   generalize s.data.toList=l at hs;cases l with
   | nil=>rfl
   | cons b r=>simp only [isNm,decide_eq_false hs,Bool.false_and]
  rw [this]; rfl

theorem f60_eq(a:Int):f60 a=some false:=by unfold f60 f60n0; simp
theorem f79_eq(a:ByteArray):f79 a=some false:=by unfold f79 f79n0; simp [seq_refl]
theorem f39_eq(a b:Int):f39 a b=some (cmpI a b):=by
 unfold f39 f39n0 cmpI;rw [f60_eq,f60_eq];simp only [Option.bind_some,cond_false];cases decide (a<b)<;>cases decide (b<a)<;>rfl
theorem f63_eq(a b:ByteArray):f63 a b=some (cmpB a b):=by
 unfold f63 f63n0 cmpB;rw [f79_eq,f79_eq];simp only [Option.bind_some,cond_false];cases slt a b<;>cases seq a b<;>rfl
theorem f62_eq(x:AL)(n:ByteArray):f62 x n=some (cmpB x.Name n):=by unfold f62 f62n0; rw [f63_eq]; rfl
theorem f51_eq(a b c:Int):f51 a b c=some (decide (b≤a)&&decide (a≤c)):=by
 unfold f51 f51n0;cases decide (b≤a)<;>rfl

def lotN(n:ByteArray):List AL→Option AL
 | []=>none
 | x::r=>bif seq x.Name n then some x else lotN n r
theorem lotN_none{n:ByteArray} : ∀{l:List AL},(∀x∈l,x.Name≠n)→lotN n l=none
 | [],_=>rfl
 | x::r,h=>by rw [lotN,seqF (h x List.mem_cons_self),cond_false,lotN_none fun y hy=>h y (List.mem_cons_of_mem _ hy)]
theorem lotN_app{n:ByteArray} : ∀{pre post:List AL},(∀x∈pre,x.Name≠n)→lotN n (pre++post)=lotN n post
 | [],_,_=>rfl
 | x::r,post,h=>by rw [List.cons_append,lotN,seqF (h x List.mem_cons_self),cond_false,lotN_app fun y hy=>h y (List.mem_cons_of_mem _ hy)]
theorem lotN_mem{n:ByteArray}{x:AL} : ∀{l:List AL},lotN n l=some x→x∈l∧x.Name=n
 | y::r,h=>by
  rw [lotN] at h;cases k:seq y.Name n with
  | true=>rw [k] at h; obtain rfl:=Option.some.inj h; exact ⟨List.mem_cons_self,seq_iff.1 k⟩
  | false =>
   rw [k] at h;obtain ⟨h1,h2⟩:=lotN_mem h;exact ⟨List.mem_cons_of_mem _ h1,h2⟩
abbrev SSrt(l:List AL):Prop:=l.Pairwise fun a b=>slt a.Name b.Name=true
theorem lotN_of:∀{l:List AL},SSrt l→∀x∈l,lotN x.Name l=some x
 | y::r,h,x,hx=>by
  rw [lotN];have h':=List.pairwise_cons.1 h;rcases List.mem_cons.1 hx with rfl | hx
  ·rw [seq_refl,cond_true]
  ·rw [seqF (sltNe (h'.1 x hx)),cond_false,lotN_of h'.2 x hx]
theorem f61n1_eq{l:List AL}(n:ByteArray)(hl:l.length≤1000000):∀(f lo hi:Nat),hi≤l.length→lo≤1000000→f61_62n1 f l n (lo:Int) (hi:Int)=(bsN (pq (fun y=>decide (cmpB y.Name n<0)) l) f lo hi).map fun r=>.exit0 (r:Int)
 | 0,lo,hi,_,_=>rfl
 | f+1,lo,hi,h,h0=>by
  rw [f61_62n1,bsN]
  by_cases hlt:lo<hi
  ·have hk:(lo+hi) / 2<l.length:=by omega
   rw [decide_eq_true hlt,decide_eq_true (by omega:(lo:Int)<(hi:Int)),st_half (by omega),at_in hk];simp only [cond_true,Option.bind_some,f62_eq];have ep:pq (fun y=>decide (cmpB y.Name n<0)) l ((lo+hi) / 2)=decide (cmpB l[(lo+hi) / 2].Name n<0):=by unfold pq; rw [List.getElem?_eq_getElem hk]
   rw [ep];cases decide (cmpB l[(lo+hi) / 2].Name n<0) with
   | true=>rw [cond_true,cond_true,show wr64 ((((lo+hi) / 2:Nat):Int)+1)=(((lo+hi) / 2+1:Nat):Int) by rw [wrIn (by omega) (by omega)]; omega]; exact f61n1_eq n hl f _ _ h (by omega)
   | false=>rw [cond_false,cond_false]; exact f61n1_eq n hl f _ _ (by omega) h0
  ·rw [decide_eq_false hlt,decide_eq_false (by omega:¬(lo:Int)<(hi:Int))]; rfl
theorem f44_eq{s:List AL}(hs:SSrt s)(hl:s.length≤1000)(n:ByteArray):∃i,f44 s n=some (i,(lotN n s).isSome):=by
 obtain ⟨r,q1,q2,q3,q4,q5⟩:=bsN_ok (p:=pq (fun y=>decide (cmpB y.Name n<0)) s) FUEL 0 s.length (by omega) (Qaz (by omega)) fun i j a1 a2 a3 a4=>by
  have:=pq_mono (X:=[]) (B:=s) (R:=[]) (q:=fun y=>decide (cmpB y.Name n<0)) (hs.imp fun {u w} huw hq=>by
   rw [decide_eq_true_eq,cmpB_neg] at *;exact slt_trans huw hq) i j (by simp) a2 (by simpa using a3) (by simpa using a4)
  simpa using this
 have h1:f61_62n1 FUEL s n 0 (s.length:Int)=some (.exit0 (r:Int)):=by
  have:=f61n1_eq (l:=s) n (by omega) FUEL 0 s.length (Nat.le_refl _) (by omega);rw [q1] at this;exact this
 obtain ⟨s1,s2,rfl,hs1⟩:=cutL_ (l:=s) (n:=r) q3;rw [List.length_append] at q5;have f1:∀y∈s1,decide (cmpB y.Name n<0)=true:=pq_seg (X:=[]) (R:=s2) fun i a1 a2=>by
  have:=q4 i (by omega) (by simpa [hs1] using a2);simpa using this
 have f2:∀y∈s2,decide (cmpB y.Name n<0)=false:=pq_seg (X:=s1) (R:=[]) fun i a1 a2=>by
  have:=q5 i (by omega) a2;simpa using this
 have hn1:∀y∈s1,y.Name≠n:=fun y hy=>sltNe (cmpB_neg.1 (of_decide_eq_true (f1 y hy)));have h61:f61_62 (s1++s2) n=some ((r:Int),match s2 with | []=>false | y::_=>decide (cmpB y.Name n=0)):=by
  unfold f61_62 f61_62n0;rw [h1];simp only [Option.bind_some];cases s2 with
  | nil=>rw [decide_eq_false (by rw [List.append_nil]; omega)]; rfl
  | cons y t =>
   rw [decide_eq_true (by simp; omega),at_len (k:=r) (a:=s1) (x:=y) (b:=t) rfl hs1.symm];simp only [cond_true,Option.bind_some,f62_eq]
 refine ⟨(r:Int),?_⟩;unfold f44 f44n0;rw [h61,lotN_app hn1];simp only [Option.bind_some];cases s2 with
 | nil=>rfl
 | cons y t =>
  by_cases hk:cmpB y.Name n=0
  ·simp only [decide_eq_true hk];rw [lotN,seq_iff.2 (cmpB_zero.1 hk)]; rfl
  ·simp only [decide_eq_false hk];have hs':=List.pairwise_cons.1 (List.pairwise_append.1 hs).2.1;have hy:slt n y.Name=true:=cmpB_pos.1 (by have:=of_decide_eq_false (f2 y List.mem_cons_self); omega);rw [lotN_none fun z hz=>?_]
   ·rfl
   ·rcases List.mem_cons.1 hz with rfl | hz
    ·exact (sltNe hy).symm
    ·exact (sltNe (slt_trans hy (hs'.1 z hz))).symm

def gdB(b:AB):Bool:=nmB b.Member&&(!(seq b.Member str_house)&&((decide (1≤b.Units)&&decide (b.Units≤1048576))&&(decide (0≤b.Price)&&decide (b.Price≤33554432))))
theorem f45_eq(b:AB):f45 b=some (gdB b):=by
 unfold f45 f45n0 gdB;rw [f50_eq,f51_eq,f51_eq];cases nmB b.Member<;>cases seq b.Member str_house<;>cases decide (1≤b.Units)<;>cases decide (b.Units≤1048576)<;>rfl
def inL(x:AL):Bool:=nmB x.Name&&((decide (1≤x.Units)&&decide (x.Units≤1048576))&&(decide (0≤x.Reserve)&&decide (x.Reserve≤33554432)))
def ordL:Option AL→AL→Bool
 | none,_=>true
 | some y,x=>slt y.Name x.Name
def okL:Option AL→List AL→Bool
 | _,[]=>true
 | p,x::r=>(inL x&&ordL p x)&&okL (some x) r
theorem f31n2_eq{a:AA}{pre r:List AL}{x:AL}(h:a.Lots=pre++x::r)(hl:a.Lots.length≤1000):f31n2 a ((pre.length:Nat):Int)=some (bif inL x&&ordL pre.getLast? x then .norm else .ret):=by
 have h3:f31n3 ((pre.length:Nat):Int) a x=some (.norm (!(inL x&&ordL pre.getLast? x))):=by
  unfold f31n3 inL;rw [f50_eq,f51_eq,f51_eq];rcases List.eq_nil_or_concat pre with rfl | ⟨q,y,rfl⟩
  ·simp only [List.length_nil,Int.natCast_zero,List.getLast?_nil,ordL];rw [decide_eq_false (by omega:¬(0:Int)<0)];cases nmB x.Name<;>cases decide (1≤x.Units)&&decide (x.Units≤1048576)<;>cases decide (0≤x.Reserve)&&decide (x.Reserve≤33554432)<;>rfl
  ·rw [List.concat_eq_append] at h ⊢;have hq:q.length+1≤1000:=by rw [h] at hl; simp at hl; omega
   rw [decide_eq_true (by simp:(0:Int)<(((q++[y]).length:Nat):Int)),show wr64 ((((q++[y]).length:Nat):Int)-1)=((q.length:Nat):Int) by rw [wrIn (by simp<;>omega) (by simp<;>omega)]; simp,at_len (k:=q.length) (a:=q) (x:=y) (b:=x::r) (by rw [h]; simp) rfl,List.getLast?_concat];simp only [cond_true,Option.bind_some,ordL];cases nmB x.Name<;>cases slt y.Name x.Name<;>cases decide (1≤x.Units)&&decide (x.Units≤1048576)<;>cases decide (0≤x.Reserve)&&decide (x.Reserve≤33554432)<;>rfl
 unfold f31n2;rw [at_len h rfl];simp only [Option.bind_some,h3];cases inL x&&ordL pre.getLast? x<;>rfl
theorem f31n4_at{a:AA}(hl:a.Lots.length≤1000):∀(r pre:List AL)(f:Nat),a.Lots=pre++r→r.length<f→f31n4 f a ((pre.length:Nat):Int)=some (bif okL pre.getLast? r then .exit0 else .ret)
 | _,_,0,_,h=>absurd h (Nat.not_lt_zero _)
 | [],pre,f+1,h,_=>by rw [f31n4,decide_eq_false (by rw [h]; simp),cond_false]; rfl
 | x::r,pre,f+1,h,hf=>by
  have hp:pre.length<a.Lots.length:=by rw [h]; simp
  have ih:=f31n4_at hl r (pre++[x]) f (by rw [h]; simp) (by simpa using hf);rw [List.length_append,List.getLast?_concat] at ih;rw [f31n4,decide_eq_true (by omega),cond_true,f31n2_eq h hl,okL];cases inL x&&ordL pre.getLast? x with
  | false=>rfl
  | true =>
   simp only [cond_true,Option.bind_some,Bool.true_and];rw [wrSucc (by omega)];exact ih
theorem okL_some:∀{l:List AL} {p:AL},okL (some p) l=true→(p::l).Pairwise (fun a b=>slt a.Name b.Name=true)∧∀x∈l,inL x=true
 | [],p,_=>by simp
 | y::r,p,h=>by
  rw [okL,ordL,Bool.and_eq_true,Bool.and_eq_true] at h;obtain ⟨⟨h1,h2⟩,h3⟩:=h;obtain ⟨h4,h5⟩:=okL_some h3;refine ⟨List.pairwise_cons.2 ⟨fun z hz=>?_,h4⟩,fun z hz=>?_⟩
  ·rcases List.mem_cons.1 hz with rfl | hz
   ·exact h2
   ·exact slt_trans h2 ((List.pairwise_cons.1 h4).1 z hz)
  ·rcases List.mem_cons.1 hz with rfl | hz
   ·exact h1
   ·exact h5 z hz
theorem okL_none{l:List AL}(h:okL none l=true):SSrt l∧∀x∈l,inL x=true:=by
 cases l with
 | nil=>simp
 | cons y r =>
  rw [okL,Bool.and_eq_true,Bool.and_eq_true] at h;obtain ⟨⟨h1,_⟩,h3⟩:=h;obtain ⟨h4,h5⟩:=okL_some h3;exact ⟨h4,fun z hz=>by
   rcases List.mem_cons.1 hz with rfl | hz
   ·exact h1
   ·exact h5 z hz⟩
def bidB(ls:List AL)(b:AB):Bool:=(lotN b.Lot ls).isSome&&gdB b
theorem f31w_eq{a:AA}(hs:SSrt a.Lots)(hl:a.Lots.length≤1000):∀(l:List AB)(v:Int),f31n6L a l v=some (bif l.all (bidB a.Lots) then .exit2 else .ret)
 | [],_=>rfl
 | b::r,v=>by
  obtain ⟨i,hi⟩:=f44_eq hs hl b.Lot;rw [f31n6L,hi,List.all_cons,f31w_eq hs hl r,bidB,f45_eq];simp only [Option.bind_some];cases (lotN b.Lot a.Lots).isSome<;>cases gdB b<;>rfl
def okA(a:AA):Bool:=decide (a.Rule≤2)&&(decide (a.Lots.length≤16)&&(decide (a.Bids.length≤100)&&(okL none a.Lots&&a.Bids.all (bidB a.Lots))))
theorem lenD(n k:Nat):decide ((k:Int)<(n:Int)) = !(decide (n≤k)):=by
 rw [ltNot]; congr 1
 by_cases h:n≤k
 ·rw [decide_eq_true h,decide_eq_true (by omega:(n:Int)≤(k:Int))]
 ·rw [decide_eq_false h,decide_eq_false (by omega:¬(n:Int)≤(k:Int))]
theorem f31_eq(a:AA):f31 a=some (bif okA a then 0 else 8):=by
 unfold f31 f31n0 okA;rw [ltNot,show decide ((16:Int)<(a.Lots.length:Int))=_ from lenD a.Lots.length 16,show decide ((100:Int)<(a.Bids.length:Int))=_ from lenD a.Bids.length 100];cases decide (a.Rule≤2) with
 | false=>rfl
 | true =>
  by_cases hl:a.Lots.length≤16
  ·rw [decide_eq_true hl]
   by_cases hb:a.Bids.length≤100
   ·rw [decide_eq_true hb];have h1:f31n1 a=some (bif okL none a.Lots then .norm else .ret):=by
     unfold f31n1;have:=f31n4_at (a:=a) (by omega) a.Lots [] FUEL rfl (Qaz (by omega));rw [show (((([]:List AL).length:Nat)):Int)=0 from rfl,List.getLast?_nil] at this;rw [this];cases okL none a.Lots<;>rfl
    rw [h1];cases ho:okL none a.Lots with
    | false=>rfl
    | true =>
     have h2:f31n5 a=some (bif a.Bids.all (bidB a.Lots) then .norm else .ret):=by
      unfold f31n5;rw [f31n6_run a (Qch (by omega)),f31w_eq (okL_none ho).1 (by omega)];cases a.Bids.all (bidB a.Lots)<;>rfl
     simp only [cond_true,cond_false,Bool.not_true,Option.bind_some,h2,Bool.true_and];cases a.Bids.all (bidB a.Lots)<;>rfl
   ·rw [decide_eq_false hb]; rfl
  ·rw [decide_eq_false hl]; rfl
structure Vl (a:AA):Prop where
 rule:a.Rule≤2
 nl:a.Lots.length≤16
 nb:a.Bids.length≤100
 srt:SSrt a.Lots
 lots:∀x∈a.Lots,nmB x.Name=true∧1≤x.Units∧x.Units≤1048576∧0≤x.Reserve∧x.Reserve≤33554432
 bids:∀b∈a.Bids,(∃x∈a.Lots,x.Name=b.Lot)∧1≤b.Units∧b.Units≤1048576∧0≤b.Price∧b.Price≤33554432
theorem okA_vl{a:AA}(h:okA a=true):Vl a:=by
 unfold okA at h;simp only [Bool.and_eq_true,decide_eq_true_eq] at h;obtain ⟨h1,h2,h3,h4,h5⟩:=h;obtain ⟨h6,h7⟩:=okL_none h4;refine ⟨h1,h2,h3,h6,fun x hx=>?_,fun b hb=>?_⟩
 ·have:=h7 x hx;unfold inL at this;simp only [Bool.and_eq_true,decide_eq_true_eq] at this;exact ⟨this.1,this.2.1.1,this.2.1.2,this.2.2.1,this.2.2.2⟩
 ·have:=List.all_eq_true.1 h5 b hb;unfold bidB gdB at this;simp only [Bool.and_eq_true,decide_eq_true_eq] at this;obtain ⟨k1,_,_,k2,k3⟩:=this;obtain ⟨x,hx⟩:=Option.isSome_iff_exists.1 k1;have:=lotN_mem hx;exact ⟨⟨x,this.1,this.2⟩,k2.1,k2.2,k3.1,k3.2⟩
end Go.Proofs.Ythpceddjepbamaa
namespace Go.Proofs.Ythpceddjepbamaa
set_option linter.unusedVariables false
set_option linter.unusedSimpArgs false
open Go.RowKit
def sc(x y:SH):Int:=cmpI y.bid.Price x.bid.Price
theorem f55_eq(x y:SH):f55 x y=some (sc x y):=by unfold f55 f55n0; rw [f39_eq]; rfl
abbrev ltS:SH→SH→Bool:=fun x y=>decide (sc x y<0)
theorem ltS_iff{x y:SH} : ltS x y=true↔y.bid.Price<x.bid.Price:=by
 unfold ltS sc;rw [decide_eq_true_eq,cmpI_neg]
theorem ltS_not{x y:SH} : ltS x y=false↔x.bid.Price≤y.bid.Price:=by
 rw [←Bool.not_eq_true,ltS_iff]; omega
theorem swoS:SWo ltS where
 irr x:=ltS_not.2 (Int.le_refl _)
 tr h k:=by rw [ltS_iff] at *; omega
 nt h k:=by rw [ltS_not] at *; omega
def bef(x y:SH):Bool:=decide (y.bid.Price<x.bid.Price)||(decide (x.bid.Price=y.bid.Price)&&decide (x.index<y.index))
theorem bef_iff{x y:SH} : bef x y=true↔y.bid.Price<x.bid.Price∨x.bid.Price=y.bid.Price∧x.index<y.index:=by
 unfold bef;simp only [Bool.or_eq_true,Bool.and_eq_true,decide_eq_true_eq]
theorem bef_irr(x:SH):bef x x=false:=by
 rw [←Bool.not_eq_true,bef_iff]; omega
theorem bef_asym{x y:SH}(h:bef x y=true):bef y x=false:=by
 rw [←Bool.not_eq_true]; rw [bef_iff] at *; omega
theorem bef_tr{x y z:SH}(h:bef x y=true)(k:bef y z=true):bef x z=true:=by
 rw [bef_iff] at *; omega
abbrev Idx(l:List SH):Prop:=l.Pairwise fun x y=>x.index<y.index
abbrev Bef(l:List SH):Prop:=l.Pairwise fun x y=>bef x y=true
theorem ins_mem{x z:SH} : ∀{l:List SH},z∈insS ltS x l↔z=x∨z∈l:=fun {l}=>by
 rw [(insS_perm x l).mem_iff,List.mem_cons]
theorem ins_bef{x:SH} : ∀{l:List SH},(∀y∈l,x.index<y.index)→Bef l→Bef (insS ltS x l)
 | [],_,_=>by simp [insS]
 | y::r,hi,h=>by
  have h':=List.pairwise_cons.1 h;rw [insS];cases hl:ltS y x with
  | true =>
   rw [cond_true];refine List.pairwise_cons.2 ⟨fun z hz=>?_,ins_bef (fun z hz=>hi z (List.mem_cons_of_mem _ hz)) h'.2⟩;rcases ins_mem.1 hz with rfl | hz
   ·rw [bef_iff]; rw [ltS_iff] at hl; exact .inl hl
   ·exact h'.1 z hz
  | false =>
   rw [cond_false];have hx:bef x y=true:=by
    have:=hi y List.mem_cons_self;rw [ltS_not] at hl;rw [bef_iff]; omega
   refine List.pairwise_cons.2 ⟨fun z hz=>?_,h⟩;rcases List.mem_cons.1 hz with rfl | hz
   ·exact hx
   ·exact bef_tr hx (h'.1 z hz)
theorem sort_bef:∀{l:List SH},Idx l→Bef (Qba ltS l)
 | [],_=>by simp [Qba]
 | x::r,h=>by
  have h':=List.pairwise_cons.1 h;rw [Qba];exact ins_bef (fun y hy=>h'.1 y ((Qbo swoS r).mem.1 hy)) (sort_bef h'.2)
theorem f54_eq{l:List SH}(h:l.length≤500000):f54r1 l=some (Qba ltS l):=st_sorted f55_eq swoS l h

def zs:List AB→Int→List SH
 | [],_=>[]
 | b::r,i=>⟨i,0,b⟩::zs r (i+1)
def rk(l:AL)(s:SH):Bool:=seq s.bid.Lot l.Name&&decide (l.Reserve≤s.bid.Price)
theorem zs_len:∀(l:List AB)(i:Int),(zs l i).length=l.length
 | [],_=>rfl
 | b::r,i=>by rw [zs,List.length_cons,List.length_cons,zs_len r]
theorem zs_idx:∀(l:List AB)(i:Int),Idx (zs l i)∧∀s∈zs l i,i≤s.index∧s.index<i+l.length∧s.units=0∧l[(s.index-i).toNat]?=some s.bid
 | [],_=>by simp [zs]
 | b::r,i=>by
  obtain ⟨h1,h2⟩:=zs_idx r (i+1);rw [zs];refine ⟨List.pairwise_cons.2 ⟨fun s hs=>?_,h1⟩,fun s hs=>?_⟩
  ·have:=h2 s hs; show i<s.index; omega
  ·rcases List.mem_cons.1 hs with rfl | hs
   ·simp; omega
   ·obtain ⟨k1,k2,k3,k4⟩:=h2 s hs;refine ⟨by omega,by rw [List.length_cons]; omega,k3,?_⟩;rw [show (s.index-i).toNat=(s.index-(i+1)).toNat+1 by omega,List.getElem?_cons_succ];exact k4
theorem zs_mem{l:List AB}{i:Int}{s:SH}(h:s∈zs l i):s.bid∈l:=List.mem_of_getElem? ((zs_idx l i).2 s h).2.2.2
theorem zs_has:∀{l:List AB} {i:Int} {k:Nat} {b:AB},l[k]?=some b→(⟨i+k,0,b⟩:SH)∈zs l i
 | x::r,i,0,b,h=>by simp at h; subst h; simp [zs]
 | x::r,i,k+1,b,h=>by
  rw [List.getElem?_cons_succ] at h;have:=zs_has (i:=i+1) h;rw [zs];refine List.mem_cons_of_mem _ ?_;rw [show i+((k+1:Nat):Int)=i+1+(k:Nat) by omega];exact this
def all_(bs:List AB)(l:AL):List SH:=(zs bs 0).filter (rk l)
def rkd(bs:List AB)(l:AL):List SH:=Qba ltS (all_ bs l)
theorem rkd_perm(bs:List AB)(l:AL):(rkd bs l).Perm (all_ bs l):=(Qbo swoS _).1
theorem all_ln(bs:List AB)(l:AL):(all_ bs l).length≤bs.length:=by
 have:=List.length_filter_le (rk l) (zs bs 0)
 rwa [zs_len] at this
theorem rkd_len(bs:List AB)(l:AL):(rkd bs l).length≤bs.length:=by
 rw [(rkd_perm bs l).length_eq]; exact all_ln bs l
theorem rkd_bef(bs:List AB)(l:AL):Bef (rkd bs l):=sort_bef (List.Pairwise.filter _ (zs_idx bs 0).1)
theorem Qca{bs:List AB}{l:AL}{s:SH} : s∈rkd bs l↔s∈zs bs 0∧rk l s=true:=by
 rw [(rkd_perm bs l).mem_iff]; exact List.mem_filter

theorem mnI_eq(a b:Int):mnI a b=min a b:=by
 by_cases h:b<a
 ·rw [mnI,decide_eq_true h,cond_true]; omega
 ·rw [mnI,decide_eq_false h,cond_false]; omega
def tk(p:SH→Int):Int→List SH→List AW
 | _,[]=>[]
 | n,s::r=>bif decide (min n s.bid.Units=0) then [] else ⟨s.index,min n s.bid.Units,p s⟩::tk p (n-min n s.bid.Units) r
def lowP:Int→Int→List SH→Int
 | p,_,[]=>p
 | p,n,s::r=>lowP (bif decide (0<min n s.bid.Units) then s.bid.Price else p) (n-min n s.bid.Units) r
def rejP(p:Int):Int→List SH→Int
 | _,[]=>p
 | n,s::r=>bif decide (min n s.bid.Units<s.bid.Units) then s.bid.Price else rejP p (n-min n s.bid.Units) r
def lftN:Int→Int→List SH→Int
 | q,_,[]=>q
 | q,n,s::r=>lftN (q-min n s.bid.Units) (n-min n s.bid.Units) r
abbrev uOk(r:List SH):Prop:=∀s∈r,1≤s.bid.Units∧s.bid.Units≤1048576

theorem f53r1_c(a:AA)(l:AL)(p:Int):∀(r:List AB)(i:Int)(acc:List SH),acc.length+r.length≤1000→f53r1n2L a l p r i acc=some (.exit0 (acc++(zs r i).filter (rk l)))
 | [],i,acc,_=>by rw [f53r1n2L,zs,List.filter_nil,List.append_nil]
 | b::r,i,acc,h=>by
  rw [List.length_cons] at h;rw [f53r1n2L,zs,List.filter_cons];have hr:rk l ⟨i,0,b⟩=(seq b.Lot l.Name&&decide (l.Reserve≤b.Price)):=rfl;rw [hr];cases seq b.Lot l.Name with
  | false=>exact f53r1_c a l p r (i+1) acc (by omega)
  | true =>
   cases decide (l.Reserve≤b.Price) with
   | false=>exact f53r1_c a l p r (i+1) acc (by omega)
   | true =>
    simp only [cond_true,Bool.and_self,if_true];rw [req,fitSmall (by omega) (by omega),cond_true,f53r1_c a l p r (i+1) (acc++[(⟨i,0,b⟩:SH)]) (by rw [List.length_append]; simp; omega),List.append_assoc]; rfl
theorem f53r1_1(a:AA)(l:AL)(p:Int)(h:a.Bids.length≤1000):(f53r1n1 a l p).bind (fun o=>match o with | .norm v=>f54r1 v)=some (rkd a.Bids l):=by
 unfold f53r1n1;rw [f53r1n2_run a l p [] (Qch (by omega)),f53r1_c a l p a.Bids 0 [] (by simp; omega)];simp only [Option.bind_some,List.nil_append];exact f54_eq (by have:=all_ln a.Bids l; unfold all_ at this; omega)
theorem f53r1_2(a:AA)(l:AL)(p:Int)(h:a.Bids.length≤1000){γ:Type}(k:List SH→Option γ):((f53r1n1 a l p).bind fun o=>match o with | .norm v=>(f54r1 v).bind k)=k (rkd a.Bids l):=by
 have:=f53r1_1 a l p h;cases e:f53r1n1 a l p with
 | none=>rw [e] at this; cases this
 | some o =>
  cases o with
  | norm v =>
   rw [e] at this;simp only [Option.bind_some] at this ⊢;rw [this]; rfl

theorem f53r3_c(a:AA)(l:AL)(p:Int):∀(r:List AB)(i:Int)(acc:List SH),acc.length+r.length≤1000→f53r3n2L a l p r i acc=some (.exit0 (acc++(zs r i).filter (rk l)))
 | [],i,acc,_=>by rw [f53r3n2L,zs,List.filter_nil,List.append_nil]
 | b::r,i,acc,h=>by
  rw [List.length_cons] at h;rw [f53r3n2L,zs,List.filter_cons];have hr:rk l ⟨i,0,b⟩=(seq b.Lot l.Name&&decide (l.Reserve≤b.Price)):=rfl;rw [hr];cases seq b.Lot l.Name with
  | false=>exact f53r3_c a l p r (i+1) acc (by omega)
  | true =>
   cases decide (l.Reserve≤b.Price) with
   | false=>exact f53r3_c a l p r (i+1) acc (by omega)
   | true =>
    simp only [cond_true,Bool.and_self,if_true];rw [req,fitSmall (by omega) (by omega),cond_true,f53r3_c a l p r (i+1) (acc++[(⟨i,0,b⟩:SH)]) (by rw [List.length_append]; simp; omega),List.append_assoc]; rfl
theorem f53r3_1(a:AA)(l:AL)(p:Int)(h:a.Bids.length≤1000):(f53r3n1 a l p).bind (fun o=>match o with | .norm v=>f54r1 v)=some (rkd a.Bids l):=by
 unfold f53r3n1;rw [f53r3n2_run a l p [] (Qch (by omega)),f53r3_c a l p a.Bids 0 [] (by simp; omega)];simp only [Option.bind_some,List.nil_append];exact f54_eq (by have:=all_ln a.Bids l; unfold all_ at this; omega)
theorem f53r3_2(a:AA)(l:AL)(p:Int)(h:a.Bids.length≤1000){γ:Type}(k:List SH→Option γ):((f53r3n1 a l p).bind fun o=>match o with | .norm v=>(f54r1 v).bind k)=k (rkd a.Bids l):=by
 have:=f53r3_1 a l p h;cases e:f53r3n1 a l p with
 | none=>rw [e] at this; cases this
 | some o =>
  cases o with
  | norm v =>
   rw [e] at this;simp only [Option.bind_some] at this ⊢;rw [this]; rfl

theorem f53r9_c(a:AA)(l:AL)(p:Int):∀(r:List AB)(i:Int)(acc:List SH),acc.length+r.length≤1000→f53r9n2L a l p r i acc=some (.exit0 (acc++(zs r i).filter (rk l)))
 | [],i,acc,_=>by rw [f53r9n2L,zs,List.filter_nil,List.append_nil]
 | b::r,i,acc,h=>by
  rw [List.length_cons] at h;rw [f53r9n2L,zs,List.filter_cons];have hr:rk l ⟨i,0,b⟩=(seq b.Lot l.Name&&decide (l.Reserve≤b.Price)):=rfl;rw [hr];cases seq b.Lot l.Name with
  | false=>exact f53r9_c a l p r (i+1) acc (by omega)
  | true =>
   cases decide (l.Reserve≤b.Price) with
   | false=>exact f53r9_c a l p r (i+1) acc (by omega)
   | true =>
    simp only [cond_true,Bool.and_self,if_true];rw [req,fitSmall (by omega) (by omega),cond_true,f53r9_c a l p r (i+1) (acc++[(⟨i,0,b⟩:SH)]) (by rw [List.length_append]; simp; omega),List.append_assoc]; rfl
theorem f53r9_1(a:AA)(l:AL)(p:Int)(h:a.Bids.length≤1000):(f53r9n1 a l p).bind (fun o=>match o with | .norm v=>f54r1 v)=some (rkd a.Bids l):=by
 unfold f53r9n1;rw [f53r9n2_run a l p [] (Qch (by omega)),f53r9_c a l p a.Bids 0 [] (by simp; omega)];simp only [Option.bind_some,List.nil_append];exact f54_eq (by have:=all_ln a.Bids l; unfold all_ at this; omega)
theorem f53r9_2(a:AA)(l:AL)(p:Int)(h:a.Bids.length≤1000){γ:Type}(k:List SH→Option γ):((f53r9n1 a l p).bind fun o=>match o with | .norm v=>(f54r1 v).bind k)=k (rkd a.Bids l):=by
 have:=f53r9_1 a l p h;cases e:f53r9n1 a l p with
 | none=>rw [e] at this; cases this
 | some o =>
  cases o with
  | norm v =>
   rw [e] at this;simp only [Option.bind_some] at this ⊢;rw [this]; rfl

theorem f53r6_c(a:AA)(l:AL)(p:Int)(o:List AW):∀(r:List AB)(i:Int)(acc:List SH),acc.length+r.length≤1000→f53r6n2L a l p o r i acc=some (.exit0 (acc++(zs r i).filter (rk l)))
 | [],i,acc,_=>by rw [f53r6n2L,zs,List.filter_nil,List.append_nil]
 | b::r,i,acc,h=>by
  rw [List.length_cons] at h;rw [f53r6n2L,zs,List.filter_cons];have hr:rk l ⟨i,0,b⟩=(seq b.Lot l.Name&&decide (l.Reserve≤b.Price)):=rfl;rw [hr];cases seq b.Lot l.Name with
  | false=>exact f53r6_c a l p o r (i+1) acc (by omega)
  | true =>
   cases decide (l.Reserve≤b.Price) with
   | false=>exact f53r6_c a l p o r (i+1) acc (by omega)
   | true =>
    simp only [cond_true,Bool.and_self,if_true];rw [req,fitSmall (by omega) (by omega),cond_true,f53r6_c a l p o r (i+1) (acc++[(⟨i,0,b⟩:SH)]) (by rw [List.length_append]; simp; omega),List.append_assoc]; rfl
theorem f53r6_1(a:AA)(l:AL)(p:Int)(o:List AW)(h:a.Bids.length≤1000):(f53r6n1 a l p o).bind (fun o=>match o with | .norm v=>f54r1 v)=some (rkd a.Bids l):=by
 unfold f53r6n1;rw [f53r6n2_run a l p o [] (Qch (by omega)),f53r6_c a l p o a.Bids 0 [] (by simp; omega)];simp only [Option.bind_some,List.nil_append];exact f54_eq (by have:=all_ln a.Bids l; unfold all_ at this; omega)
theorem f53r6_2(a:AA)(l:AL)(p:Int)(o:List AW)(h:a.Bids.length≤1000){γ:Type}(k:List SH→Option γ):((f53r6n1 a l p o).bind fun o=>match o with | .norm v=>(f54r1 v).bind k)=k (rkd a.Bids l):=by
 have:=f53r6_1 a l p o h;cases e:f53r6n1 a l p o with
 | none=>rw [e] at this; cases this
 | some o =>
  cases o with
  | norm v =>
   rw [e] at this;simp only [Option.bind_some] at this ⊢;rw [this]; rfl

theorem f53r7_c(a:AA)(l:AL)(p:Int)(o:List AW):∀(r:List AB)(i:Int)(acc:List SH),acc.length+r.length≤1000→f53r7n2L a l p o r i acc=some (.exit0 (acc++(zs r i).filter (rk l)))
 | [],i,acc,_=>by rw [f53r7n2L,zs,List.filter_nil,List.append_nil]
 | b::r,i,acc,h=>by
  rw [List.length_cons] at h;rw [f53r7n2L,zs,List.filter_cons];have hr:rk l ⟨i,0,b⟩=(seq b.Lot l.Name&&decide (l.Reserve≤b.Price)):=rfl;rw [hr];cases seq b.Lot l.Name with
  | false=>exact f53r7_c a l p o r (i+1) acc (by omega)
  | true =>
   cases decide (l.Reserve≤b.Price) with
   | false=>exact f53r7_c a l p o r (i+1) acc (by omega)
   | true =>
    simp only [cond_true,Bool.and_self,if_true];rw [req,fitSmall (by omega) (by omega),cond_true,f53r7_c a l p o r (i+1) (acc++[(⟨i,0,b⟩:SH)]) (by rw [List.length_append]; simp; omega),List.append_assoc]; rfl
theorem f53r7_1(a:AA)(l:AL)(p:Int)(o:List AW)(h:a.Bids.length≤1000):(f53r7n1 a l p o).bind (fun o=>match o with | .norm v=>f54r1 v)=some (rkd a.Bids l):=by
 unfold f53r7n1;rw [f53r7n2_run a l p o [] (Qch (by omega)),f53r7_c a l p o a.Bids 0 [] (by simp; omega)];simp only [Option.bind_some,List.nil_append];exact f54_eq (by have:=all_ln a.Bids l; unfold all_ at this; omega)
theorem f53r7_2(a:AA)(l:AL)(p:Int)(o:List AW)(h:a.Bids.length≤1000){γ:Type}(k:List SH→Option γ):((f53r7n1 a l p o).bind fun o=>match o with | .norm v=>(f54r1 v).bind k)=k (rkd a.Bids l):=by
 have:=f53r7_1 a l p o h;cases e:f53r7n1 a l p o with
 | none=>rw [e] at this; cases this
 | some o =>
  cases o with
  | norm v =>
   rw [e] at this;simp only [Option.bind_some] at this ⊢;rw [this]; rfl

theorem f53r8_c(a:AA)(l:AL)(p:Int)(o:List AW):∀(r:List AB)(i:Int)(acc:List SH),acc.length+r.length≤1000→f53r8n2L a l p o r i acc=some (.exit0 (acc++(zs r i).filter (rk l)))
 | [],i,acc,_=>by rw [f53r8n2L,zs,List.filter_nil,List.append_nil]
 | b::r,i,acc,h=>by
  rw [List.length_cons] at h;rw [f53r8n2L,zs,List.filter_cons];have hr:rk l ⟨i,0,b⟩=(seq b.Lot l.Name&&decide (l.Reserve≤b.Price)):=rfl;rw [hr];cases seq b.Lot l.Name with
  | false=>exact f53r8_c a l p o r (i+1) acc (by omega)
  | true =>
   cases decide (l.Reserve≤b.Price) with
   | false=>exact f53r8_c a l p o r (i+1) acc (by omega)
   | true =>
    simp only [cond_true,Bool.and_self,if_true];rw [req,fitSmall (by omega) (by omega),cond_true,f53r8_c a l p o r (i+1) (acc++[(⟨i,0,b⟩:SH)]) (by rw [List.length_append]; simp; omega),List.append_assoc]; rfl
theorem f53r8_1(a:AA)(l:AL)(p:Int)(o:List AW)(h:a.Bids.length≤1000):(f53r8n1 a l p o).bind (fun o=>match o with | .norm v=>f54r1 v)=some (rkd a.Bids l):=by
 unfold f53r8n1;rw [f53r8n2_run a l p o [] (Qch (by omega)),f53r8_c a l p o a.Bids 0 [] (by simp; omega)];simp only [Option.bind_some,List.nil_append];exact f54_eq (by have:=all_ln a.Bids l; unfold all_ at this; omega)
theorem f53r8_2(a:AA)(l:AL)(p:Int)(o:List AW)(h:a.Bids.length≤1000){γ:Type}(k:List SH→Option γ):((f53r8n1 a l p o).bind fun o=>match o with | .norm v=>(f54r1 v).bind k)=k (rkd a.Bids l):=by
 have:=f53r8_1 a l p o h;cases e:f53r8n1 a l p o with
 | none=>rw [e] at this; cases this
 | some o =>
  cases o with
  | norm v =>
   rw [e] at this;simp only [Option.bind_some] at this ⊢;rw [this]; rfl
theorem f53r6_l(a:AA)(l:AL)(p:Int){xs:List SH}(hx:xs.length≤1000)(ho:uOk xs):∀(r:List SH)(f k:Nat)(n:Int)(o:List AW),xs.drop k=r→r.length<f→0≤n→n≤1048576→o.length+r.length≤100000 →
  ∃z,f53r6n4 f xs a l p n (k:Int) o=some z∧(z = .exit2 (o++tk (fun _=>p) n r)∨z = .ret (o++tk (fun _=>p) n r))
 | _,0,_,_,_,_,h,_,_,_=>absurd h (Nat.not_lt_zero _)
 | [],f+1,k,n,o,hd,_,_,_,_=>by
  have:=Qah hd;rw [f53r6n4,decide_eq_false (by omega),cond_false,tk,List.append_nil];exact ⟨_,rfl,.inl rfl⟩
 | s::r,f+1,k,n,o,hd,hf,h0,h1,hl=>by
  have hk:=dropAt hd;have hu:=ho s (List.mem_of_mem_drop (hd ▸ List.mem_cons_self));have hn':0≤n-min n s.bid.Units∧n-min n s.bid.Units≤1048576:=by omega
  have hw:wr64 (n-min n s.bid.Units)=n-min n s.bid.Units:=wrIn (by omega) (by omega);rw [f53r6n4,decide_eq_true (by have:=hk.2.1; omega),cond_true];unfold f53r6n3 f12y2n0;rw [hk.1];simp only [Option.bind_some,mnI_eq,hw];rw [tk]
  by_cases hz:min n s.bid.Units=0
  ·rw [decide_eq_true hz];exact ⟨_,rfl,.inr (by rw [cond_true,List.append_nil])⟩
  ·rw [decide_eq_false hz,cond_false,cond_false,req,fitSmall (by simp at hl; omega) (by omega),cond_true,wrSucc (by have:=hk.2.1; omega)];obtain ⟨z,e1,e2⟩:=f53r6_l a l p hx ho r f (k+1) (n-min n s.bid.Units) (o++[⟨s.index,min n s.bid.Units,p⟩]) hk.2.2 (by simpa using hf) hn'.1 hn'.2 (by simp at hl ⊢; omega);rw [List.append_assoc] at e2;exact ⟨z,e1,e2⟩
theorem f53r6_eq{a:AA}{l:AL}(p:Int)(o:List AW)(hb:a.Bids.length≤100)(hu:∀b∈a.Bids,1≤b.Units∧b.Units≤1048576)(h0:0≤l.Units)(h1:l.Units≤1048576)(hl:o.length≤10000) :
  ∃q,f53r6 a l p o=some (q,o++tk (fun _=>p) l.Units (rkd a.Bids l)):=by
 have hr:=rkd_len a.Bids l;obtain ⟨z,e1,e2⟩:=f53r6_l a l p (xs:=rkd a.Bids l) (by omega) (fun s hs=>hu _ (zs_mem (Qca.1 hs).1)) (rkd a.Bids l) FUEL 0 l.Units o rfl (Qaz (by omega)) h0 h1 (by omega);have e1':f53r6n4 FUEL (rkd a.Bids l) a l p l.Units 0 o=some z:=e1;unfold f53r6 f53r6n0;rw [f53r6_2 a l p o (by omega),e1'];rcases e2 with rfl | rfl
 ·exact ⟨_,rfl⟩
 ·exact ⟨_,rfl⟩
theorem f53r7_l(a:AA)(l:AL)(p:Int){xs:List SH}(hx:xs.length≤1000)(ho:uOk xs):∀(r:List SH)(f k:Nat)(n:Int)(o:List AW),xs.drop k=r→r.length<f→0≤n→n≤1048576→o.length+r.length≤100000 →
  ∃z,f53r7n4 f xs a l p n (k:Int) o=some z∧(z = .exit2 (o++tk (fun _=>p) n r)∨z = .ret (o++tk (fun _=>p) n r))
 | _,0,_,_,_,_,h,_,_,_=>absurd h (Nat.not_lt_zero _)
 | [],f+1,k,n,o,hd,_,_,_,_=>by
  have:=Qah hd;rw [f53r7n4,decide_eq_false (by omega),cond_false,tk,List.append_nil];exact ⟨_,rfl,.inl rfl⟩
 | s::r,f+1,k,n,o,hd,hf,h0,h1,hl=>by
  have hk:=dropAt hd;have hu:=ho s (List.mem_of_mem_drop (hd ▸ List.mem_cons_self));have hn':0≤n-min n s.bid.Units∧n-min n s.bid.Units≤1048576:=by omega
  have hw:wr64 (n-min n s.bid.Units)=n-min n s.bid.Units:=wrIn (by omega) (by omega);rw [f53r7n4,decide_eq_true (by have:=hk.2.1; omega),cond_true];unfold f53r7n3 f12y4n0;rw [hk.1];simp only [Option.bind_some,mnI_eq,hw];rw [tk]
  by_cases hz:min n s.bid.Units=0
  ·rw [decide_eq_true hz];exact ⟨_,rfl,.inr (by rw [cond_true,List.append_nil])⟩
  ·rw [decide_eq_false hz,cond_false,cond_false,req,fitSmall (by simp at hl; omega) (by omega),cond_true,wrSucc (by have:=hk.2.1; omega)];obtain ⟨z,e1,e2⟩:=f53r7_l a l p hx ho r f (k+1) (n-min n s.bid.Units) (o++[⟨s.index,min n s.bid.Units,p⟩]) hk.2.2 (by simpa using hf) hn'.1 hn'.2 (by simp at hl ⊢; omega);rw [List.append_assoc] at e2;exact ⟨z,e1,e2⟩
theorem f53r7_eq{a:AA}{l:AL}(p:Int)(o:List AW)(hb:a.Bids.length≤100)(hu:∀b∈a.Bids,1≤b.Units∧b.Units≤1048576)(h0:0≤l.Units)(h1:l.Units≤1048576)(hl:o.length≤10000) :
  ∃q,f53r7 a l p o=some (q,o++tk (fun _=>p) l.Units (rkd a.Bids l)):=by
 have hr:=rkd_len a.Bids l;obtain ⟨z,e1,e2⟩:=f53r7_l a l p (xs:=rkd a.Bids l) (by omega) (fun s hs=>hu _ (zs_mem (Qca.1 hs).1)) (rkd a.Bids l) FUEL 0 l.Units o rfl (Qaz (by omega)) h0 h1 (by omega);have e1':f53r7n4 FUEL (rkd a.Bids l) a l p l.Units 0 o=some z:=e1;unfold f53r7 f53r7n0;rw [f53r7_2 a l p o (by omega),e1'];rcases e2 with rfl | rfl
 ·exact ⟨_,rfl⟩
 ·exact ⟨_,rfl⟩
theorem f53r8_l(a:AA)(l:AL)(p:Int){xs:List SH}(hx:xs.length≤1000)(ho:uOk xs):∀(r:List SH)(f k:Nat)(n:Int)(o:List AW),xs.drop k=r→r.length<f→0≤n→n≤1048576→o.length+r.length≤100000 →
  ∃z,f53r8n4 f xs a l p n (k:Int) o=some z∧(z = .exit2 (o++tk (fun s=>s.bid.Price) n r)∨z = .ret (o++tk (fun s=>s.bid.Price) n r))
 | _,0,_,_,_,_,h,_,_,_=>absurd h (Nat.not_lt_zero _)
 | [],f+1,k,n,o,hd,_,_,_,_=>by
  have:=Qah hd;rw [f53r8n4,decide_eq_false (by omega),cond_false,tk,List.append_nil];exact ⟨_,rfl,.inl rfl⟩
 | s::r,f+1,k,n,o,hd,hf,h0,h1,hl=>by
  have hk:=dropAt hd;have hu:=ho s (List.mem_of_mem_drop (hd ▸ List.mem_cons_self));have hn':0≤n-min n s.bid.Units∧n-min n s.bid.Units≤1048576:=by omega
  have hw:wr64 (n-min n s.bid.Units)=n-min n s.bid.Units:=wrIn (by omega) (by omega);rw [f53r8n4,decide_eq_true (by have:=hk.2.1; omega),cond_true];unfold f53r8n3 f12y6n0;rw [hk.1];simp only [Option.bind_some,mnI_eq,hw];rw [tk]
  by_cases hz:min n s.bid.Units=0
  ·rw [decide_eq_true hz];exact ⟨_,rfl,.inr (by rw [cond_true,List.append_nil])⟩
  ·rw [decide_eq_false hz,cond_false,cond_false,req,fitSmall (by simp at hl; omega) (by omega),cond_true,wrSucc (by have:=hk.2.1; omega)];obtain ⟨z,e1,e2⟩:=f53r8_l a l p hx ho r f (k+1) (n-min n s.bid.Units) (o++[⟨s.index,min n s.bid.Units,s.bid.Price⟩]) hk.2.2 (by simpa using hf) hn'.1 hn'.2 (by simp at hl ⊢; omega);rw [List.append_assoc] at e2;exact ⟨z,e1,e2⟩
theorem f53r8_eq{a:AA}{l:AL}(p:Int)(o:List AW)(hb:a.Bids.length≤100)(hu:∀b∈a.Bids,1≤b.Units∧b.Units≤1048576)(h0:0≤l.Units)(h1:l.Units≤1048576)(hl:o.length≤10000) :
  ∃q,f53r8 a l p o=some (q,o++tk (fun s=>s.bid.Price) l.Units (rkd a.Bids l)):=by
 have hr:=rkd_len a.Bids l;obtain ⟨z,e1,e2⟩:=f53r8_l a l p (xs:=rkd a.Bids l) (by omega) (fun s hs=>hu _ (zs_mem (Qca.1 hs).1)) (rkd a.Bids l) FUEL 0 l.Units o rfl (Qaz (by omega)) h0 h1 (by omega);have e1':f53r8n4 FUEL (rkd a.Bids l) a l p l.Units 0 o=some z:=e1;unfold f53r8 f53r8n0;rw [f53r8_2 a l p o (by omega),e1'];rcases e2 with rfl | rfl
 ·exact ⟨_,rfl⟩
 ·exact ⟨_,rfl⟩
theorem f53r1_l(a:AA)(l:AL){xs:List SH}(hx:xs.length≤1000)(ho:uOk xs):∀(r:List SH)(f k:Nat)(n p:Int),xs.drop k=r→r.length<f→0≤n→n≤1048576 →
  f53r1n4 f xs a l n (k:Int) p=some (.exit2 (lowP p n r))
 | _,0,_,_,_,_,h,_,_=>absurd h (Nat.not_lt_zero _)
 | [],f+1,k,n,p,hd,_,_,_=>by
  have:=Qah hd;rw [f53r1n4,decide_eq_false (by omega),cond_false,lowP]
 | s::r,f+1,k,n,p,hd,hf,h0,h1=>by
  have hk:=dropAt hd;have hu:=ho s (List.mem_of_mem_drop (hd ▸ List.mem_cons_self));have hn':0≤n-min n s.bid.Units∧n-min n s.bid.Units≤1048576:=by omega
  have hw:wr64 (n-min n s.bid.Units)=n-min n s.bid.Units:=wrIn (by omega) (by omega);rw [f53r1n4,decide_eq_true (by have:=hk.2.1; omega),cond_true];unfold f53r1n3 f56y1n0;rw [hk.1];simp only [Option.bind_some,mnI_eq,hw];rw [lowP];cases decide (0<min n s.bid.Units)<;>simp only [cond_true,cond_false,Option.bind_some]<;>rw [wrSucc (by have:=hk.2.1; omega)]<;>exact f53r1_l a l hx ho r f (k+1) _ _ hk.2.2 (by simpa using hf) hn'.1 hn'.2
theorem f56_eq{a:AA}{l:AL}(hb:a.Bids.length≤100)(hu:∀b∈a.Bids,1≤b.Units∧b.Units≤1048576)(h0:0≤l.Units)(h1:l.Units≤1048576) :
  f56r1 l a=some (lowP l.Reserve l.Units (rkd a.Bids l)):=by
 have hr:=rkd_len a.Bids l;have e1:=f53r1_l a l (xs:=rkd a.Bids l) (by omega) (fun s hs=>hu _ (zs_mem (Qca.1 hs).1)) (rkd a.Bids l) FUEL 0 l.Units l.Reserve rfl (Qaz (by omega)) h0 h1;have e1':f53r1n4 FUEL (rkd a.Bids l) a l l.Units 0 l.Reserve=_:=e1;have e2:f53r1 a l l.Reserve=some (lowP l.Reserve l.Units (rkd a.Bids l)):=by
  unfold f53r1 f53r1n0;rw [f53r1_2 a l l.Reserve (by omega),e1']; rfl
 unfold f56r1 f56r1n0 f56r1n1 f56r1n2;rw [e2]; rfl
theorem f53r3_l(a:AA)(l:AL)(p:Int){xs:List SH}(hx:xs.length≤1000)(ho:uOk xs):∀(r:List SH)(f k:Nat)(n q:Int),xs.drop k=r→r.length<f→0≤n→n≤1048576 →
  ∃z,f53r3n4 f xs a l p n (k:Int)=some z∧(z = .exit2∧rejP q n r=q∨z = .ret (rejP q n r))
 | _,0,_,_,_,_,h,_,_=>absurd h (Nat.not_lt_zero _)
 | [],f+1,k,n,q,hd,_,_,_=>by
  have:=Qah hd;rw [f53r3n4,decide_eq_false (by omega),cond_false,rejP];exact ⟨_,rfl,.inl ⟨rfl,rfl⟩⟩
 | s::r,f+1,k,n,q,hd,hf,h0,h1=>by
  have hk:=dropAt hd;have hu:=ho s (List.mem_of_mem_drop (hd ▸ List.mem_cons_self));have hn':0≤n-min n s.bid.Units∧n-min n s.bid.Units≤1048576:=by omega
  have hw:wr64 (n-min n s.bid.Units)=n-min n s.bid.Units:=wrIn (by omega) (by omega);rw [f53r3n4,decide_eq_true (by have:=hk.2.1; omega),cond_true];unfold f53r3n3 f57y1n0;rw [hk.1];simp only [Option.bind_some,mnI_eq,hw];rw [rejP];cases decide (min n s.bid.Units<s.bid.Units) with
  | true=>exact ⟨_,rfl,.inr rfl⟩
  | false =>
   simp only [cond_false,Option.bind_some];rw [wrSucc (by have:=hk.2.1; omega)];exact f53r3_l a l p hx ho r f (k+1) _ q hk.2.2 (by simpa using hf) hn'.1 hn'.2
theorem f57_eq{a:AA}{l:AL}(hb:a.Bids.length≤100)(hu:∀b∈a.Bids,1≤b.Units∧b.Units≤1048576)(h0:0≤l.Units)(h1:l.Units≤1048576) :
  f57r1 l a=some (rejP l.Reserve l.Units (rkd a.Bids l)):=by
 have hr:=rkd_len a.Bids l;obtain ⟨z,e1,e3⟩:=f53r3_l a l 0 (xs:=rkd a.Bids l) (by omega) (fun s hs=>hu _ (zs_mem (Qca.1 hs).1)) (rkd a.Bids l) FUEL 0 l.Units l.Reserve rfl (Qaz (by omega)) h0 h1;have e1':f53r3n4 FUEL (rkd a.Bids l) a l 0 l.Units 0=some z:=e1;have e2:f53r3n0 a l 0=(some z).bind fun o=>match o with | .exit2=>some .norm | .ret v=>some (.ret v):=by
  unfold f53r3n0;rw [f53r3_2 a l 0 (by omega),e1'];cases z<;>rfl
 unfold f57r1 f57r1n0 f57r1n1 f57r1n2 f53r3;rw [e2];rcases e3 with ⟨rfl,e3⟩ | rfl
 ·rw [e3]; rfl
 ·rfl
theorem f53r9_l(a:AA)(l:AL){xs:List SH}(hx:xs.length≤1000)(ho:uOk xs):∀(r:List SH)(f k:Nat)(n q:Int),xs.drop k=r→r.length<f→0≤n→n≤1048576→n≤q→q≤1048576 →
  f53r9n4 f xs a l n (k:Int) q=some (.exit2 (lftN q n r))
 | _,0,_,_,_,_,h,_,_,_,_=>absurd h (Nat.not_lt_zero _)
 | [],f+1,k,n,q,hd,_,_,_,_,_=>by
  have:=Qah hd;rw [f53r9n4,decide_eq_false (by omega),cond_false,lftN]
 | s::r,f+1,k,n,q,hd,hf,h0,h1,h2,h3=>by
  have hk:=dropAt hd;have hu:=ho s (List.mem_of_mem_drop (hd ▸ List.mem_cons_self));have hn':0≤n-min n s.bid.Units∧n-min n s.bid.Units≤1048576:=by omega
  have hw:wr64 (n-min n s.bid.Units)=n-min n s.bid.Units:=wrIn (by omega) (by omega);rw [f53r9n4,decide_eq_true (by have:=hk.2.1; omega),cond_true];unfold f53r9n3 f18y1n0;rw [hk.1];simp only [Option.bind_some,mnI_eq,hw];rw [lftN,wrSucc (by have:=hk.2.1; omega),show wr64 (q-min n s.bid.Units)=q-min n s.bid.Units from wrIn (by omega) (by omega)];exact f53r9_l a l hx ho r f (k+1) _ _ hk.2.2 (by simpa using hf) hn'.1 hn'.2 (by omega) (by omega)
theorem f53r9_eq{a:AA}{l:AL}(hb:a.Bids.length≤100)(hu:∀b∈a.Bids,1≤b.Units∧b.Units≤1048576)(h0:0≤l.Units)(h1:l.Units≤1048576) :
  f53r9 a l l.Units=some (lftN l.Units l.Units (rkd a.Bids l)):=by
 have hr:=rkd_len a.Bids l;have e1:=f53r9_l a l (xs:=rkd a.Bids l) (by omega) (fun s hs=>hu _ (zs_mem (Qca.1 hs).1)) (rkd a.Bids l) FUEL 0 l.Units l.Units rfl (Qaz (by omega)) h0 h1 (Int.le_refl _) h1;have e1':f53r9n4 FUEL (rkd a.Bids l) a l l.Units 0 l.Units=_:=e1;unfold f53r9 f53r9n0;rw [f53r9_2 a l l.Units (by omega),e1']; rfl
end Go.Proofs.Ythpceddjepbamaa
namespace Go.Proofs.Ythpceddjepbamaa
set_option linter.unusedVariables false
set_option linter.unusedSimpArgs false
open Go.RowKit
theorem rk_iff{l:AL}{s:SH} : rk l s=true↔s.bid.Lot=l.Name∧l.Reserve≤s.bid.Price:=by
 unfold rk; rw [Bool.and_eq_true,seq_iff,decide_eq_true_eq]
def sumU:List SH→Int
 | []=>0
 | s::r=>s.bid.Units+sumU r
theorem sumU_app:∀a b:List SH,sumU (a++b)=sumU a+sumU b
 | [],b=>by simp [sumU]
 | x::a,b=>by rw [List.cons_append,sumU,sumU,sumU_app a b]; omega
theorem sumU_perm{a b:List SH}(h:a.Perm b):sumU a=sumU b:=by
 induction h with
 | nil=>rfl
 | cons x _ ih=>simp only [sumU,ih]
 | swap x y l=>simp only [sumU]; omega
 | trans _ _ h1 h2=>exact h1.trans h2
theorem sumU_le:∀{l:List SH} {p q:SH→Bool},uOk l→(∀s∈l,p s=true→q s=true)→sumU (l.filter p)≤sumU (l.filter q)
 | [],_,_,_,_=>by simp
 | x::r,p,q,h,k=>by
  have hx:=h x List.mem_cons_self;have ih:=sumU_le (l:=r) (p:=p) (q:=q) (fun s hs=>h s (List.mem_cons_of_mem _ hs)) fun s hs=>k s (List.mem_cons_of_mem _ hs);have kx:=k x List.mem_cons_self;rw [List.filter_cons,List.filter_cons];cases hp:p x with
  | true=>rw [kx hp]; simp only [if_true,sumU]; omega
  | false =>
   cases hq:q x with
   | true=>simp only [if_true,sumU]; simp; omega
   | false=>simpa using ih

def gt(n:Int)(T:List SH)(s:SH):Int:=min (max (n-sumU (T.filter fun t=>bef t s)) 0) s.bid.Units
theorem filt_pre{P r:List SH}{s:SH}(h:Bef (P++s::r)):(P++s::r).filter (fun t=>bef t s)=P:=by
 have h':=List.pairwise_append.1 h;have h2:=List.pairwise_cons.1 h'.2.1;rw [List.filter_append,List.filter_cons,bef_irr,List.filter_eq_self.2 (fun t ht=>h'.2.2 t ht s List.mem_cons_self),List.filter_eq_nil_iff.2 (fun t ht=>by rw [bef_asym (h2.1 t ht)]; simp)]
 simp
theorem tk_zero{p:SH→Int} : ∀{r:List SH},uOk r→tk p 0 r=[]
 | [],_=>rfl
 | s::r,h=>by rw [tk,decide_eq_true (by have:=h s List.mem_cons_self; omega),cond_true]
section
variable {U:Int} {T:List SH}
theorem gt_at{P r:List SH}{s:SH}(h:T=P++s::r)(hT:Bef T):gt U T s=min (max (U-sumU P) 0) s.bid.Units:=by
 unfold gt; rw [h,filt_pre (h ▸ hT)]
theorem step_n{P:List SH}{s:SH}{n:Int}(hn:n=max (U-sumU P) 0)(hs:1≤s.bid.Units):n-min n s.bid.Units=max (U-sumU (P++[s])) 0:=by
 rw [sumU_app]; simp only [sumU]; omega
theorem tk_eq(p:SH→Int)(hT:Bef T)(hu:uOk T):∀(r P:List SH)(n:Int),T=P++r→n=max (U-sumU P) 0 →
  tk p n r=(r.filter fun s=>!(decide (gt U T s=0))).map fun s=>⟨s.index,gt U T s,p s⟩
 | [],_,_,_,_=>rfl
 | s::r,P,n,h,hn=>by
  have hs:=hu s (by rw [h]; simp);have hg:=gt_at (U:=U) h hT;rw [←hn] at hg;have ih:=tk_eq p hT hu r (P++[s]) (n-min n s.bid.Units) (by rw [h]; simp) (step_n hn hs.1);rw [tk,List.filter_cons,hg]
  by_cases hz:min n s.bid.Units=0
  ·rw [decide_eq_true hz,cond_true,Bool.not_true];have hn0:n-min n s.bid.Units=0:=by omega
   rw [hn0,tk_zero (fun t ht=>hu t (by rw [h]; simp [ht]))] at ih;simpa using ih
  ·rw [decide_eq_false hz,cond_false,ih];simp [hg]
def low(q:Int)(W:List SH):Int:=W.foldl (fun _ s=>s.bid.Price) q
theorem lowP_eq(hT:Bef T)(hu:uOk T):∀(r P:List SH)(n q:Int),T=P++r→n=max (U-sumU P) 0 →
  lowP q n r=low q (r.filter fun s=>!(decide (gt U T s=0)))
 | [],_,_,_,_,_=>rfl
 | s::r,P,n,q,h,hn=>by
  have hs:=hu s (by rw [h]; simp);have hg:=gt_at (U:=U) h hT;rw [←hn] at hg;rw [lowP,lowP_eq hT hu r (P++[s]) (n-min n s.bid.Units) _ (by rw [h]; simp) (step_n hn hs.1),List.filter_cons,hg]
  by_cases hz:min n s.bid.Units=0
  ·rw [decide_eq_true hz,decide_eq_false (by omega)]; rfl
  ·rw [decide_eq_false hz,decide_eq_true (by omega)]; rfl
def rej(q:Int)(g:SH→Int)(T:List SH):Int:=match T.find? (fun s=>decide (g s<s.bid.Units)) with | some s=>s.bid.Price | none=>q
theorem rejP_eq(hT:Bef T)(hu:uOk T)(q:Int):∀(r P:List SH)(n:Int),T=P++r→n=max (U-sumU P) 0→rejP q n r=rej q (gt U T) r
 | [],_,_,_,_=>rfl
 | s::r,P,n,h,hn=>by
  have hs:=hu s (by rw [h]; simp);have hg:=gt_at (U:=U) h hT;rw [←hn] at hg;rw [rejP,rejP_eq hT hu q r (P++[s]) (n-min n s.bid.Units) (by rw [h]; simp) (step_n hn hs.1),rej,rej,List.find?_cons,hg];cases decide (min n s.bid.Units<s.bid.Units)<;>rfl
def sumG(g:SH→Int):List SH→Int
 | []=>0
 | s::r=>g s+sumG g r
theorem lftN_eq(hT:Bef T)(hu:uOk T):∀(r P:List SH)(n q:Int),T=P++r→n=max (U-sumU P) 0→lftN q n r=q-sumG (gt U T) r
 | [],_,_,_,_,_=>by simp [lftN,sumG]
 | s::r,P,n,q,h,hn=>by
  have hs:=hu s (by rw [h]; simp);have hg:=gt_at (U:=U) h hT;rw [←hn] at hg;rw [lftN,lftN_eq hT hu r (P++[s]) (n-min n s.bid.Units) _ (by rw [h]; simp) (step_n hn hs.1),sumG,hg]; omega
end
def rkG(bs:List AB)(l:AL)(s:SH):Int:=gt l.Units (rkd bs l) s
def won(bs:List AB)(l:AL):List SH:=(rkd bs l).filter fun s=>!(decide (rkG bs l s=0))
def lowA(bs:List AB)(l:AL):Int:=low l.Reserve (won bs l)
def rejA(bs:List AB)(l:AL):Int:=rej l.Reserve (rkG bs l) (rkd bs l)
def prc(rule:Int)(bs:List AB)(l:AL)(s:SH):Int:=bif decide (rule=1) then lowA bs l else bif decide (rule=2) then rejA bs l else s.bid.Price
def awL(rule:Int)(bs:List AB)(l:AL):List AW:=(won bs l).map fun s=>⟨s.index,rkG bs l s,prc rule bs l s⟩
theorem rkd_uok{bs:List AB}{l:AL}(hu:∀b∈bs,1≤b.Units∧b.Units≤1048576):uOk (rkd bs l):=fun s hs=>hu _ (zs_mem (Qca.1 hs).1)
theorem tkA{bs:List AB}{l:AL}(hu:∀b∈bs,1≤b.Units∧b.Units≤1048576)(h0:0≤l.Units)(p:SH→Int):tk p l.Units (rkd bs l)=(won bs l).map fun s=>⟨s.index,rkG bs l s,p s⟩ :=
 tk_eq p (rkd_bef bs l) (rkd_uok hu) (rkd bs l) [] l.Units rfl (by simp [sumU]; omega)
theorem f12n2_eq{a:AA}(hv:Vl a){k:Nat}{l:AL}(hk:at? a.Lots (k:Int)=some l)(hm:l∈a.Lots)(o:List AW)(ho:o.length≤10000):f12n2 a (k:Int) o=some (.norm (o++awL a.Rule a.Bids l)):=by
 have hu:∀b∈a.Bids,1≤b.Units∧b.Units≤1048576:=fun b hb=>⟨(hv.bids b hb).2.1,(hv.bids b hb).2.2.1⟩;have hl:=hv.lots l hm;have h0:0≤l.Units:=by omega
 have e35:f35r1 a l=some ():=rfl;have e36:f36r1=some ():=rfl;unfold f12n2;rw [hk];simp only [Option.bind_some,e35,e36];unfold awL prc
 by_cases h1:a.Rule=1
 ·rw [decide_eq_true h1,cond_true,f56_eq hv.nb hu h0 hl.2.2.1];obtain ⟨q,e⟩:=f53r6_eq (a:=a) (l:=l) (lowP l.Reserve l.Units (rkd a.Bids l)) o hv.nb hu h0 hl.2.2.1 ho;simp only [Option.bind_some,cond_true];unfold f12n3;rw [e,tkA hu h0];have e2:lowP l.Reserve l.Units (rkd a.Bids l)=lowA a.Bids l:=lowP_eq (rkd_bef a.Bids l) (rkd_uok hu) (rkd a.Bids l) [] l.Units l.Reserve rfl (by simp [sumU]; omega);rw [e2];cases q<;>rfl
 ·rw [decide_eq_false h1,cond_false]
  by_cases h2:a.Rule=2
  ·rw [decide_eq_true h2,cond_true,f57_eq hv.nb hu h0 hl.2.2.1];obtain ⟨q,e⟩:=f53r7_eq (a:=a) (l:=l) (rejP l.Reserve l.Units (rkd a.Bids l)) o hv.nb hu h0 hl.2.2.1 ho;simp only [Option.bind_some,cond_true,cond_false];unfold f12n4;rw [e,tkA hu h0];have e2:rejP l.Reserve l.Units (rkd a.Bids l)=rejA a.Bids l:=rejP_eq (rkd_bef a.Bids l) (rkd_uok hu) l.Reserve (rkd a.Bids l) [] l.Units rfl (by simp [sumU]; omega);rw [e2];cases q<;>rfl
  ·rw [decide_eq_false h2,cond_false];obtain ⟨q,e⟩:=f53r8_eq (a:=a) (l:=l) 0 o hv.nb hu h0 hl.2.2.1 ho;unfold f12n5;rw [e,tkA hu h0];cases q<;>rfl
theorem awL_len(rule:Int)(bs:List AB)(l:AL):(awL rule bs l).length≤bs.length:=by
 unfold awL won;rw [List.length_map];exact Nat.le_trans (List.length_filter_le _ _) (rkd_len bs l)
theorem f12n6_at{a:AA}(hv:Vl a):∀(r:List AL)(f k:Nat)(o:List AW),a.Lots.drop k=r→r.length<f→o.length+100*r.length≤2000→f12n6 f a (k:Int) o=some (.exit0 (o++r.flatMap (awL a.Rule a.Bids)))
 | _,0,_,_,_,h,_=>absurd h (Nat.not_lt_zero _)
 | [],f+1,k,o,hd,_,_=>by
  have:=Qah hd;rw [f12n6,decide_eq_false (by omega),cond_false,List.flatMap_nil,List.append_nil]
 | l::r,f+1,k,o,hd,hf,ho=>by
  have hk:=dropAt hd;have hnl:=hv.nl;have hnb:=hv.nb;have hw:=awL_len a.Rule a.Bids l;rw [List.length_cons] at ho hf;rw [f12n6,decide_eq_true (by have:=hk.2.1; omega),cond_true,f12n2_eq hv hk.1 (List.mem_of_mem_drop (hd ▸ List.mem_cons_self)) o (by omega)];simp only [Option.bind_some];rw [wrSucc (by have:=hk.2.1; omega),f12n6_at hv r f (k+1) _ hk.2.2 (by omega) (by rw [List.length_append]; omega),List.flatMap_cons,List.append_assoc]
def cA(x y:AW):Int:=cmpI x.Bid y.Bid
theorem cA_cmp:Cmp cA:=Cmp.int Qb.Bid
theorem f38_eq(x y:AW):f38 x y=some (cA x y):=by unfold f38 f38n0; rw [f39_eq]; rfl
def outA(a:AA):List AW:=a.Lots.flatMap (awL a.Rule a.Bids)
theorem outA_len{a:AA}(hv:Vl a):(outA a).length≤1600:=by
 have h:∀ls:List AL,(ls.flatMap (awL a.Rule a.Bids)).length≤100*ls.length:=fun ls=>by
  induction ls with
  | nil=>simp
  | cons l r ih =>
   have:=awL_len a.Rule a.Bids l;have:=hv.nb;rw [List.flatMap_cons,List.length_append,List.length_cons]; omega
 have:=h a.Lots;have:=hv.nl;unfold outA; omega
theorem f12_good{a:AA}(h:okA a=true):f12 a=some (sortL cA (outA a),0):=by
 have hv:=okA_vl h;have h1:f12n1 a=some (.norm (outA a)):=by
  unfold f12n1;have hl:=hv.nl;have:=f12n6_at hv a.Lots FUEL 0 [] rfl (Qaz (by omega)) (by simp; omega);rw [show ((0:Nat):Int)=0 from rfl,List.nil_append] at this;rw [this]; rfl
 unfold f12 f12n0;rw [f31_eq,h,cond_true];simp only [Option.bind_some,decide_true,cond_true,h1];rw [so37_38_val f38_eq cA_cmp.SWO (by have:=outA_len hv; omega)];rfl
theorem f12_none{a:AA}(h:okA a=false):f12 a=some ([],8):=by
 unfold f12 f12n0;rw [f31_eq,h]; rfl

def Z(bs:List AB):List SH:=zs bs 0
def bfr(bs:List AB)(s:SH):Int:=sumU ((Z bs).filter fun t=>seq t.bid.Lot s.bid.Lot&&bef t s)
def gets(bs:List AB)(l:AL)(s:SH):Int:=bif decide (l.Reserve≤s.bid.Price) then min (max (l.Units-bfr bs s) 0) s.bid.Units else 0
theorem rkG_eq{bs:List AB}{l:AL}{s:SH}(h:rk l s=true):rkG bs l s=gets bs l s:=by
 rw [rk_iff] at h;unfold rkG gt gets bfr;rw [decide_eq_true h.2,cond_true,sumU_perm ((rkd_perm bs l).filter _)];unfold all_ Z;rw [List.filter_filter]
 congr 4
 apply List.filter_congr
 intro t _;unfold rk;rw [h.1];cases h1:bef t s with
 | false=>simp
 | true =>
  rw [bef_iff] at h1;rw [decide_eq_true (by omega:l.Reserve≤t.bid.Price)]; simp
def aw(a:AA)(s:SH):Option AW:=match lotN s.bid.Lot a.Lots with
 | some l=>bif decide (gets a.Bids l s=0) then none else some ⟨s.index,gets a.Bids l s,prc a.Rule a.Bids l s⟩
 | none=>none
def awS(a:AA):List AW:=(Z a.Bids).filterMap (aw a)
theorem aw_bid{a:AA}{s:SH}{x:AW}(h:aw a s=some x):x.Bid=s.index:=by
 unfold aw at h
 split at h
 ·rename_i l _;cases k:decide (gets a.Bids l s=0) with
  | true=>rw [k] at h; cases h
  | false=>rw [k] at h; obtain rfl:=Option.some.inj h; rfl
 ·cases h
theorem gets_rk{bs:List AB}{l:AL}{s:SH}(hn:s.bid.Lot=l.Name)(h:gets bs l s≠0):rk l s=true:=by
 unfold gets at h;unfold rk;cases k:decide (l.Reserve≤s.bid.Price) with
 | false=>rw [k] at h; exact absurd rfl h
 | true=>rw [hn,seq_refl]; rfl
theorem outA_mem{a:AA}(hv:Vl a){x:AW} : x∈outA a↔x∈awS a:=by
 unfold outA awS;rw [List.mem_flatMap,List.mem_filterMap]
 constructor
 ·rintro ⟨l,hl,hx⟩
  unfold awL at hx;obtain ⟨s,hs,rfl⟩:=List.mem_map.1 hx;unfold won at hs;obtain ⟨h1,h2⟩:=List.mem_filter.1 hs;obtain ⟨h3,h4⟩:=Qca.1 h1;rw [rkG_eq h4] at h2 ⊢;have e:s.bid.Lot=l.Name:=by
   unfold rk at h4;rw [Bool.and_eq_true] at h4;exact seq_iff.1 h4.1
  refine ⟨s,h3,?_⟩;unfold aw;rw [e,lotN_of hv.srt l hl];have h5:decide (gets a.Bids l s=0)=false:=by simpa using h2
  simp only [h5,cond_false]
 ·rintro ⟨s,hs,hx⟩
  unfold aw at hx
  split at hx
  ·rename_i l hl;obtain ⟨k1,k2⟩:=lotN_mem hl;cases k:decide (gets a.Bids l s=0) with
   | true=>rw [k] at hx; cases hx
   | false =>
    rw [k] at hx;obtain rfl:=Option.some.inj hx;have hr:=gets_rk k2.symm (of_decide_eq_false k);refine ⟨l,k1,?_⟩;unfold awL won;refine List.mem_map.2 ⟨s,List.mem_filter.2 ⟨Qca.2 ⟨hs,hr⟩,?_⟩,?_⟩
    ·rw [rkG_eq hr,k]; rfl
    ·rw [rkG_eq hr]
  ·cases hx
theorem awS_lt(a:AA):(awS a).Pairwise fun x y=>x.Bid<y.Bid:=by
 unfold awS;rw [List.pairwise_filterMap];refine (zs_idx a.Bids 0).1.imp fun {s t} h x hx y hy=>?_;rw [aw_bid hx,aw_bid hy]; exact h
theorem nodup_bid{l:List AW}(h:l.Pairwise fun x y=>x.Bid≠y.Bid):l.Nodup:=h.imp fun {x y} h e=>h (by rw [e])
theorem mem_awL{rule:Int}{bs:List AB}{l:AL}{x:AW}(h:x∈awL rule bs l):∃s∈Z bs,s.index=x.Bid∧s.bid.Lot=l.Name:=by
 unfold awL won at h;obtain ⟨s,hs,rfl⟩:=List.mem_map.1 h;obtain ⟨h3,h4⟩:=Qca.1 (List.mem_filter.1 hs).1;unfold rk at h4;rw [Bool.and_eq_true] at h4;exact ⟨s,h3,rfl,seq_iff.1 h4.1⟩
theorem Z_inj{bs:List AB}{s t:SH}(hs:s∈Z bs)(ht:t∈Z bs)(h:s.index=t.index):s=t:=by
 obtain ⟨_,_,h3,h4⟩:=(zs_idx bs 0).2 s hs;obtain ⟨_,_,k3,k4⟩:=(zs_idx bs 0).2 t ht;rw [h] at h4;rw [h4] at k4;cases s; cases t
 simp_all
theorem outA_ne{a:AA}(hv:Vl a):(outA a).Pairwise fun x y=>x.Bid≠y.Bid:=by
 unfold outA;rw [List.pairwise_flatMap];refine ⟨fun l hl=>?_,hv.srt.imp fun {l m} hlm x hx y hy e=>?_⟩
 ·unfold awL won;rw [List.pairwise_map];refine List.Pairwise.filter _ ?_;have hb:=rkd_bef a.Bids l;refine (List.Pairwise.and_mem.1 hb).imp fun {s t} h e=>?_;have:=Z_inj (Qca.1 h.1).1 (Qca.1 h.2.1).1 e;rw [this] at h;rw [bef_irr] at h; exact absurd h.2.2 (by simp)
 ·obtain ⟨s,h1,h2,h3⟩:=mem_awL hx;obtain ⟨t,k1,k2,k3⟩:=mem_awL hy;have:=Z_inj h1 k1 (by rw [h2,k2,e]);rw [this,k3] at h3;exact sltNe hlm h3.symm
theorem out_perm{a:AA}(hv:Vl a):(outA a).Perm (awS a) :=
 (List.perm_ext_iff_of_nodup (nodup_bid (outA_ne hv)) (nodup_bid ((awS_lt a).imp fun h=>by omega))).2 fun x=>outA_mem hv
theorem sort_out{a:AA}(hv:Vl a):sortL cA (outA a)=awS a:=by
 have hp:(sortL cA (outA a)).Perm (awS a):=(sortL_perm cA_cmp.SWO _).trans (out_perm hv);have o:SWo fun x y:AW=>decide (cA x y<0):=cA_cmp.swo;have hn:(awS a).Pairwise fun x y=>eqv (fun x y:AW=>decide (cA x y<0)) x y=false:=(awS_lt a).imp fun {x y} h=>by
  rw [←Bool.not_eq_true,cA_cmp.eqv];unfold cA;rw [cmpI_zero]; omega
 have s1:Sd (fun x y:AW=>decide (cA x y<0)) (sortL cA (outA a)):=sortL_sorted cA_cmp.SWO _;have s2:Sd (fun x y:AW=>decide (cA x y<0)) (awS a):=(awS_lt a).imp fun {x y} h=>by
  rw [decide_eq_false_iff_not];unfold cA;rw [cmpI_neg]; omega
 exact (sorted_one o s2 s1 (Cl.of_perm hp hn o)).symm
theorem f12_eq(a:AA):f12 a=some (bif okA a then (awS a,0) else ([],8)):=by
 cases h:okA a with
 | true=>rw [f12_good h,sort_out (okA_vl h)]; rfl
 | false=>rw [f12_none h]; rfl
end Go.Proofs.Ythpceddjepbamaa
namespace Go.Proofs.Ythpceddjepbamaa
set_option linter.unusedVariables false
set_option linter.unusedSimpArgs false
set_option maxRecDepth 100000
open Go.RowKit
theorem at_Z{bs:List AB}{s:SH}(h:s∈Z bs):at? bs s.index=some s.bid:=by
 obtain ⟨h1,h2,_,h4⟩:=(zs_idx bs 0).2 s h;unfold at?;rw [if_pos h1];rw [show s.index-0=s.index by omega] at h4;exact h4
theorem Z_rng{bs:List AB}{s:SH}(h:s∈Z bs):0≤s.index∧s.index<bs.length:=by
 obtain ⟨h1,h2,_,_⟩:=(zs_idx bs 0).2 s h;omega
theorem Z_bid{bs:List AB}{s:SH}(h:s∈Z bs):s.bid∈bs:=zs_mem h

theorem gets_rng{bs:List AB}{l:AL}{s:SH}(h:1≤s.bid.Units):0≤gets bs l s∧gets bs l s≤s.bid.Units:=by
 unfold gets;cases decide (l.Reserve≤s.bid.Price) with
 | false=>rw [cond_false]; omega
 | true=>rw [cond_true]; omega
theorem low_mem(q:Int):∀W:List SH,low q W=q∨∃s∈W,low q W=s.bid.Price
 | []=>.inl rfl
 | x::r=>by
  have e:low q (x::r)=low x.bid.Price r:=rfl;rw [e];rcases low_mem x.bid.Price r with h | ⟨s,hs,h⟩
  ·exact .inr ⟨x,List.mem_cons_self,h⟩
  ·exact .inr ⟨s,List.mem_cons_of_mem _ hs,h⟩
theorem rej_mem(q:Int)(g:SH→Int)(T:List SH):(rej q g T=q∧∀s∈T,s.bid.Units≤g s)∨∃s∈T,g s<s.bid.Units∧rej q g T=s.bid.Price:=by
 unfold rej;cases h:T.find? (fun s=>decide (g s<s.bid.Units)) with
 | none =>
  refine .inl ⟨rfl,fun s hs=>?_⟩;have:=List.find?_eq_none.1 h s hs;simp at this; exact this
 | some s =>
  have h1:=List.mem_of_find?_eq_some h;have h2:=List.find?_some h;exact .inr ⟨s,h1,of_decide_eq_true h2,rfl⟩
structure AwOk (a:AA) (x:AW) (s:SH) (l:AL):Prop where
 z:s∈Z a.Bids
 l_:l∈a.Lots
 nm:s.bid.Lot=l.Name
 idx:x.Bid=s.index
 un:x.Units=gets a.Bids l s
 pr:x.Price=prc a.Rule a.Bids l s
 rk_:rk l s=true
 pos:1≤x.Units
 le:x.Units≤s.bid.Units
theorem awS_ok{a:AA}(hv:Vl a){x:AW}(h:x∈awS a):∃s l,AwOk a x s l:=by
 unfold awS at h;obtain ⟨s,hs,hx⟩:=List.mem_filterMap.1 h;unfold aw at hx
 split at hx
 ·rename_i l hl;obtain ⟨k1,k2⟩:=lotN_mem hl;cases k:decide (gets a.Bids l s=0) with
  | true=>rw [k] at hx; cases hx
  | false =>
   rw [k] at hx;obtain rfl:=Option.some.inj hx;have h0:=of_decide_eq_false k;have hr:=gets_rng (bs:=a.Bids) (l:=l) (s:=s) (hv.bids _ (Z_bid hs)).2.1;exact ⟨s,l,hs,k1,k2.symm,rfl,rfl,rfl,gets_rk k2.symm h0,by show 1≤gets a.Bids l s; omega,hr.2⟩
 ·cases hx
theorem prc_rng{a:AA}(hv:Vl a){l:AL}(hl:l∈a.Lots){s:SH}(hs:s∈Z a.Bids)(hr:rk l s=true):l.Reserve≤prc a.Rule a.Bids l s∧prc a.Rule a.Bids l s≤33554432:=by
 have h1:=hv.lots l hl;have h2:∀t∈rkd a.Bids l,l.Reserve≤t.bid.Price∧t.bid.Price≤33554432:=fun t ht=>by
  have:=Qca.1 ht;have h3:=hv.bids _ (Z_bid this.1);exact ⟨(rk_iff.1 this.2).2,h3.2.2.2.2⟩
 have h3:=h2 s (Qca.2 ⟨hs,hr⟩);unfold prc;cases decide (a.Rule=1) with
 | true =>
  rw [cond_true];unfold lowA;rcases low_mem l.Reserve (won a.Bids l) with e | ⟨t,ht,e⟩
  ·omega
  ·have:=h2 t (List.mem_filter.1 ht).1; omega
 | false =>
  cases decide (a.Rule=2) with
  | true =>
   rw [cond_false,cond_true];unfold rejA;rcases rej_mem l.Reserve (rkG a.Bids l) (rkd a.Bids l) with ⟨e,_⟩|⟨t,ht,_,e⟩
   ·omega
   ·have:=h2 t ht; omega
  | false=>exact h3
theorem mul_rng{u p U P:Int}(h0:0≤u)(h1:u≤U)(h2:0≤p)(h3:p≤P):0≤u*p∧u*p≤U*P :=
 ⟨Int.mul_nonneg h0 h2,Int.mul_le_mul h1 h3 h2 (by omega)⟩
theorem awS_rng{a:AA}(hv:Vl a){x:AW}(h:x∈awS a):1≤x.Units∧x.Units≤1048576∧0≤x.Price∧x.Price≤33554432∧0≤x.Units*x.Price∧x.Units*x.Price≤35184372088832:=by
 obtain ⟨s,l,k⟩:=awS_ok hv h;have h1:=hv.bids _ (Z_bid k.z);have h2:=prc_rng hv k.l_ k.z k.rk_;have h3:=hv.lots l k.l_;have:=k.pos; have:=k.le;rw [←k.pr] at h2;have:=mul_rng (u:=x.Units) (p:=x.Price) (U:=1048576) (P:=33554432) (by omega) (by omega) (by omega) (by omega);exact ⟨by omega,by omega,by omega,by omega,this.1,this.2⟩
theorem awS_len(a:AA):(awS a).length≤a.Bids.length:=by
 unfold awS;refine Nat.le_trans (List.length_filterMap_le _ _) ?_;unfold Z; rw [zs_len]; exact Nat.le_refl _

def sumW(q:AW→Bool):List AW→Int
 | []=>0
 | x::r=>(bif q x then x.Units*x.Price else 0)+sumW q r
def mbr(bs:List AB)(x:AW):ByteArray:=match at? bs x.Bid with | some b=>b.Member | none=>str_x
theorem awS_at{a:AA}(hv:Vl a){x:AW}(h:x∈awS a):∃b,at? a.Bids x.Bid=some b∧b∈a.Bids:=by
 obtain ⟨s,l,k⟩:=awS_ok hv h;exact ⟨s.bid,by rw [k.idx]; exact at_Z k.z,Z_bid k.z⟩
theorem f40m_l{a:AA}(bh:List AW×Int)(m:ByteArray):∀(l:List AW)(n v:Int),(∀x∈l,(∃b,at? a.Bids x.Bid=some b)∧0≤x.Units*x.Price∧x.Units*x.Price≤35184372088832)→0≤n→n+35184372088832*l.length≤9000000000000000000 →
  f40r1n2L bh m a l n v=some (.exit0 (n+sumW (fun x=>seq (mbr a.Bids x) m) l))
 | [],n,v,_,_,_=>by rw [f40r1n2L,sumW,Int.add_zero]
 | x::r,n,v,h,h0,hn=>by
  obtain ⟨⟨b,hb⟩,h1,h2⟩:=h x List.mem_cons_self;have h':∀y∈r,(∃b,at? a.Bids y.Bid=some b)∧0≤y.Units*y.Price∧y.Units*y.Price≤35184372088832:=fun y hy=>h y (List.mem_cons_of_mem _ hy);rw [List.length_cons] at hn;have e42:f42r1 b m=some ():=rfl;rw [f40r1n2L,hb,sumW,mbr,hb];simp only [Option.bind_some,e42];cases seq b.Member m with
  | true =>
   rw [cond_true,cond_true,show wr64 (x.Units*x.Price)=x.Units*x.Price from wrIn (by omega) (by omega),show wr64 (n+x.Units*x.Price)=n+x.Units*x.Price from wrIn (by omega) (by omega),f40m_l bh m r _ _ h' (by omega) (by omega),Int.add_assoc]
  | false=>rw [cond_false,cond_false,f40m_l bh m r _ _ h' h0 (by omega),Int.zero_add]
theorem aw_fit{a:AA}(hv:Vl a):(0:Int)+35184372088832*((awS a).length:Int)≤9000000000000000000:=by
 have:=awS_len a;have:=hv.nb;omega
theorem aw_all{a:AA}(hv:Vl a):∀x∈awS a,(∃b,at? a.Bids x.Bid=some b)∧0≤x.Units*x.Price∧x.Units*x.Price≤35184372088832:=fun x hx=>by
 obtain ⟨b,h,_⟩:=awS_at hv hx;have:=awS_rng hv hx;exact ⟨⟨b,h⟩,this.2.2.2.2.1,this.2.2.2.2.2⟩
def paidS(a:AA)(m:ByteArray):Int:=sumW (fun x=>seq (mbr a.Bids x) m) (awS a)
theorem f16_eq(a:AA)(m:ByteArray):f16 a m=some (bif okA a then (paidS a m,0) else (0,8)):=by
 unfold f16 f16n0 f40r1 f40r1n0 f40r1n1;rw [f12_eq];cases h:okA a with
 | true =>
  have hv:=okA_vl h;simp only [cond_true,Option.bind_some];rw [f40r1n2_run (awS a,0) m a 0 (Qch (by show (awS a).length≤_; have:=awS_len a; have:=hv.nb; omega))];rw [show f40r1n2L (awS a,0) m a (awS a,(0:Int)).1 0 0=_ from f40m_l (awS a,0) m (awS a) 0 0 (aw_all hv) (Int.le_refl _) (aw_fit hv),Int.zero_add]; rfl
 | false =>
  simp only [cond_false,Option.bind_some];rw [f40r1n2_run ([],8) m a 0 (Qch (by simp))]; rfl

def leftL(bs:List AB)(l:AL):Int:=l.Units-sumG (rkG bs l) (rkd bs l)
theorem f18n2_eq{a:AA}(hv:Vl a){k:Nat}{l:AL}(hk:at? a.Lots (k:Int)=some l)(hm:l∈a.Lots)(o:List Int)(ho:o.length≤1000):f18n2 a (k:Int) o=some (.norm (o++[leftL a.Bids l])):=by
 have hu:∀b∈a.Bids,1≤b.Units∧b.Units≤1048576:=fun b hb=>⟨(hv.bids b hb).2.1,(hv.bids b hb).2.2.1⟩;have hl:=hv.lots l hm;have h0:0≤l.Units:=by omega
 have e35:f35r1 a l=some ():=rfl;have e:lftN l.Units l.Units (rkd a.Bids l)=leftL a.Bids l:=lftN_eq (rkd_bef a.Bids l) (rkd_uok hu) (rkd a.Bids l) [] l.Units l.Units rfl (by simp [sumU]; omega);unfold f18n2 f18n3 f18n4;rw [hk];simp only [Option.bind_some,e35];rw [f53r9_eq hv.nb hu h0 hl.2.2.1,e];simp only [Option.bind_some];rw [req,fitSmall (by omega) (by omega),cond_true]
theorem f18n5_at{a:AA}(hv:Vl a):∀(r:List AL)(f k:Nat)(o:List Int),a.Lots.drop k=r→r.length<f→o.length+r.length≤100→f18n5 f a (k:Int) o=some (.exit0 (o++r.map (leftL a.Bids)))
 | _,0,_,_,_,h,_=>absurd h (Nat.not_lt_zero _)
 | [],f+1,k,o,hd,_,_=>by
  have:=Qah hd;rw [f18n5,decide_eq_false (by omega),cond_false,List.map_nil,List.append_nil]
 | l::r,f+1,k,o,hd,hf,ho=>by
  have hk:=dropAt hd;have hnl:=hv.nl;rw [List.length_cons] at ho hf;rw [f18n5,decide_eq_true (by have:=hk.2.1; omega),cond_true,f18n2_eq hv hk.1 (List.mem_of_mem_drop (hd ▸ List.mem_cons_self)) o (by omega)];simp only [Option.bind_some];rw [wrSucc (by have:=hk.2.1; omega),f18n5_at hv r f (k+1) _ hk.2.2 (by omega) (by rw [List.length_append]; simp; omega),List.map_cons,List.append_assoc]; rfl
def leftS(a:AA):List Int:=a.Lots.map (leftL a.Bids)
theorem f18_eq(a:AA):f18 a=some (bif okA a then (leftS a,0) else ([],8)):=by
 unfold f18 f18n0;rw [f31_eq];cases h:okA a with
 | true =>
  have hv:=okA_vl h;have h1:f18n1 a=some (.norm (leftS a)):=by
   unfold f18n1;have hl:=hv.nl;have:=f18n5_at hv a.Lots FUEL 0 [] rfl (Qaz (by omega)) (by simp; omega);rw [show ((0:Nat):Int)=0 from rfl,List.nil_append] at this;rw [this]; rfl
  simp only [cond_true,Option.bind_some,decide_true,h1]
 | false=>rfl

theorem f34_eq(a:AA)(m:ByteArray):f34 a m=some (bif okA a then paidS a m else -1):=by
 unfold f34 f34n0;rw [f16_eq];cases okA a<;>rfl
theorem alive_t:f10=some true:=by
 unfold f10 f10n0 f10n1 f10n2 f10n3;simp only [f34_eq]
 kernel_rfl
def grt(a:AA):Bool:=!(decide (a.Lots.length≤20))||!(decide (a.Bids.length≤110))
theorem f11_eq(a:AA):f11 a=some (grt a):=by
 unfold f11 f11n0 grt;rw [show decide ((20:Int)<(a.Lots.length:Int))=_ from lenD a.Lots.length 20,show decide ((110:Int)<(a.Bids.length:Int))=_ from lenD a.Bids.length 110];cases decide (a.Lots.length≤20)<;>rfl
end Go.Proofs.Ythpceddjepbamaa
namespace Go.Proofs.Ythpceddjepbamaa
set_option linter.unusedVariables false
set_option linter.unusedSimpArgs false
open Go.RowKit

theorem sumU_add{l:List SH}{p q:SH→Bool}{r:SH}(hu:uOk l)(hr:r∈l)(hp:p r=false)(hq:q r=true)(h:∀s∈l,p s=true→q s=true):sumU (l.filter p)+r.bid.Units≤sumU (l.filter q):=by
 obtain ⟨a,b,rfl⟩:=List.append_of_mem hr;rw [List.filter_append,List.filter_append,List.filter_cons,List.filter_cons,hp,hq,sumU_app,sumU_app];have h1:=sumU_le (l:=a) (p:=p) (q:=q) (fun s hs=>hu s (by simp [hs])) fun s hs=>h s (by simp [hs]);have h2:=sumU_le (l:=b) (p:=p) (q:=q) (fun s hs=>hu s (by simp [hs])) fun s hs=>h s (by simp [hs]);simp only [if_true,sumU];simp only [Bool.false_eq_true,if_false];omega
theorem Z_uok{bs:List AB}(hu:∀b∈bs,1≤b.Units∧b.Units≤1048576):uOk (Z bs):=fun s hs=>hu _ (Z_bid hs)
theorem bfr_add{bs:List AB}(hu:∀b∈bs,1≤b.Units∧b.Units≤1048576){r t:SH}(hr:r∈Z bs)(hl:r.bid.Lot=t.bid.Lot)(h:bef r t=true):bfr bs r+r.bid.Units≤bfr bs t:=by
 unfold bfr;refine sumU_add (Z_uok hu) hr (by rw [bef_irr]; simp) (by rw [hl,seq_refl,h]; rfl) fun s _ k=>?_;rw [Bool.and_eq_true] at k ⊢;rw [←hl];exact ⟨k.1,bef_tr k.2 h⟩
theorem gets_eq{bs:List AB}{l:AL}{s:SH}(h:rk l s=true):gets bs l s=min (max (l.Units-bfr bs s) 0) s.bid.Units:=by
 unfold gets; rw [decide_eq_true (rk_iff.1 h).2,cond_true]
theorem gets_after{bs:List AB}(hu:∀b∈bs,1≤b.Units∧b.Units≤1048576){l:AL}{r t:SH}(hr:r∈Z bs)(ht:t∈Z bs)(h1:rk l r=true)(h2:t.bid.Lot=l.Name)(hb:bef r t=true)(hg:gets bs l r<r.bid.Units):gets bs l t=0:=by
 have hlot:r.bid.Lot=t.bid.Lot:=by rw [(rk_iff.1 h1).1,h2]
 have:=bfr_add hu hr hlot hb;rw [gets_eq h1] at hg;have:=hu _ (Z_bid ht);have:=hu _ (Z_bid hr);unfold gets;cases decide (l.Reserve≤t.bid.Price) with
 | false=>rfl
 | true=>rw [cond_true]; omega

theorem sumG_eq{U:Int}{T:List SH}(hT:Bef T)(hu:uOk T):∀(r P:List SH)(n:Int),T=P++r→n=max (U-sumU P) 0→sumG (gt U T) r=n-max (U-sumU T) 0
 | [],P,n,h,hn=>by rw [sumG,h,List.append_nil,hn]; omega
 | s::r,P,n,h,hn=>by
  have hs:=hu s (by rw [h]; simp);have hg:=gt_at (U:=U) h hT;rw [←hn] at hg;rw [sumG,sumG_eq hT hu r (P++[s]) (n-min n s.bid.Units) (by rw [h]; simp) (step_n hn hs.1),hg]; omega
theorem leftL_eq{bs:List AB}{l:AL}(hu:∀b∈bs,1≤b.Units∧b.Units≤1048576)(h0:0≤l.Units):leftL bs l=max (l.Units-sumU (rkd bs l)) 0:=by
 unfold leftL;have e:sumG (rkG bs l) (rkd bs l)=_:=sumG_eq (U:=l.Units) (rkd_bef bs l) (rkd_uok hu) (rkd bs l) [] l.Units rfl (by simp [sumU]; omega);rw [e]; omega
theorem left_zero{bs:List AB}{l:AL}{r:SH}(hu:∀b∈bs,1≤b.Units∧b.Units≤1048576)(h0:0≤l.Units)(hr:r∈Z bs)(h1:rk l r=true)(hg:gets bs l r<r.bid.Units):leftL bs l=0:=by
 rw [leftL_eq hu h0];rw [←rkG_eq h1] at hg;unfold rkG gt at hg;have h2:=sumU_add (l:=rkd bs l) (p:=fun t=>bef t r) (q:=fun _=>true) (rkd_uok hu) (Qca.2 ⟨hr,h1⟩) (bef_irr r) rfl fun _ _ _=>rfl;rw [show (rkd bs l).filter (fun _=>true)=rkd bs l from List.filter_eq_self.2 fun _ _=>rfl] at h2;omega
theorem sumG_perm{g:SH→Int}{a b:List SH}(h:a.Perm b):sumG g a=sumG g b:=by
 induction h with
 | nil=>rfl
 | cons x _ ih=>simp only [sumG,ih]
 | swap x y l=>simp only [sumG]; omega
 | trans _ _ h1 h2=>exact h1.trans h2
theorem sumG_congr{f g:SH→Int} : ∀{l:List SH},(∀s∈l,f s=g s)→sumG f l=sumG g l
 | [],_=>rfl
 | s::r,h=>by rw [sumG,sumG,h s List.mem_cons_self,sumG_congr fun t ht=>h t (List.mem_cons_of_mem _ ht)]
theorem sum_lot(bs:List AB)(l:AL):sumG (gets bs l) ((Z bs).filter fun s=>seq s.bid.Lot l.Name)=l.Units-leftL bs l:=by
 have e1:sumG (rkG bs l) (rkd bs l)=sumG (gets bs l) (rkd bs l):=sumG_congr fun s hs=>rkG_eq (Qca.1 hs).2;unfold leftL;rw [e1,sumG_perm (rkd_perm bs l)];have h:∀L:List SH,sumG (gets bs l) (L.filter fun s=>seq s.bid.Lot l.Name)=sumG (gets bs l) (L.filter (rk l)):=fun L=>by
  induction L with
  | nil=>rfl
  | cons x r ih =>
   rw [List.filter_cons,List.filter_cons];have hx:rk l x=(seq x.bid.Lot l.Name&&decide (l.Reserve≤x.bid.Price)):=rfl;rw [hx];cases seq x.bid.Lot l.Name with
   | false=>simpa using ih
   | true =>
    cases k:decide (l.Reserve≤x.bid.Price) with
    | true=>simp only [Bool.and_self,if_true,sumG,ih]
    | false =>
     have:gets bs l x=0:=by unfold gets; rw [k]; rfl
     simp only [Bool.and_false,if_true,sumG,this,ih]
     simp
 rw [h];unfold all_ Z;omega
theorem lookE{α β:Type}{f:α→β}{l:List α}{k:Nat}{x:α}(h:at? l (k:Int)=some x):at? (l.map f) (k:Int)=some (f x):=by
 rw [Qce] at h ⊢;rw [List.getElem?_map,h]; rfl

end Go.Proofs.Ythpceddjepbamaa
namespace Go.Proofs.Ythpceddjepbamaa
set_option linter.unusedVariables false
set_option linter.unusedSimpArgs false
open Go.RowKit
def uAt(l:List AW)(i n:Int):Int:=match l.find? (fun x=>decide (x.Bid=i)) with | some x=>x.Units | none=>n
def cAt(l:List AW)(i n:Int):Int:=match l.find? (fun x=>decide (x.Bid=i)) with | some _=>n+1 | none=>n
theorem find_gt{l:List AW}{i:Int}(h:∀x∈l,i<x.Bid):l.find? (fun x=>decide (x.Bid=i))=none:=by
 rw [List.find?_eq_none];intro x hx;have:=h x hx
 simp; omega
theorem f13_l(bg:List AW)(i m:Int):∀(l:List AW)(n t k:Int),(∀x∈l,0≤x.Bid∧x.Bid<m∧1≤x.Units)→l.Pairwise (fun x y=>x.Bid<y.Bid)→0≤t→t≤1000→f13n2L bg i m l n t k=some (.exit0 (uAt l i n) (cAt l i t))
 | [],_,_,_,_,_,_,_=>rfl
 | x::r,n,t,k,h,hp,h0,h1=>by
  obtain ⟨k1,k2,k3⟩:=h x List.mem_cons_self;have hp':=List.pairwise_cons.1 hp;have h':∀y∈r,0≤y.Bid∧y.Bid<m∧1≤y.Units:=fun y hy=>h y (List.mem_cons_of_mem _ hy);rw [f13n2L,decide_eq_false (by omega),cond_false,decide_eq_false (by omega),cond_false,decide_eq_false (by omega),cond_false]
  by_cases e:x.Bid=i
  ·have hn:=find_gt (l:=r) (i:=i) fun y hy=>e ▸ hp'.1 y hy;rw [decide_eq_true e,cond_true,show wr64 (t+1)=t+1 from wrIn (by omega) (by omega),f13n2L_free bg i m r x.Units (t+1) (k+1) h' hn];unfold uAt cAt;rw [List.find?_cons,decide_eq_true e]
  ·rw [decide_eq_false e,cond_false,f13_l bg i m r n t (k+1) h' hp'.2 h0 h1];unfold uAt cAt;rw [List.find?_cons,decide_eq_false e]
where
 f13n2L_free (bg:List AW) (i m:Int):∀(l:List AW)(n t k:Int),(∀x∈l,0≤x.Bid∧x.Bid<m∧1≤x.Units)→l.find? (fun x=>decide (x.Bid=i))=none→f13n2L bg i m l n t k=some (.exit0 n t)
  | [],_,_,_,_,_=>rfl
  | x::r,n,t,k,h,hn=>by
   obtain ⟨k1,k2,k3⟩:=h x List.mem_cons_self;rw [List.find?_cons] at hn;have e:x.Bid≠i:=fun e=>by rw [decide_eq_true e] at hn; cases hn
   rw [decide_eq_false e] at hn;rw [f13n2L,decide_eq_false (by omega),cond_false,decide_eq_false (by omega),cond_false,decide_eq_false (by omega),cond_false,decide_eq_false e,cond_false];exact f13n2L_free bg i m r n t (k+1) (fun y hy=>h y (List.mem_cons_of_mem _ hy)) hn
theorem f13_eq{l:List AW}{i m:Int}(h:∀x∈l,0≤x.Bid∧x.Bid<m∧1≤x.Units)(hp:l.Pairwise fun x y=>x.Bid<y.Bid)(hl:l.length≤1000):f13 l i m=some (uAt l i 0,true):=by
 unfold f13 f13n0 f13n1;rw [f13n2_run l i m 0 0 (Qch (by omega)),f13_l l i m l 0 0 0 h hp (by omega) (by omega)];have:cAt l i 0≤1:=by unfold cAt; split<;>omega
 simp only [Option.bind_some,decide_eq_true this]
theorem awS_in{a:AA}(hv:Vl a):∀x∈awS a,0≤x.Bid∧x.Bid<(a.Bids.length:Int)∧1≤x.Units:=fun x hx=>by
 obtain ⟨s,l,k⟩:=awS_ok hv hx;have:=Z_rng k.z;rw [←k.idx] at this;exact ⟨this.1,this.2,k.pos⟩
theorem find_aw(a:AA):∀{L:List SH},Idx L→∀s∈L,(L.filterMap (aw a)).find? (fun x=>decide (x.Bid=s.index))=aw a s
 | y::r,h,s,hs=>by
  have h':=List.pairwise_cons.1 h;rw [List.filterMap_cons];rcases List.mem_cons.1 hs with rfl | hs
  ·cases k:aw a s with
   | none =>
    refine find_gt fun x hx=>?_;obtain ⟨t,ht,e⟩:=List.mem_filterMap.1 hx;rw [aw_bid e]; exact h'.1 t ht
   | some x=>simp only [List.find?_cons,decide_eq_true (aw_bid k)]
  ·have ih:=find_aw a h'.2 s hs;cases k:aw a y with
   | none=>exact ih
   | some x =>
    have:=aw_bid k;have:=h'.1 s hs;simp only [List.find?_cons,decide_eq_false (by omega:¬x.Bid=s.index)];exact ih
def Gs(a:AA)(s:SH):Int:=match aw a s with | some x=>x.Units | none=>0
theorem f13_aw{a:AA}(hv:Vl a){s:SH}(hs:s∈Z a.Bids):f13 (awS a) s.index (a.Bids.length:Int)=some (Gs a s,true):=by
 rw [f13_eq (awS_in hv) (awS_lt a) (by have:=awS_len a; have:=hv.nb; omega)];unfold uAt Gs awS;rw [find_aw a (L:=Z a.Bids) (zs_idx a.Bids 0).1 s hs]
theorem Gs_lot{a:AA}(hv:Vl a){l:AL}(hl:l∈a.Lots){s:SH}(h:s.bid.Lot=l.Name):Gs a s=gets a.Bids l s:=by
 unfold Gs aw;rw [h,lotN_of hv.srt l hl];show (match ((bif decide (gets a.Bids l s=0) then none else some ⟨s.index,gets a.Bids l s,prc a.Rule a.Bids l s⟩):Option AW) with | some x=>x.Units | none=>0)=_
 by_cases k:gets a.Bids l s=0
 ·rw [decide_eq_true k,cond_true,k]
 ·rw [decide_eq_false k,cond_false]
theorem Gs_rng{a:AA}(hv:Vl a){s:SH}(hs:s∈Z a.Bids):0≤Gs a s∧Gs a s≤s.bid.Units∧s.bid.Units≤1048576:=by
 have hb:=hv.bids _ (Z_bid hs);obtain ⟨⟨l,hl,hn⟩,h1,h2,_⟩:=hb;rw [Gs_lot hv hl hn.symm];have:=gets_rng (bs:=a.Bids) (l:=l) (s:=s) h1;exact ⟨this.1,this.2,h2⟩
theorem zs_get:∀(l:List AB)(i:Int)(k:Nat),(zs l i)[k]?=(l[k]?).map fun b=>⟨i+k,0,b⟩
 | [],_,_=>by simp [zs]
 | b::r,i,0=>by simp [zs]
 | b::r,i,k+1=>by
  rw [zs,List.getElem?_cons_succ,List.getElem?_cons_succ,zs_get r]
  congr 1
  funext c
  rw [show i+1+(k:Int)=i+((k+1:Nat):Int) by omega]
theorem Z_at{bs:List AB}{k:Nat}{b:AB}(h:bs[k]?=some b):(⟨(k:Int),0,b⟩:SH)∈Z bs:=by
 have:=zs_has (i:=0) h
 rwa [Int.zero_add] at this
theorem Zmap_at{β:Type}(f:SH→β){bs:List AB}{k:Nat}{b:AB}(h:bs[k]?=some b):at? ((Z bs).map f) (k:Int)=some (f ⟨(k:Int),0,b⟩):=by
 rw [Qce,List.getElem?_map];unfold Z;rw [zs_get,h,Int.zero_add]; rfl
theorem f7n4w_eq{a:AA}(hv:Vl a)(bp:List Int×Int):∀(r:List AB)(k:Nat)(acc:List Int),a.Bids.drop k=r→acc.length+r.length≤1000 →
  f7n4L true (awS a,0) bp a r (k:Int) acc=some (.exit0 (acc++(zs r k).map (Gs a)))
 | [],k,acc,_,_=>by rw [f7n4L,zs,List.map_nil,List.append_nil]
 | b::r,k,acc,hd,hl=>by
  have hk:=dropAt hd;have hz:(⟨(k:Int),0,b⟩:SH)∈Z a.Bids:=Z_at (by rw [←Qce]; exact hk.1);have hg:=Gs_rng hv hz;rw [List.length_cons] at hl;rw [f7n4L,show f13 (awS a,(0:Int)).1 (k:Int) (a.Bids.length:Int)=_ from f13_aw hv hz];simp only [Option.bind_some,cond_true];rw [decide_eq_false (by have:=hg.2.1; show ¬b.Units<_; exact Int.not_lt.2 this),cond_false,req,fitSmall (by omega) (by omega),cond_true,show (k:Int)+1=((k+1:Nat):Int) by omega,f7n4w_eq hv bp r (k+1) _ hk.2.2 (by rw [List.length_append]; simp; omega),zs,List.map_cons,List.append_assoc];rw [show ((k+1:Nat):Int)=(k:Int)+1 by omega]; rfl

theorem f7n10_eq{a:AA}(hv:Vl a){l:AL}(hl:l∈a.Lots){i j:Nat}{b c:AB}(hi:a.Bids[i]?=some b)(hj:a.Bids[j]?=some c)(hr:rk l ⟨(i:Int),0,b⟩=true)(hg:gets a.Bids l ⟨(i:Int),0,b⟩<b.Units)(bp:List Int×Int)(d3 d4 d5:Int) :
  f7n10 true bp d3 d4 d5 (i:Int) (j:Int) a ((Z a.Bids).map (Gs a)) b=some .norm:=by
 have hu:∀b∈a.Bids,1≤b.Units∧b.Units≤1048576:=fun b hb=>⟨(hv.bids b hb).2.1,(hv.bids b hb).2.2.1⟩;have hw:f7n11 true bp d3 d4 d5 (i:Int) (j:Int) a ((Z a.Bids).map (Gs a)) b=some (.norm (bef ⟨(i:Int),0,b⟩ ⟨(j:Int),0,c⟩)):=by
  unfold f7n11 bef;rw [Qce,hj];simp only [Option.bind_some]
  by_cases h1:c.Price<b.Price
  ·rw [decide_eq_true h1]; rfl
  ·rw [decide_eq_false h1]
   by_cases h2:c.Price=b.Price
   ·rw [decide_eq_true h2,decide_eq_true h2.symm]; rfl
   ·rw [decide_eq_false h2,decide_eq_false (fun e:b.Price=c.Price=>h2 e.symm)]; rfl
 unfold f7n10;rw [hw];simp only [Option.bind_some];have h12:f7n12 true bp d3 d4 d5 (i:Int) (j:Int) (bef ⟨(i:Int),0,b⟩ ⟨(j:Int),0,c⟩) a ((Z a.Bids).map (Gs a)) b=some (.norm false):=by
  unfold f7n12;rw [Qce,hj,Zmap_at _ hj];simp only [Option.bind_some];cases hs:seq c.Lot b.Lot with
  | false=>rfl
  | true =>
   cases hb:bef ⟨(i:Int),0,b⟩ ⟨(j:Int),0,c⟩ with
   | false=>rfl
   | true =>
    have e:c.Lot=l.Name:=(seq_iff.1 hs).trans (rk_iff.1 hr).1;have:=gets_after hu (l:=l) (r:=⟨(i:Int),0,b⟩) (t:=⟨(j:Int),0,c⟩) (Z_at hi) (Z_at hj) hr e hb hg;rw [Gs_lot hv hl (s:=⟨(j:Int),0,c⟩) e,this]; rfl
 rw [h12]; rfl
theorem f7n13_at{a:AA}(hv:Vl a){l:AL}(hl:l∈a.Lots){i:Nat}{b:AB}(hi:a.Bids[i]?=some b)(hr:rk l ⟨(i:Int),0,b⟩=true)(hg:gets a.Bids l ⟨(i:Int),0,b⟩<b.Units)(bp:List Int×Int)(d3 d4 d5:Int) :
  ∀(r:List AB)(f k:Nat),a.Bids.drop k=r→r.length<f→f7n13 f true bp d3 d4 d5 (i:Int) a ((Z a.Bids).map (Gs a)) b (k:Int)=some .exit6
 | _,0,_,_,h=>absurd h (Nat.not_lt_zero _)
 | [],f+1,k,hd,_=>by
  have:=Qah hd;rw [f7n13,decide_eq_false (by omega),cond_false]
 | c::r,f+1,k,hd,hf=>by
  have hk:=dropAt hd;have hnb:=hv.nb;rw [f7n13,decide_eq_true (by have:=hk.2.1; omega),cond_true,f7n10_eq hv hl hi (by rw [←Qce]; exact hk.1) hr hg];simp only [Option.bind_some];rw [wrSucc (by have:=hk.2.1; omega)];exact f7n13_at hv hl hi hr hg bp d3 d4 d5 r f (k+1) hk.2.2 (by simpa using hf)
theorem f7n8_eq{a:AA}(hv:Vl a){k:Nat}{l:AL}(hk:at? a.Lots (k:Int)=some l)(hl:l∈a.Lots){i:Nat}{b:AB}(hi:a.Bids[i]?=some b)(n:Int)(h0:0≤n)(h1:n≤1000000000) :
  f7n8 true (leftS a,0) (k:Int) n (i:Int) a ((Z a.Bids).map (Gs a))=some (.norm (bif seq b.Lot l.Name then n+gets a.Bids l ⟨(i:Int),0,b⟩ else n)):=by
 have hu:∀b∈a.Bids,1≤b.Units∧b.Units≤1048576:=fun b hb=>⟨(hv.bids b hb).2.1,(hv.bids b hb).2.2.1⟩;have hg:=Gs_rng hv (Z_at hi);unfold f7n8;rw [Qce,hi,hk,Zmap_at _ hi];simp only [Option.bind_some];cases hs:seq b.Lot l.Name with
 | false=>rfl
 | true =>
  have e:b.Lot=l.Name:=seq_iff.1 hs;have eG:=Gs_lot hv hl (s:=⟨(i:Int),0,b⟩) e;rw [eG] at hg ⊢;have hg:0≤gets a.Bids l ⟨(i:Int),0,b⟩∧gets a.Bids l ⟨(i:Int),0,b⟩≤b.Units∧b.Units≤1048576:=hg;have hw:wr64 (n+gets a.Bids l ⟨(i:Int),0,b⟩)=n+gets a.Bids l ⟨(i:Int),0,b⟩:=wrIn (by omega) (by have:=hg.2.2; have:=hg.2.1; omega);rw [cond_true,cond_true,hw]
  by_cases hp:b.Price<l.Reserve
  ·have hz:gets a.Bids l ⟨(i:Int),0,b⟩=0:=by
    unfold gets;rw [decide_eq_false (by show ¬l.Reserve≤b.Price; omega)]; rfl
   rw [decide_eq_true hp,cond_true,decide_eq_true hz,cond_true]
  ·rw [decide_eq_false hp,cond_false]
   by_cases he:gets a.Bids l ⟨(i:Int),0,b⟩=b.Units
   ·rw [decide_eq_true he,cond_true]
   ·rw [decide_eq_false he,cond_false];have hr:rk l ⟨(i:Int),0,b⟩=true:=rk_iff.2 ⟨e,by show l.Reserve≤b.Price; omega⟩;have hlt:gets a.Bids l ⟨(i:Int),0,b⟩<b.Units:=by have:=hg.2.1; omega
    have hnb:=hv.nb;have h9:f7n9 true (leftS a,0) (k:Int) n (gets a.Bids l ⟨(i:Int),0,b⟩) (i:Int) a ((Z a.Bids).map (Gs a)) b=some .norm:=by
     unfold f7n9;have:=f7n13_at hv hl hi hr hlt (leftS a,0) (k:Int) n (gets a.Bids l ⟨(i:Int),0,b⟩) a.Bids FUEL 0 rfl (Qaz (by omega));rw [show ((0:Nat):Int)=0 from rfl] at this;rw [this]; rfl
    rw [h9];simp only [Option.bind_some];have hz:=left_zero hu (by have:=hv.lots l hl; omega) (Z_at hi) hr hlt;rw [show at? (leftS a,(0:Int)).1 (k:Int)=some (leftL a.Bids l) from lookE hk,hz];rfl
theorem f7n14_at{a:AA}(hv:Vl a){k:Nat}{l:AL}(hk:at? a.Lots (k:Int)=some l)(hl:l∈a.Lots):∀(r:List AB)(f i:Nat)(n:Int),a.Bids.drop i=r→r.length<f→0≤n→n+1048576*r.length≤1000000000 →
  f7n14 f true (leftS a,0) (k:Int) a ((Z a.Bids).map (Gs a)) n (i:Int)=some (.exit4 (n+sumG (gets a.Bids l) ((zs r i).filter fun s=>seq s.bid.Lot l.Name)))
 | _,0,_,_,_,h,_,_=>absurd h (Nat.not_lt_zero _)
 | [],f+1,i,n,hd,_,_,_=>by
  have:=Qah hd;rw [f7n14,decide_eq_false (by omega),cond_false,zs,List.filter_nil,sumG,Int.add_zero]
 | b::r,f+1,i,n,hd,hf,h0,hn=>by
  have hi:=dropAt hd;have hnb:=hv.nb;have hib:a.Bids[i]?=some b:=by rw [←Qce]; exact hi.1
  rw [List.length_cons] at hn;rw [f7n14,decide_eq_true (by have:=hi.2.1; omega),cond_true,f7n8_eq hv hk hl hib n h0 (by omega)];simp only [Option.bind_some];have hz:=Z_at hib;have hg:=gets_rng (bs:=a.Bids) (l:=l) (s:=⟨(i:Int),0,b⟩) (hv.bids _ (Z_bid hz)).2.1;have hg2:b.Units≤1048576:=(hv.bids _ (Z_bid hz)).2.2.1;have hg3:gets a.Bids l ⟨(i:Int),0,b⟩≤b.Units:=hg.2;rw [wrSucc (by have:=hi.2.1; omega),zs,List.filter_cons];show f7n14 f true (leftS a,0) (k:Int) a _ _ ((i+1:Nat):Int)=some (.exit4 (n+sumG (gets a.Bids l) (if seq b.Lot l.Name=true then _ else _)));cases seq b.Lot l.Name with
  | true =>
   rw [cond_true,f7n14_at hv hk hl r f (i+1) _ hi.2.2 (by simpa using hf) (by omega) (by omega),if_pos rfl,sumG,Int.add_assoc,show ((i+1:Nat):Int)=(i:Int)+1 by omega]
  | false =>
   rw [cond_false,f7n14_at hv hk hl r f (i+1) _ hi.2.2 (by simpa using hf) h0 (by omega),show ((i+1:Nat):Int)=(i:Int)+1 by omega];rfl
theorem f7n6_eq{a:AA}(hv:Vl a){k:Nat}{l:AL}(hk:at? a.Lots (k:Int)=some l)(hl:l∈a.Lots):f7n6 true (leftS a,0) (k:Int) a ((Z a.Bids).map (Gs a))=some .norm:=by
 have hu:∀b∈a.Bids,1≤b.Units∧b.Units≤1048576:=fun b hb=>⟨(hv.bids b hb).2.1,(hv.bids b hb).2.2.1⟩;have hnb:=hv.nb;have hll:=hv.lots l hl;have hsum:=sum_lot a.Bids l;have hleft:=leftL_eq (l:=l) hu (by omega);have h7:f7n7 true (leftS a,0) (k:Int) a ((Z a.Bids).map (Gs a))=some (.norm (l.Units-leftL a.Bids l)):=by
  unfold f7n7;have:=f7n14_at hv hk hl a.Bids FUEL 0 0 rfl (Qaz (by omega)) (Int.le_refl _) (by omega);rw [show ((0:Nat):Int)=0 from rfl,Int.zero_add] at this;rw [this];unfold Z at hsum;rw [hsum]; rfl
 unfold f7n6;rw [h7];simp only [Option.bind_some];have h15:f7n15 true (leftS a,0) (k:Int) (l.Units-leftL a.Bids l) a ((Z a.Bids).map (Gs a))=some (.norm false):=by
  unfold f7n15;rw [show at? (leftS a,(0:Int)).1 (k:Int)=some (leftL a.Bids l) from lookE hk,hk];simp only [Option.bind_some];rw [decide_eq_false (by omega),cond_false,show wr64 (l.Units-leftL a.Bids l+leftL a.Bids l)=l.Units by rw [wrIn (by omega) (by omega)]; omega,decide_eq_true rfl]; rfl
 rw [h15]; rfl
theorem f7n16_at{a:AA}(hv:Vl a):∀(r:List AL)(f k:Nat),a.Lots.drop k=r→r.length<f→f7n16 f true (leftS a,0) a ((Z a.Bids).map (Gs a)) (k:Int)=some .exit2
 | _,0,_,_,h=>absurd h (Nat.not_lt_zero _)
 | [],f+1,k,hd,_=>by
  have:=Qah hd;rw [f7n16,decide_eq_false (by omega),cond_false]
 | l::r,f+1,k,hd,hf=>by
  have hk:=dropAt hd;have hnl:=hv.nl;rw [f7n16,decide_eq_true (by have:=hk.2.1; omega),cond_true,f7n6_eq hv hk.1 (List.mem_of_mem_drop (hd ▸ List.mem_cons_self))];simp only [Option.bind_some];rw [wrSucc (by have:=hk.2.1; omega)];exact f7n16_at hv r f (k+1) hk.2.2 (by simpa using hf)
theorem lawBest{P:Prop}(a:AA)(_:P):f7 a=some true:=by
 unfold f7 f7n0;rw [alive_t,f11_eq];cases hg:grt a with
 | true=>rfl
 | false =>
  rw [f12_eq,f18_eq];cases ho:okA a with
  | false=>rfl
  | true =>
   have hv:=okA_vl ho;have hnb:=hv.nb;have hnl:=hv.nl;simp only [Option.bind_some,cond_true,cond_false];have h1:f7n1 true (awS a,0) (leftS a,0) a=some .norm:=rfl;have h3:f7n3 true (awS a,0) (leftS a,0) a=some (.norm ((Z a.Bids).map (Gs a))):=by
    unfold f7n3;have:=f7n4w_eq hv (leftS a,0) a.Bids 0 [] rfl (by simp; omega);rw [show ((0:Nat):Int)=0 from rfl,List.nil_append] at this;rw [f7n4_run true (awS a,0) (leftS a,0) a [] (Qch (by omega)),this]; rfl
   have h5:f7n5 true (leftS a,0) a ((Z a.Bids).map (Gs a))=some .norm:=by
    unfold f7n5;have:=f7n16_at hv a.Lots FUEL 0 rfl (Qaz (by omega));rw [show ((0:Nat):Int)=0 from rfl] at this;rw [this]; rfl
   rw [h1];simp only [Option.bind_some];rw [show ((leftS a,(0:Int)).1.length:Int)=(a.Lots.length:Int) by show (((leftS a).length:Nat):Int)=_; unfold leftS; rw [List.length_map],decide_eq_true rfl,cond_true,h3];simp only [Option.bind_some,h5]
end Go.Proofs.Ythpceddjepbamaa
