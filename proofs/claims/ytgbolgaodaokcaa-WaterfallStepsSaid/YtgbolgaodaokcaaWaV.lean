/- Several texts in one. No condition. -/
import Derived.Test.YtgbolgaodaokcaaV5
import Derived.Test.YtgbolgaodaokcaaTU
namespace Go.Proofs.Ytgbolgaodaokcaa
set_option linter.unusedVariables false
set_option linter.unusedSimpArgs false
open Go.RowKit
section
theorem Cl.allq{α:Type}{lt:α→α→Bool}{a b:List α}(h:Cl lt a b)(p:α→Bool):b.all p=a.all p:=by
 rw [Bool.eq_iff_iff,List.all_eq_true,List.all_eq_true];exact ⟨fun k x hx=>k x (h.mem.2 hx),fun k x hx=>k x (h.mem.1 hx)⟩
theorem allSort{α:Type}{lt:α→α→Bool}(o:SWo lt)(p:α→Bool)(l:List α):(Qaw lt l).all p=l.all p:=Cl.allq (Qbh o l) p
end
section
variable {ex:List Int} {qq:Int→Bool} {c:Int→Int→Int} (hc:∀x y,qq x=true→qq y=true→f69r1 x y ex=some (c x y)) (o:SWo fun x y=>decide (c x y<0))
abbrev Qr(c:Int→Int→Int):Int→Int→Bool:=fun x y=>decide (c x y<0)

include hc o in
theorem st_ins_in(a b i:Int):∀(n:Nat)(S P R:List Int)(x:Int)(f:Nat),S.length=n→n<f→P.length+n≤1000000→Sd (Qr c) S→(P++(S++x::R)).all qq=true →
  ∃S',f83r1n2 f a b i ex ((P.length+n:Nat):Int) (P++(S++x::R))=some (.exit2 (P++(S'++R)))∧Sd (Qr c) S'∧Cl (Qr c) (S++[x]) S'∨a≠(P.length:Int)
 | _,S,P,R,x,0,_,h,_,_,_=>absurd h (Nat.not_lt_zero _)
 | n,S,P,R,x,f+1,hn,hf,hb,hs,al=>by
  by_cases ha:a=(P.length:Int)
  ·subst ha;rcases List.eq_nil_or_concat S with rfl | ⟨S0,y,rfl⟩
   ·refine ⟨[x],.inl ⟨?_,by simp,Cl.refl _⟩⟩;have:n=0:=by simpa using hn.symm
    subst this;rw [f83r1n2,decide_eq_false (by omega),cond_false]; simp
   ·rw [List.concat_eq_append] at hn hs ⊢;have hn':n=S0.length+1:=by simpa using hn.symm
    subst hn';have e1:P++((S0++[y])++x::R)=(P++S0)++y::x::R:=by simp
    have e2:P++((S0++[y])++x::R)=((P++S0)++[y])++x::R:=by simp
    have k1:wr64 (((P.length+(S0.length+1):Nat):Int)-1)=((P.length+S0.length:Nat):Int):=by rw [wrIn (by omega) (by omega)]; omega
    rw [f83r1n2,decide_eq_true (by omega),cond_true,k1,Qay (k:=P.length+(S0.length+1)) e2 (by simp<;>omega),Qay (k:=P.length+S0.length) e1 (by simp)];simp only [Option.bind_some];rw [hc x y (by have al':=al; (try simp only [List.concat_eq_append,List.all_append,List.all_cons,List.all_nil,Bool.and_eq_true,and_true,true_and,and_self,Bool.and_true] at al'); simp only [List.concat_eq_append,List.all_append,List.all_cons,List.all_nil,Bool.and_eq_true,and_true,true_and,and_self,Bool.and_true,al']) (by have al':=al; (try simp only [List.concat_eq_append,List.all_append,List.all_cons,List.all_nil,Bool.and_eq_true,and_true,true_and,and_self,Bool.and_true] at al'); simp only [List.concat_eq_append,List.all_append,List.all_cons,List.all_nil,Bool.and_eq_true,and_true,true_and,and_self,Bool.and_true,al'])];simp only [Option.bind_some]
    rw [show (Int.toNat ((P.length+(S0.length+1):Nat):Int))=P.length+(S0.length+1) from rfl,show (Int.toNat ((P.length+S0.length:Nat):Int))=P.length+S0.length from rfl,set_len (k:=P.length+(S0.length+1)) (y:=y) e2 (by simp<;>omega)];have e3:((P++S0)++[y])++y::R=(P++S0)++y::y::R:=by simp
    rw [Qay (k:=P.length+S0.length) e3 (by simp),set_len (k:=P.length+S0.length) (y:=x) e3 (by simp)];cases hlt:decide (c x y<0) with
    | true =>
     have hs':=List.pairwise_append.1 hs;rcases st_ins_in (P.length:Int) b i S0.length S0 P (y::R) x f rfl (by omega) (by omega) hs'.1 (by have al':=al; (try simp only [List.concat_eq_append,List.all_append,List.all_cons,List.all_nil,Bool.and_eq_true,and_true,true_and,and_self,Bool.and_true] at al'); simp only [List.concat_eq_append,List.all_append,List.all_cons,List.all_nil,Bool.and_eq_true,and_true,true_and,and_self,Bool.and_true,al']) with ⟨S',h | h⟩
     ·obtain ⟨h1,h2,h3⟩:=h;simp only [cond_true,Option.bind_some];rw [show (P++S0)++x::y::R=P++(S0++x::(y::R)) by simp,h1];refine ⟨S'++[y],.inl ⟨by simp,h2.app (by simp) fun z hz w hw=>?_,?_⟩⟩
      ·rw [List.mem_singleton.1 hw];rcases List.mem_append.1 (h3.mem.1 hz) with hz | hz
       ·exact hs'.2.2 z hz y (by simp)
       ·rw [List.mem_singleton.1 hz]; exact o.asym hlt
      ·have e:=(Cl.refl (lt:=Qr c) S0).app (Cl.swap (lt:=Qr c) (u:=[y]) (v:=[x]) o (fun a ha b hb=>by rw [List.mem_singleton.1 ha,List.mem_singleton.1 hb]; exact hlt));have e':=e.trans (by simpa using h3.app (Cl.refl (lt:=Qr c) [y]):Cl (Qr c) (S0++([x]++[y])) (S'++[y]));simpa using e'
     ·exact absurd rfl h
    | false =>
     refine ⟨(S0++[y])++[x],.inl ⟨by simp,hs.app (by simp) fun z hz w hw=>?_,Cl.refl _⟩⟩;rw [List.mem_singleton.1 hw];rcases List.mem_append.1 hz with hz | hz
     ·exact o.nt hlt ((List.pairwise_append.1 hs).2.2 z hz y (by simp))
     ·rw [List.mem_singleton.1 hz]; exact hlt
  ·exact ⟨[],.inr ha⟩
include hc o in
theorem st_ins_out:∀(X S P R:List Int)(f:Nat),X.length<f→P.length+S.length+X.length≤1000000→Sd (Qr c) S→(P++(S++(X++R))).all qq=true →
  ∃S',f83r1n3 f (P.length:Int) ((P.length+S.length+X.length:Nat):Int) ex ((P.length+S.length:Nat):Int) (P++(S++(X++R)))=some (.exit0 (P++(S'++R)))∧Sd (Qr c) S'∧Cl (Qr c) (S++X) S'
 | _,S,P,R,0,h,_,_,_=>absurd h (Nat.not_lt_zero _)
 | [],S,P,R,f+1,_,_,hs,al=>⟨S,by rw [f83r1n3,decide_eq_false (by simp),cond_false]; simp,hs,by simpa using Cl.refl _⟩
 | x::X,S,P,R,f+1,hf,hb,hs,al=>by
  simp only [List.length_cons] at hf hb;rcases st_ins_in hc o (P.length:Int) ((P.length+S.length+(x::X).length:Nat):Int) ((P.length+S.length:Nat):Int) S.length S P (X++R) x FUEL rfl (Qam (Nat.le_trans (by omega:S.length≤1000000) (by unfold maxLen; decide))) (by omega) hs (by have al':=al; (try simp only [List.concat_eq_append,List.all_append,List.all_cons,List.all_nil,Bool.and_eq_true,and_true,true_and,and_self,Bool.and_true] at al'); simp only [List.concat_eq_append,List.all_append,List.all_cons,List.all_nil,Bool.and_eq_true,and_true,true_and,and_self,Bool.and_true,al']) with ⟨S1,h | h⟩
  ·obtain ⟨h1,h2,h3⟩:=h;have hl:=h3.len;simp only [List.length_append,List.length_cons,List.length_nil] at hl
   obtain ⟨S',k1,k2,k3⟩:=st_ins_out X S1 P R f (by omega) (by omega) h2 (by have a1:=(Cl.allq h3 qq).trans (by have al':=al; (try simp only [List.concat_eq_append,List.all_append,List.all_cons,List.all_nil,Bool.and_eq_true,and_true,true_and,and_self,Bool.and_true] at al'); simp only [List.concat_eq_append,List.all_append,List.all_cons,List.all_nil,Bool.and_eq_true,and_true,true_and,and_self,Bool.and_true,al']:(S++[x]).all qq=true); have al':=al; (try simp only [List.concat_eq_append,List.all_append,List.all_cons,List.all_nil,Bool.and_eq_true,and_true,true_and,and_self,Bool.and_true] at al'); have a1':=a1; (try simp only [List.concat_eq_append,List.all_append,List.all_cons,List.all_nil,Bool.and_eq_true,and_true,true_and,and_self,Bool.and_true] at a1'); simp only [List.concat_eq_append,List.all_append,List.all_cons,List.all_nil,Bool.and_eq_true,and_true,true_and,and_self,Bool.and_true,al',a1'])
   refine ⟨S',?_,k2,?_⟩
   ·rw [f83r1n3,decide_eq_true (by simp only [List.length_cons]; omega),cond_true];unfold f83r1n1;rw [show P++(S++(x::X++R))=P++(S++x::(X++R)) by simp,h1];simp only [Option.bind_some];rw [show wr64 (((P.length+S.length:Nat):Int)+1)=((P.length+S1.length:Nat):Int) by rw [wrIn (by omega) (by omega)]; omega];rw [show ((P.length+S.length+(x::X).length:Nat):Int)=((P.length+S1.length+X.length:Nat):Int) by simp only [List.length_cons]; omega];exact k1
   ·have:=(h3.app (Cl.refl (lt:=Qr c) X)).trans k3;simpa using this
  ·exact absurd rfl h
include hc o in
theorem st_ins_ok(P X R:List Int)(hb:P.length+X.length≤1000000) (al:(P++(X++R)).all qq=true):f83r1 (P.length:Int) ((P.length+X.length:Nat):Int) (P++(X++R)) ex=some (P++(Qaw (Qr c) X++R)):=by
 have main:f83r1n3 FUEL (P.length:Int) ((P.length+X.length:Nat):Int) ex (wr64 ((P.length:Int)+1)) (P++(X++R))=some (.exit0 (P++(Qaw (Qr c) X++R))):=by
  rw [show wr64 ((P.length:Int)+1)=((P.length+1:Nat):Int) by rw [wrIn (by omega) (by omega)]; omega];have hF:∀n:Nat,n≤1000000→n<FUEL:=fun n hn=>Qam (Nat.le_trans hn (by unfold maxLen; decide));cases X with
  | nil =>
   have:FUEL=(FUEL-1)+1:=by decide
   rw [this,f83r1n3,decide_eq_false (by simp<;>omega),cond_false]; rfl
  | cons x X =>
   simp only [List.length_cons] at hb;obtain ⟨S',k1,k2,k3⟩:=st_ins_out hc o X [x] P R FUEL (hF _ (by omega)) (by simp<;>omega) (by simp) (by have al':=al; (try simp only [List.concat_eq_append,List.all_append,List.all_cons,List.all_nil,Bool.and_eq_true,and_true,true_and,and_self,Bool.and_true] at al'); simp only [List.concat_eq_append,List.all_append,List.all_cons,List.all_nil,Bool.and_eq_true,and_true,true_and,and_self,Bool.and_true,al']);rw [sortS_of o k2 k3] at k1;simp only [List.length_cons,List.length_nil,List.cons_append,List.nil_append] at k1 ⊢;rw [show P.length+(X.length+1)=P.length+(0+1)+X.length by omega,show P.length+1=P.length+(0+1) by omega];exact k1
 unfold f83r1 f83r1n0;rw [main]; rfl
end
variable {ex:List Int}
theorem st_swp_at:∀(X Y A M S:List Int)(a b i n f:Nat),X.length=Y.length→X.length<f→a+i=A.length→b+i=A.length+X.length+M.length→n=i+X.length→A.length+X.length+M.length+Y.length≤1000000 →
  f86r1n1 f (a:Int) (b:Int) (n:Int) ex (i:Int) (A++(X++(M++(Y++S))))=some (.exit0 (A++(Y++(M++(X++S)))))
 | _,_,_,_,_,_,_,_,_,0,_,h,_,_,_,_=>absurd h (Nat.not_lt_zero _)
 | [],[],A,M,S,a,b,i,n,f+1,_,_,_,_,hn,_=>by rw [f86r1n1,decide_eq_false (by simp at hn; omega),cond_false]
 | [],y::Y,_,_,_,_,_,_,_,_+1,h,_,_,_,_,_=>absurd h (by simp)
 | x::X,[],_,_,_,_,_,_,_,_+1,h,_,_,_,_,_=>absurd h (by simp)
 | x::X,y::Y,A,M,S,a,b,i,n,f+1,h,hf,ha,hb,hn,hl=>by
  simp only [List.length_cons] at h hf hb hn hl;have e1:A++(x::X++(M++(y::Y++S)))=A++x::(X++(M++(y::Y++S))):=by simp
  have e2:A++(x::X++(M++(y::Y++S)))=(A++(x::X++M))++y::(Y++S):=by simp
  have e3:A++y::(X++(M++(y::Y++S)))=(A++(y::X++M))++y::(Y++S):=by simp
  have k1:wr64 ((a:Int)+(i:Int))=((a+i:Nat):Int):=by rw [wrIn (by omega) (by omega)]; omega
  have k2:wr64 ((b:Int)+(i:Int))=((b+i:Nat):Int):=by rw [wrIn (by omega) (by omega)]; omega
  have k3:wr64 ((i:Int)+1)=((i+1:Nat):Int):=by rw [wrIn (by omega) (by omega)]; omega
  rw [f86r1n1,decide_eq_true (by omega),cond_true,k1,k2,k3,Qay e2 (by simp<;>omega),Qay e1 ha];simp only [Option.bind_some];rw [show (Int.toNat ((a+i:Nat):Int))=a+i from rfl,show (Int.toNat ((b+i:Nat):Int))=b+i from rfl,set_len (y:=y) e1 ha,Qay e3 (by simp<;>omega),set_len (y:=x) e3 (by simp<;>omega)];simp only [Option.bind_some];have ih:=st_swp_at X Y (A++[y]) (M++[x]) S a b (i+1) n f (by omega) (by omega) (by simp<;>omega) (by simp<;>omega) (by omega) (by simp<;>omega);rw [show (A++(y::X++M))++x::(Y++S)=(A++[y])++(X++((M++[x])++(Y++S))) by simp,ih]
  simp
theorem st_swp_ok(P X M Y S:List Int){a b n:Nat}(h:X.length=Y.length)(ha:a=P.length)(hb:b=P.length+X.length+M.length)(hn:n=X.length)(hl:P.length+X.length+M.length+Y.length≤1000000) :
  f86r1 (a:Int) (b:Int) (n:Int) (P++(X++(M++(Y++S)))) ex=some (P++(Y++(M++(X++S)))):=by
 have k:=st_swp_at (ex:=ex) X Y P M S a b 0 n FUEL h (Qam (Nat.le_trans (by omega:X.length≤1000000) (by unfold maxLen; decide))) (by omega) (by omega) (by omega) hl;unfold f86r1 f86r1n0;rw [show (0:Int)=((0:Nat):Int) from rfl,k]; rfl

theorem st_rot_at:∀(n:Nat)(P U V S:List Int)(f m:Nat),U.length+V.length≤n→n<f→0<U.length→0<V.length→m=P.length+U.length→P.length+U.length+V.length≤1000000 →
  ∃i l,f85r1n1 f (m:Int) ex (U.length:Int) (V.length:Int) (P++(U++(V++S)))=some (.exit0 i l)∧f86r1 (wr64 ((m:Int)-i)) (m:Int) i l ex=some (P++(V++(U++S)))
 | _,_,_,_,_,0,_,_,h,_,_,_,_=>absurd h (Nat.not_lt_zero _)
 | 0,_,_,_,_,_+1,_,h,_,hu,_,_,_=>by omega
 | n+1,P,U,V,S,f+1,m,h,hf,hu,hv,hm,hl=>by
  rw [f85r1n1]
  by_cases he:U.length=V.length
  ·rw [decide_eq_true (by omega),cond_true];refine ⟨_,_,rfl,?_⟩;rw [show wr64 ((m:Int)-(U.length:Int))=((P.length:Nat):Int) by rw [wrIn (by omega) (by omega)]; omega];have:=st_swp_ok (ex:=ex) P U [] V S (a:=P.length) (b:=m) (n:=U.length) he rfl (by simp<;>omega) rfl (by simp<;>omega);simpa using this
  ·rw [decide_eq_false (by omega),cond_false]
   by_cases hlt:V.length<U.length
   ·rw [decide_eq_true (by omega),cond_true];obtain ⟨U1,U2,rfl,hU1⟩:=cutL_ (l:=U) (n:=V.length) (by omega);simp only [List.length_append] at *;rw [show wr64 ((m:Int)-((U1.length+U2.length:Nat):Int))=((P.length:Nat):Int) by rw [wrIn (by omega) (by omega)]; omega];have k:=st_swp_ok (ex:=ex) P U1 U2 V S (a:=P.length) (b:=m) (n:=V.length) hU1 rfl (by omega) hU1.symm (by omega);rw [show P++((U1++U2)++(V++S))=P++(U1++(U2++(V++S))) by simp,k];simp only [Option.bind_some];obtain ⟨i,l,q1,q2⟩:=st_rot_at n (P++V) U2 U1 S f m (by omega) (by omega) (by omega) (by omega) (by simp<;>omega) (by simp<;>omega);refine ⟨i,l,?_,by rw [q2]; simp⟩;rw [show wr64 (((U1.length+U2.length:Nat):Int)-(V.length:Int))=((U2.length:Nat):Int) by rw [wrIn (by omega) (by omega)]; omega,←hU1];rw [show P++(V++(U2++(U1++S)))=(P++V)++(U2++(U1++S)) by simp];exact q1
   ·rw [decide_eq_false (by omega),cond_false];obtain ⟨V1,V2,rfl,hV2⟩:=cutR_ (l:=V) (n:=U.length) (by omega);simp only [List.length_append] at *;rw [show wr64 ((m:Int)-(U.length:Int))=((P.length:Nat):Int) by rw [wrIn (by omega) (by omega)]; omega];rw [show wr64 (wr64 ((m:Int)+((V1.length+V2.length:Nat):Int))-(U.length:Int))=((m+V1.length:Nat):Int) by rw [wrIn (n:=(m:Int)+((V1.length+V2.length:Nat):Int)) (by omega) (by omega),wrIn (by omega) (by omega)]; omega];have k:=st_swp_ok (ex:=ex) P U V1 V2 S (a:=P.length) (b:=m+V1.length) (n:=U.length) hV2.symm rfl (by omega) rfl (by omega);rw [show P++(U++((V1++V2)++S))=P++(U++(V1++(V2++S))) by simp,k];simp only [Option.bind_some];obtain ⟨i,l,q1,q2⟩:=st_rot_at n P V2 V1 (U++S) f m (by omega) (by omega) (by omega) (by omega) (by omega) (by omega);refine ⟨i,l,?_,by rw [q2]; simp⟩
    rw [show wr64 (((V1.length+V2.length:Nat):Int)-(U.length:Int))=((V1.length:Nat):Int) by rw [wrIn (by omega) (by omega)]; omega,←hV2];exact q1
theorem st_rot_ok(P U V S:List Int){a m b:Nat}(ha:a=P.length)(hm:m=P.length+U.length)(hb:b=P.length+U.length+V.length)(hu:0<U.length)(hv:0<V.length)(hl:P.length+U.length+V.length≤1000000) :
  f85r1 (a:Int) (m:Int) (b:Int) (P++(U++(V++S))) ex=some (P++(V++(U++S))):=by
 obtain ⟨i,l,q1,q2⟩:=st_rot_at (ex:=ex) (U.length+V.length) P U V S FUEL m (Nat.le_refl _) (Qam (Nat.le_trans (by omega:U.length+V.length≤1000000) (by unfold maxLen; decide))) hu hv hm hl;unfold f85r1 f85r1n0;rw [show wr64 ((m:Int)-(a:Int))=((U.length:Nat):Int) by rw [wrIn (by omega) (by omega)]; omega,show wr64 ((b:Int)-(m:Int))=((V.length:Nat):Int) by rw [wrIn (by omega) (by omega)]; omega,q1];simp only [Option.bind_some,q2]
end Go.Proofs.Ytgbolgaodaokcaa
namespace Go.Proofs.Ytgbolgaodaokcaa
set_option linter.unusedVariables false
set_option linter.unusedSimpArgs false
open Go.RowKit
theorem st_atm{α:Type}{l:List α}{a:Int}{x:α}(h:at? l a=some x):x∈l:=by
 unfold at? at h
 split at h
 ·exact List.mem_of_getElem? h
 ·cases h
abbrev st_self:=Int→Int→Int→List Int→List Int→Option (List Int)
theorem st_half{a b:Nat}(h:a+b≤1000000000):wr64 (shrK .u64 (Qi (wr64 ((a:Int)+(b:Int)))) 1)=(((a+b) / 2:Nat):Int):=by
 rw [show (a:Int)+(b:Int)=((a+b:Nat):Int) by omega]; exact half_eq h
section
variable {ex:List Int} {qq:Int→Bool} {c:Int→Int→Int} (hc:∀x y,qq x=true→qq y=true→f69r1 x y ex=some (c x y)) (self:st_self)
include hc
theorem st_n3{l:List Int}{x a:Int}(hx:at? l a=some x)(hl:l.length≤1000000)(al:l.all qq=true):∀(f lo hi:Nat),hi≤l.length→lo≤1000000→f84r1n3 self f a l ex (lo:Int) (hi:Int)=(bsN (pq (fun y=>decide (c y x<0)) l) f lo hi).map fun r=>.exit0 (r:Int)
 | 0,lo,hi,_,_=>rfl
 | f+1,lo,hi,h,h0=>by
  rw [f84r1n3,bsN]
  by_cases hlt:lo<hi
  ·have hk:(lo+hi) / 2<l.length:=by omega
   rw [decide_eq_true hlt,decide_eq_true (by omega:(lo:Int)<(hi:Int)),st_half (by omega),at_in hk,hx];simp only [cond_true,Option.bind_some];rw [hc l[(lo+hi) / 2] x (List.all_eq_true.1 al _ (List.getElem_mem hk)) (List.all_eq_true.1 al _ (st_atm hx))];simp only [Option.bind_some];have ep:pq (fun y=>decide (c y x<0)) l ((lo+hi) / 2)=decide (c l[(lo+hi) / 2] x<0):=by unfold pq; rw [List.getElem?_eq_getElem hk]
   rw [ep];cases decide (c l[(lo+hi) / 2] x<0) with
   | true=>rw [cond_true,cond_true,show wr64 ((((lo+hi) / 2:Nat):Int)+1)=(((lo+hi) / 2+1:Nat):Int) by rw [wrIn (by omega) (by omega)]; omega]; exact st_n3 hx hl al f _ _ h (by omega)
   | false=>rw [cond_false,cond_false]; exact st_n3 hx hl al f _ _ (by omega) h0
  ·rw [decide_eq_false hlt,decide_eq_false (by omega:¬(lo:Int)<(hi:Int))]; rfl
theorem st_n8{l:List Int}{x a:Int}(hx:at? l a=some x)(hl:l.length≤1000000)(al:l.all qq=true):∀(f lo hi:Nat),hi≤l.length→lo≤1000000→f84r1n8 self f a l ex (lo:Int) (hi:Int)=(bsN (pq (fun y=>!decide (c x y<0)) l) f lo hi).map fun r=>.exit4 (r:Int)
 | 0,lo,hi,_,_=>rfl
 | f+1,lo,hi,h,h0=>by
  rw [f84r1n8,bsN]
  by_cases hlt:lo<hi
  ·have hk:(lo+hi) / 2<l.length:=by omega
   rw [decide_eq_true hlt,decide_eq_true (by omega:(lo:Int)<(hi:Int)),st_half (by omega),at_in hk,hx];simp only [cond_true,Option.bind_some];rw [hc x l[(lo+hi) / 2] (List.all_eq_true.1 al _ (st_atm hx)) (List.all_eq_true.1 al _ (List.getElem_mem hk))];simp only [Option.bind_some];have ep:pq (fun y=>!decide (c x y<0)) l ((lo+hi) / 2) = !decide (c x l[(lo+hi) / 2]<0):=by unfold pq; rw [List.getElem?_eq_getElem hk]
   rw [ep];cases decide (c x l[(lo+hi) / 2]<0) with
   | true=>simp only [cond_true,Bool.not_true,cond_false]; exact st_n8 hx hl al f _ _ (by omega) h0
   | false=>simp only [cond_true,Bool.not_false,cond_false]; rw [show wr64 ((((lo+hi) / 2:Nat):Int)+1)=(((lo+hi) / 2+1:Nat):Int) by rw [wrIn (by omega) (by omega)]; omega]; exact st_n8 hx hl al f _ _ h (by omega)
  ·rw [decide_eq_false hlt,decide_eq_false (by omega:¬(lo:Int)<(hi:Int))]; rfl
def st_pr(c:Int→Int→Int)(l:List Int)(n h:Nat):Bool:=match l[n-1-h]?,l[h]? with | some y,some x=>!decide (c y x<0) | _,_=>false
theorem st_n12{l:List Int}{a m b:Nat}(al:l.all qq=true)(hl:l.length≤1000000)(hb:b≤l.length)(ham:a≤m)(hmb:m≤b):∀(f lo hi:Nat),(∀h,lo≤h→h<hi→h+1≤(a+b) / 2+m∧(a+b) / 2+m-1-h<l.length∧h<l.length)→lo≤1000000→hi≤1000000 →
  f84r1n12 self f (a:Int) (m:Int) (b:Int) l ex (lo:Int) (hi:Int)=(bsN (st_pr c l ((a+b) / 2+m)) f lo hi).map fun r=>.exit8 (r:Int)
 | 0,lo,hi,_,_,_=>rfl
 | f+1,lo,hi,h,h0,h00=>by
  rw [f84r1n12,bsN]
  by_cases hlt:lo<hi
  ·obtain ⟨k1,k2,k3⟩:=h ((lo+hi) / 2) (by omega) (by omega);rw [decide_eq_true hlt,decide_eq_true (by omega:(lo:Int)<(hi:Int)),st_half (a:=lo) (b:=hi) (by omega),st_half (a:=a) (b:=b) (by omega),at_in k3];rw [wrIn (n:=(((a+b) / 2:Nat):Int)+(m:Int)) (by omega) (by omega),wrIn (n:=(((a+b) / 2:Nat):Int)+(m:Int)-1) (by omega) (by omega),wrIn (by omega) (by omega)];rw [show (((a+b) / 2:Nat):Int)+(m:Int)-1-(((lo+hi) / 2:Nat):Int)=(((a+b) / 2+m-1-(lo+hi) / 2:Nat):Int) by omega,at_in k2];simp only [cond_true,Option.bind_some];rw [hc l[(a+b) / 2+m-1-(lo+hi) / 2] l[(lo+hi) / 2] (List.all_eq_true.1 al _ (List.getElem_mem k2)) (List.all_eq_true.1 al _ (List.getElem_mem k3))];simp only [Option.bind_some];have ep:st_pr c l ((a+b) / 2+m) ((lo+hi) / 2) = !decide (c l[(a+b) / 2+m-1-(lo+hi) / 2] l[(lo+hi) / 2]<0):=by unfold st_pr; rw [List.getElem?_eq_getElem k3,List.getElem?_eq_getElem k2]
   rw [ep];cases decide (c l[(a+b) / 2+m-1-(lo+hi) / 2] l[(lo+hi) / 2]<0) with
   | true=>simp only [cond_true,Bool.not_true,cond_false]; exact st_n12 al hl hb ham hmb f _ _ (fun i hi1 hi2=>h i hi1 (by omega)) h0 (by omega)
   | false =>
    simp only [cond_true,Bool.not_false,cond_false];rw [show wr64 ((((lo+hi) / 2:Nat):Int)+1)=(((lo+hi) / 2+1:Nat):Int) by rw [wrIn (by omega) (by omega)]; omega];exact st_n12 al hl hb ham hmb f _ _ (fun i hi1 hi2=>h i (by omega) hi2) (by omega) h00
  ·rw [decide_eq_false hlt,decide_eq_false (by omega:¬(lo:Int)<(hi:Int))]; rfl
omit hc
theorem st_n5{ex:List Int} : ∀(Z A R:List Int)(x:Int)(f i:Nat),Z.length<f→i=A.length+Z.length+1→i≤1000000→f84r1n5 self f (i:Int) ex (A.length:Int) (A++x::(Z++R))=some (.exit2 (A++(Z++x::R)))
 | _,_,_,_,0,_,h,_,_=>absurd h (Nat.not_lt_zero _)
 | [],A,R,x,f+1,i,_,hi,hl=>by
  simp only [List.length_nil] at hi;rw [f84r1n5,wrIn (by omega) (by omega),decide_eq_false (by omega),cond_false]; rfl
 | z::Z,A,R,x,f+1,i,hf,hi,hl=>by
  simp only [List.length_cons] at hf hi;have e1:A++x::(z::Z++R)=(A++[x])++z::(Z++R):=by simp
  have e2:A++x::(z::Z++R)=A++x::(z::Z++R):=rfl;have e3:A++z::(z::Z++R)=(A++[z])++z::(Z++R):=by simp
  rw [f84r1n5,wrIn (n:=(i:Int)-1) (by omega) (by omega),decide_eq_true (by omega),cond_true,show wr64 ((A.length:Int)+1)=((A.length+1:Nat):Int) by rw [wrIn (by omega) (by omega)]; omega];rw [Qay e1 (by simp),Qay e2 rfl];simp only [Option.bind_some];rw [show (Int.toNat (A.length:Int))=A.length from rfl,show (Int.toNat ((A.length+1:Nat):Int))=A.length+1 from rfl,set_len (y:=z) e2 rfl,Qay e3 (by simp),set_len (y:=x) e3 (by simp)];simp only [Option.bind_some];have ih:=st_n5 (ex:=ex) Z (A++[z]) R x f i (by omega) (by simp<;>omega) hl;rw [List.length_append] at ih;simp only [List.length_cons,List.length_nil] at ih;rw [show A.length+1=A.length+(0+1) by omega,ih]
  simp
theorem st_n10{ex:List Int} : ∀(n:Nat)(Z A R:List Int)(x:Int)(f:Nat),Z.length=n→n<f→A.length+n≤1000000→f84r1n10 self f (A.length:Int) ex ((A.length+n:Nat):Int) (A++(Z++x::R))=some (.exit6 (A++x::(Z++R)))
 | _,_,_,_,_,0,_,h,_=>absurd h (Nat.not_lt_zero _)
 | n,Z,A,R,x,f+1,hz,hf,hl=>by
  rcases List.eq_nil_or_concat Z with rfl | ⟨Z0,z,rfl⟩
  ·have:n=0:=by simpa using hz.symm
   subst this;rw [f84r1n10,decide_eq_false (by omega),cond_false]; rfl
  ·rw [List.concat_eq_append] at hz ⊢;have hz':n=Z0.length+1:=by simpa using hz.symm
   subst hz';have e1:A++((Z0++[z])++x::R)=(A++Z0)++z::(x::R):=by simp
   have e2:A++((Z0++[z])++x::R)=((A++Z0)++[z])++x::R:=by simp
   have e3:((A++Z0)++[z])++z::R=(A++Z0)++z::(z::R):=by simp
   rw [f84r1n10,decide_eq_true (by omega),cond_true,show wr64 (((A.length+(Z0.length+1):Nat):Int)-1)=((A.length+Z0.length:Nat):Int) by rw [wrIn (by omega) (by omega)]; omega];rw [Qay e1 (by simp),Qay e2 (by simp<;>omega)];simp only [Option.bind_some];rw [show (Int.toNat ((A.length+Z0.length:Nat):Int))=A.length+Z0.length from rfl,show (Int.toNat ((A.length+(Z0.length+1):Nat):Int))=A.length+(Z0.length+1) from rfl,set_len (y:=z) e2 (by simp<;>omega),Qay e3 (by simp),set_len (y:=x) e3 (by simp)];simp only [Option.bind_some];rw [show (A++Z0)++x::(z::R)=A++(Z0++x::(z::R)) by simp,st_n10 (ex:=ex) Z0.length Z0 A (z::R) x f rfl (by omega) (by omega)]
   simp
end
section
variable {ex:List Int} {qq:Int→Bool} {c:Int→Int→Int} (hc:∀x y,qq x=true→qq y=true→f69r1 x y ex=some (c x y)) (o:SWo (Qr c)) (self:st_self)
include hc o
theorem st_one(P B S:List Int)(x:Int)(hb:Sd (Qr c) B)(hl:P.length+1+B.length+S.length≤500000) (al:(P++x::(B++S)).all qq=true) :
  f84r1n2 self (P.length:Int) ((P.length+1:Nat):Int) ((P.length+1+B.length:Nat):Int) (P++x::(B++S)) ex=some (.ret (P++(Qaw (Qr c) (x::B)++S))):=by
 have e0:P++x::(B++S)=(P++[x])++(B++S):=by simp
 have hlen:(P++x::(B++S)).length=P.length+1+B.length+S.length:=by simp<;>omega
 have h3:=st_n3 hc self (l:=P++x::(B++S)) (a:=(P.length:Int)) (Qay rfl rfl) (by omega) al FUEL (P.length+1) (P.length+1+B.length) (by omega) (by omega);obtain ⟨r,q1,q2,q3,q4,q5⟩:=bsN_ok (p:=pq (fun y=>decide (c y x<0)) (P++x::(B++S))) FUEL (P.length+1) (P.length+1+B.length) (by omega) (Qam (Nat.le_trans (by omega:P.length+1+B.length-(P.length+1)≤1000000) (by unfold maxLen; decide))) fun i j a1 a2 a3 a4=>by
  rw [e0] at a4 ⊢;exact pq_mono (X:=P++[x]) (B:=B) (R:=S) (hb.imp fun {u w} huw hq=>o.le_lt huw hq) i j (by simp<;>omega) a2 (by simp<;>omega) a4
 obtain ⟨B1,B2,rfl,hB1⟩:=cutL_ (l:=B) (n:=r-(P.length+1)) (by omega);simp only [List.length_append] at *;have hb':=List.pairwise_append.1 hb;have f1:∀y∈B1,decide (c y x<0)=true:=pq_seg (X:=P++[x]) (R:=B2++S) fun i a1 a2=>by
  have:=q4 i (by simp at a1; omega) (by simp at a2; omega);simpa using this
 have f2:∀y∈B2,decide (c y x<0)=false:=pq_seg (X:=P++[x]++B1) (R:=S) fun i a1 a2=>by
  have:=q5 i (by simp at a1; omega) (by simp at a2; omega);simpa using this
 unfold f84r1n2 f84r1n4;rw [show wr64 (((P.length+1:Nat):Int)-(P.length:Int))=1 by rw [wrIn (by omega) (by omega)]; omega,h3,q1];simp only [decide_true,cond_true,Option.map_some,Option.bind_some];have h5:=st_n5 self (ex:=ex) B1 P (B2++S) x FUEL r (Qam (Nat.le_trans (by omega:B1.length≤1000000) (by unfold maxLen; decide))) (by omega) (by omega);rw [show P++x::(B1++B2++S)=P++x::(B1++(B2++S)) by simp,h5];simp only [Option.bind_some];have hS:B1++x::B2=Qaw (Qr c) (x::(B1++B2)):=by
  refine sortS_of o ?_ ?_
  ·refine Sd.app hb'.1 (List.pairwise_cons.2 ⟨fun y hy=>f2 y hy,hb'.2.1⟩) fun u hu w hw=>?_;rcases List.mem_cons.1 hw with rfl | hw
   ·exact o.asym (f1 u hu)
   ·exact hb'.2.2 u hu w hw
  ·have:=(Cl.swap (lt:=Qr c) (u:=[x]) (v:=B1) o (fun a ha b hb=>by rw [List.mem_singleton.1 ha]; exact f1 b hb)).app (Cl.refl (lt:=Qr c) B2);simpa using this
 rw [←hS]; simp
theorem st_last(P A S:List Int)(y:Int)(ha:Sd (Qr c) A)(hl:P.length+A.length+1+S.length≤500000) (al:(P++(A++y::S)).all qq=true) :
  f84r1n7 self (P.length:Int) ((P.length+A.length:Nat):Int) ((P.length+A.length+1:Nat):Int) (P++(A++y::S)) ex=some (.ret (P++(Qaw (Qr c) (A++[y])++S))):=by
 have hlen:(P++(A++y::S)).length=P.length+A.length+1+S.length:=by simp<;>omega
 have h3:=st_n8 hc self (l:=P++(A++y::S)) (x:=y) (a:=((P.length+A.length:Nat):Int)) (Qay (a:=P++A) (b:=S) (by simp) (by simp)) (by omega) al FUEL P.length (P.length+A.length) (by omega) (by omega);obtain ⟨r,q1,q2,q3,q4,q5⟩:=bsN_ok (p:=pq (fun z=>!decide (c y z<0)) (P++(A++y::S))) FUEL P.length (P.length+A.length) (by omega) (Qam (Nat.le_trans (by omega:P.length+A.length-P.length≤1000000) (by unfold maxLen; decide))) fun i j a1 a2 a3 a4=>by
  refine pq_mono (X:=P) (B:=A) (R:=y::S) (ha.imp fun {u w} huw hq=>?_) i j a1 a2 a3 a4;simp only [Bool.not_eq_true'] at hq ⊢;exact o.nt hq huw
 obtain ⟨A1,A2,rfl,hA1⟩:=cutL_ (l:=A) (n:=r-P.length) (by omega);simp only [List.length_append] at *;have ha':=List.pairwise_append.1 ha;have f1:∀z∈A1,(!decide (c y z<0))=true:=pq_seg (X:=P) (R:=A2++y::S) fun i a1 a2=>by
  have:=q4 i a1 (by omega);simpa using this
 have f2:∀z∈A2,(!decide (c y z<0))=false:=pq_seg (X:=P++A1) (R:=y::S) fun i a1 a2=>by
  have:=q5 i (by simp at a1; omega) (by simp at a2; omega);simpa using this
 unfold f84r1n7 f84r1n9;rw [show wr64 (((P.length+(A1.length+A2.length)+1:Nat):Int)-((P.length+(A1.length+A2.length):Nat):Int))=1 by rw [wrIn (by omega) (by omega)]; omega,h3,q1];simp only [decide_true,cond_true,Option.map_some,Option.bind_some];have h5:=st_n10 self (ex:=ex) A2.length A2 (P++A1) S y FUEL rfl (Qam (Nat.le_trans (by omega:A2.length≤1000000) (by unfold maxLen; decide))) (by simp<;>omega);rw [List.length_append] at h5;rw [show P++(A1++A2++y::S)=(P++A1)++(A2++y::S) by simp,show P.length+(A1.length+A2.length)=P.length+A1.length+A2.length by omega,show r=P.length+A1.length by omega,h5];simp only [Option.bind_some];have hS:A1++y::A2=Qaw (Qr c) ((A1++A2)++[y]):=by
  refine sortS_of o ?_ ?_
  ·refine Sd.app ha'.1 (List.pairwise_cons.2 ⟨fun z hz=>?_,ha'.2.1⟩) fun u hu w hw=>?_
   ·have:=f2 z hz;simp only [Bool.not_eq_false'] at this;exact o.asym this
   ·rcases List.mem_cons.1 hw with rfl | hw
    ·have:=f1 u hu;simpa using this
    ·exact ha'.2.2 u hu w hw
  ·have:=(Cl.refl (lt:=Qr c) A1).app (Cl.swap (lt:=Qr c) (u:=A2) (v:=[y]) o (fun a ha b hb=>by
    rw [List.mem_singleton.1 hb];have:=f2 a ha;simpa using this))
   simpa using this
 rw [←hS]; simp
end
end Go.Proofs.Ytgbolgaodaokcaa
namespace Go.Proofs.Ytgbolgaodaokcaa
set_option linter.unusedVariables false
set_option linter.unusedSimpArgs false
open Go.RowKit
section
variable {ex:List Int} {qq:Int→Bool} {c:Int→Int→Int} (hc:∀x y,qq x=true→qq y=true→f69r1 x y ex=some (c x y)) (o:SWo (Qr c))
theorem st_sdg{l:List Int}(h:Sd (Qr c) l){i j:Nat}{x y:Int}(hij:i≤j)(hx:l[i]?=some x)(hy:l[j]?=some y)(o:SWo (Qr c)):decide (c y x<0)=false:=by
 rcases Nat.lt_or_ge i j with hlt | hge
 ·obtain ⟨h1,rfl⟩:=List.getElem?_eq_some_iff.1 hx;obtain ⟨h2,rfl⟩:=List.getElem?_eq_some_iff.1 hy;exact List.pairwise_iff_getElem.1 h i j h1 h2 hlt
 ·have:i=j:=by omega
  subst this;rw [hx] at hy; obtain rfl:=Option.some.inj hy;exact o.irr x
include hc o in
theorem st_round(self:st_self)(K:Nat) (hs:∀(P A B S:List Int),0<A.length→0<B.length→A.length+B.length≤K→Sd (Qr c) A→Sd (Qr c) B→P.length+A.length+B.length+S.length≤500000→(P++(A++(B++S))).all qq=true →
   self (P.length:Int) ((P.length+A.length:Nat):Int) ((P.length+A.length+B.length:Nat):Int) (P++(A++(B++S))) ex=some (P++(Qaw (Qr c) (A++B)++S)))
  (P A B S:List Int) (ha0:1<A.length) (hb0:1<B.length) (hK:A.length+B.length≤2*K) (ha:Sd (Qr c) A) (hb:Sd (Qr c) B) (hl:P.length+A.length+B.length+S.length≤500000) (al:(P++(A++(B++S))).all qq=true) :
  f84r1n0 self (P.length:Int) ((P.length+A.length:Nat):Int) ((P.length+A.length+B.length:Nat):Int) (P++(A++(B++S))) ex=some (.norm (P++(Qaw (Qr c) (A++B)++S))):=by
 have hlen:(P++(A++(B++S))).length=P.length+A.length+B.length+S.length:=by simp<;>omega
 -- the numbers
 obtain ⟨a,ea⟩:∃a,a=P.length:=⟨_,rfl⟩;obtain ⟨m,em⟩:∃m,m=P.length+A.length:=⟨_,rfl⟩;obtain ⟨b,eb⟩:∃b,b=P.length+A.length+B.length:=⟨_,rfl⟩;obtain ⟨mid,emid⟩:∃mid,mid=(a+b) / 2:=⟨_,rfl⟩;obtain ⟨s0,r0,e11,hs0,hr0,hrm,hrmid,hsb,hsa,hse,hre⟩:∃s0 r0:Nat,f84r1n11 self (a:Int) (m:Int) (b:Int) (P++(A++(B++S))) ex=some (.norm (s0:Int) (r0:Int))∧a≤s0∧s0≤r0∧r0≤m∧r0≤mid∧mid+m≤b+s0∧s0≤m∧(s0=a∨mid+m=b+s0)∧(r0=m∨r0=mid):=by
  unfold f84r1n11;rw [st_half (by omega),←emid]
  by_cases h:mid<m
  ·rw [decide_eq_true (by omega),cond_true];refine ⟨mid+m-b,mid,?_,by omega,by omega,by omega,by omega,by omega,by omega,by omega,by omega⟩;rw [wrIn (n:=(mid:Int)+(m:Int)) (by omega) (by omega),wrIn (by omega) (by omega)]
   congr 2; omega
  ·rw [decide_eq_false (by omega),cond_false];exact ⟨a,m,rfl,by omega,by omega,by omega,by omega,by omega,by omega,by omega,by omega⟩
 -- where to cut
 have gA:∀i,a≤i→i<m→(P++(A++(B++S)))[i]?=A[i-a]?:=fun i h1 h2=>by rw [get_seg (by omega) (by omega),ea]
 have gB:∀i,m≤i→i<b→(P++(A++(B++S)))[i]?=B[i-m]?:=fun i h1 h2=>by
  rw [show P++(A++(B++S))=(P++A)++(B++S) by simp,get_seg (by simp<;>omega) (by simp<;>omega),List.length_append,em]
 have h12:=st_n12 hc self (l:=P++(A++(B++S))) (a:=a) (m:=m) (b:=b) al (by omega) (by omega) (by omega) (by omega) FUEL s0 r0 (fun h h1 h2=>⟨by omega,by omega,by omega⟩) (by omega) (by omega);rw [←emid] at h12;obtain ⟨s,q1,q2,q3,q4,q5⟩:=bsN_ok (p:=st_pr c (P++(A++(B++S))) (mid+m)) FUEL s0 r0 hr0 (Qam (Nat.le_trans (by omega:r0-s0≤1000000) (by unfold maxLen; decide))) fun i j a1 a2 a3 a4=>by
  unfold st_pr at a4 ⊢;have iA:i-a<A.length:=by omega
  have jA:j-a<A.length:=by omega
  have iB:mid+m-1-i-m<B.length:=by omega
  have jB:mid+m-1-j-m<B.length:=by omega
  rw [gA j (by omega) (by omega),gB (mid+m-1-j) (by omega) (by omega),List.getElem?_eq_getElem jA,List.getElem?_eq_getElem jB] at a4;rw [gA i (by omega) (by omega),gB (mid+m-1-i) (by omega) (by omega),List.getElem?_eq_getElem iA,List.getElem?_eq_getElem iB];simp only [Bool.not_eq_true'] at a4 ⊢;have k1:=st_sdg ha (i:=i-a) (j:=j-a) (by omega) (List.getElem?_eq_getElem iA) (List.getElem?_eq_getElem jA) o;have k2:=st_sdg hb (i:=mid+m-1-j-m) (j:=mid+m-1-i-m) (by omega) (List.getElem?_eq_getElem jB) (List.getElem?_eq_getElem iB) o;exact o.nt (o.nt k2 a4) k1
 obtain ⟨A1,A2,eA,hA1⟩:=cutL_ (l:=A) (n:=s-a) (by omega);obtain ⟨B1,B2,eB,hB1⟩:=cutL_ (l:=B) (n:=mid-s) (by omega);have lA:A.length=A1.length+A2.length:=by rw [eA]; simp
 have lB:B.length=B1.length+B2.length:=by rw [eB]; simp
 have h1:∀x∈A1,∀y∈B2,decide (c y x<0)=false:=by
  rcases List.eq_nil_or_concat A1 with e | ⟨A0,u,e⟩
  ·rw [e]; simp
  ·cases hB2:B2 with
   | nil=>simp
   | cons v B3 =>
    rw [List.concat_eq_append] at e;have l1:A1.length=A0.length+1:=by rw [e]; simp
    have l2:B2.length=B3.length+1:=by rw [hB2]; simp
    have hp:=q4 (s-1) (by omega) (by omega);unfold st_pr at hp;rw [gA (s-1) (by omega) (by omega),gB (mid+m-1-(s-1)) (by omega) (by omega)] at hp;rw [get_len (l:=A) (k:=s-1-a) (x:=u) (a:=A0) (b:=A2) (by rw [eA,e]; simp) (by omega),get_len (l:=B) (k:=mid+m-1-(s-1)-m) (x:=v) (a:=B1) (b:=B3) (by rw [eB,hB2]) (by omega)] at hp;simp only [Bool.not_eq_true'] at hp;intro x hx y hy;have hx':decide (c u x<0)=false:=by
     rw [e] at hx;have hsA:=List.pairwise_append.1 (by rw [eA,e] at ha; exact (List.pairwise_append.1 ha).1:Sd (Qr c) (A0++[u]));rcases List.mem_append.1 hx with hx | hx
     ·exact hsA.2.2 x hx u (by simp)
     ·rw [List.mem_singleton.1 hx]; exact o.irr u
    have hy':decide (c y v<0)=false:=by
     have hsB:=List.pairwise_cons.1 (by rw [eB,hB2] at hb; exact (List.pairwise_append.1 hb).2.1:Sd (Qr c) (v::B3));rcases List.mem_cons.1 hy with rfl | hy
     ·exact o.irr _
     ·exact hsB.1 y hy
    exact o.nt (o.nt hy' hp) hx'
 have h2:∀x∈A2,∀y∈B1,decide (c y x<0)=true:=by
  rcases List.eq_nil_or_concat B1 with e | ⟨B0,v,e⟩
  ·rw [e]; simp
  ·cases hA2:A2 with
   | nil=>simp
   | cons u A3 =>
    rw [List.concat_eq_append] at e;have l1:B1.length=B0.length+1:=by rw [e]; simp
    have l2:A2.length=A3.length+1:=by rw [hA2]; simp
    have hp:=q5 s (by omega) (by omega);unfold st_pr at hp;rw [gA s (by omega) (by omega),gB (mid+m-1-s) (by omega) (by omega)] at hp;rw [get_len (l:=A) (k:=s-a) (x:=u) (a:=A1) (b:=A3) (by rw [eA,hA2]) (by omega),get_len (l:=B) (k:=mid+m-1-s-m) (x:=v) (a:=B0) (b:=B2) (by rw [eB,e]; simp) (by omega)] at hp;simp only [Bool.not_eq_false'] at hp;intro x hx y hy;have hx':decide (c x u<0)=false:=by
     have hsA:=List.pairwise_cons.1 (by rw [eA,hA2] at ha; exact (List.pairwise_append.1 ha).2.1:Sd (Qr c) (u::A3));rcases List.mem_cons.1 hx with rfl | hx
     ·exact o.irr _
     ·exact hsA.1 x hx
    have hy':decide (c v y<0)=false:=by
     rw [e] at hy;have hsB:=List.pairwise_append.1 (by rw [eB,e] at hb; exact (List.pairwise_append.1 hb).1:Sd (Qr c) (B0++[v]));rcases List.mem_append.1 hy with hy | hy
     ·exact hsB.2.2 y hy v (by simp)
     ·rw [List.mem_singleton.1 hy]; exact o.irr v
    exact o.lt_le (o.le_lt hy' hp) hx'
 have hcut:=merge_cut o (a1:=A1) (a2:=A2) (b1:=B1) (b2:=B2) (by rw [←eA]; exact ha) (by rw [←eB]; exact hb) h1 h2;rw [←eA,←eB] at hcut;have sA:=List.pairwise_append.1 (by rw [←eA]; exact ha:Sd (Qr c) (A1++A2));have sB:=List.pairwise_append.1 (by rw [←eB]; exact hb:Sd (Qr c) (B1++B2))
 -- the rotation
 have e_end:wr64 (wr64 ((mid:Int)+(m:Int))-(s:Int))=((mid+m-s:Nat):Int):=by rw [wrIn (n:=(mid:Int)+(m:Int)) (by omega) (by omega),wrIn (by omega) (by omega)]; omega
 have h13:f84r1n13 self (a:Int) (m:Int) (b:Int) (s:Int) (P++(A++(B++S))) ex=some (.norm (P++((A1++B1)++((A2++B2)++S)))):=by
  unfold f84r1n13 f84r1n14;rw [st_half (by omega),←emid,e_end]
  by_cases c1:s<m
  ·by_cases c2:m<mid+m-s
   ·rw [decide_eq_true (by omega:(s:Int)<(m:Int)),decide_eq_true (by omega:(m:Int)<((mid+m-s:Nat):Int))];simp only [cond_true,Option.bind_some];have k:=st_rot_ok (ex:=ex) (P++A1) A2 B1 (B2++S) (a:=s) (m:=m) (b:=mid+m-s) (by simp<;>omega) (by simp<;>omega) (by simp<;>omega) (by omega) (by omega) (by simp<;>omega);rw [show P++(A++(B++S))=(P++A1)++(A2++(B1++(B2++S))) by rw [eA,eB]; simp,k]
    simp
   ·rw [decide_eq_true (by omega:(s:Int)<(m:Int)),decide_eq_false (by omega:¬(m:Int)<((mid+m-s:Nat):Int))];have:B1=[]:=List.eq_nil_of_length_eq_zero (by omega);simp only [cond_true,cond_false,Option.bind_some];rw [eA,eB,this]; simp
  ·rw [decide_eq_false (by omega:¬(s:Int)<(m:Int))];have:A2=[]:=List.eq_nil_of_length_eq_zero (by omega);simp only [cond_false,Option.bind_some];rw [eA,eB,this]; simp
 -- the left half
 have h15:f84r1n15 self (a:Int) (b:Int) (s:Int) (m:Int) (P++((A1++B1)++((A2++B2)++S))) ex=some (.norm (P++(Qaw (Qr c) (A1++B1)++((A2++B2)++S)))):=by
  unfold f84r1n15 f84r1n16;rw [st_half (by omega),←emid]
  by_cases c1:a<s
  ·by_cases c2:s<mid
   ·rw [decide_eq_true (by omega:(a:Int)<(s:Int)),decide_eq_true (by omega:(s:Int)<(mid:Int))];simp only [cond_true,Option.bind_some];have k:=hs P A1 B1 ((A2++B2)++S) (by omega) (by omega) (by omega) sA.1 sB.1 (by simp<;>omega) (by rw [eA,eB] at al; have al':=al; (try simp only [List.concat_eq_append,List.all_append,List.all_cons,List.all_nil,Bool.and_eq_true,and_true,true_and,and_self,Bool.and_true] at al'); simp only [List.concat_eq_append,List.all_append,List.all_cons,List.all_nil,Bool.and_eq_true,and_true,true_and,and_self,Bool.and_true,al']);rw [show P.length=a by omega,show a+A1.length=s by omega,show s+B1.length=mid by omega] at k;rw [show P++((A1++B1)++((A2++B2)++S))=P++(A1++(B1++((A2++B2)++S))) by simp,k];rfl
   ·rw [decide_eq_true (by omega:(a:Int)<(s:Int)),decide_eq_false (by omega:¬(s:Int)<(mid:Int))];have:B1=[]:=List.eq_nil_of_length_eq_zero (by omega);simp only [cond_true,cond_false,Option.bind_some];rw [this,List.append_nil,←sortS_of o sA.1 (Cl.refl _)]
  ·rw [decide_eq_false (by omega:¬(a:Int)<(s:Int))];have:A1=[]:=List.eq_nil_of_length_eq_zero (by omega);simp only [cond_false,Option.bind_some];rw [this,List.nil_append,←sortS_of o sB.1 (Cl.refl _)]
 have lS1:(Qaw (Qr c) (A1++B1)).length=A1.length+B1.length:=by rw [sortS_len o]; simp
 -- the right half
 have hfin:f84r1n17 self (b:Int) (a:Int) (m:Int) (s:Int) (P++(Qaw (Qr c) (A1++B1)++((A2++B2)++S))) ex=some (.norm (decide (mid<mid+m-s)&&decide (mid+m-s<b))):=by
  unfold f84r1n17;rw [st_half (by omega),←emid,e_end]
  by_cases c1:mid<mid+m-s
  ·rw [decide_eq_true (by omega:(mid:Int)<((mid+m-s:Nat):Int)),decide_eq_true c1];simp only [cond_true,Bool.true_and]
   congr 2
   exact decide_eq_decide.2 (by omega)
  ·rw [decide_eq_false (by omega:¬(mid:Int)<((mid+m-s:Nat):Int)),decide_eq_false c1]; rfl
 have n1:f84r1n1 self (a:Int) (m:Int) (b:Int) (P++(A++(B++S))) ex=some .norm:=by
  unfold f84r1n1 f84r1n2;rw [wrIn (n:=(m:Int)-(a:Int)) (by omega) (by omega),decide_eq_false (by omega)]; rfl
 have n6:f84r1n6 self (a:Int) (m:Int) (b:Int) (P++(A++(B++S))) ex=some .norm:=by
  unfold f84r1n6 f84r1n7;rw [wrIn (n:=(b:Int)-(m:Int)) (by omega) (by omega),decide_eq_false (by omega)]; rfl
 unfold f84r1n0;rw [←ea,show a+A.length=m by omega,show m+B.length=b by omega,n1];simp only [Option.bind_some,n6,e11,h12,q1,Option.map_some,h13,h15,hfin];rw [st_half (by omega),←emid,e_end,hcut]
 by_cases c3:mid<mid+m-s∧mid+m-s<b
 ·rw [decide_eq_true c3.1,decide_eq_true c3.2];simp only [Bool.and_self,cond_true];have k:=hs (P++Qaw (Qr c) (A1++B1)) A2 B2 S (by omega) (by omega) (by omega) sA.2.1 sB.2.1 (by simp [lS1]<;>omega) (by rw [eA,eB] at al; have al':=al; (try simp only [List.concat_eq_append,List.all_append,List.all_cons,List.all_nil,Bool.and_eq_true,and_true,true_and,and_self,Bool.and_true,allSort o] at al'); simp only [List.concat_eq_append,List.all_append,List.all_cons,List.all_nil,Bool.and_eq_true,and_true,true_and,and_self,Bool.and_true,allSort o,al']);rw [List.length_append,lS1,show P.length+(A1.length+B1.length)=mid by omega,show mid+A2.length=mid+m-s by omega,show mid+m-s+B2.length=b by omega] at k;rw [show P++(Qaw (Qr c) (A1++B1)++((A2++B2)++S))=(P++Qaw (Qr c) (A1++B1))++(A2++(B2++S)) by simp,k]
  simp
 ·have e1:(decide (mid<mid+m-s)&&decide (mid+m-s<b))=false:=by
   rw [Bool.and_eq_false_iff,decide_eq_false_iff_not,decide_eq_false_iff_not];omega
  rw [e1];have:Qaw (Qr c) (A2++B2)=A2++B2:=by
   rcases (by omega:A2.length=0∨B2.length=0) with h | h
   ·rw [List.eq_nil_of_length_eq_zero h,List.nil_append,←sortS_of o sB.2.1 (Cl.refl _)]
   ·rw [List.eq_nil_of_length_eq_zero h,List.append_nil,←sortS_of o sA.2.1 (Cl.refl _)]
  rw [this]
  simp
include hc o in
theorem st_sym_ok:∀(k:Nat)(P A B S:List Int),0<A.length→0<B.length→A.length+B.length≤2 ^ k→Sd (Qr c) A→Sd (Qr c) B→P.length+A.length+B.length+S.length≤500000→(P++(A++(B++S))).all qq=true →
  f84r1F k (P.length:Int) ((P.length+A.length:Nat):Int) ((P.length+A.length+B.length:Nat):Int) (P++(A++(B++S))) ex=some (P++(Qaw (Qr c) (A++B)++S))
 | 0,P,A,B,S,h1,h2,h3,_,_,_,_=>by simp at h3; omega
 | k+1,P,A,B,S,h1,h2,h3,ha,hb,hl,al=>by
  rw [f84r1F]
  by_cases hA:A.length=1
  ·obtain ⟨x,rfl⟩:=List.length_eq_one_iff.1 hA;have:=st_one hc o (f84r1F k) P B S x hb (by simp at hl; omega) al;unfold f84r1n0 f84r1n1;simp only [List.length_cons,List.length_nil,List.cons_append,List.nil_append] at this ⊢;rw [this]; rfl
  ·by_cases hB:B.length=1
   ·obtain ⟨y,rfl⟩:=List.length_eq_one_iff.1 hB;have:=st_last hc o (f84r1F k) P A S y ha (by simp at hl; omega) al;have n1:f84r1n1 (f84r1F k) (P.length:Int) ((P.length+A.length:Nat):Int) ((P.length+A.length+1:Nat):Int) (P++(A++y::S)) ex=some .norm:=by
     unfold f84r1n1 f84r1n2;rw [wrIn (n:=((P.length+A.length:Nat):Int)-(P.length:Int)) (by omega) (by simp at hl; omega),decide_eq_false (by omega)]; rfl
    unfold f84r1n0 f84r1n6;simp only [List.length_cons,List.length_nil,List.cons_append,List.nil_append] at this ⊢;rw [n1];simp only [Option.bind_some];rw [this]; rfl
   ·rw [st_round hc o (f84r1F k) (2 ^ k) (fun P A B S a1 a2 a3 a4 a5 a6 a7=>st_sym_ok k P A B S a1 a2 a3 a4 a5 a6 a7) P A B S (by omega) (by omega) (by rw [Nat.pow_succ] at h3; omega) ha hb hl al];rfl
include hc o in
theorem st_mrg(P A B S:List Int)(h1:0<A.length)(h2:0<B.length)(ha:Sd (Qr c) A)(hb:Sd (Qr c) B)(hl:P.length+A.length+B.length+S.length≤500000) (al:(P++(A++(B++S))).all qq=true) :
  f84r1 (P.length:Int) ((P.length+A.length:Nat):Int) ((P.length+A.length+B.length:Nat):Int) (P++(A++(B++S))) ex=some (P++(Qaw (Qr c) (A++B)++S)) :=
 st_sym_ok hc o 200 P A B S h1 h2 (Nat.le_trans (by omega:A.length+B.length≤500000) (by decide)) ha hb hl al
end
end Go.Proofs.Ytgbolgaodaokcaa
namespace Go.Proofs.Ytgbolgaodaokcaa
set_option linter.unusedVariables false
set_option linter.unusedSimpArgs false
open Go.RowKit
section
variable {ex:List Int} {qq:Int→Bool} {c:Int→Int→Int} (hc:∀x y,qq x=true→qq y=true→f69r1 x y ex=some (c x y)) (o:SWo (Qr c))
include hc o
theorem st_blocks:∀(f:Nat)(D R:List Int),R.length<f→D.length+R.length≤500000→D.length % 20=0→Bl (Qr c) 20 D→(D++R).all qq=true →
  ∃D' R',f78r1n1 f ((D.length+R.length:Nat):Int) ex (D.length:Int) ((D.length+20:Nat):Int) (D++R)=some (.exit0 (D'.length:Int) (D'++R'))∧D'.length % 20=0∧Bl (Qr c) 20 D'∧R'.length<20∧Cl (Qr c) (D++R) (D'++R')∧D'.length+R'.length=D.length+R.length
 | 0,_,_,h,_,_,_,_=>absurd h (Nat.not_lt_zero _)
 | f+1,D,R,hf,hl,hm,hD,al=>by
  rw [f78r1n1]
  by_cases h:20≤R.length
  ·obtain ⟨X,R1,rfl,hX⟩:=cutL_ (l:=R) (n:=20) h;simp only [List.length_append] at *;have k:=st_ins_ok hc o D X R1 (by omega) al;rw [hX] at k;have lS:(Qaw (Qr c) X).length=20:=by rw [sortS_len o,hX]
   rw [decide_eq_true (by omega:((D.length+20:Nat):Int)≤((D.length+(X.length+R1.length):Nat):Int)),cond_true,show D++(X++R1)=D++(X++R1) from rfl,k];simp only [Option.bind_some];obtain ⟨D',R',q1,q2,q3,q4,q5,q6⟩:=st_blocks f (D++Qaw (Qr c) X) R1 (by omega) (by simp<;>omega) (by simp<;>omega) (hD.snoc hm (by decide) (sortS_sd o X) (by omega)) (by have al':=al; (try simp only [List.concat_eq_append,List.all_append,List.all_cons,List.all_nil,Bool.and_eq_true,and_true,true_and,and_self,Bool.and_true,allSort o] at al'); simp only [List.concat_eq_append,List.all_append,List.all_cons,List.all_nil,Bool.and_eq_true,and_true,true_and,and_self,Bool.and_true,allSort o,al']);rw [List.length_append,lS] at q1 q6;refine ⟨D',R',?_,q2,q3,q4,?_,by omega⟩
   ·rw [show wr64 (((D.length+20:Nat):Int)+20)=((D.length+20+20:Nat):Int) by rw [wrIn (by omega) (by omega)]; omega,show D++(Qaw (Qr c) X++R1)=(D++Qaw (Qr c) X)++R1 by simp,show D.length+(X.length+R1.length)=D.length+20+R1.length by omega];exact q1
   ·have:=(((Cl.refl (lt:=Qr c) D).app (Qbh o X)).app (Cl.refl (lt:=Qr c) R1)).trans q5;simpa using this
  ·rw [decide_eq_false (by omega:¬((D.length+20:Nat):Int)≤((D.length+R.length:Nat):Int)),cond_false];exact ⟨D,R,rfl,hm,hD,by omega,Cl.refl _,rfl⟩
theorem st_pairs(s:Nat)(hs:0<s)(hs1:s≤1000000):∀(f:Nat)(D R:List Int),R.length<f→D.length+R.length≤500000→D.length % (2*s)=0→Bl (Qr c) (2*s) D→Bl (Qr c) s R→(D++R).all qq=true →
  ∃D' R',f78r1n3 f ((D.length+R.length:Nat):Int) (s:Int) ex (D.length:Int) ((D.length+2*s:Nat):Int) (D++R)=some (.exit4 (D'.length:Int) (D'++R'))∧D'.length % (2*s)=0∧Bl (Qr c) (2*s) D'∧Bl (Qr c) s R'∧R'.length<2*s∧Cl (Qr c) (D++R) (D'++R')∧D'.length+R'.length=D.length+R.length
 | 0,_,_,h,_,_,_,_,_=>absurd h (Nat.not_lt_zero _)
 | f+1,D,R,hf,hl,hm,hD,hR,al=>by
  rw [f78r1n3]
  by_cases h:2*s≤R.length
  ·obtain ⟨X,R1,rfl,hX,sX,hR1⟩:=hR.uncons (by omega);simp only [List.length_append] at *;obtain ⟨Y,R2,rfl,hY,sY,hR2⟩:=hR1.uncons (by omega);simp only [List.length_append] at *;have k:=st_mrg hc o D X Y R2 (by omega) (by omega) sX sY (by omega) al;rw [hX,hY] at k;have lS:(Qaw (Qr c) (X++Y)).length=2*s:=by rw [sortS_len o,List.length_append]; omega
   rw [decide_eq_true (by omega:((D.length+2*s:Nat):Int)≤((D.length+(X.length+(Y.length+R2.length)):Nat):Int)),cond_true,show wr64 ((D.length:Int)+(s:Int))=((D.length+s:Nat):Int) by rw [wrIn (by omega) (by omega)]; omega,show D.length+2*s=D.length+s+s by omega,k];simp only [Option.bind_some];obtain ⟨D',R',q1,q2,q3,q4,q5,q6,q7⟩:=st_pairs s hs hs1 f (D++Qaw (Qr c) (X++Y)) R2 (by omega) (by simp [lS]<;>omega) (by rw [List.length_append,lS,Nat.add_mod_right]; exact hm) (hD.snoc hm (by omega) (sortS_sd o _) (by omega)) hR2 (by have al':=al; (try simp only [List.concat_eq_append,List.all_append,List.all_cons,List.all_nil,Bool.and_eq_true,and_true,true_and,and_self,Bool.and_true,allSort o] at al'); simp only [List.concat_eq_append,List.all_append,List.all_cons,List.all_nil,Bool.and_eq_true,and_true,true_and,and_self,Bool.and_true,allSort o,al']);rw [List.length_append,lS] at q1 q7
   refine ⟨D',R',?_,q2,q3,q4,q5,?_,by omega⟩
   ·rw [show wr64 ((2:Int)*(s:Int))=((2*s:Nat):Int) by rw [wrIn (by omega) (by omega)]; omega,show wr64 (((D.length+s+s:Nat):Int)+((2*s:Nat):Int))=((D.length+2*s+2*s:Nat):Int) by rw [wrIn (by omega) (by omega)]; omega,show D.length+s+s=D.length+2*s by omega,show D++(Qaw (Qr c) (X++Y)++R2)=(D++Qaw (Qr c) (X++Y))++R2 by simp,show D.length+(X.length+(Y.length+R2.length))=D.length+2*s+R2.length by omega];exact q1
   ·have:=(((Cl.refl (lt:=Qr c) D).app (Qbh o (X++Y))).app (Cl.refl (lt:=Qr c) R2)).trans q6;simpa using this
  ·rw [decide_eq_false (by omega:¬((D.length+2*s:Nat):Int)≤((D.length+R.length:Nat):Int)),cond_false];exact ⟨D,R,rfl,hm,hD,hR,by omega,Cl.refl _,rfl⟩
theorem st_pass(s:Nat)(hs:0<s)(hs1:s≤1000000)(l:List Int)(hl:l.length≤500000)(hb:Bl (Qr c) s l)(al:l.all qq=true):∃l',f78r1n2 (l.length:Int) (s:Int) l ex=some (.norm l')∧Bl (Qr c) (2*s) l'∧Cl (Qr c) l l':=by
 obtain ⟨D,R,q1,q2,q3,q4,q5,q6,q7⟩:=st_pairs hc o s hs hs1 FUEL [] l (Qam (Nat.le_trans (by omega:l.length≤1000000) (by unfold maxLen; decide))) (by simpa using hl) (by simp) (.last List.Pairwise.nil (by simp)) hb (by simpa using al);simp only [List.length_nil,Nat.zero_add,List.nil_append] at q1 q6 q7;unfold f78r1n2;rw [show wr64 ((2:Int)*(s:Int))=((2*s:Nat):Int) by rw [wrIn (by omega) (by omega)]; omega,show (0:Int)=((0:Nat):Int) from rfl,q1];simp only [Option.bind_some];rw [show wr64 ((D.length:Int)+(s:Int))=((D.length+s:Nat):Int) by rw [wrIn (by omega) (by omega)]; omega];have al2:(D++R).all qq=true:=by rw [Cl.allq q6]; exact al
 by_cases h:D.length+s<l.length
 ·obtain ⟨X,Y,rfl,hX,sX,hY⟩:=q4.uncons (by omega);simp only [List.length_append] at *;have sY:=hY.whole (by omega) hs;have k:=st_mrg hc o D X Y [] (by omega) (by omega) sX sY (by simp<;>omega) (by simpa using al2);rw [hX] at k;rw [decide_eq_true (by omega),cond_true,show l.length=D.length+s+Y.length by omega,show D++(X++Y)=D++(X++(Y++[])) by simp,k];refine ⟨_,rfl,?_,?_⟩
  ·rw [List.append_nil];exact q3.snoc q2 (by omega) (sortS_sd o _) (by rw [sortS_len o,List.length_append]; omega)
  ·rw [List.append_nil];exact q6.trans ((Cl.refl _).app (Qbh o _))
 ·rw [decide_eq_false (by omega),cond_false];exact ⟨_,rfl,q3.snoc q2 (by omega) (q4.whole (by omega) hs) (by omega),q6⟩
theorem st_passes:∀(n f s:Nat)(l:List Int),l.length-s≤n→n<f→0<s→s≤1000000→l.length≤500000→Bl (Qr c) s l→l.all qq=true→∃l',f78r1n4 f (l.length:Int) ex (s:Int) l=some (.exit2 l')∧Sd (Qr c) l'∧Cl (Qr c) l l'
 | _,0,_,_,_,h,_,_,_,_,_=>absurd h (Nat.not_lt_zero _)
 | n,f+1,s,l,hn,hf,hs,hs1,hl,hb,al=>by
  rw [f78r1n4]
  by_cases h:s<l.length
  ·obtain ⟨l1,k1,k2,k3⟩:=st_pass hc o s hs hs1 l hl hb al;have hlen:=k3.len;obtain ⟨l',q1,q2,q3⟩:=st_passes (n-1) f (2*s) l1 (by omega) (by omega) (by omega) (by omega) (by omega) k2 (by rw [Cl.allq k3]; exact al);rw [decide_eq_true (by omega),cond_true,k1];simp only [Option.bind_some];rw [show wr64 ((s:Int)*2)=((2*s:Nat):Int) by rw [wrIn (by omega) (by omega)]; omega,←hlen,q1];exact ⟨l',rfl,q2,k3.trans q3⟩
  ·rw [decide_eq_false (by omega),cond_false];exact ⟨l,rfl,hb.whole (by omega) hs,Cl.refl _⟩
theorem st_sorted(l:List Int)(hl:l.length≤500000)(al:l.all qq=true):f68r1 l ex=some (Qaw (Qr c) l):=by
 obtain ⟨D,R,q1,q2,q3,q4,q5,q6⟩:=st_blocks hc o FUEL [] l (Qam (Nat.le_trans (by omega:l.length≤1000000) (by unfold maxLen; decide))) (by simpa using hl) (by simp) (.last List.Pairwise.nil (by simp)) (by simpa using al);simp only [List.length_nil,Nat.zero_add,List.nil_append] at q1 q5 q6;have k:=st_ins_ok hc o D R [] (by omega) (by rw [List.append_nil,Cl.allq q5]; exact al);simp only [List.append_nil] at k;rw [q6] at k;have hb:Bl (Qr c) 20 (D++Qaw (Qr c) R):=q3.snoc q2 (by decide) (sortS_sd o R) (by rw [sortS_len o]; omega);have hcl:Cl (Qr c) l (D++Qaw (Qr c) R):=q5.trans ((Cl.refl _).app (Qbh o R));have hlen:=hcl.len;have alD:(D++Qaw (Qr c) R).all qq=true:=by rw [Cl.allq hcl]; exact al
 obtain ⟨l',k1,k2,k3⟩:=st_passes hc o (D++Qaw (Qr c) R).length FUEL 20 (D++Qaw (Qr c) R) (by omega) (Qam (Nat.le_trans (by omega:(D++Qaw (Qr c) R).length≤1000000) (by unfold maxLen; decide))) (by decide) (by decide) (by omega) hb alD;have e:f78r1 (l.length:Int) l ex=some l':=by
  unfold f78r1 f78r1n0;rw [show (0:Int)=((0:Nat):Int) from rfl,show (20:Int)=((20:Nat):Int) from rfl,q1];simp only [Option.bind_some,k];rw [←hlen,k1]; rfl
 unfold f68r1 f68r1n0;rw [e];simp only [Option.bind_some];rw [sortS_of o k2 (hcl.trans k3)]
end
end Go.Proofs.Ytgbolgaodaokcaa
namespace Go.Proofs.Ytgbolgaodaokcaa
set_option maxRecDepth 100000
theorem alive_t:f11=some true:=by kernel_rfl
end Go.Proofs.Ytgbolgaodaokcaa
