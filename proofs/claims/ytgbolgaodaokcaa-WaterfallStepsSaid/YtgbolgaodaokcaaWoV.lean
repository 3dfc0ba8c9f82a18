/- Several texts in one. No condition. -/
import Derived.Test.YtgbolgaodaokcaaV5
import Derived.Test.YtgbolgaodaokcaaTU
import Derived.Laws.MathBits
import Derived.Test.YtgbolgaodaokcaaWaV
namespace Go.Proofs.Ytgbolgaodaokcaa
set_option linter.unusedVariables false
set_option linter.unusedSimpArgs false
set_option maxRecDepth 100000
open Go.RowKit
theorem wru_eq(n:Int):Qi n=n % 18446744073709551616:=IntKind.wrap_u64 n
theorem wruIn{n:Int}(h0:0≤n)(h1:n<18446744073709551616):Qi n=n:=by rw [wru_eq]; omega
theorem shr32(a:Int):shrK .u64 a 32=a / 4294967296:=by
 unfold shrK;rw [show (2:Int) ^ (min (Int.toNat 32) IntKind.u64.bits)=4294967296 by decide,Int.fdiv_eq_ediv_of_nonneg _ (by decide)]
theorem andL{z:Int}(h0:0≤z)(h1:z<18446744073709551616):andU z 4294967295=z % 4294967296:=and_low32 z h0 h1
theorem andW(z:Int):andU (Qi z) 4294967295=Qi z % 4294967296:=andL (by rw [wru_eq]; omega) (by rw [wru_eq]; omega)
theorem f66_eq{a b:Int}(ha:0≤a)(ha':a<18446744073709551616)(hb:0≤b)(hb':b<18446744073709551616):f66 a b=some (a*b / 18446744073709551616,a*b % 18446744073709551616):=by
 have h:=mul64_arith a b ha ha' hb hb';unfold f66 f66n0;rw [Option.bind_some,andW,andL ha ha',andL hb hb'];simp only [shr32,wru_eq];rw [←h]

theorem len_tab:((List.range 256).all fun i=>decide (at? Qc.data.toList (i:Int)=some (UInt8.ofNat (bitLen i))))=true:=by kernel_rfl
theorem len_at{i:Nat}(h:i<256):∃b:UInt8,at? Qc.data.toList (i:Int)=some b∧b.toNat=bitLen i:=by
 have h1:=List.all_eq_true.1 len_tab i (List.mem_range.2 h);have h8:=bitLen_le8 i h;refine ⟨_,of_decide_eq_true h1,?_⟩;rw [UInt8.toNat_ofNat'];exact Nat.mod_eq_of_lt (by omega)
theorem divC(n k:Nat):((n:Int)) / ((k:Nat):Int)=((n / k:Nat):Int):=(Int.natCast_ediv n k).symm
theorem f82_eq{n:Nat}(h0:0<n)(h:n<2 ^ 56):f82 (n:Int)=some ((bitLen n:Nat):Int):=by
 have hshr:∀m k:Nat,k≤32→shrK .u64 (m:Int) (k:Int)=((m / 2 ^ k:Nat):Int):=fun m k hk=>by
  unfold shrK;rw [Int.toNat_natCast,show min k IntKind.u64.bits=k by show min k 64=k; omega,Int.fdiv_eq_ediv_of_nonneg _ (Int.pow_nonneg (by decide)),show (2:Int) ^ k=((2 ^ k:Nat):Int) by simp,divC]
 have h16:(2:Nat) ^ 16=65536:=by decide
 have h32:(2:Nat) ^ 32=4294967296:=by decide
 have h8:(2:Nat) ^ 8=256:=by decide
 have h56:(2:Nat) ^ 56=72057594037927936:=by decide
 have e1:∃m k:Nat,f82n1 (n:Int)=some (.norm (m:Int) (k:Int))∧bitLen n=k+bitLen m∧m<4294967296∧k≤32:=by
  unfold f82n1
  by_cases c:4294967296≤n
  ·rw [decide_eq_true (by omega),cond_true];refine ⟨n / 2 ^ 32,32,?_,bitLen_shift n 32 (by rw [h32]; omega),by rw [h32]; omega,by omega⟩;rw [show (32:Int)=((32:Nat):Int) from rfl,hshr n 32 (by omega)]
  ·rw [decide_eq_false (by omega),cond_false];exact ⟨n,0,rfl,by omega,by omega,by omega⟩
 obtain ⟨m,k,e1,b1,m1,k1⟩:=e1;have e2:∃m' k':Nat,f82n2 (m:Int) (k:Int)=some (.norm (m':Int) (k':Int))∧bitLen n=k'+bitLen m'∧m'<65536∧k'≤48:=by
  unfold f82n2
  by_cases c:65536≤m
  ·rw [decide_eq_true (by omega),cond_true];refine ⟨m / 2 ^ 16,k+16,?_,by rw [b1,bitLen_shift m 16 (by rw [h16]; omega)]; omega,by rw [h16]; omega,by omega⟩;rw [show (16:Int)=((16:Nat):Int) from rfl,hshr m 16 (by omega),wrIn (by omega) (by omega)];rw [Int.natCast_add]
  ·rw [decide_eq_false (by omega),cond_false];exact ⟨m,k,rfl,b1,by omega,by omega⟩
 obtain ⟨m',k',e2,b2,m2,k2⟩:=e2;unfold f82 f82n0;rw [e1]; simp only [Option.bind_some];rw [e2]; simp only [Option.bind_some]
 by_cases c:256≤m'
 ·obtain ⟨b,t1,t2⟩:=len_at (i:=m' / 256) (by omega);have bl:=bitLen_le8 (m' / 256) (by omega);have bs:=bitLen_shift m' 8 (by rw [h8]; omega);rw [h8] at bs;rw [decide_eq_true (by omega),cond_true,show (8:Int)=((8:Nat):Int) from rfl,hshr m' 8 (by omega),h8,show wru8 (((m' / 256:Nat)):Int)=((m' / 256:Nat):Int) by
   show IntKind.u8.wrap _=_;rw [IntKind.wrap_u8']; omega,t1]
  simp only [Option.bind_some,t2];rw [wrIn (n:=((bitLen (m' / 256):Nat):Int)) (by omega) (by omega),wrIn (n:=(k':Int)+((8:Nat):Int)) (by omega) (by omega),wrIn (by omega) (by omega)];rw [b2,bs]; congr 1; omega
 ·obtain ⟨b,t1,t2⟩:=len_at (i:=m') (by omega);have bl:=bitLen_le8 m' (by omega);rw [decide_eq_false (by omega),cond_false,show wru8 ((m':Nat):Int)=((m':Nat):Int) by
   show IntKind.u8.wrap _=_;rw [IntKind.wrap_u8']; omega,t1]
  simp only [Option.bind_some,t2];rw [wrIn (n:=((bitLen m':Nat):Int)) (by omega) (by omega),wrIn (by omega) (by omega)];rw [b2]; congr 1
theorem f77_eq{n:Nat}(h0:0<n)(h:n<2 ^ 56):∃s:Nat,f77 (n:Int)=some (s:Int)∧1≤s∧s≤63∧2 ^ 63≤n*2 ^ s∧n*2 ^ s<2 ^ 64:=by
 have hb:=bitLen_spec n;have h1:=hb.2 (by omega);have hb0:1≤bitLen n:=by
  rcases Nat.eq_zero_or_pos (bitLen n) with e | e
  ·rw [e] at hb; have:=hb.1; omega
  ·exact e
 have hb1:bitLen n≤56:=by
  rcases Nat.lt_or_ge 56 (bitLen n) with e | e
  ·have:2 ^ 56≤2 ^ (bitLen n-1):=Nat.pow_le_pow_right (by decide) (by omega);omega
  ·exact e
 refine ⟨64-bitLen n,?_,by omega,by omega,?_,?_⟩
 ·unfold f77 f77n0;rw [f82_eq h0 h]; simp only [Option.bind_some];rw [wrIn (by omega) (by omega)]; congr 1; omega
 ·have:2 ^ 63=2 ^ (bitLen n-1)*2 ^ (64-bitLen n):=by rw [←Nat.pow_add]; congr 1; omega
  rw [this];exact Nat.mul_le_mul_right _ h1
 ·have:2 ^ 64=2 ^ (bitLen n)*2 ^ (64-bitLen n):=by rw [←Nat.pow_add]; congr 1; omega
  rw [this];exact Nat.mul_lt_mul_of_pos_right hb.1 (Nat.two_pow_pos _)

structure Kn (a b U d Q:Int):Prop where
 a1:2147483648≤a
 a2:a<4294967296
 b1:0≤b
 b2:b<4294967296
 d1:0≤d
 d2:d<4294967296
 u1:0≤U
 u2:U<a*4294967296+b
 q1:Q*(a*4294967296+b)≤U*4294967296+d
 q2:U*4294967296+d<(Q+1)*(a*4294967296+b)
theorem Kn.q0{a b U d Q:Int}(k:Kn a b U d Q):0≤Q:=by
 rcases Int.lt_or_le Q 0 with h | h
 ·have h1:=k.q2;have:(Q+1)*(a*4294967296+b)≤0:=Int.mul_nonpos_of_nonpos_of_nonneg (by omega) (by have:=k.a1; have:=k.b1; omega);have:=k.u1; have:=k.d1; omega
 ·exact h
theorem Kn.q3{a b U d Q:Int}(k:Kn a b U d Q):Q<4294967296:=by
 rcases Int.lt_or_le Q 4294967296 with h | h
 ·exact h
 ·have h1:=k.q1;have:4294967296*(a*4294967296+b)≤Q*(a*4294967296+b):=Int.mul_le_mul_of_nonneg_right h (by have:=k.a1; have:=k.b1; omega);have:=k.u2; have:=k.d2; omega
theorem Kn.diff{a b U d Q q r:Int}(k:Kn a b U d Q)(h:U=q*a+r):q*(a*4294967296+b)-(U*4294967296+d)=q*b-(4294967296*r+d):=by
 rw [h,Int.mul_add,←Int.mul_assoc]; omega
theorem Kn.cmp{a b U d Q q r:Int}(k:Kn a b U d Q)(h:U=q*a+r):4294967296*r+d<q*b↔Q<q:=by
 have h1:=k.diff h;have hp:0≤a*4294967296+b:=by have:=k.a1; have:=k.b1; omega
 constructor
 ·intro h2;rcases Int.lt_or_le Q q with h3 | h3
  ·exact h3
  ·have:=Int.mul_le_mul_of_nonneg_right h3 hp;have:=k.q1; omega
 ·intro h2;have:=Int.mul_le_mul_of_nonneg_right (show Q+1≤q by omega) hp;have:=k.q2; omega
theorem Kn.test{a b U d Q q r:Int}(k:Kn a b U d Q)(h:U=q*a+r)(hr0:0≤r)(hr:r<4294967296)(hq0:0≤q) :
  (bif decide (4294967296≤q) then true else decide (Qi (Qi (4294967296*r)+d)<Qi (q*b)))=decide (Q<q):=by
 have:=k.b1; have:=k.b2; have:=k.d1; have:=k.d2
 by_cases c:4294967296≤q
 ·have:=k.q3;rw [decide_eq_true c,decide_eq_true (show Q<q by omega)]; rfl
 ·have p:=prod_bound q b hq0 (by omega) k.b1 (by omega);rw [decide_eq_false c,cond_false,wruIn (n:=q*b) p.1 (by omega),wruIn (n:=4294967296*r) (by omega) (by omega),wruIn (by omega) (by omega)]
  congr 1; exact propext (k.cmp h)
theorem Kn.last{a b U d Q q r:Int}(k:Kn a b U d Q)(h:U=q*a+r)(hq:q≤4294967297)(hQ:Q<q)(hr:4294967296≤r+a):q-1=Q:=by
 have h':U=(q-1)*a+(r+a):=by rw [Int.sub_mul]; omega
 have h2:=k.cmp h';have p:(q-1)*b≤4294967296*4294967296:=by
  have:=k.b1; have:=k.b2; have:=k.q0;have h3:=Int.mul_le_mul_of_nonneg_right (show q-1≤4294967296 by omega) k.b1;omega
 have:¬Q<q-1:=fun h3=>by
  have:=h2.2 h3; have:=k.d1; omega
 omega
theorem f67n3_at{y s hi lo a b U d Q:Int}(k:Kn a b U d Q) (ea:shrK .u64 (shlK .u64 y (Qi s)) 32=a) (eb:andU (shlK .u64 y (Qi s)) 4294967295=b) (ed:shrK .u64 (shlK .u64 lo (Qi s)) 32=d) :
  ∀(f:Nat)(q r:Int),U=q*a+r→0≤r→r<4294967296→Q≤q→q≤4294967297→(q-Q).toNat<f→f67n3 f y s hi lo q r=some (.exit0 Q)
 | 0,_,_,_,_,_,_,_,h=>absurd h (Nat.not_lt_zero _)
 | f+1,q,r,hU,hr0,hr,hQ,hq,hf=>by
  have q0:=k.q0;have t:=k.test hU hr0 hr (by omega);have a1:=k.a1; have a2:=k.a2;rw [f67n3,ea];unfold f67n1 f67n2;rw [eb,ed];have e:∀x z:Bool,(bif x then some (f67n2O.norm true) else some (.norm z))=some (.norm (bif x then true else z)):=fun x z=>by cases x<;>rfl
  rw [e,t];simp only [Option.bind_some]
  by_cases c:Q<q
  ·rw [decide_eq_true c];simp only [cond_true,Option.bind_some];rw [wruIn (n:=r+a) (by omega) (by omega),wruIn (n:=q-1) (by omega) (by omega)]
   by_cases c2:4294967296≤r+a
   ·rw [decide_eq_true c2,cond_true,k.last hU hq c c2]
   ·rw [decide_eq_false c2,cond_false];exact f67n3_at k ea eb ed f (q-1) (r+a) (by rw [Int.sub_mul]; omega) (by omega) (by omega) (by omega) (by omega) (by omega)
  ·have:q=Q:=by omega
   rw [decide_eq_false c,this]; rfl
theorem f67n6_at{y s hi lo v a b U d Q:Int}(k:Kn a b U d Q) (ea:shrK .u64 (shlK .u64 y (Qi s)) 32=a) (eb:andU (shlK .u64 y (Qi s)) 4294967295=b) (ed:andU (shlK .u64 lo (Qi s)) 4294967295=d) :
  ∀(f:Nat)(q r:Int),U=q*a+r→0≤r→r<4294967296→Q≤q→q≤4294967297→(q-Q).toNat<f→f67n6 f y s lo v hi r q=some (.exit2 Q)
 | 0,_,_,_,_,_,_,_,h=>absurd h (Nat.not_lt_zero _)
 | f+1,q,r,hU,hr0,hr,hQ,hq,hf=>by
  have q0:=k.q0;have t:=k.test hU hr0 hr (by omega);have a1:=k.a1; have a2:=k.a2;rw [f67n6,ea];unfold f67n4 f67n5;rw [eb,ed];have e:∀x z:Bool,(bif x then some (f67n5O.norm true) else some (.norm z))=some (.norm (bif x then true else z)):=fun x z=>by cases x<;>rfl
  rw [e,t];simp only [Option.bind_some]
  by_cases c:Q<q
  ·rw [decide_eq_true c];simp only [cond_true,Option.bind_some];rw [wruIn (n:=r+a) (by omega) (by omega),wruIn (n:=q-1) (by omega) (by omega)]
   by_cases c2:4294967296≤r+a
   ·rw [decide_eq_true c2,cond_true,k.last hU hq c c2]
   ·rw [decide_eq_false c2,cond_false];exact f67n6_at k ea eb ed f (q-1) (r+a) (by rw [Int.sub_mul]; omega) (by omega) (by omega) (by omega) (by omega) (by omega)
  ·have:q=Q:=by omega
   rw [decide_eq_false c,this]; rfl
theorem Kn.guess{a b U d Q:Int}(k:Kn a b U d Q):U=U / a*a+(U-U / a*a)∧0≤U-U / a*a∧U-U / a*a<4294967296∧Q≤U / a∧U / a≤4294967297:=by
 have a1:=k.a1; have a2:=k.a2;have h1:=Int.mul_ediv_add_emod U a;have h2:=Int.emod_nonneg U (show a≠0 by omega);have h3:=Int.emod_lt_of_pos U (show 0<a by omega);rw [Int.mul_comm a] at h1;refine ⟨by omega,by omega,by omega,?_,?_⟩
 ·have hU:U=U / a*a+(U-U / a*a):=by omega
  rcases Int.lt_or_le (U / a) Q with h | h
  ·exfalso
   have hb:=k.b1; have:=k.q0; have q1:=k.q1;have h4:=Int.mul_le_mul_of_nonneg_right (show U / a+1≤Q by omega) (show 0≤a*4294967296+b by omega);have h5:(U / a+1)*(a*4294967296+b)=U / a*a*4294967296+a*4294967296+(U / a+1)*b:=by
    rw [Int.mul_add,←Int.mul_assoc,Int.add_mul (U / a) 1 a]; omega
   have h6:0≤(U / a+1)*b:=Int.mul_nonneg (by have:=Int.ediv_nonneg k.u1 (show 0≤a by omega); omega) hb;have:=k.d2; omega
  ·exact h
 ·have hb:=k.b2; have hu:=k.u2;rcases Int.lt_or_le 4294967297 (U / a) with h | h
  ·exfalso
   have h4:=Int.mul_le_mul_of_nonneg_right (show 4294967298≤U / a by omega) (show 0≤a by omega);omega
  ·exact h
theorem f67_eq{hi lo y:Int}(hy0:0<y)(hy:y<72057594037927936)(hh0:0≤hi)(hh:hi<y)(hl0:0≤lo)(hl:lo<18446744073709551616) :
  f67 hi lo y=some ((hi*18446744073709551616+lo) / y,(hi*18446744073709551616+lo) % y):=by
 unfold f67 f67n0;rw [decide_eq_false (by omega),cond_false,decide_eq_false (by omega),cond_false]
 by_cases c:hi=0
 ·subst c;rw [decide_eq_true rfl,cond_true,Option.bind_some];rw [Int.tdiv_eq_ediv_of_nonneg hl0,Int.tmod_eq_emod_of_nonneg hl0,Int.zero_mul,Int.zero_add];have h1:lo / y≤lo:=Int.ediv_le_self _ hl0;have h2:=Int.ediv_nonneg hl0 (Int.le_of_lt hy0);rw [wruIn h2 (by omega)]
 ·rw [decide_eq_false c,cond_false];have e56:(2:Nat) ^ 56=72057594037927936:=by decide
  obtain ⟨s,es,s1,s2,p1,p2⟩:=f77_eq (n:=y.toNat) (by omega) (by omega);rw [show ((y.toNat:Nat):Int)=y by omega] at es;rw [es]; simp only [Option.bind_some];generalize hP:(2:Int) ^ s=P;have hPn:((2 ^ s:Nat):Int)=P:=by rw [←hP]; simp
  have hP0:0<P:=by rw [←hP]; exact Int.pow_pos (by decide)
  have e63:(2:Nat) ^ 63=9223372036854775808:=by decide
  have e64:(2:Nat) ^ 64=18446744073709551616:=by decide
  have hY1:9223372036854775808≤y*P:=by
   have:(((2 ^ 63:Nat)):Int)≤((y.toNat*2 ^ s:Nat):Int):=Int.ofNat_le.2 p1;rw [Int.natCast_mul,hPn,show ((y.toNat:Nat):Int)=y by omega,e63] at this;omega
  have hY2:y*P<18446744073709551616:=by
   have:((y.toNat*2 ^ s:Nat):Int)<(((2 ^ 64:Nat)):Int):=Int.ofNat_lt.2 p2;rw [Int.natCast_mul,hPn,show ((y.toNat:Nat):Int)=y by omega,e64] at this;omega
  have ews:Qi (s:Int)=(s:Int):=wruIn (by omega) (by omega);have ew2:Qi (64-(s:Int))=((64-s:Nat):Int):=by rw [wruIn (by omega) (by omega)]; omega
  have eshl:∀x:Int,shlK .u64 x (s:Int)=(x*P) % 18446744073709551616:=fun x=>by
   unfold shlK;rw [Int.toNat_natCast,show min s IntKind.u64.bits=s by show min s 64=s; omega,hP];exact wru_eq _
  generalize hD:(2:Int) ^ (64-s)=D;have hD0:0<D:=by rw [←hD]; exact Int.pow_pos (by decide)
  have hPD:P*D=18446744073709551616:=by
   rw [←hP,←hD,←Int.pow_add,show s+(64-s)=64 by omega]; decide
  have eshr:∀x:Int,shrK .u64 x ((64-s:Nat):Int)=x / D:=fun x=>by
   unfold shrK;rw [Int.toNat_natCast,show min (64-s) IntKind.u64.bits=64-s by show min (64-s) 64=_; omega,hD,Int.fdiv_eq_ediv_of_nonneg _ (by omega)]
  have eshs:∀x:Int,shrK .u64 x (s:Int)=x / P:=fun x=>by
   unfold shrK;rw [Int.toNat_natCast,show min s IntKind.u64.bits=s by show min s 64=_; omega,hP,Int.fdiv_eq_ediv_of_nonneg _ (by omega)]
  have eY:shlK .u64 y (s:Int)=y*P:=by rw [eshl]; omega
  have hhP:hi*P<y*P:=Int.mul_lt_mul_of_pos_right hh hP0;have hhP0:0≤hi*P:=Int.mul_nonneg hh0 (by omega);have eH:shlK .u64 hi (s:Int)=hi*P:=by rw [eshl]; omega
  have hloD0:0≤lo / D:=Int.ediv_nonneg hl0 (by omega);have hloD:lo / D<P:=by
   rw [Int.ediv_lt_iff_lt_mul hD0,hPD]; exact hl
  have eor:orU (hi*P) (lo / D)=hi*P+lo / D:=by
   have hPy:1*P≤y*P:=Int.mul_le_mul_of_nonneg_right (show 1≤y by omega) (show 0≤P by omega);have h1:=u64_or (hi*P) (lo / D) hhP0 (by omega) hloD0 (by omega);have h2:(hi*P).toNat ||| (lo / D).toNat=(hi*P).toNat+(lo / D).toNat:=nat_join s _ _ (by
    have:(hi*P).toNat=hi.toNat*2 ^ s:=by
     apply Int.ofNat_inj.1
     rw [Int.natCast_mul,hPn,Int.toNat_of_nonneg hhP0,Int.toNat_of_nonneg hh0]
    rw [this]; exact Nat.mul_mod_left _ _) (by
    apply Int.ofNat_lt.1
    rw [hPn]; omega)
   rw [h2] at h1;have h3:(((hi*P).toNat+(lo / D).toNat:Nat):Int)=hi*P+lo / D:=by omega
   rw [h3] at h1;exact h1
  have hLo:lo*P=lo / D*18446744073709551616+(lo*P) % 18446744073709551616:=by
   have h1:lo*P / 18446744073709551616=lo / D:=by
    rw [←hPD,Int.mul_comm lo P]; exact Int.mul_ediv_mul_of_pos _ _ hP0
   omega
  rw [ews,ew2,eY,eH,eshr,eor,eshl lo];generalize hL:lo*P % 18446744073709551616=L at *;have hL0:0≤L:=by omega
  have hL1:L<18446744073709551616:=by omega
  generalize hU:hi*P+lo / D=U at *;have hN:(hi*18446744073709551616+lo)*P=U*18446744073709551616+L:=by
   rw [Int.add_mul,hLo,←hU,Int.mul_assoc,Int.mul_comm 18446744073709551616 P,←Int.mul_assoc]; omega
  generalize hNN:hi*18446744073709551616+lo=N at *;have hN0:0≤N:=by omega
  have hUY:U<y*P:=by
   have h1:N*P<y*18446744073709551616*P:=Int.mul_lt_mul_of_pos_right (by omega) hP0;rw [Int.mul_assoc,Int.mul_comm 18446744073709551616 P,←Int.mul_assoc] at h1;omega
  have hU0:0≤U:=by omega
  rw [andL hL0 hL1,shr32,shr32];generalize hY:y*P=Y at *;have ba:2147483648≤Y / 4294967296:=by omega
  have rqt:∀{α:Type} (x:Option α),req true x=x:=fun x=>rfl;rw [decide_eq_true (show (0:Int)≤(s:Int) by omega),decide_eq_true (show (0:Int)≤((64-s:Nat):Int) by omega),decide_eq_false (show ¬Y / 4294967296=0 by omega),Bool.not_false,rqt,rqt,rqt];have kn:∀V d:Int,0≤V→V<Y→0≤d→d<4294967296→Kn (Y / 4294967296) (Y % 4294967296) V d ((V*4294967296+d) / Y):=fun V d v0 v1 d0 d1=>by
   have eY:Y / 4294967296*4294967296+Y % 4294967296=Y:=by omega
   have h1:=Int.mul_ediv_add_emod (V*4294967296+d) Y;have h2:=Int.emod_nonneg (V*4294967296+d) (show Y≠0 by omega);have h3:=Int.emod_lt_of_pos (V*4294967296+d) (show 0<Y by omega);rw [Int.mul_comm Y] at h1;exact ⟨ba,by omega,by omega,by omega,d0,d1,v0,by omega,by rw [eY]; omega,by rw [eY,Int.add_mul]; omega⟩
  have k1:=kn U (L / 4294967296) hU0 hUY (by omega) (by omega);have g1:=k1.guess;have eYs:shlK .u64 y (Qi (s:Int))=Y:=by rw [ews,eY]
  have eLs:shlK .u64 lo (Qi (s:Int))=L:=by rw [ews,eshl,hL]
  rw [Int.tdiv_eq_ediv_of_nonneg hU0];have hfu:(4294967297:Nat)<FUEL:=by unfold FUEL; decide
  rw [wruIn (n:=U / (Y / 4294967296)) (by have:=k1.q0; omega) (by omega),wruIn (n:=U / (Y / 4294967296)*(Y / 4294967296)) (by have:=k1.q0; exact Int.mul_nonneg (by omega) (by omega)) (by omega),wruIn (n:=U-U / (Y / 4294967296)*(Y / 4294967296)) (by omega) (by omega)];rw [f67n3_at k1 (by rw [eYs,shr32]) (by rw [eYs,andL (by omega) hY2]) (by rw [eLs,shr32]) FUEL _ _ g1.1 g1.2.1 g1.2.2.1 g1.2.2.2.1 g1.2.2.2.2 (by have:=k1.q0; omega)];simp only [Option.bind_some];generalize hQ1:(U*4294967296+L / 4294967296) / Y=Q1 at *;have q10:=k1.q0; have q13:=k1.q3;have q11:=k1.q1; have q12:=k1.q2;rw [show Y / 4294967296*4294967296+Y % 4294967296=Y by omega] at q11 q12;rw [Int.add_mul] at q12;have eU2:Qi (Qi (Qi (U*4294967296)+L / 4294967296)-Qi (Q1*Y))=U*4294967296+L / 4294967296-Q1*Y:=by
   simp only [wru_eq]; omega
  rw [eU2];generalize hU2:U*4294967296+L / 4294967296-Q1*Y=U2 at *;have k2:=kn U2 (L % 4294967296) (by omega) (by omega) (by omega) (by omega);have g2:=k2.guess;rw [Int.tdiv_eq_ediv_of_nonneg (show 0≤U2 by omega)];rw [wruIn (n:=U2 / (Y / 4294967296)) (by have:=k2.q0; omega) (by omega),wruIn (n:=U2 / (Y / 4294967296)*(Y / 4294967296)) (by have:=k2.q0; exact Int.mul_nonneg (by omega) (by omega)) (by omega),wruIn (n:=U2-U2 / (Y / 4294967296)*(Y / 4294967296)) (by omega) (by omega)];rw [f67n6_at k2 (by rw [eYs,shr32]) (by rw [eYs,andL (by omega) hY2]) (by rw [eLs,andL hL0 hL1]) FUEL _ _ g2.1 g2.2.1 g2.2.2.1 g2.2.2.2.1 g2.2.2.2.2 (by have:=k2.q0; omega)];simp only [Option.bind_some];generalize hQ0:(U2*4294967296+L % 4294967296) / Y=Q0 at *;have q00:=k2.q0; have q03:=k2.q3;have q01:=k2.q1; have q02:=k2.q2;rw [show Y / 4294967296*4294967296+Y % 4294967296=Y by omega] at q01 q02
  rw [Int.add_mul] at q02;have eR:Qi (Qi (Qi (U2*4294967296)+L % 4294967296)-Qi (Q0*Y))=U2*4294967296+L % 4294967296-Q0*Y:=by
   simp only [wru_eq]; omega
  have eK:Qi (Qi (Q1*4294967296)+Q0)=Q1*4294967296+Q0:=by rw [wruIn (n:=Q1*4294967296) (by omega) (by omega),wruIn (by omega) (by omega)]
  rw [eR,eK,eshs];have hfin:N*P=(Q1*4294967296+Q0)*Y+(U2*4294967296+L % 4294967296-Q0*Y):=by
   rw [Int.add_mul,Int.mul_assoc Q1,Int.mul_comm 4294967296 Y,←Int.mul_assoc Q1]; omega
  generalize hK:Q1*4294967296+Q0=K at *;have hR:U2*4294967296+L % 4294967296-Q0*Y=(N-K*y)*P:=by
   rw [Int.sub_mul,Int.mul_assoc K y P,hY]; omega
  rw [hR,Int.mul_ediv_cancel _ (by omega)];have r0:0≤N-K*y:=by
   rcases Int.lt_or_le (N-K*y) 0 with h | h
   ·have:(N-K*y)*P<0:=Int.mul_neg_of_neg_of_pos h hP0;omega
   ·exact h
  have r1:N-K*y<y:=by
   rcases Int.lt_or_le (N-K*y) y with h | h
   ·exact h
   ·have:=Int.mul_le_mul_of_nonneg_right h (show 0≤P by omega);omega
  have:=(Int.ediv_emod_unique (a:=N) (b:=y) (r:=N-K*y) (q:=K) hy0).2 ⟨by rw [Int.mul_comm y K]; omega,r0,r1⟩;rw [this.1,this.2]
theorem share_eq{n w S:Int}(hS0:0<S)(hS:S≤1125899906842624)(hn0:0≤n)(hn:n≤S)(hw0:0≤w)(hw:w≤S) :
  (f66 (Qi n) (Qi w)).bind (fun x=>f67 x.1 x.2 (Qi S))=some (n*w / S,n*w % S):=by
 have hp0:=Int.mul_nonneg hn0 hw0;have hp:n*w≤S*S:=Int.mul_le_mul hn hw hw0 (by omega);have hSS:S*S≤S*1125899906842624:=Int.mul_le_mul_of_nonneg_left hS (by omega);rw [wruIn hn0 (by omega),wruIn hw0 (by omega),wruIn (n:=S) (by omega) (by omega),f66_eq hn0 (by omega) hw0 (by omega),Option.bind_some];rw [f67_eq hS0 (by omega) (by omega) (by omega) (by omega) (by omega)];rw [show n*w / 18446744073709551616*18446744073709551616+n*w % 18446744073709551616=n*w by omega]
end Go.Proofs.Ytgbolgaodaokcaa
namespace Go.Proofs.Ytgbolgaodaokcaa
set_option linter.unusedVariables false
set_option linter.unusedSimpArgs false
set_option maxRecDepth 100000
open Go.RowKit
def sm:List Int→Int
 | []=>0
 | x::r=>x+sm r
theorem sm_app:∀a b:List Int,sm (a++b)=sm a+sm b
 | [],b=>by simp [sm]
 | x::a,b=>by rw [List.cons_append,sm,sm,sm_app a b]; omega
theorem Qbd:∀{l:List Int},(∀x∈l,0≤x)→0≤sm l
 | [],_=>by simp [sm]
 | x::r,h=>by
  have h1:=h x List.mem_cons_self;have h2:=Qbd fun y hy=>h y (List.mem_cons_of_mem x hy);rw [sm]; omega
theorem sm_perm{a b:List Int}(h:a.Perm b):sm a=sm b:=by
 induction h with
 | nil=>rfl
 | cons x _ ih=>rw [sm,sm,ih]
 | swap x y l=>simp only [sm]; omega
 | trans _ _ h1 h2=>exact h1.trans h2
theorem sm_rep(k:Nat):sm (List.replicate k 0)=0:=by
 induction k with
 | zero=>rfl
 | succ k ih=>rw [List.replicate_succ,sm,ih]; rfl
theorem sm_le{l:List Int}(h:∀x∈l,0≤x){x:Int}(hx:x∈l):x≤sm l:=by
 obtain ⟨a,b,rfl⟩:=List.append_of_mem hx;have h1:=Qbd fun y hy=>h y (List.mem_append_left _ hy);have h2:=Qbd fun y hy=>h y (List.mem_append_right _ (List.mem_cons_of_mem _ hy));rw [sm_app,sm]; omega
theorem sm_bound{S:Int} : ∀{l:List Int},(∀x∈l,x≤S)→sm l≤(l.length:Int)*S
 | [],_=>by simp [sm]
 | x::r,h=>by
  have h1:=h x List.mem_cons_self;have h2:=sm_bound fun y hy=>h y (List.mem_cons_of_mem x hy);rw [sm,List.length_cons,Int.natCast_add,Int.add_mul]; omega
theorem f70_eq(a b:Int):f70 a b=some (cmpI a b):=by
 have f79_eq:∀a,f79 a=some false:=fun a=>by unfold f79 f79n0; simp
 unfold f70 f70n0 cmpI;rw [f79_eq,f79_eq];simp only [Option.bind_some,cond_false];cases decide (a<b)<;>cases decide (b<a)<;>rfl
theorem f64n2L_eq(bg:List Int):∀(l:List Int)(v k:Int),f64_65n2L bg l (wr64 v) k=some (.exit0 (wr64 (v+sm l)))
 | [],v,k=>by rw [f64_65n2L,sm,Int.add_zero]
 | x::r,v,k=>by
  have:f65 x=some x:=rfl;rw [f64_65n2L,this,Option.bind_some,wrL,f64n2L_eq bg r,sm];rw [show v+x+sm r=v+(x+sm r) by omega]
theorem f64_eq{l:List Int}(hl:l.length≤maxLen)(h0:∀x∈l,0≤x)(h:sm l≤1125899906842624):f64_65 l=some (sm l):=by
 have h1:=Qbd h0;unfold f64_65 f64_65n0 f64_65n1;have h2:=f64n2L_eq l l 0 0;rw [show wr64 0=0 from rfl] at h2;rw [f64_65n2_run l 0 hl,h2];simp only [Option.bind_some];rw [Int.zero_add,wrIn (by omega) (by omega)]

def qL(n S:Int)(ws:List Int):List Int:=ws.map fun w=>n*w / S
def rL(n S:Int)(ws:List Int):List Int:=ws.map fun w=>n*w % S
def ids(k:Nat):List Int:=(List.range k).map fun i:Nat=>(i:Int)
theorem ids_succ(k:Nat):ids (k+1)=ids k++[(k:Int)]:=by unfold ids; rw [List.range_succ,List.map_append]; rfl
theorem ids_len(k:Nat):(ids k).length=k:=by simp [ids]
theorem ids_mem{k:Nat}{z:Int} : z∈ids k↔0≤z∧z<(k:Int):=by
 unfold ids;rw [List.mem_map]
 constructor
 ·rintro ⟨i,hi,rfl⟩
  rw [List.mem_range] at hi; omega
 ·intro h;exact ⟨z.toNat,List.mem_range.2 (by omega),by omega⟩
theorem ids_lt(k:Nat):(ids k).Pairwise fun a b=>a<b:=by
 unfold ids;rw [List.pairwise_map];exact List.pairwise_lt_range.imp fun h=>by omega
theorem qL_len(n S:Int)(ws:List Int):(qL n S ws).length=ws.length:=by simp [qL]
theorem rL_len(n S:Int)(ws:List Int):(rL n S ws).length=ws.length:=by simp [rL]
section
variable {n S:Int} (hS0:0<S) (hS:S≤1125899906842624) (hn0:0≤n) (hn:n≤S)
include hS0 hn0 hn
theorem q_le{w:Int}(hw:0≤w):0≤n*w / S∧n*w / S≤w:=by
 have h0:=Int.mul_nonneg hn0 hw;refine ⟨Int.ediv_nonneg h0 (by omega),?_⟩;have h1:=Int.mul_le_mul_of_nonneg_right hn hw;have h2:=Int.ediv_le_ediv hS0 h1;rw [Int.mul_ediv_cancel_left _ (by omega)] at h2;exact h2
theorem qL_le:∀{ws:List Int},(∀x∈ws,0≤x)→0≤sm (qL n S ws)∧sm (qL n S ws)≤sm ws
 | [],_=>by simp [qL,sm]
 | w::r,h=>by
  have h1:=q_le hS0 hn0 hn (h w List.mem_cons_self);have h2:=qL_le fun y hy=>h y (List.mem_cons_of_mem w hy);unfold qL at h2 ⊢;rw [List.map_cons,sm,sm]; omega
omit hS0 hn0 hn in
theorem qr_sum:∀ws:List Int,sm (qL n S ws)*S+sm (rL n S ws)=n*sm ws
 | []=>by simp [qL,rL,sm]
 | w::r=>by
  have h1:=Int.mul_ediv_add_emod (n*w) S;have h2:=qr_sum r;unfold qL rL at h2 ⊢;rw [List.map_cons,List.map_cons,sm,sm,sm,Int.add_mul,Int.mul_add,Int.mul_comm (n*w / S) S];omega
omit hn0 hn in
theorem rL_mem{ws:List Int}{x:Int}(h:x∈rL n S ws):0≤x∧x<S:=by
 unfold rL at h;obtain ⟨w,_,rfl⟩:=List.mem_map.1 h;exact ⟨Int.emod_nonneg _ (by omega),Int.emod_lt_of_pos _ hS0⟩
include hS in
theorem f55n2L_at{ws:List Int}(h0:∀x∈ws,0≤x)(hsm:sm ws=S):∀(rest pre:List Int),ws=pre++rest →
  f55n2L n S ws rest (n-sm (qL n S pre)) (pre.length:Int) (qL n S pre++List.replicate rest.length 0) (ids pre.length++List.replicate rest.length 0) (rL n S pre++List.replicate rest.length 0)=some (.exit0 (n-sm (qL n S ws)) (qL n S ws) (ids ws.length) (rL n S ws))
 | [],pre,h=>by
  rw [List.append_nil] at h;subst h;rw [f55n2L]; simp
 | w::rest,pre,h=>by
  have hw:0≤w:=h0 w (by rw [h]; simp);have hw2:w≤S:=by rw [←hsm]; exact sm_le h0 (by rw [h]; simp)
  have hs:=share_eq hS0 hS hn0 hn hw hw2;have hq:=q_le hS0 hn0 hn hw;have hp:=qL_le hS0 hn0 hn (ws:=pre++[w]) fun x hx=>h0 x (by rw [h]; simp at hx ⊢; rcases hx with hx | hx<;>simp [hx]);have hp2:sm (pre++[w])≤S:=by
   rw [←hsm,h,show pre++w::rest=(pre++[w])++rest by simp,sm_app (pre++[w])];have:=Qbd fun x hx=>h0 x (by rw [h]; exact List.mem_append_right _ (List.mem_cons_of_mem w hx));omega
  have eq1:qL n S (pre++[w])=qL n S pre++[n*w / S]:=by simp [qL]
  have er1:rL n S (pre++[w])=rL n S pre++[n*w % S]:=by simp [rL]
  rw [eq1,sm_app,sm,sm] at hp;have ih:=f55n2L_at h0 hsm rest (pre++[w]) (by rw [h]; simp);rw [f55n2L];cases hm:f66 (Qi n) (Qi w) with
  | none=>rw [hm] at hs; cases hs
  | some p =>
   rw [hm,Option.bind_some] at hs;rw [Option.bind_some,hs,Option.bind_some];rw [List.length_cons,List.replicate_succ];rw [Qay (l:=qL n S pre++0::List.replicate rest.length 0) rfl (qL_len n S pre).symm,Qay (l:=rL n S pre++0::List.replicate rest.length 0) rfl (rL_len n S pre).symm,Qay (l:=ids pre.length++0::List.replicate rest.length 0) rfl (ids_len pre.length).symm];simp only [Option.bind_some];rw [show Int.toNat (pre.length:Int)=pre.length from rfl,set_len (l:=qL n S pre++0::List.replicate rest.length 0) rfl (qL_len n S pre).symm,set_len (l:=rL n S pre++0::List.replicate rest.length 0) rfl (rL_len n S pre).symm,set_len (l:=ids pre.length++0::List.replicate rest.length 0) rfl (ids_len pre.length).symm];rw [wrIn (n:=n*w / S) (by omega) (by omega),wrIn (by omega) (by omega)];rw [eq1,er1,sm_app,sm,sm,List.length_append,List.length_cons,List.length_nil,ids_succ] at ih
   rw [show n-(sm (qL n S pre)+(n*w / S+0))=n-sm (qL n S pre)-n*w / S by omega,show ((pre.length+(0+1):Nat):Int)=(pre.length:Int)+1 by omega] at ih;simpa using ih
end
def bump:List Int→List Int→List Int
 | o,[]=>o
 | o,i::T=>bump (o.set i.toNat (o.getD i.toNat 0+1)) T
theorem bump_len:∀(T o:List Int),(bump o T).length=o.length
 | [],o=>rfl
 | i::T,o=>by rw [bump,bump_len T]; simp
theorem sm_set{o:List Int}{i:Nat}(h:i<o.length)(v:Int):sm (o.set i v)=sm o-o.getD i 0+v:=by
 obtain ⟨a,b,e,hl⟩:∃a b,o=a++o[i]::b∧a.length=i:=⟨o.take i,o.drop (i+1),by rw [←List.drop_eq_getElem_cons h,List.take_append_drop],by rw [List.length_take]; omega⟩;have h1:o.getD i 0=o[i]:=by simp [List.getD,h]
 rw [h1];generalize o[i]=x at e;subst e;rw [set_len rfl hl.symm,sm_app,sm_app,sm,sm]; omega
theorem bump_sum:∀(T o:List Int),(∀z∈T,0≤z∧z<(o.length:Int))→sm (bump o T)=sm o+T.length
 | [],o,_=>by simp [bump]
 | i::T,o,h=>by
  have hi:=h i List.mem_cons_self;rw [bump,bump_sum T _ fun z hz=>by rw [List.length_set]; exact h z (List.mem_cons_of_mem i hz),sm_set (by omega),List.length_cons];omega
theorem bump_at:∀(T o:List Int)(i:Nat),T.Nodup→(∀z∈T,0≤z∧z<(o.length:Int))→(bump o T).getD i 0=o.getD i 0+(if (i:Int)∈T then 1 else 0)
 | [],o,i,_,_=>by simp [bump]
 | j::T,o,i,hn,h=>by
  have hj:=h j List.mem_cons_self;have hn':=List.nodup_cons.1 hn;rw [bump,bump_at T _ i hn'.2 fun z hz=>by rw [List.length_set]; exact h z (List.mem_cons_of_mem j hz)]
  by_cases e:(i:Int)=j
  ·have e':j.toNat=i:=by omega
   rw [if_neg (by rw [e]; exact hn'.1),if_pos (by rw [e]; exact List.mem_cons_self),e'];have:i<o.length:=by omega
   simp [List.getD,List.getElem?_set,this]
  ·have e':j.toNat≠i:=by omega
   have:(o.set j.toNat (o.getD j.toNat 0+1)).getD i 0=o.getD i 0:=by simp [List.getD,List.getElem?_set,e']
   rw [this]
   by_cases k:(i:Int)∈T
   ·rw [if_pos k,if_pos (List.mem_cons_of_mem _ k)]
   ·rw [if_neg k,if_neg (by rw [List.mem_cons]; exact fun h=>h.elim e k)]
theorem f55n4_at{m:Int}{sl:List Int}(hm0:0≤m)(hm:m≤(sl.length:Int))(hb:sl.length≤100000):∀(T:List Int)(f t:Nat)(o:List Int),(sl.take m.toNat).drop t=T→T.length<f→(∀z∈T,0≤z∧z<(o.length:Int))→(∀x∈o,0≤x∧x+(T.length:Int)≤1152921504606846976) →
  f55n4 f m sl (t:Int) o=some (.exit2 (bump o T))
 | _,0,_,_,_,h,_,_=>absurd h (Nat.not_lt_zero _)
 | [],f+1,t,o,hd,_,_,_=>by
  have hl:=Qcb hd;rw [List.length_take] at hl;rw [f55n4,Nat.sub_zero,decide_eq_false (by omega),cond_false,bump]
 | z::T,f+1,t,o,hd,hf,hr,hv=>by
  obtain ⟨h1,h2,h3⟩:=dropAt hd;rw [List.length_take] at h2;simp only [List.length_cons] at hf hv;have hz:=hr z List.mem_cons_self;have hx:o[z.toNat]∈o:=List.getElem_mem (by omega);have hxv:=hv _ hx;have eg:o.getD z.toNat 0=o[z.toNat]'(by omega):=by simp [List.getD,show z.toNat<o.length by omega]
  rw [f55n4,Nat.sub_zero,decide_eq_true (by omega),cond_true,List.drop_zero];have rqt:∀{α:Type} (x:Option α),req true x=x:=fun x=>rfl;rw [decide_eq_true (by omega:0+m.toNat≤sl.length),rqt,h1];simp only [Option.bind_some];rw [show at? o z=some (o[z.toNat]'(by omega)) by
   have:=at_in (l:=o) (k:=z.toNat) (by omega)
   rwa [show ((z.toNat:Nat):Int)=z by omega] at this]
  simp only [Option.bind_some];rw [wrSucc (by omega),wrIn (n:=o[z.toNat]+1) (by omega) (by omega),bump,eg];refine f55n4_at hm0 hm hb T f (t+1) _ h3 (by omega) (fun y hy=>by rw [List.length_set]; exact hr y (List.mem_cons_of_mem z hy)) fun x hx=>?_;rcases List.mem_or_eq_of_mem_set hx with hx | rfl
  ·have:=hv x hx; omega
  ·omega

def rv(rs:List Int)(z:Int):Int:=rs.getD z.toNat 0
def cQ(rs:List Int)(x y:Int):Int:=cmpI (-(rv rs x)) (-(rv rs y))
theorem cQ_neg{rs:List Int}{x y:Int} : cQ rs x y<0↔rv rs y<rv rs x:=by unfold cQ; rw [cmpI_neg]; omega
theorem cQ_swo(rs:List Int):SWo fun x y=>decide (cQ rs x y<0):=(Cmp.int fun x=>-(rv rs x)).swo
theorem at_rv{rs:List Int}{z:Int}(h0:0≤z)(h:z<(rs.length:Int)):at? rs z=some (rv rs z):=by
 have:=at_in (l:=rs) (k:=z.toNat) (by omega);rw [show ((z.toNat:Nat):Int)=z by omega] at this;rw [this]; simp [rv,List.getD,show z.toNat<rs.length by omega]
theorem f69_eq{rs:List Int}(x y:Int) (hx:decide (0≤x∧x<(rs.length:Int))=true) (hy:decide (0≤y∧y<(rs.length:Int))=true):f69r1 x y rs=some (cQ rs x y):=by
 have hx':=of_decide_eq_true hx;have hy':=of_decide_eq_true hy;unfold f69r1 f69r1n0;rw [at_rv hx'.1 hx'.2,at_rv hy'.1 hy'.2];simp only [Option.bind_some,f70_eq]
 congr 1
 unfold cQ cmpI;rw [show decide (-(rv rs x) < -(rv rs y))=decide (rv rs y<rv rs x) by congr 1; apply propext; omega,show decide (-(rv rs y) < -(rv rs x))=decide (rv rs x<rv rs y) by congr 1; apply propext; omega]
abbrev ltR(rs:List Int):Int→Int→Bool:=fun x y=>decide (cQ rs x y<0)
def ordR(rs:List Int):List Int:=Qaw (ltR rs) (ids rs.length)
theorem f68_eq{rs:List Int}(h:rs.length≤100000):f68r1 (ids rs.length) rs=some (ordR rs) :=
 st_sorted (qq:=fun z=>decide (0≤z∧z<(rs.length:Int))) f69_eq (cQ_swo rs) (ids rs.length) (by rw [ids_len]; omega) (by
  rw [List.all_eq_true];intro z hz;exact decide_eq_true (ids_mem.1 hz))
def bf(rs:List Int)(a b:Int):Prop:=rv rs b<rv rs a∨(rv rs b=rv rs a∧a<b)
theorem insS_bf{rs:List Int}(x:Int):∀{l:List Int},(∀z∈l,x<z)→l.Pairwise (bf rs)→(insS (ltR rs) x l).Pairwise (bf rs)
 | [],_,_=>by simp [insS]
 | y::ys,hx,h=>by
  have h':=List.pairwise_cons.1 h;rw [insS]
  by_cases k:cQ rs y x<0
  ·rw [show ltR rs y x=true from decide_eq_true k,cond_true];refine List.pairwise_cons.2 ⟨fun z hz=>?_,insS_bf x (fun z hz=>hx z (List.mem_cons_of_mem y hz)) h'.2⟩;rcases List.mem_cons.1 ((insS_perm x ys).mem_iff.1 hz) with rfl | hz
   ·exact .inl (cQ_neg.1 k)
   ·exact h'.1 z hz
  ·rw [show ltR rs y x=false from decide_eq_false k,cond_false];rw [cQ_neg] at k;refine List.pairwise_cons.2 ⟨fun z hz=>?_,h⟩;have hxz:=hx z hz;rcases List.mem_cons.1 hz with rfl | hz
   ·unfold bf; omega
   ·have:=h'.1 z hz;unfold bf at this ⊢; omega
theorem sort_bf{rs:List Int} : ∀{l:List Int},(l.Pairwise fun a b=>a<b)→(Qaw (ltR rs) l).Pairwise (bf rs)
 | [],_=>List.Pairwise.nil
 | x::l,h=>by
  have h':=List.pairwise_cons.1 h;exact insS_bf x (fun z hz=>h'.1 z ((Qbh (cQ_swo rs) l).mem.1 hz)) (sort_bf h'.2)
theorem ordR_perm(rs:List Int):(ordR rs).Perm (ids rs.length):=(Qbh (cQ_swo rs) _).1
theorem ordR_bf(rs:List Int):(ordR rs).Pairwise (bf rs):=sort_bf (ids_lt _)
theorem ordR_len(rs:List Int):(ordR rs).length=rs.length:=by rw [(ordR_perm rs).length_eq,ids_len]
theorem ordR_nodup(rs:List Int):(ordR rs).Nodup:=(ordR_bf rs).imp fun {a b} h e=>by unfold bf at h; rw [e] at h; omega
theorem ordR_mem{rs:List Int}{z:Int} : z∈ordR rs↔0≤z∧z<(rs.length:Int):=by rw [(ordR_perm rs).mem_iff,ids_mem]
theorem ids_rv(rs:List Int):(ids rs.length).map (rv rs)=rs:=by
 apply List.ext_getElem
 ·simp [ids]
 ·intro i h1 h2;simp [ids,rv,List.getD,h2]
theorem ordR_sum(rs:List Int):sm ((ordR rs).map (rv rs))=sm rs:=by
 rw [sm_perm ((ordR_perm rs).map (rv rs)),ids_rv]
theorem rv_mem{rs:List Int}{z:Int}(h:0≤z∧z<(rs.length:Int)):rv rs z∈rs:=by
 have:rv rs z=rs[z.toNat]'(by omega):=by simp [rv,List.getD,show z.toNat<rs.length by omega]
 rw [this]; exact List.getElem_mem _
theorem ordR_pos{rs:List Int}{S m:Int}(hS:0<S)(h:∀x∈rs,0≤x∧x<S)(hm:m*S=sm rs){z:Int}(hz:z∈(ordR rs).take m.toNat):0<rv rs z:=by
 obtain ⟨a,b,e⟩:=List.append_of_mem hz;have hzz:=rv_mem (ordR_mem.1 (List.mem_of_mem_take hz));rcases Int.lt_or_le 0 (rv rs z) with k | k
 ·exact k
 ·exfalso
  have eL:ordR rs=a++z::(b++(ordR rs).drop m.toNat):=by
   have:=List.take_append_drop m.toNat (ordR rs);rw [e] at this;rw [List.append_assoc,List.cons_append] at this;exact this.symm
  have hp:=ordR_bf rs;rw [eL] at hp;have hp2:=List.pairwise_cons.1 (List.pairwise_append.1 hp).2.1;generalize hU:b++(ordR rs).drop m.toNat=U at eL hp2;have hall:∀y∈ordR rs,0≤rv rs y∧rv rs y<S:=fun y hy=>h _ (rv_mem (ordR_mem.1 hy));have h0:sm (U.map (rv rs))≤0:=by
   have:=sm_bound (S:=0) (l:=U.map (rv rs)) fun x hx=>by
    obtain ⟨y,hy,rfl⟩:=List.mem_map.1 hx;have:=hp2.1 y hy;unfold bf at this; omega
   omega
  have h1:=sm_bound (S:=S) (l:=a.map (rv rs)) fun x hx=>by
   obtain ⟨y,hy,rfl⟩:=List.mem_map.1 hx;have:=hall y (by rw [eL]; exact List.mem_append_left _ hy); omega
  have hs:=ordR_sum rs;rw [eL,List.map_append,List.map_cons,sm_app,sm] at hs;rw [List.length_map] at h1;have hlen:a.length<m.toNat:=by
   have:=congrArg List.length e;rw [List.length_take,List.length_append,List.length_cons] at this; omega
  have h2:(a.length:Int)*S<m*S:=Int.mul_lt_mul_of_pos_right (by omega) hS;omega

def lft(n S:Int)(ws:List Int):Int:=n-sm (qL n S ws)
def tops(n S:Int)(ws:List Int):List Int:=(ordR (rL n S ws)).take (lft n S ws).toNat
def divL(n:Int)(ws:List Int):List Int:=bif decide (sm ws=0) then List.replicate ws.length 0 else bump (qL n (sm ws) ws) (tops n (sm ws) ws)
section
variable {n S:Int} {ws:List Int} (hS0:0<S) (hsm:sm ws=S)
include hS0 hsm
omit hS0 in
theorem lft_mul:lft n S ws*S=sm (rL n S ws):=by
 have h:=qr_sum (n:=n) (S:=S) ws;unfold lft;rw [Int.sub_mul];rw [hsm] at h; omega
theorem lft_pos:0≤lft n S ws:=by
 have h1:=lft_mul (n:=n) hsm;have h2:=Qbd (l:=rL n S ws) fun x hx=>(rL_mem hS0 hx).1;rcases Int.lt_or_le (lft n S ws) 0 with h | h
 ·have:=Int.mul_neg_of_neg_of_pos h hS0; omega
 ·exact h
theorem lft_le:lft n S ws≤(ws.length:Int):=by
 have h1:=lft_mul (n:=n) hsm;have h2:=sm_bound (S:=S) (l:=rL n S ws) fun x hx=>by have:=rL_mem hS0 hx; omega
 rw [rL_len] at h2;rcases Int.lt_or_le (ws.length:Int) (lft n S ws) with h | h
 ·have:=Int.mul_lt_mul_of_pos_right h hS0; omega
 ·exact h
theorem tops_len:((tops n S ws).length:Int)=lft n S ws:=by
 have h1:=lft_pos (n:=n) hS0 hsm;have h2:=lft_le (n:=n) hS0 hsm;unfold tops;rw [List.length_take,ordR_len,rL_len]; omega
omit hS0 hsm in
theorem tops_mem{z:Int}(h:z∈tops n S ws):0≤z∧z<(ws.length:Int):=by
 have:=ordR_mem.1 (List.mem_of_mem_take h)
 rwa [rL_len] at this
end
theorem f55_eq{n:Int}{ws:List Int}(hl:ws.length≤100000)(h0:∀x∈ws,0≤x)(hb:sm ws≤1125899906842624)(hn0:0≤n)(hn:n≤sm ws):f55 n ws=some (divL n ws):=by
 have hs0:=Qbd h0;have rqt:∀{α:Type} (x:Option α),req true x=x:=fun x=>rfl;unfold f55 f55n0;rw [f64_eq (maxSmall (by omega)) h0 hb];simp only [Option.bind_some];rw [decide_eq_true (show (0:Int)≤(ws.length:Int) by omega),rqt,show Int.toNat (ws.length:Int)=ws.length from rfl,fitSmall (by omega) (by decide),rqt];unfold divL
 by_cases hz:sm ws=0
 ·rw [decide_eq_true hz]; rfl
 ·rw [decide_eq_false hz,cond_false,cond_false];have hS0:0<sm ws:=by omega
  have h1:f55n1 n ws (sm ws)=some (.norm (lft n (sm ws) ws) (qL n (sm ws) ws) (ids ws.length) (rL n (sm ws) ws)):=by
   unfold f55n1;have:=f55n2L_at hS0 hb hn0 hn h0 rfl ws [] rfl;simp only [qL,rL,ids,List.map_nil,List.length_nil,List.range_zero,List.nil_append,sm,Int.sub_zero,Int.natCast_zero] at this;rw [f55n2_run n (sm ws) ws n _ _ _ (maxSmall (by omega)),show Int.toNat (ws.length:Int)=ws.length from rfl,this];rfl
  rw [h1];simp only [Option.bind_some];have hrl:=rL_len n (sm ws) ws;have h2:=f68_eq (rs:=rL n (sm ws) ws) (by omega);rw [hrl] at h2;rw [h2];simp only [Option.bind_some];have k1:=lft_pos (n:=n) (ws:=ws) hS0 rfl;have k2:=lft_le (n:=n) (ws:=ws) hS0 rfl;have k3:=tops_len (n:=n) (ws:=ws) hS0 rfl;have k4:=ordR_len (rL n (sm ws) ws);unfold f55n3;rw [show cutB 0 (lft n (sm ws) ws) (ordR (rL n (sm ws) ws)).length=true from decide_eq_true (by omega),rqt];have h3:=f55n4_at (m:=lft n (sm ws) ws) (sl:=ordR (rL n (sm ws) ws)) k1 (by omega) (by omega) (tops n (sm ws) ws) FUEL 0 (qL n (sm ws) ws) (by rw [List.drop_zero]; rfl) (fuelSmall (by omega)) (fun z hz=>by rw [qL_len]; exact tops_mem hz) (fun x hx=>by
   unfold qL at hx;obtain ⟨w,hw,rfl⟩:=List.mem_map.1 hx;have hw2:=sm_le h0 hw;have:=q_le hS0 hn0 hn (h0 w hw);omega)
  rw [show (0:Int)=((0:Nat):Int) from rfl,h3];rfl
structure DivOK (n:Int) (ws out:List Int):Prop where
 len:out.length=ws.length
 sum:sm out=n
 each:∀i<ws.length,0≤out.getD i 0∧out.getD i 0≤ws.getD i 0
 near:∀i<ws.length,0<sm ws→-(sm ws)<out.getD i 0*sm ws-n*ws.getD i 0∧out.getD i 0*sm ws-n*ws.getD i 0<sm ws
 same:∀i j,i<j→j<ws.length→ws.getD i 0=ws.getD j 0→out.getD j 0≤out.getD i 0∧out.getD i 0≤out.getD j 0+1
theorem getD_mem{l:List Int}{i:Nat}(h:i<l.length):l.getD i 0∈l:=by
 have:l.getD i 0=l[i]:=by simp [List.getD,h]
 rw [this]; exact List.getElem_mem _
theorem div_ok{n:Int}{ws:List Int}(h0:∀x∈ws,0≤x)(hn0:0≤n)(hn:n≤sm ws):DivOK n ws (divL n ws):=by
 have hs0:=Qbd h0;unfold divL
 by_cases hz:sm ws=0
 ·rw [decide_eq_true hz,cond_true];have g:∀i,(List.replicate ws.length (0:Int)).getD i 0=0:=fun i=>by
   simp only [List.getD,List.getElem?_replicate]
   split<;>rfl
  refine ⟨by simp,by rw [sm_rep]; omega,fun i hi=>?_,fun i hi h=>by omega,fun i j _ _ _=>?_⟩
  ·rw [g]; exact ⟨by omega,h0 _ (getD_mem hi)⟩
  ·rw [g,g]; omega
 ·rw [decide_eq_false hz,cond_false];have hS0:0<sm ws:=by omega
  have htl:=tops_len (n:=n) (ws:=ws) hS0 rfl;have hnd:(tops n (sm ws) ws).Nodup:=(ordR_nodup _).sublist (List.take_sublist _ _);have hmem:∀z∈tops n (sm ws) ws,0≤z∧z<((qL n (sm ws) ws).length:Int):=fun z hz=>by rw [qL_len]; exact tops_mem hz
  have hat:=fun i=>bump_at (tops n (sm ws) ws) (qL n (sm ws) ws) i hnd hmem;have hq:∀i,i<ws.length→(qL n (sm ws) ws).getD i 0=n*ws.getD i 0 / sm ws:=fun i hi=>by simp [qL,List.getD,hi]
  have hr:∀i:Nat,i<ws.length→rv (rL n (sm ws) ws) (i:Int)=n*ws.getD i 0 % sm ws:=fun i hi=>by simp [rv,rL,List.getD,hi]
  have hpos:∀i:Nat,i<ws.length→(i:Int)∈tops n (sm ws) ws→0<n*ws.getD i 0 % sm ws:=fun i hi h=>by
   have:=ordR_pos hS0 (fun x hx=>rL_mem hS0 hx) (lft_mul rfl) h
   rwa [hr i hi] at this
  refine ⟨by rw [bump_len,qL_len],?_,fun i hi=>?_,fun i hi _=>?_,fun i j hij hj he=>?_⟩
  ·rw [bump_sum _ _ hmem,htl]; unfold lft; omega
  ·have hw:=h0 _ (getD_mem hi);have k:=q_le hS0 hn0 hn hw;rw [hat,hq i hi]
   by_cases c:(i:Int)∈tops n (sm ws) ws
   ·rw [if_pos c];have hp:=hpos i hi c;refine ⟨by omega,?_⟩;have e:=Int.mul_ediv_add_emod (n*ws.getD i 0) (sm ws);have e2:=Int.mul_le_mul_of_nonneg_right hn hw;rcases Int.lt_or_le (n*ws.getD i 0 / sm ws) (ws.getD i 0) with h | h
    ·omega
    ·have:=Int.mul_le_mul_of_nonneg_left h (show 0≤sm ws by omega);omega
   ·rw [if_neg c]; omega
  ·rw [hat,hq i hi];have e:=Int.mul_ediv_add_emod (n*ws.getD i 0) (sm ws);have e1:=Int.emod_nonneg (n*ws.getD i 0) (show sm ws≠0 by omega);have e2:=Int.emod_lt_of_pos (n*ws.getD i 0) hS0;rw [Int.mul_comm (sm ws)] at e
   by_cases c:(i:Int)∈tops n (sm ws) ws
   ·rw [if_pos c,Int.add_mul];have hp:=hpos i hi c;omega
   ·rw [if_neg c,Int.add_mul];omega
  ·rw [hat,hat,hq i (by omega),hq j hj,he]
   by_cases cj:(j:Int)∈tops n (sm ws) ws
   ·have ci:(i:Int)∈tops n (sm ws) ws:=by
     obtain ⟨a,b,e⟩:=List.append_of_mem cj;have eL:ordR (rL n (sm ws) ws)=a++(j:Int)::(b++(ordR (rL n (sm ws) ws)).drop (lft n (sm ws) ws).toNat):=by
      have:=List.take_append_drop (lft n (sm ws) ws).toNat (ordR (rL n (sm ws) ws));unfold tops at e;rw [e] at this;rw [List.append_assoc,List.cons_append] at this;exact this.symm
     have hi:(i:Int)∈ordR (rL n (sm ws) ws):=ordR_mem.2 (by rw [rL_len]; omega);have hp:=ordR_bf (rL n (sm ws) ws);rw [eL] at hp hi;rcases List.mem_append.1 hi with h | h
     ·rw [e]; exact List.mem_append_left _ h
     ·rcases List.mem_cons.1 h with h | h
      ·omega
      ·have:=(List.pairwise_cons.1 (List.pairwise_append.1 hp).2.1).1 _ h;unfold bf at this;rw [hr i (by omega),hr j hj,he] at this;omega
    rw [if_pos ci,if_pos cj]; omega
   ·rw [if_neg cj]
    by_cases ci:(i:Int)∈tops n (sm ws) ws
    ·rw [if_pos ci]; omega
    ·rw [if_neg ci]; omega
end Go.Proofs.Ytgbolgaodaokcaa
namespace Go.Proofs.Ytgbolgaodaokcaa
set_option linter.unusedVariables false
set_option linter.unusedSimpArgs false
open Go.RowKit
abbrev WF:=Qb
abbrev WS:=Qa

theorem f71_eq(c:Int):f71 c=some (ltrI c):=by
 unfold f71 f71n0 ltrI;cases decide (97≤c)<;>cases decide (c≤122)<;>cases decide (65≤c)<;>cases decide (c≤90)<;>rfl
theorem f56n2_eq{s:ByteArray}{k:Int}{b:UInt8}(h:at? s.data.toList k=some b):f56n2 s k=some (bif chB b then .norm else .ret):=by
 have h3:f56n3 s b k=some (.norm (!(chB b))):=by
  unfold f56n3 chB othI;rw [f71_eq,ltNot,ltNot];simp only [Option.bind_some];cases ltrI b.toNat<;>cases decide ((48:Int)≤(b.toNat:Int))<;>cases decide ((b.toNat:Int)≤57)<;>cases decide ((b.toNat:Int)=95)<;>cases decide ((b.toNat:Int)=45)<;>rfl
 unfold f56n2;rw [h];simp only [Option.bind_some,h3];cases chB b<;>rfl
theorem f56n4_at(s:ByteArray)(hs:s.data.toList.length≤1000):∀(r:List UInt8)(f k:Nat),s.data.toList.drop k=r→r.length<f→f56n4 f s (k:Int)=some (bif r.all chB then .exit0 else .ret)
 | _,0,_,_,h=>absurd h (Nat.not_lt_zero _)
 | [],f+1,k,hd,_=>by
  have:=Qcb hd;rw [f56n4,sizeList,decide_eq_false (by omega),cond_false]; rfl
 | b::r,f+1,k,hd,hf=>by
  obtain ⟨h1,h2,h3⟩:=dropAt hd;rw [f56n4,sizeList,decide_eq_true (by omega),cond_true,f56n2_eq h1,List.all_cons];cases chB b with
  | false=>rfl
  | true =>
   simp only [cond_true,Option.bind_some,Bool.true_and];rw [wrSucc (by omega)];exact f56n4_at s hs r f (k+1) h3 (by simpa using hf)
theorem f56_eq(s:ByteArray):f56 s=some (nmB s):=by
 unfold f56 f56n0 nmB;rw [sizeList]
 by_cases hs:s.data.toList.length≤40
 ·have h1:f56n1 s=some (bif s.data.toList.all chB then .norm else .ret):=by
   unfold f56n1;have:=f56n4_at s (by omega) s.data.toList FUEL 0 List.drop_zero (fuelSmall (by omega));rw [show ((0:Nat):Int)=0 from rfl] at this;rw [this];cases s.data.toList.all chB<;>rfl
  rw [h1];generalize s.data.toList=l at hs;rw [decide_eq_false (by omega:¬(40:Int)<(l.length:Int))];cases l with
  | nil=>rfl
  | cons b r =>
   have h0:at? (b::r) 0=some b:=rfl;rw [decide_eq_false (by simp; omega:¬(((b::r).length:Nat):Int)<1),h0];simp only [cond_false,Option.bind_some,f71_eq,isNm,decide_eq_true hs,Bool.true_and,List.all_cons,chB];cases ltrI b.toNat<;>cases othI b.toNat<;>cases r.all chB<;>rfl
 ·rw [decide_eq_false (by omega:¬((s.data.toList.length:Nat):Int)<1),decide_eq_true (by omega:(40:Int)<((s.data.toList.length:Nat):Int))];have:isNm s.data.toList=false:=by
   generalize s.data.toList=l at hs;cases l with
   | nil=>rfl
   | cons b r=>simp only [isNm,decide_eq_false hs,Bool.false_and]
  rw [this]; rfl

theorem f80_eq(a:Int):f80 a=some false:=by unfold f80 f80n0; simp
theorem f81_eq(a:ByteArray):f81 a=some false:=by unfold f81 f81n0; simp [seq_refl]
theorem f73_eq(a b:Int):f73 a b=some (cmpI a b):=by
 unfold f73 f73n0 cmpI;rw [f80_eq,f80_eq];simp only [Option.bind_some,cond_false];cases decide (a<b)<;>cases decide (b<a)<;>rfl
theorem f74_eq(a b:ByteArray):f74 a b=some (cmpB a b):=by
 unfold f74 f74n0 cmpB;rw [f81_eq,f81_eq];simp only [Option.bind_some,cond_false];cases slt a b<;>cases seq a b<;>rfl
theorem f72_eq(x y:Int):f72 [x,y]=some (cmpOr x y):=by
 unfold f72 f72n0 f72n1 cmpOr;rw [f72n2_run [x,y] (maxSmall (by simp))]
 by_cases hx:x=0
 ·by_cases hy:y=0
  ·subst hx hy; rfl
  ·subst hx; simp only [f72n2L,decide_eq_false hy,decide_true,cond_true,cond_false,Option.bind_some]
 ·simp only [f72n2L,decide_eq_false hx,cond_false,Option.bind_some]
def kc(a b:WS):Int:=cmpOr (cmpI a.Level b.Level) (cmpB a.Owner b.Owner)
theorem kc_cmp:Cmp kc:=(Cmp.int Qa.Level).lex (Cmp.str Qa.Owner)
theorem f57_eq(a b:WS):f57 (Key_.mk a.Level a.Owner) (Key_.mk b.Level b.Owner)=some (kc a b):=by
 unfold f57 f57n0;rw [f73_eq,f74_eq];simp only [Option.bind_some,f72_eq]; rfl
def tos(x:WF):WS:=Qa.mk x.Level x.Owner x.Size

def inB(lo:Int)(x:WS):Bool:=decide (0≤x.Level)&&(decide (x.Level<10)&&(nmB x.Owner&&(decide (lo≤x.Amount)&&decide (x.Amount≤1125899906842624))))
def ordB:Option WS→WS→Bool
 | none,_=>true
 | some y,x=>decide (kc y x<0)
def okW(lo:Int):Option WS→List WS→Bool
 | _,[]=>true
 | p,x::r=>inB lo x&&(ordB p x&&okW lo (some x) r)
def ams(l:List WS):List Int:=l.map Qa.Amount
def vld(lo:Int)(l:List WS):Bool:=decide (l.length≤100)&&(okW lo none l&&decide (sm (ams l)≤1125899906842624))
theorem inB_am{lo:Int}{x:WS}(h:inB lo x=true):lo≤x.Amount∧x.Amount≤1125899906842624:=by
 unfold inB at h;simp only [Bool.and_eq_true,decide_eq_true_eq] at h;exact ⟨h.2.2.2.1,h.2.2.2.2⟩
theorem okW_in{lo:Int} : ∀{p:Option WS} {l:List WS},okW lo p l=true→∀x∈l,inB lo x=true
 | _,[],_,x,hx=>by cases hx
 | p,y::r,h,x,hx=>by
  rw [okW,Bool.and_eq_true,Bool.and_eq_true] at h;rcases List.mem_cons.1 hx with rfl | hx
  ·exact h.1
  ·exact okW_in h.2.2 x hx
theorem ams_le{lo:Int}(h0:0≤lo){l:List WS}(h:∀x∈l,inB lo x=true):0≤sm (ams l)∧sm (ams l)≤(l.length:Int)*1125899906842624:=by
 constructor
 ·refine Qbd fun x hx=>?_;obtain ⟨y,hy,rfl⟩:=List.mem_map.1 hx;have:=inB_am (h y hy); omega
 ·have:=sm_bound (S:=1125899906842624) (l:=ams l) fun x hx=>by
   obtain ⟨y,hy,rfl⟩:=List.mem_map.1 hx;exact (inB_am (h y hy)).2
  unfold ams at this ⊢
  rwa [List.length_map] at this
theorem geN(a b:Int):decide (a<b) = !(decide (b≤a)):=ltNot a b
theorem f46_36_37n2_eq{lo:Int}{s pre r:List WF}{x:WF}(acc:Int)(h:s=pre++x::r)(hl:s.length≤1000) :
  f46_36_37n2 s lo acc ((pre.length:Nat):Int)=some (bif inB lo (tos x)&&ordB (pre.getLast?.map fun y=>tos y) (tos x) then .norm (wr64 (acc+(tos x).Amount)) else .ret):=by
 have h4:f46_36_37n4 s lo acc ((pre.length:Nat):Int) (tos x).Amount (Key_.mk (tos x).Level (tos x).Owner)=some (.norm (!(inB lo (tos x)&&ordB (pre.getLast?.map fun y=>tos y) (tos x)))):=by
  unfold f46_36_37n4 inB;rw [f56_eq];have hlast:(bif decide ((0:Int)<((pre.length:Nat):Int)) then (at? s (wr64 (((pre.length:Nat):Int)-1))).bind fun x227=>(f36 x227).bind fun x229=>(f57 x229 (Key_.mk (tos x).Level (tos x).Owner)).bind fun x231=>some (f46_36_37n4O.norm (decide (0≤x231))) else some (.norm false))=some (.norm (!(ordB (pre.getLast?.map fun y=>tos y) (tos x)))):=by
   rcases List.eq_nil_or_concat pre with rfl | ⟨q,y,rfl⟩
   ·rfl
   ·rw [List.concat_eq_append] at h ⊢;have hq:q.length+1≤1000:=by rw [h] at hl; simp at hl; omega
    rw [decide_eq_true (by simp:(0:Int)<(((q++[y]).length:Nat):Int)),show wr64 ((((q++[y]).length:Nat):Int)-1)=((q.length:Nat):Int) by rw [wrIn (by simp<;>omega) (by simp<;>omega)]; simp,Qay (k:=q.length) (a:=q) (x:=y) (b:=x::r) (by rw [h]; simp) rfl,List.getLast?_concat];have hk:f36 y=some (Key_.mk (tos y).Level (tos y).Owner):=rfl;simp only [cond_true,Option.bind_some,hk,f57_eq,Option.map_some,ordB];rw [show decide (0≤kc (tos y) (tos x)) = !(decide (kc (tos y) (tos x)<0)) by rw [ltNot,Bool.not_not]]
  simp only [Option.bind_some];rw [hlast,geN (tos x).Level 0,show decide (10≤(tos x).Level) = !(decide ((tos x).Level<10)) by rw [ltNot,Bool.not_not],geN (tos x).Amount lo,geN 1125899906842624];cases decide (0≤(tos x).Level)<;>cases decide ((tos x).Level<10)<;>cases nmB (tos x).Owner<;>cases decide (lo≤(tos x).Amount)<;>cases decide ((tos x).Amount≤1125899906842624)<;>rfl
 have e1:f36 x=some (Key_.mk (tos x).Level (tos x).Owner):=rfl;have e2:f37 x=some (tos x).Amount:=rfl;unfold f46_36_37n2 f46_36_37n3;rw [Qay h rfl];simp only [Option.bind_some,e1,e2,h4];cases inB lo (tos x)&&ordB (pre.getLast?.map fun y=>tos y) (tos x)<;>rfl
theorem f46_36_37n5_at{lo:Int}(h0:0≤lo){s:List WF}(hl:s.length≤1000):∀(r pre:List WF)(f:Nat),s=pre++r→(∀x∈pre,inB lo (tos x)=true)→r.length<f →
  Qbf f s lo (sm (ams (pre.map fun y=>tos y))) ((pre.length:Nat):Int)=some (bif okW lo (pre.getLast?.map fun y=>tos y) (r.map fun y=>tos y) then .exit0 (sm (ams (s.map fun y=>tos y))) else .ret)
 | _,_,0,_,_,h=>absurd h (Nat.not_lt_zero _)
 | [],pre,f+1,h,_,_=>by
  rw [Qbf,decide_eq_false (by rw [h]; simp),cond_false,h,List.append_nil]; rfl
 | x::r,pre,f+1,h,hp,hf=>by
  have hpl:pre.length<s.length:=by rw [h]; simp
  rw [Qbf,decide_eq_true (by omega),cond_true,f46_36_37n2_eq _ h hl,List.map_cons,okW];cases hx:inB lo (tos x) with
  | false=>rfl
  | true =>
   cases ordB (pre.getLast?.map fun y=>tos y) (tos x) with
   | false=>rfl
   | true =>
    have ih:=f46_36_37n5_at h0 hl r (pre++[x]) f (by rw [h]; simp) (fun z hz=>by
     rcases List.mem_append.1 hz with hz | hz
     ·exact hp z hz
     ·rw [List.mem_singleton.1 hz]; exact hx) (by simpa using hf)
    rw [List.length_append,List.getLast?_concat,List.map_append] at ih;unfold ams at ih ⊢;rw [List.map_append,sm_app] at ih;have hb:=ams_le h0 (l:=pre.map fun y=>tos y) fun z hz=>by
     obtain ⟨y,hy,rfl⟩:=List.mem_map.1 hz;exact hp y hy
    have hx2:=inB_am hx;unfold ams at hb;rw [List.length_map] at hb;simp only [Bool.and_self,cond_true,Option.bind_some,Bool.true_and];rw [wrSucc (by omega),wrIn (by omega) (by omega)];simpa [sm] using ih
theorem f46_36_37_eq{lo:Int}(h0:0≤lo)(s:List WF):f46_36_37 s lo=some (vld lo (s.map fun y=>tos y)):=by
 unfold f46_36_37 f46_36_37n0 vld;rw [geN 100,show decide ((s.length:Int)≤100)=decide ((s.map fun y=>tos y).length≤100) by rw [List.length_map]; congr 1; apply propext; omega]
 by_cases hl:s.length≤100
 ·have h1:f46_36_37n1 s lo=some (bif okW lo none (s.map fun y=>tos y) then .norm (sm (ams (s.map fun y=>tos y))) else .ret):=by
   unfold f46_36_37n1;have:=f46_36_37n5_at h0 (s:=s) (by omega) s [] FUEL rfl (fun x hx=>by cases hx) (fuelSmall (by omega));rw [show (((([]:List WF).length:Nat)):Int)=0 from rfl,List.getLast?_nil] at this;simp only [List.map_nil,Option.map_none] at this;rw [show sm (ams [])=0 from rfl] at this;rw [this];cases okW lo none (s.map fun y=>tos y)<;>rfl
  rw [h1,decide_eq_true (by rw [List.length_map]; exact hl)];cases okW lo none (s.map fun y=>tos y)<;>rfl
 ·rw [decide_eq_false (by rw [List.length_map]; exact hl)]; rfl
theorem f38_39_40n2_eq{lo:Int}{s pre r:List WS}{x:WS}(acc:Int)(h:s=pre++x::r)(hl:s.length≤1000) :
  f38_39_40n2 s lo acc ((pre.length:Nat):Int)=some (bif inB lo (x)&&ordB (pre.getLast?.map fun y=>y) (x) then .norm (wr64 (acc+(x).Amount)) else .ret):=by
 have h4:f38_39_40n4 s lo acc ((pre.length:Nat):Int) (x).Amount (Key_.mk (x).Level (x).Owner)=some (.norm (!(inB lo (x)&&ordB (pre.getLast?.map fun y=>y) (x)))):=by
  unfold f38_39_40n4 inB;rw [f56_eq];have hlast:(bif decide ((0:Int)<((pre.length:Nat):Int)) then (at? s (wr64 (((pre.length:Nat):Int)-1))).bind fun x227=>(f39 x227).bind fun x229=>(f57 x229 (Key_.mk (x).Level (x).Owner)).bind fun x231=>some (f38_39_40n4O.norm (decide (0≤x231))) else some (.norm false))=some (.norm (!(ordB (pre.getLast?.map fun y=>y) (x)))):=by
   rcases List.eq_nil_or_concat pre with rfl | ⟨q,y,rfl⟩
   ·rfl
   ·rw [List.concat_eq_append] at h ⊢;have hq:q.length+1≤1000:=by rw [h] at hl; simp at hl; omega
    rw [decide_eq_true (by simp:(0:Int)<(((q++[y]).length:Nat):Int)),show wr64 ((((q++[y]).length:Nat):Int)-1)=((q.length:Nat):Int) by rw [wrIn (by simp<;>omega) (by simp<;>omega)]; simp,Qay (k:=q.length) (a:=q) (x:=y) (b:=x::r) (by rw [h]; simp) rfl,List.getLast?_concat];have hk:f39 y=some (Key_.mk (y).Level (y).Owner):=rfl;simp only [cond_true,Option.bind_some,hk,f57_eq,Option.map_some,ordB];rw [show decide (0≤kc (y) (x)) = !(decide (kc (y) (x)<0)) by rw [ltNot,Bool.not_not]]
  simp only [Option.bind_some];rw [hlast,geN (x).Level 0,show decide (10≤(x).Level) = !(decide ((x).Level<10)) by rw [ltNot,Bool.not_not],geN (x).Amount lo,geN 1125899906842624];cases decide (0≤(x).Level)<;>cases decide ((x).Level<10)<;>cases nmB (x).Owner<;>cases decide (lo≤(x).Amount)<;>cases decide ((x).Amount≤1125899906842624)<;>rfl
 have e1:f39 x=some (Key_.mk (x).Level (x).Owner):=rfl;have e2:f40 x=some (x).Amount:=rfl;unfold f38_39_40n2 f38_39_40n3;rw [Qay h rfl];simp only [Option.bind_some,e1,e2,h4];cases inB lo (x)&&ordB (pre.getLast?.map fun y=>y) (x)<;>rfl
theorem f38_39_40n5_at{lo:Int}(h0:0≤lo){s:List WS}(hl:s.length≤1000):∀(r pre:List WS)(f:Nat),s=pre++r→(∀x∈pre,inB lo (x)=true)→r.length<f →
  Qbg f s lo (sm (ams (pre.map fun y=>y))) ((pre.length:Nat):Int)=some (bif okW lo (pre.getLast?.map fun y=>y) (r.map fun y=>y) then .exit0 (sm (ams (s.map fun y=>y))) else .ret)
 | _,_,0,_,_,h=>absurd h (Nat.not_lt_zero _)
 | [],pre,f+1,h,_,_=>by
  rw [Qbg,decide_eq_false (by rw [h]; simp),cond_false,h,List.append_nil]; rfl
 | x::r,pre,f+1,h,hp,hf=>by
  have hpl:pre.length<s.length:=by rw [h]; simp
  rw [Qbg,decide_eq_true (by omega),cond_true,f38_39_40n2_eq _ h hl,List.map_cons,okW];cases hx:inB lo (x) with
  | false=>rfl
  | true =>
   cases ordB (pre.getLast?.map fun y=>y) (x) with
   | false=>rfl
   | true =>
    have ih:=f38_39_40n5_at h0 hl r (pre++[x]) f (by rw [h]; simp) (fun z hz=>by
     rcases List.mem_append.1 hz with hz | hz
     ·exact hp z hz
     ·rw [List.mem_singleton.1 hz]; exact hx) (by simpa using hf)
    rw [List.length_append,List.getLast?_concat,List.map_append] at ih;unfold ams at ih ⊢;rw [List.map_append,sm_app] at ih;have hb:=ams_le h0 (l:=pre.map fun y=>y) fun z hz=>by
     obtain ⟨y,hy,rfl⟩:=List.mem_map.1 hz;exact hp y hy
    have hx2:=inB_am hx;unfold ams at hb;rw [List.length_map] at hb;simp only [Bool.and_self,cond_true,Option.bind_some,Bool.true_and];rw [wrSucc (by omega),wrIn (by omega) (by omega)];simpa [sm] using ih
theorem f38_39_40_eq{lo:Int}(h0:0≤lo)(s:List WS):f38_39_40 s lo=some (vld lo (s.map fun y=>y)):=by
 unfold f38_39_40 f38_39_40n0 vld;rw [geN 100,show decide ((s.length:Int)≤100)=decide ((s.map fun y=>y).length≤100) by rw [List.length_map]; congr 1; apply propext; omega]
 by_cases hl:s.length≤100
 ·have h1:f38_39_40n1 s lo=some (bif okW lo none (s.map fun y=>y) then .norm (sm (ams (s.map fun y=>y))) else .ret):=by
   unfold f38_39_40n1;have:=f38_39_40n5_at h0 (s:=s) (by omega) s [] FUEL rfl (fun x hx=>by cases hx) (fuelSmall (by omega));rw [show (((([]:List WS).length:Nat)):Int)=0 from rfl,List.getLast?_nil] at this;simp only [List.map_nil,Option.map_none] at this;rw [show sm (ams [])=0 from rfl] at this;rw [this];cases okW lo none (s.map fun y=>y)<;>rfl
  rw [h1,decide_eq_true (by rw [List.length_map]; exact hl)];cases okW lo none (s.map fun y=>y)<;>rfl
 ·rw [decide_eq_false (by rw [List.length_map]; exact hl)]; rfl
theorem f23_eq(l:List WF):f23 l=some (bif vld 0 (l.map tos) then 0 else 8):=by
 unfold f23 f23n0;rw [f46_36_37_eq (by decide)];show _=some (bif vld 0 (l.map fun y=>tos y) then 0 else 8);cases vld 0 (l.map fun y=>tos y)<;>rfl
def monB(n:Int):Bool:=decide (0≤n)&&decide (n≤1125899906842624)
theorem f34_eq(n:Int):f34 n=some (monB n):=by
 unfold f34 f34n0 monB;cases decide (0≤n)<;>rfl
end Go.Proofs.Ytgbolgaodaokcaa
namespace Go.Proofs.Ytgbolgaodaokcaa
set_option linter.unusedVariables false
set_option linter.unusedSimpArgs false
set_option maxRecDepth 100000
open Go.RowKit
def sameLv(x:WS):List WS→Bool
 | []=>false
 | y::_=>decide (x.Level=y.Level)
def rn:List WS→List (List WS)
 | []=>[]
 | x::r=>match rn r with
  | []=>[[x]]
  | g::t=>bif sameLv x g then (x::g)::t else [x]::g::t
theorem rn_cons(y:WS)(r:List WS):∃g t,rn (y::r)=(y::g)::t:=by
 rw [rn];cases rn r with
 | nil=>exact ⟨[],[],rfl⟩
 | cons g t =>
  cases h:sameLv y g with
  | true=>exact ⟨g,t,by simp [h]⟩
  | false=>exact ⟨[],g::t,by simp [h]⟩
theorem rn_join:∀l:List WS,(rn l).flatten=l
 | []=>rfl
 | x::r=>by
  have h:=rn_join r;rw [rn]
  revert h
  cases rn r with
  | nil=>intro h; simpa using h
  | cons g t =>
   intro h;cases k:sameLv x g with
   | true=>simpa [k] using h
   | false=>simpa [k] using h
def cum:Int→List (List WS)→List Int
 | _,[]=>[]
 | b,g::t=>(b+g.length)::cum (b+g.length) t
theorem cum_len:∀(G:List (List WS))(b:Int),(cum b G).length=G.length
 | [],_=>rfl
 | g::t,b=>by rw [cum,List.length_cons,List.length_cons,cum_len t]
theorem cum_app:∀(G1 G2:List (List WS))(b:Int),cum b (G1++G2)=cum b G1++cum (b+G1.flatten.length) G2
 | [],G2,b=>by simp [cum]
 | g::t,G2,b=>by
  rw [List.cons_append,cum,cum,cum_app t,List.flatten_cons,List.length_append,List.cons_append]
  congr 3; omega
theorem flat_len(G:List (List WS))(h:∀g∈G,g≠[]):G.length≤G.flatten.length:=by
 induction G with
 | nil=>simp
 | cons g t ih =>
  have h1:=ih fun x hx=>h x (List.mem_cons_of_mem g hx);have h2:0<g.length:=List.length_pos_iff.2 (h g List.mem_cons_self);rw [List.flatten_cons,List.length_append,List.length_cons]; omega
theorem rn_ne:∀l:List WS,∀g∈rn l,g≠[]
 | [],g,hg=>by cases hg
 | x::r,g,hg=>by
  have h:=rn_ne r;rw [rn] at hg
  revert hg h
  cases rn r with
  | nil=>intro hg h; simp at hg; rw [hg]; simp
  | cons g' t =>
   intro hg h;cases k:sameLv x g' with
   | true =>
    simp only [k,cond_true] at hg;rcases List.mem_cons.1 hg with rfl | hg
    ·simp
    ·exact h g (List.mem_cons_of_mem g' hg)
   | false =>
    simp only [k,cond_false] at hg;rcases List.mem_cons.1 hg with rfl | hg
    ·simp
    ·exact h g hg

def sprA:Int→List (List Int)→Int×List Int
 | n,[]=>(n,[])
 | n,ws::t=>((sprA (n-mnI n (sm ws)) t).1,divL (mnI n (sm ws)) ws++(sprA (n-mnI n (sm ws)) t).2)
def wss(l:List WS):List (List Int):=(rn l).map ams
def shr:List WS→List Int→List WS
 | x::r,g::t=>bif decide (0<g) then Qa.mk x.Level x.Owner g::shr r t else shr r t
 | _,_=>[]
theorem mnI_ok{n S:Int}(hn:0≤n)(hS:0≤S):0≤mnI n S∧mnI n S≤S∧mnI n S≤n:=by
 unfold mnI
 by_cases h:S<n
 ·rw [decide_eq_true h,cond_true]; omega
 ·rw [decide_eq_false h,cond_false]; omega
def wOK(ws:List Int):Prop:=(∀x∈ws,0≤x)∧sm ws≤1125899906842624∧ws.length≤1000
theorem divL_len(n:Int)(ws:List Int):(divL n ws).length=ws.length:=by
 unfold divL;cases decide (sm ws=0) with
 | true=>simp
 | false=>rw [cond_false,bump_len,qL_len]
theorem sprA_len:∀(W:List (List Int))(n:Int),(sprA n W).2.length=W.flatten.length
 | [],_=>rfl
 | ws::t,n=>by rw [sprA,List.length_append,divL_len,sprA_len t,List.flatten_cons,List.length_append]
theorem ams_join:∀G:List (List WS),ams G.flatten=(G.map ams).flatten
 | []=>rfl
 | g::t=>by
  have:=ams_join t;unfold ams at this ⊢;rw [List.flatten_cons,List.map_append,this]; rfl
theorem amsLen(l:List WS):(ams l).length=l.length:=by simp [ams]
theorem flen(G:List (List WS)):(G.map ams).flatten.length=G.flatten.length:=by rw [←ams_join,amsLen]
theorem put_mid{GP Z GR out:List Int}(h:out.length=Z.length)(k:Nat)(hk:k=GP.length)(m:Nat)(hm:m=out.length):putL (GP++(Z++GR)) k (out.take (Nat.min out.length m))=GP++(out++GR):=by
 subst hk hm;unfold putL;rw [show Nat.min out.length out.length=out.length from Nat.min_self _,List.take_length,List.take_left',h,List.drop_append,List.drop_eq_nil_of_le (by omega),show GP.length+Z.length-GP.length=Z.length by omega,List.drop_left',List.nil_append,List.append_assoc]
 all_goals rfl
theorem cut_mid{α:Type}{s P g R:List α}(h:s=P++(g++R)):(s.take (P.length+g.length)).drop P.length=g:=by
 subst h;rw [←List.append_assoc,List.take_left' (by simp),List.drop_left' rfl]
theorem f45_37n2L_at(bg:List WF):∀(l:List WF)(v k:Int),f45_37n2L bg l (wr64 v) k=some (.exit0 (wr64 (v+sm (ams (l.map fun y=>tos y)))))
 | [],v,k=>by rw [f45_37n2L,List.map_nil,show sm (ams [])=0 from rfl,Int.add_zero]
 | x::r,v,k=>by
  have:f37 x=some (tos x).Amount:=rfl;rw [f45_37n2L,this,Option.bind_some,wrL,f45_37n2L_at bg r];rw [show v+(tos x).Amount+sm (ams (r.map fun y=>tos y))=v+sm (ams ((x::r).map fun y=>tos y)) by simp only [ams,List.map_cons,sm]; omega]
theorem f45_37_eq{l:List WF}(hl:l.length≤maxLen) (h:wOK (ams (l.map fun y=>tos y))):f45_37 l=some (sm (ams (l.map fun y=>tos y))):=by
 have h1:=Qbd h.1;have h3:=h.2.1;unfold f45_37 f45_37n0 f45_37n1;have h2:=f45_37n2L_at l l 0 0;rw [show wr64 0=0 from rfl] at h2;rw [f45_37n2_run l 0 hl,h2];simp only [Option.bind_some];rw [Int.zero_add,wrIn (by omega) (by omega)]
theorem f63r1n2L_at{s:List WF}(n:Int)(got:List Int)(hl:s.length≤1000):∀(r pre:List WF)(acc:List Int),s=pre++r→acc.length+r.length≤100000 →
  f63r1n2L s n got r ((pre.length:Nat):Int) acc=some (.exit0 (acc++cum ((pre.length:Nat):Int) (rn (r.map fun y=>tos y))))
 | [],pre,acc,h,_=>by rw [f63r1n2L]; simp [rn,cum]
 | x::r,pre,acc,h,hb=>by
  have hp:s.length=pre.length+(r.length+1):=by rw [h]; simp
  have rqt:∀{α:Type} (x:Option α),req true x=x:=fun x=>rfl;simp only [List.length_cons] at hb;rw [f63r1n2L,wrSucc (by omega)];have step:=fun acc' hb'=>f63r1n2L_at n got hl r (pre++[x]) acc' (by rw [h]; simp) hb';have el:(pre++[x]).length=pre.length+1:=by simp
  rw [el] at step;cases r with
  | nil =>
   rw [decide_eq_true (by simp at hp; omega),cond_true,fitSmall (by omega) (by decide),rqt];have:=step (acc++[((pre.length+1:Nat):Int)]) (by simp<;>omega);rw [show ((pre.length:Nat):Int)+1=((pre.length+1:Nat):Int) by omega];rw [this];simp [rn,cum]
  | cons y r =>
   have hp':s.length=pre.length+(r.length+2):=by rw [h]; simp
   obtain ⟨g,t,hg⟩:=rn_cons (tos y) (r.map fun y=>tos y);have e1:f36 x=some (Key_.mk (tos x).Level (tos x).Owner):=rfl;have e2:f36 y=some (Key_.mk (tos y).Level (tos y).Owner):=rfl;rw [decide_eq_false (by omega),cond_false,e1,Qay (k:=pre.length+1) (a:=pre++[x]) (x:=y) (b:=r) (by rw [h]; simp) (by simp)];simp only [Option.bind_some,e2];rw [List.map_cons] at step ⊢;rw [List.map_cons,rn];rw [hg] at step;rw [hg];simp only [sameLv]
   by_cases k:(tos x).Level=(tos y).Level
   ·rw [decide_eq_true k];simp only [cond_true];rw [show ((pre.length:Nat):Int)+1=((pre.length+1:Nat):Int) by omega,step acc (by simp at hb ⊢; omega)];simp only [cum,List.length_cons];rw [show (((pre.length+1:Nat):Int))+((g.length+1:Nat):Int)=((pre.length:Nat):Int)+((g.length+1+1:Nat):Int) by omega]
   ·rw [decide_eq_false k];simp only [cond_false];rw [fitSmall (by simp at hb; omega) (by decide),rqt,show ((pre.length:Nat):Int)+1=((pre.length+1:Nat):Int) by omega,step _ (by simp at hb ⊢; omega)];simp only [cum,List.length_cons,List.length_nil,List.append_assoc,List.cons_append,List.nil_append]
    congr 3
theorem f63r1n1_eq{s:List WF}(n:Int)(got:List Int)(hl:s.length≤1000):f63r1n1 s n got=some (.norm (cum 0 (rn (s.map fun y=>tos y)))):=by
 unfold f63r1n1;have:=f63r1n2L_at n got hl s [] [] rfl (by simp; omega);rw [show (((([]:List WF).length:Nat)):Int)=0 from rfl,List.nil_append] at this;rw [f63r1n2_run s n got [] (maxSmall (by omega)),this];rfl
theorem f35y1n2L_at(a b n t:Int)(s:List WF)(got:List Int):∀(l:List WF)(v:Int)(acc:List Int),acc.length+l.length≤100000→f35y1n2L a b n t s got l v acc=some (.exit2 (acc++ams (l.map fun y=>tos y)))
 | [],v,acc,_=>by rw [f35y1n2L]; simp [ams]
 | x::r,v,acc,h=>by
  have e:f37 x=some (tos x).Amount:=rfl;have rqt:∀{α:Type} (x:Option α),req true x=x:=fun x=>rfl;simp only [List.length_cons] at h;rw [f35y1n2L,e,Option.bind_some,fitSmall (by omega) (by decide),rqt,f35y1n2L_at a b n t s got r _ _ (by simp; omega)];simp [ams]
theorem f35y1_eq{s P g R:List WF}{GP Z GR:List Int}{n:Int}(h:s=P++(g++R))(hs:s.length≤1000)(hn0:0≤n)(hn:n≤1125899906842624) (hw:wOK (ams (g.map fun y=>tos y))) (h1:GP.length=P.length) (h2:Z.length=g.length) (h3:GR.length=R.length) :
  f35y1n0 ((P.length:Nat):Int) ((P.length+g.length:Nat):Int) s n (GP++(Z++GR))=some (.norm (n-mnI n (sm (ams (g.map fun y=>tos y)))) (GP++(divL (mnI n (sm (ams (g.map fun y=>tos y)))) (ams (g.map fun y=>tos y))++GR))):=by
 have hsl:s.length=P.length+(g.length+R.length):=by rw [h]; simp
 have rqt:∀{α:Type} (x:Option α),req true x=x:=fun x=>rfl;have hm:=mnI_ok hn0 (Qbd hw.1);have hwl:(ams (g.map fun y=>tos y)).length=g.length:=by rw [amsLen,List.length_map]
 have k1:f35y1n1 ((P.length:Nat):Int) ((P.length+g.length:Nat):Int) s n (sm (ams (g.map fun y=>tos y))) (GP++(Z++GR))=some (.norm (ams (g.map fun y=>tos y))):=by
  unfold f35y1n1;rw [f35y1n2_run _ _ _ _ _ _ _ (by rw [Int.toNat_natCast,Int.toNat_natCast,cut_mid h]; exact maxSmall (by omega)),Int.toNat_natCast,Int.toNat_natCast,cut_mid h,f35y1n2L_at _ _ _ _ _ _ _ _ _ (by simp; omega)];rfl
 unfold f35y1n0;rw [show cutB ((P.length:Nat):Int) ((P.length+g.length:Nat):Int) s.length=true from decide_eq_true (by omega),rqt,Int.toNat_natCast,Int.toNat_natCast,cut_mid h,f45_37_eq (maxSmall (by omega)) hw];simp only [Option.bind_some];rw [k1];simp only [Option.bind_some];rw [show cutB ((P.length:Nat):Int) ((P.length+g.length:Nat):Int) (GP++(Z++GR)).length=true from decide_eq_true (by simp; omega),rqt,f55_eq (by omega) hw.1 hw.2.1 hm.1 hm.2.1];simp only [Option.bind_some];rw [put_mid (by rw [divL_len]; omega) P.length h1.symm _ (by rw [divL_len]; omega),wrIn (by omega) (by omega)]
theorem f63r1n5_at{s:List WF}(hs:s.length≤1000){G:List (List WS)}(hG:G.flatten=s.map fun y=>tos y)(hne:∀g∈G,g≠[])(hw:∀g∈G,wOK (ams g)):∀(G2 G1:List (List WS))(f:Nat)(n:Int)(O1:List Int),G=G1++G2→G2.length<f→O1.length=G1.flatten.length→0≤n→n≤1125899906842624 →
  f63r1n5 f (cum 0 G) s ((G1.length:Nat):Int) n (O1++List.replicate G2.flatten.length 0)=some (.exit2 (sprA n (G2.map ams)).1 (O1++(sprA n (G2.map ams)).2))
 | _,_,0,_,_,_,h,_,_,_=>absurd h (Nat.not_lt_zero _)
 | [],G1,f+1,n,O1,h,_,ho,_,_=>by
  rw [f63r1n5,decide_eq_false (by rw [cum_len,h]; simp),cond_false];simp [sprA]
 | g::G2,G1,f+1,n,O1,h,hf,ho,hn0,hn=>by
  have hl:=flat_len G hne;rw [hG,List.length_map] at hl;have hGl:G.length=G1.length+(G2.length+1):=by rw [h]; simp
  have hfl:s.length=G1.flatten.length+(g.length+G2.flatten.length):=by
   have:=congrArg List.length hG;rw [List.length_map] at this;rw [←this,h]; simp
  have hwg:=hw g (by rw [h]; simp);rw [f63r1n5,decide_eq_true (by rw [cum_len]; omega),cond_true];obtain ⟨P,Q,rfl,hP,hQ⟩:=List.map_eq_append_iff.1 (show s.map (fun y=>tos y)=G1.flatten++(g++G2.flatten) by rw [←hG,h]; simp);obtain ⟨g',R,rfl,hg',hR⟩:=List.map_eq_append_iff.1 hQ;have lP:P.length=G1.flatten.length:=by rw [←hP,List.length_map]
  have lg:g'.length=g.length:=by rw [←hg',List.length_map]
  have lR:R.length=G2.flatten.length:=by rw [←hR,List.length_map]
  have ec:cum 0 G=cum 0 G1++(((P.length+g'.length:Nat):Int))::cum ((P.length+g'.length:Nat):Int) G2:=by
   rw [h,cum_app,cum,show (0:Int)+(G1.flatten.length:Int)+(g.length:Int)=((P.length+g'.length:Nat):Int) by omega]
  have h4:f63r1n4 ((G1.length:Nat):Int) (cum 0 G) (P++(g'++R)) n (O1++List.replicate (g::G2).flatten.length 0)=some (.norm ((P.length:Nat):Int)):=by
   unfold f63r1n4;rcases List.eq_nil_or_concat G1 with rfl | ⟨G0,g0,rfl⟩
   ·simp at lP;rw [decide_eq_false (by simp),cond_false,lP]; rfl
   ·rw [List.concat_eq_append] at ec lP hGl ⊢;rw [decide_eq_true (by simp<;>omega),cond_true,show wr64 ((((G0++[g0]).length:Nat):Int)-1)=((G0.length:Nat):Int) by rw [wrIn (by simp<;>omega) (by simp at hGl ⊢; omega)]; simp];rw [cum_app G0,cum,cum,List.append_assoc,List.cons_append,List.nil_append] at ec;rw [Qay (k:=G0.length) ec (by rw [cum_len])];simp only [Option.bind_some]
    congr 2
    simp only [List.flatten_append,List.flatten_cons,List.flatten_nil,List.length_append,List.append_nil] at lP;omega
  have h3:f63r1n3 (cum 0 G) ((G1.length:Nat):Int) (P++(g'++R)) n (O1++List.replicate (g::G2).flatten.length 0)=some (.norm (n-mnI n (sm (ams g))) (O1++(divL (mnI n (sm (ams g))) (ams g)++List.replicate G2.flatten.length 0))):=by
   unfold f63r1n3;rw [h4];simp only [Option.bind_some];rw [Qay (k:=G1.length) ec (by rw [cum_len])];simp only [Option.bind_some];rw [List.flatten_cons,List.length_append,←List.replicate_append_replicate];rw [f35y1_eq rfl hs hn0 hn (by rw [hg']; exact hwg) (by omega) (by rw [List.length_replicate]; omega) (by rw [List.length_replicate]; omega),hg'];rfl
  rw [h3];simp only [Option.bind_some];have hm:=mnI_ok hn0 (Qbd hwg.1);have ih:=f63r1n5_at hs hG hne hw G2 (G1++[g]) f (n-mnI n (sm (ams g))) (O1++divL (mnI n (sm (ams g))) (ams g)) (by rw [h]; simp) (by simpa using hf) (by rw [List.length_append,divL_len,amsLen,List.flatten_append,List.length_append,List.flatten_cons,List.flatten_nil,List.append_nil]; omega) (by omega) (by omega);rw [List.length_append,List.append_assoc] at ih;rw [wrSucc (by omega)];simp only [List.length_cons,List.length_nil] at ih;rw [show G1.length+1=G1.length+(0+1) by omega,ih,List.map_cons,sprA,List.append_assoc]
theorem f63r1_eq{s:List WF}{n:Int}(hs:s.length≤1000)(hw:∀g∈rn (s.map fun y=>tos y),wOK (ams g))(hn0:0≤n)(hn:n≤1125899906842624) :
  f63r1 s n (List.replicate s.length 0)=some (sprA n (wss (s.map fun y=>tos y))):=by
 have h5:f63r1n5 FUEL (cum 0 (rn (s.map fun y=>tos y))) s 0 n (List.replicate s.length 0)=some (.exit2 (sprA n (wss (s.map fun y=>tos y))).1 (sprA n (wss (s.map fun y=>tos y))).2):=by
  have:=f63r1n5_at hs (rn_join _) (rn_ne _) hw (rn (s.map fun y=>tos y)) [] FUEL n [] rfl (fuelSmall (by have:=flat_len _ (rn_ne (s.map fun y=>tos y)); rw [rn_join,List.length_map] at this; omega)) rfl hn0 hn;rw [show (((([]:List (List WS)).length:Nat)):Int)=0 from rfl,List.nil_append,List.nil_append,rn_join,List.length_map] at this;exact this
 unfold f63r1 f63r1n0;rw [f63r1n1_eq _ _ hs];simp only [Option.bind_some];rw [h5];rfl
theorem f35r1n4L_at{s:List WF}{n:Int}{got:List Int}(hl:got.length=s.length)(hs:s.length≤1000):∀(r pre:List WF)(acc:List WS),s=pre++r→acc.length+r.length≤100000 →
  f35r1n4L s n got r ((pre.length:Nat):Int) acc=some (.exit4 (acc++shr (r.map fun y=>tos y) (got.drop pre.length)))
 | [],pre,acc,h,_=>by rw [f35r1n4L]; simp [shr]
 | x::r,pre,acc,h,hb=>by
  have hp:s.length=pre.length+(r.length+1):=by rw [h]; simp
  have hk:pre.length<got.length:=by omega
  have rqt:∀{α:Type} (x:Option α),req true x=x:=fun x=>rfl;have e:f36 x=some (Key_.mk (tos x).Level (tos x).Owner):=rfl;simp only [List.length_cons] at hb;have step:=fun acc' hb'=>f35r1n4L_at (n:=n) hl hs r (pre++[x]) acc' (by rw [h]; simp) hb';rw [show (pre++[x]).length=pre.length+1 by simp] at step;rw [f35r1n4L,at_in hk,List.drop_eq_getElem_cons hk,List.map_cons,shr];simp only [Option.bind_some];rw [show ((pre.length:Nat):Int)+1=((pre.length+1:Nat):Int) by omega];cases decide (0<got[pre.length]) with
  | true =>
   rw [cond_true,cond_true,e,Option.bind_some,fitSmall (by omega) (by decide),rqt,step _ (by simp; omega)]
   simp
  | false=>rw [cond_false,cond_false,step _ (by omega)]
theorem f35r1_eq{s:List WF}{n:Int}(hs:s.length≤1000)(hw:∀g∈rn (s.map fun y=>tos y),wOK (ams g))(hn0:0≤n)(hn:n≤1125899906842624) :
  f35r1 s n=some ((sprA n (wss (s.map fun y=>tos y))).1,shr (s.map fun y=>tos y) (sprA n (wss (s.map fun y=>tos y))).2):=by
 have rqt:∀{α:Type} (x:Option α),req true x=x:=fun x=>rfl;have hlen:(sprA n (wss (s.map fun y=>tos y))).2.length=s.length:=by
  rw [sprA_len]; unfold wss; rw [flen,rn_join,List.length_map]
 have h1:f35r1n1 s n=some (.norm (sprA n (wss (s.map fun y=>tos y))).1 (sprA n (wss (s.map fun y=>tos y))).2):=by
  unfold f35r1n1 f35r1n2;have e:f54r1 s=some ():=rfl;rw [e,Int.toNat_natCast,f63r1_eq hs hw hn0 hn];rfl
 have h3:f35r1n3 s (sprA n (wss (s.map fun y=>tos y))).1 (sprA n (wss (s.map fun y=>tos y))).2=some (.norm (shr (s.map fun y=>tos y) (sprA n (wss (s.map fun y=>tos y))).2)):=by
  unfold f35r1n3;rw [f35r1n4_run s _ _ _ (maxSmall (by omega))];have:=f35r1n4L_at (n:=(sprA n (wss (s.map fun y=>tos y))).1) hlen hs s [] [] rfl (by simp; omega);rw [show (((([]:List WF).length:Nat)):Int)=0 from rfl,List.nil_append,List.length_nil,List.drop_zero] at this;rw [this];rfl
 unfold f35r1 f35r1n0;rw [decide_eq_true (show (0:Int)≤(s.length:Int) by omega),rqt,Int.toNat_natCast,fitSmall (by omega) (by decide),rqt,h1];simp only [Option.bind_some];rw [h3];rfl
end Go.Proofs.Ytgbolgaodaokcaa
namespace Go.Proofs.Ytgbolgaodaokcaa
set_option linter.unusedVariables false
set_option linter.unusedSimpArgs false
set_option maxRecDepth 100000
open Go.RowKit
def msA:Int→List (List Int)→List Int
 | _,[]=>[]
 | n,ws::t=>mnI n (sm ws)::msA (n-mnI n (sm ws)) t
def outs:List (List Int)→List Int→List Int
 | ws::t,m::r=>divL m ws++outs t r
 | _,_=>[]
theorem sprA_eq:∀(W:List (List Int))(n:Int),sprA n W=(n-sm (msA n W),outs W (msA n W))
 | [],n=>by simp [sprA,msA,sm,outs]
 | ws::t,n=>by
  rw [sprA,msA,outs,sprA_eq t,sm]
  congr 1
  show n-mnI n (sm ws)-sm (msA (n-mnI n (sm ws)) t)=_;omega
def mOK:List (List Int)→List Int→Prop
 | [],[]=>True
 | ws::t,m::r=>(0≤m∧m≤sm ws∧∀x∈ws,0≤x)∧mOK t r
 | _,_=>False
theorem msA_ok:∀{W:List (List Int)} {n:Int},0≤n→(∀ws∈W,wOK ws)→mOK W (msA n W)∧sm (msA n W)≤n∧0≤sm (msA n W)
 | [],n,hn,_=>by simp [msA,mOK,sm,hn]
 | ws::t,n,hn,h=>by
  have h0:=(h ws List.mem_cons_self).1;have hm:=mnI_ok hn (Qbd h0);have ih:=msA_ok (W:=t) (n:=n-mnI n (sm ws)) (by omega) fun x hx=>h x (List.mem_cons_of_mem ws hx);rw [msA,mOK,sm];exact ⟨⟨⟨hm.1,hm.2.1,h0⟩,ih.1⟩,by omega,by omega⟩
theorem sm_map_pos{W:List (List Int)}(h:∀ws∈W,wOK ws):0≤sm (W.map sm):=Qbd fun x hx=>by
 obtain ⟨ws,hw,rfl⟩:=List.mem_map.1 hx;exact Qbd (h ws hw).1
theorem msA_all:∀{W:List (List Int)} {n:Int},0≤n→(∀ws∈W,wOK ws)→0<n-sm (msA n W)∨sm (W.map sm)≤n→msA n W=W.map sm
 | [],n,hn,_,_=>rfl
 | ws::t,n,hn,h,hx=>by
  have h0:=Qbd (h ws List.mem_cons_self).1;have ht:∀x∈t,wOK x:=fun x hx=>h x (List.mem_cons_of_mem ws hx);have hm:=mnI_ok hn h0;have ok:=msA_ok (W:=t) (n:=n-mnI n (sm ws)) (by omega) ht;have hp:=sm_map_pos ht;rw [msA,sm,List.map_cons,sm] at hx;have e:mnI n (sm ws)=sm ws:=by
   unfold mnI at hx hm ok ⊢
   by_cases c:sm ws<n
   ·rw [decide_eq_true c]; rfl
   ·rw [decide_eq_false c] at hx hm ok ⊢;simp only [cond_false] at hx hm ok ⊢;omega
  rw [msA,List.map_cons];rw [e] at hx ⊢;rw [msA_all (by rw [e] at hm; omega) ht (by omega)]
def fuA:List (List Int)→List Int→Prop
 | ws::t,m::r=>((∃k∈r,0<k)→m=sm ws)∧fuA t r
 | _,_=>True
theorem msA_zero:∀{W:List (List Int)} {n:Int},n≤0→0≤n→(∀ws∈W,wOK ws)→∀k∈msA n W,k=0
 | [],n,_,_,_,k,hk=>by cases hk
 | ws::t,n,h,hn,hw,k,hk=>by
  have hm:=mnI_ok hn (Qbd (hw ws List.mem_cons_self).1);rw [msA] at hk;rcases List.mem_cons.1 hk with rfl | hk
  ·omega
  ·exact msA_zero (by omega) (by omega) (fun x hx=>hw x (List.mem_cons_of_mem ws hx)) k hk
theorem msA_fu:∀{W:List (List Int)} {n:Int},0≤n→(∀ws∈W,wOK ws)→fuA W (msA n W)
 | [],n,_,_=>trivial
 | ws::t,n,hn,h=>by
  have hm:=mnI_ok hn (Qbd (h ws List.mem_cons_self).1);have ht:∀x∈t,wOK x:=fun x hx=>h x (List.mem_cons_of_mem ws hx);rw [msA,fuA];refine ⟨fun ⟨k,hk,h0⟩=>?_,msA_fu (by omega) ht⟩;rcases Int.lt_or_le 0 (n-mnI n (sm ws)) with c | c
  ·unfold mnI at c ⊢
   by_cases d:sm ws<n
   ·rw [decide_eq_true d]; rfl
   ·rw [decide_eq_false d] at c; simp only [cond_false] at c; omega
  ·have:=msA_zero c (by omega) ht k hk; omega

theorem outs_len:∀{W:List (List Int)} {ms:List Int},mOK W ms→(outs W ms).length=W.flatten.length
 | [],[],_=>rfl
 | [],_::_,h=>h.elim
 | _::_,[],h=>h.elim
 | ws::t,m::r,h=>by rw [outs,List.length_append,divL_len,outs_len h.2,List.flatten_cons,List.length_append]
theorem outs_sum:∀{W:List (List Int)} {ms:List Int},mOK W ms→sm (outs W ms)=sm ms
 | [],[],_=>rfl
 | [],_::_,h=>h.elim
 | _::_,[],h=>h.elim
 | ws::t,m::r,h=>by rw [outs,sm_app,outs_sum h.2,sm,(div_ok h.1.2.2 h.1.1 h.1.2.1).sum]
theorem getD_app(a b:List Int)(i:Nat):(a++b).getD i 0=if i<a.length then a.getD i 0 else b.getD (i-a.length) 0:=by
 simp only [List.getD,List.getElem?_append]
 split<;>rfl
theorem divL_full{ws:List Int}(h:∀x∈ws,0≤x):divL (sm ws) ws=ws:=by
 have ok:=div_ok h (Qbd h) (Int.le_refl _);have key:∀(a b:List Int),a.length=b.length→(∀i<b.length,a.getD i 0≤b.getD i 0)→sm a=sm b→a=b:=by
  intro a
  induction a with
  | nil=>intro b hl _ _; exact (List.eq_nil_of_length_eq_zero hl.symm).symm
  | cons x a ih =>
   intro b hl hle hs;cases b with
   | nil=>simp at hl
   | cons y b =>
    have h0:=hle 0 (by simp);simp only [List.getD_cons_zero] at h0;have hr:∀i<b.length,a.getD i 0≤b.getD i 0:=fun i hi=>by
     have:=hle (i+1) (by simpa using hi);simpa using this
    have hsum:∀(a b:List Int),a.length=b.length→(∀i<b.length,a.getD i 0≤b.getD i 0)→sm a≤sm b:=by
     intro a
     induction a with
     | nil=>intro b hl _; rw [List.eq_nil_of_length_eq_zero hl.symm]; exact Int.le_refl _
     | cons x a ih2 =>
      intro b hl hle;cases b with
      | nil=>simp at hl
      | cons y b =>
       have h0:=hle 0 (by simp);simp only [List.getD_cons_zero] at h0;have:=ih2 b (by simpa using hl) fun i hi=>by
        have:=hle (i+1) (by simpa using hi);simpa using this
       rw [sm,sm]; omega
    have h1:=hsum a b (by simpa using hl) hr;rw [sm,sm] at hs;have:x=y:=by omega
    rw [this,ih b (by simpa using hl) hr (by omega)]
 exact key _ _ ok.len (fun i hi=>(ok.each i hi).2) (by rw [ok.sum])
theorem outs_each:∀{W:List (List Int)} {ms:List Int},mOK W ms→∀i<W.flatten.length,0≤(outs W ms).getD i 0∧(outs W ms).getD i 0≤W.flatten.getD i 0
 | [],[],_,i,hi=>by simp at hi
 | [],_::_,h,_,_=>h.elim
 | _::_,[],h,_,_=>h.elim
 | ws::t,m::r,h,i,hi=>by
  have ok:=div_ok h.1.2.2 h.1.1 h.1.2.1;rw [List.flatten_cons,List.length_append] at hi;rw [outs,List.flatten_cons,getD_app,getD_app,ok.len]
  by_cases c:i<ws.length
  ·rw [if_pos c,if_pos c]; exact ok.each i c
  ·rw [if_neg c,if_neg c]; exact outs_each h.2 _ (by omega)
theorem outs_all:∀{W:List (List Int)} {ms:List Int},mOK W ms→ms=W.map sm→outs W ms=W.flatten
 | [],[],_,_=>rfl
 | [],_::_,h,_=>h.elim
 | _::_,[],h,_=>h.elim
 | ws::t,m::r,h,e=>by
  rw [List.map_cons] at e;obtain ⟨rfl,rfl⟩:=List.cons.inj e;rw [outs,List.flatten_cons,divL_full h.1.2.2,outs_all h.2 rfl]

def lvs(l:List WS):List Int:=l.map Qa.Level
def lvOK:List (List WS)→Prop
 | []=>True
 | g::t=>(∃L,(∀x∈g,x.Level=L)∧∀y∈t.flatten,L<y.Level)∧lvOK t
theorem rn_lv:∀{l:List WS},l.Pairwise (fun a b=>a.Level≤b.Level)→lvOK (rn l)
 | [],_=>trivial
 | x::r,h=>by
  have h':=List.pairwise_cons.1 h;have ih:=rn_lv h'.2;have hj:=rn_join r;have hne:=rn_ne r;rw [rn]
  revert ih hj hne
  cases rn r with
  | nil =>
   intro _ _ _;exact ⟨⟨x.Level,fun y hy=>by rw [List.mem_singleton.1 hy],fun y hy=>by cases hy⟩,trivial⟩
  | cons g t =>
   intro ih hj hne;obtain ⟨⟨L,i1,i2⟩,i3⟩:=ih;obtain ⟨y,g',rfl⟩:∃y g',g=y::g':=by
    cases g with
    | nil=>exact absurd rfl (hne [] List.mem_cons_self)
    | cons y g'=>exact ⟨y,g',rfl⟩
   have hyL:=i1 y List.mem_cons_self;have hxy:x.Level≤y.Level:=h'.1 y (by rw [←hj]; simp)
   by_cases k:x.Level=y.Level
   ·simp only [sameLv,decide_eq_true k,cond_true];refine ⟨⟨L,fun z hz=>?_,i2⟩,i3⟩;rcases List.mem_cons.1 hz with rfl | hz
    ·omega
    ·exact i1 z hz
   ·simp only [sameLv,decide_eq_false k,cond_false];refine ⟨⟨x.Level,fun z hz=>by rw [List.mem_singleton.1 hz],fun z hz=>?_⟩,⟨⟨L,i1,i2⟩,i3⟩⟩;rw [List.flatten_cons] at hz;rcases List.mem_append.1 hz with hz | hz
    ·rw [i1 z hz]; omega
    ·have:=i2 z hz; omega
theorem lv_mem{l:List WS}{i:Nat}(h:i<l.length):∃x∈l,(lvs l).getD i 0=x.Level∧(ams l).getD i 0=x.Amount:=⟨l[i],List.getElem_mem h,by simp [lvs,List.getD,h],by simp [ams,List.getD,h]⟩
theorem lvs_len(l:List WS):(lvs l).length=l.length:=by simp [lvs]
theorem lvs_app(a b:List WS):lvs (a++b)=lvs a++lvs b:=by simp [lvs]
theorem ams_app(a b:List WS):ams (a++b)=ams a++ams b:=by simp [ams]
theorem out_le{ws:List Int}{m:Int}(h:∀x∈ws,0≤x)(h0:0≤m)(hm:m≤sm ws){i:Nat}(hi:i<ws.length):(divL m ws).getD i 0≤m:=by
 have ok:=div_ok h h0 hm;have h1:=sm_le (l:=divL m ws) (fun x hx=>by
  obtain ⟨j,hj,rfl⟩:=List.getElem_of_mem hx;rw [ok.len] at hj;have:=(ok.each j hj).1;have e:(divL m ws).getD j 0=(divL m ws)[j]'(by rw [ok.len]; exact hj):=by simp [List.getD,ok.len,hj]
  rw [e] at this; exact this) (getD_mem (l:=divL m ws) (i:=i) (by rw [ok.len]; exact hi))
 rw [ok.sum] at h1; exact h1
theorem outs_some{W:List (List Int)}{ms:List Int} : mOK W ms→∀{i:Nat},i<W.flatten.length→0<(outs W ms).getD i 0→∃k∈ms,0<k:=by
 induction W generalizing ms with
 | nil=>intro h i hi; simp at hi
 | cons ws t ih =>
  intro h i hi h0;cases ms with
  | nil=>exact h.elim
  | cons m r =>
   have ok:=div_ok h.1.2.2 h.1.1 h.1.2.1;rw [List.flatten_cons,List.length_append] at hi;rw [outs,getD_app,ok.len] at h0
   by_cases c:i<ws.length
   ·rw [if_pos c] at h0;have:=out_le h.1.2.2 h.1.1 h.1.2.1 c;exact ⟨m,List.mem_cons_self,by omega⟩
   ·rw [if_neg c] at h0;obtain ⟨k,hk,hk0⟩:=ih h.2 (by omega) h0;exact ⟨k,List.mem_cons_of_mem m hk,hk0⟩
theorem outs_lowA:∀{G:List (List WS)} {ms:List Int},lvOK G→mOK (G.map ams) ms→fuA (G.map ams) ms→∀i j,i<G.flatten.length→j<G.flatten.length→(lvs G.flatten).getD i 0<(lvs G.flatten).getD j 0→0<(outs (G.map ams) ms).getD j 0→(outs (G.map ams) ms).getD i 0=(ams G.flatten).getD i 0
 | [],_,_,_,_,i,_,hi,_,_,_=>by simp at hi
 | _::_,[],_,h,_,_,_,_,_,_,_=>h.elim
 | g::t,m::r,hl,h,hf,i,j,hi,hj,hlv,h0=>by
  obtain ⟨⟨L,l1,l2⟩,l3⟩:=hl;rw [List.map_cons] at h hf;have ok:=div_ok h.1.2.2 h.1.1 h.1.2.1;have hlen:(divL m (ams g)).length=g.length:=by rw [ok.len,amsLen]
  rw [List.flatten_cons,List.length_append] at hi hj;rw [List.flatten_cons,lvs_app,getD_app,getD_app,lvs_len] at hlv;rw [List.map_cons,outs,getD_app,hlen] at h0 ⊢;rw [List.flatten_cons,ams_app,getD_app,amsLen];have inG:∀k,k<g.length→(lvs g).getD k 0=L:=fun k hk=>by
   obtain ⟨x,hx,e,_⟩:=lv_mem hk;rw [e]; exact l1 x hx
  have inT:∀k,k<t.flatten.length→L<(lvs t.flatten).getD k 0:=fun k hk=>by
   obtain ⟨x,hx,e,_⟩:=lv_mem hk;rw [e]; exact l2 x hx
  by_cases ci:i<g.length
  ·rw [if_pos ci] at hlv ⊢;rw [if_pos ci]
   by_cases cj:j<g.length
   ·rw [if_pos cj,inG i ci,inG j cj] at hlv; omega
   ·rw [if_neg cj] at h0;have hfull:=hf.1 (outs_some h.2 (i:=j-g.length) (by rw [flen]; omega) h0);rw [hfull,divL_full h.1.2.2]
  ·rw [if_neg ci] at hlv ⊢;rw [if_neg ci]
   by_cases cj:j<g.length
   ·rw [if_pos cj,inG j cj] at hlv;have:=inT (i-g.length) (by omega); omega
   ·rw [if_neg cj] at hlv h0;exact outs_lowA l3 h.2 hf.2 _ _ (by omega) (by omega) hlv h0
def lsum(L:Int):List WS→List Int→Int
 | x::r,v::t=>(bif decide (x.Level=L) then v else 0)+lsum L r t
 | _,_=>0
theorem lsum_app(L:Int):∀(a:List WS)(u:List Int)(b:List WS)(v:List Int),a.length=u.length→lsum L (a++b) (u++v)=lsum L a u+lsum L b v
 | [],[],b,v,_=>by simp [lsum]
 | [],_::_,_,_,h=>by simp at h
 | _::_,[],_,_,h=>by simp at h
 | x::a,y::u,b,v,h=>by rw [List.cons_append,List.cons_append,lsum,lsum,lsum_app L a u b v (by simpa using h)]; omega
theorem lsum_all{L:Int} : ∀{a:List WS} {u:List Int},a.length=u.length→(∀x∈a,x.Level=L)→lsum L a u=sm u
 | [],[],_,_=>rfl
 | [],_::_,h,_=>by simp at h
 | _::_,[],h,_=>by simp at h
 | x::a,y::u,h,hx=>by rw [lsum,decide_eq_true (hx x List.mem_cons_self),cond_true,lsum_all (by simpa using h) fun z hz=>hx z (List.mem_cons_of_mem x hz),sm]
theorem lsum_none{L:Int} : ∀{a:List WS} {u:List Int},(∀x∈a,x.Level≠L)→lsum L a u=0
 | [],_,_=>by unfold lsum; rfl
 | x::a,[],_=>rfl
 | x::a,y::u,hx=>by rw [lsum,decide_eq_false (hx x List.mem_cons_self),cond_false,lsum_none fun z hz=>hx z (List.mem_cons_of_mem x hz)]; rfl
theorem outs_fair:∀{G:List (List WS)} {ms:List Int},lvOK G→mOK (G.map ams) ms→∀i,i<G.flatten.length →
  ((lsum ((lvs G.flatten).getD i 0) G.flatten (outs (G.map ams) ms)≤lsum ((lvs G.flatten).getD i 0) G.flatten (ams G.flatten))∧(0<lsum ((lvs G.flatten).getD i 0) G.flatten (ams G.flatten)→-(lsum ((lvs G.flatten).getD i 0) G.flatten (ams G.flatten))<(outs (G.map ams) ms).getD i 0*lsum ((lvs G.flatten).getD i 0) G.flatten (ams G.flatten)-lsum ((lvs G.flatten).getD i 0) G.flatten (outs (G.map ams) ms)*(ams G.flatten).getD i 0∧(outs (G.map ams) ms).getD i 0*lsum ((lvs G.flatten).getD i 0) G.flatten (ams G.flatten)-lsum ((lvs G.flatten).getD i 0) G.flatten (outs (G.map ams) ms)*(ams G.flatten).getD i 0<lsum ((lvs G.flatten).getD i 0) G.flatten (ams G.flatten))) ∧
  ∀j,j<i→(lvs G.flatten).getD j 0=(lvs G.flatten).getD i 0→(ams G.flatten).getD j 0=(ams G.flatten).getD i 0→(outs (G.map ams) ms).getD i 0≤(outs (G.map ams) ms).getD j 0∧(outs (G.map ams) ms).getD j 0≤(outs (G.map ams) ms).getD i 0+1
 | [],_,_,_,i,hi=>by simp at hi
 | _::_,[],_,h,_,_=>h.elim
 | g::t,m::r,hl,h,i,hi=>by
  obtain ⟨⟨L,l1,l2⟩,l3⟩:=hl;rw [List.map_cons] at h;have ok:=div_ok h.1.2.2 h.1.1 h.1.2.1;have hlen:(divL m (ams g)).length=g.length:=by rw [ok.len,amsLen]
  rw [List.flatten_cons,List.length_append] at hi;rw [List.map_cons,outs,List.flatten_cons,lvs_app,ams_app];rw [lsum_app _ g (divL m (ams g)) _ _ hlen.symm,lsum_app _ g (ams g) _ _ (amsLen g).symm];have inG:∀k,k<g.length→(lvs g).getD k 0=L:=fun k hk=>by
   obtain ⟨x,hx,e,_⟩:=lv_mem hk;rw [e]; exact l1 x hx
  have inT:∀k,k<t.flatten.length→L<(lvs t.flatten).getD k 0:=fun k hk=>by
   obtain ⟨x,hx,e,_⟩:=lv_mem hk;rw [e]; exact l2 x hx
  simp only [getD_app,lvs_len,amsLen,hlen]
  by_cases ci:i<g.length
  ·simp only [if_pos ci];rw [inG i ci,lsum_all hlen.symm l1,lsum_all (amsLen g).symm l1,lsum_none fun x hx=>by have:=l2 x hx; omega,lsum_none fun x hx=>by have:=l2 x hx; omega,Int.add_zero,Int.add_zero,ok.sum];refine ⟨⟨h.1.2.1,fun hp=>?_⟩,fun j hj hlv ham=>?_⟩
   ·exact ok.near i (by rw [amsLen]; exact ci) hp
   ·have cj:j<g.length:=by omega
    rw [if_pos cj] at ham ⊢;exact ok.same j i hj (by rw [amsLen]; exact ci) ham
  ·simp only [if_neg ci];have hLi:=inT (i-g.length) (by omega);rw [lsum_none (a:=g) fun x hx=>by rw [l1 x hx]; omega,lsum_none (a:=g) fun x hx=>by rw [l1 x hx]; omega,Int.zero_add,Int.zero_add];have ih:=outs_fair l3 h.2 (i-g.length) (by omega);refine ⟨ih.1,fun j hj hlv ham=>?_⟩
   by_cases cj:j<g.length
   ·rw [if_pos cj,inG j cj] at hlv; omega
   ·rw [if_neg cj] at hlv ham ⊢;exact ih.2 (j-g.length) (by omega) hlv ham
end Go.Proofs.Ytgbolgaodaokcaa
namespace Go.Proofs.Ytgbolgaodaokcaa
set_option linter.unusedVariables false
set_option linter.unusedSimpArgs false
set_option maxRecDepth 100000
open Go.RowKit
theorem kc_lv{a b:WS}(h:kc a b<0):a.Level≤b.Level∧¬(a.Level=b.Level∧a.Owner=b.Owner):=by
 unfold kc cmpOr at h
 by_cases c:cmpI a.Level b.Level=0
 ·rw [decide_eq_true c,cond_true] at h;rw [cmpI_zero] at c;rw [cmpB_neg] at h;exact ⟨by omega,fun k=>sltNe h k.2⟩
 ·rw [decide_eq_false c,cond_false,cmpI_neg] at h;exact ⟨by omega,fun k=>by omega⟩
theorem okW_pw{lo:Int} : ∀{p:Option WS} {l:List WS},okW lo p l=true→l.Pairwise (fun a b=>kc a b<0)∧∀y,p=some y→∀x∈l,kc y x<0
 | p,[],_=>⟨List.Pairwise.nil,fun y _ x hx=>by cases hx⟩
 | p,x::r,h=>by
  rw [okW,Bool.and_eq_true,Bool.and_eq_true] at h;obtain ⟨_,h2,h3⟩:=h;have ih:=okW_pw h3;refine ⟨List.pairwise_cons.2 ⟨fun z hz=>ih.2 x rfl z hz,ih.1⟩,fun y hy z hz=>?_⟩;subst hy;have hyx:kc y x<0:=of_decide_eq_true h2;rcases List.mem_cons.1 hz with rfl | hz
  ·exact hyx
  ·exact kc_cmp.tr hyx (ih.2 x rfl z hz)
structure Val (lo:Int) (l:List WS):Prop where
 len:l.length≤100
 each:∀x∈l,inB lo x=true
 ord:l.Pairwise fun a b=>kc a b<0
 sum:sm (ams l)≤1125899906842624
theorem val_of{lo:Int}{l:List WS}(h:vld lo l=true):Val lo l:=by
 unfold vld at h;rw [Bool.and_eq_true,Bool.and_eq_true,decide_eq_true_eq,decide_eq_true_eq] at h;exact ⟨h.1,okW_in h.2.1,(okW_pw h.2.1).1,h.2.2⟩
theorem Val.lv{lo:Int}{l:List WS}(v:Val lo l):l.Pairwise fun a b=>a.Level≤b.Level:=v.ord.imp fun h=>(kc_lv h).1
theorem Val.am{lo:Int}(h0:0≤lo){l:List WS}(v:Val lo l):∀x∈ams l,0≤x:=fun x hx=>by
 obtain ⟨y,hy,rfl⟩:=List.mem_map.1 hx;have:=inB_am (v.each y hy); omega
theorem Val.w{lo:Int}(h0:0≤lo){l:List WS}(v:Val lo l):∀g∈rn l,wOK (ams g):=fun g hg=>by
 obtain ⟨a,b,e⟩:=List.append_of_mem hg;have hj:=rn_join l;rw [e,List.flatten_append,List.flatten_cons] at hj;have hs:=v.sum;have hl:=v.len;have h1:=v.am h0;rw [←hj,ams_app,ams_app] at h1 hs;rw [←hj,List.length_append,List.length_append] at hl;rw [sm_app,sm_app] at hs;have p1:=Qbd fun x hx=>h1 x (List.mem_append_left _ hx);have p2:=Qbd fun x hx=>h1 x (List.mem_append_right _ (List.mem_append_right _ hx));exact ⟨fun x hx=>h1 x (List.mem_append_right _ (List.mem_append_left _ hx)),by omega,by rw [amsLen]; omega⟩
theorem Val.ww{lo:Int}(h0:0≤lo){l:List WS}(v:Val lo l):∀ws∈wss l,wOK ws:=fun ws hw=>by
 obtain ⟨g,hg,rfl⟩:=List.mem_map.1 hw;exact v.w h0 g hg
theorem monB_iff{n:Int} : monB n=true↔0≤n∧n≤1125899906842624:=by
 unfold monB; rw [Bool.and_eq_true,decide_eq_true_eq,decide_eq_true_eq]

def bearS(l:List WS)(n:Int):List WS×Int×Int :=
 bif vld 0 l then bif monB n then (shr l (sprA n (wss l)).2,(sprA n (wss l)).1,0) else ([],0,2) else ([],0,8)
theorem f13_eq(s:List WF)(n:Int):f13 s n=some (bearS (s.map tos) n):=by
 unfold f13 f13n0 bearS;rw [f23_eq];cases hv:vld 0 (s.map tos) with
 | false=>rfl
 | true =>
  have v:=val_of hv;simp only [cond_true,Option.bind_some];rw [decide_true,cond_true,f34_eq,Option.bind_some];cases hm:monB n with
  | false=>rfl
  | true =>
   have hn:=monB_iff.1 hm;have hl:=v.len;rw [List.length_map] at hl;rw [cond_true,f35r1_eq (by omega) (v.w (by decide)) hn.1 hn.2];rfl
theorem f12_eq(a:List WF)(b:List WS):f12 a b=some (decide (120<a.length)||decide (120<b.length)):=by
 unfold f12 f12n0;rw [show decide ((120:Int)<(a.length:Int))=decide (120<a.length) by congr 1; apply propext; omega,show decide ((120:Int)<(b.length:Int))=decide (120<b.length) by congr 1; apply propext; omega];cases decide (120<a.length)<;>rfl

theorem shr_mem:∀{l:List WS} {g:List Int} {x:WS},x∈shr l g→(∃y∈l,y.Level=x.Level∧y.Owner=x.Owner)∧0<x.Amount∧x.Amount∈g
 | [],g,x,h=>by cases h
 | y::r,[],x,h=>by cases h
 | y::r,v::t,x,h=>by
  rw [shr] at h
  by_cases c:0<v
  ·rw [decide_eq_true c,cond_true] at h;rcases List.mem_cons.1 h with rfl | h
   ·exact ⟨⟨y,List.mem_cons_self,rfl,rfl⟩,c,List.mem_cons_self⟩
   ·obtain ⟨⟨z,hz,e⟩,h2,h3⟩:=shr_mem h;exact ⟨⟨z,List.mem_cons_of_mem y hz,e⟩,h2,List.mem_cons_of_mem v h3⟩
  ·rw [decide_eq_false c,cond_false] at h;obtain ⟨⟨z,hz,e⟩,h2,h3⟩:=shr_mem h;exact ⟨⟨z,List.mem_cons_of_mem y hz,e⟩,h2,List.mem_cons_of_mem v h3⟩
theorem shr_len:∀(l:List WS)(g:List Int),(shr l g).length≤l.length
 | [],g=>by simp [shr]
 | y::r,[]=>by simp [shr]
 | y::r,v::t=>by
  have:=shr_len r t;rw [shr];cases decide (0<v)<;>simp<;>omega
theorem shr_sum:∀{l:List WS} {g:List Int},(∀v∈g,0≤v)→g.length=l.length→sm (ams (shr l g))=sm g
 | [],[],_,_=>rfl
 | [],_::_,_,h=>by simp at h
 | _::_,[],_,h=>by simp at h
 | x::r,v::t,h0,hl=>by
  have hv:=h0 v List.mem_cons_self;have ih:=shr_sum (l:=r) (fun y hy=>h0 y (List.mem_cons_of_mem v hy)) (by simpa using hl);rw [shr,sm]
  by_cases c:0<v
  ·rw [decide_eq_true c,cond_true,ams,List.map_cons,sm];unfold ams at ih;rw [ih]
  ·rw [decide_eq_false c,cond_false,ih]; omega

structure Bo (l:List WS) (n:Int) (out:List Int) (r:Int):Prop where
 len:out.length=l.length
 r0:0≤r
 sum:sm out=n-r
 each:∀i<l.length,0≤out.getD i 0∧out.getD i 0≤(ams l).getD i 0
 all:0<r→out=ams l
 fair:∀i,i<l.length →
  ((lsum ((lvs l).getD i 0) l out≤lsum ((lvs l).getD i 0) l (ams l))∧(0<lsum ((lvs l).getD i 0) l (ams l)→-(lsum ((lvs l).getD i 0) l (ams l))<out.getD i 0*lsum ((lvs l).getD i 0) l (ams l)-lsum ((lvs l).getD i 0) l out*(ams l).getD i 0∧out.getD i 0*lsum ((lvs l).getD i 0) l (ams l)-lsum ((lvs l).getD i 0) l out*(ams l).getD i 0<lsum ((lvs l).getD i 0) l (ams l))) ∧
  ∀j,j<i→(lvs l).getD j 0=(lvs l).getD i 0→(ams l).getD j 0=(ams l).getD i 0→out.getD i 0≤out.getD j 0∧out.getD j 0≤out.getD i 0+1
theorem boA{lo n:Int}(h0:0≤lo){l:List WS}(v:Val lo l)(hn:0≤n):Bo l n (sprA n (wss l)).2 (sprA n (wss l)).1 ∧
  ∀i j,i<l.length→j<l.length→(lvs l).getD i 0<(lvs l).getD j 0→0<((sprA n (wss l)).2).getD j 0→((sprA n (wss l)).2).getD i 0=(ams l).getD i 0:=by
 have hw:=v.ww h0;have ok:=msA_ok hn hw;have hj:=rn_join l;have hlv:=rn_lv v.lv;rw [sprA_eq];have hfl:(wss l).flatten=ams l:=by unfold wss; rw [←ams_join,hj]
 have hfle:(wss l).flatten.length=l.length:=by rw [hfl,amsLen]
 refine ⟨⟨?_,?_,?_,?_,?_,?_⟩,?_⟩
 ·rw [outs_len ok.1,hfle]
 ·show 0≤_-_; omega
 ·rw [outs_sum ok.1]; show _=n-(n-_); omega
 ·intro i hi;have:=outs_each ok.1 i (by omega)
  rwa [hfl] at this
 ·intro hr;show outs _ _=_;rw [outs_all ok.1 (msA_all hn hw (.inl hr)),hfl]
 ·intro i hi;have:=outs_fair hlv ok.1 i (by rw [hj]; exact hi)
  rwa [hj] at this
 ·intro i j hi hj';have:=outs_lowA hlv ok.1 (msA_fu hn hw) i j (by rw [hj]; exact hi) (by rw [hj]; exact hj')
  rwa [hj] at this
theorem Bo.pos{l:List WS}{n r:Int}{out:List Int}(b:Bo l n out r):∀v∈out,0≤v:=fun v hv=>by
 obtain ⟨j,hj,rfl⟩:=List.getElem_of_mem hv;have:=(b.each j (by rw [←b.len]; exact hj)).1;have e:out.getD j 0=out[j]:=by simp [List.getD,hj]
 rwa [e] at this

theorem amS{s:List WF}{i:Nat}(hi:i<s.length):(ams (s.map tos)).getD i 0=s[i].Size:=by simp [ams,List.getD,hi,tos]
end Go.Proofs.Ytgbolgaodaokcaa
namespace Go.Proofs.Ytgbolgaodaokcaa
set_option linter.unusedVariables false
set_option linter.unusedSimpArgs false
set_option maxRecDepth 100000
open Go.RowKit
theorem okW_of{lo:Int} : ∀{p:Option WS} {l:List WS},(∀x∈l,inB lo x=true)→(l.Pairwise fun a b=>kc a b<0)→(∀y,p=some y→∀x∈l,kc y x<0)→okW lo p l=true
 | _,[],_,_,_=>rfl
 | p,x::r,h1,h2,h3=>by
  have h2':=List.pairwise_cons.1 h2;rw [okW,h1 x List.mem_cons_self,okW_of (fun z hz=>h1 z (List.mem_cons_of_mem x hz)) h2'.2 fun y hy z hz=>by
   cases hy; exact h2'.1 z hz,Bool.true_and,Bool.and_true]
  cases p with
  | none=>rfl
  | some y=>exact decide_eq_true (h3 y rfl x List.mem_cons_self)
theorem Val.vld{lo:Int}{l:List WS}(v:Val lo l):vld lo l=true:=by
 unfold Go.Proofs.Ytgbolgaodaokcaa.vld;rw [decide_eq_true v.len,okW_of v.each v.ord (fun y hy=>by cases hy),decide_eq_true v.sum]; rfl
theorem shr_pw:∀{l:List WS} {g:List Int},(l.Pairwise fun a b=>kc a b<0)→(shr l g).Pairwise fun a b=>kc a b<0
 | [],g,_=>by simp [shr]
 | _::_,[],_=>by simp [shr]
 | x::r,v::t,h=>by
  have h':=List.pairwise_cons.1 h;rw [shr];cases decide (0<v) with
  | false=>exact shr_pw h'.2
  | true =>
   refine List.pairwise_cons.2 ⟨fun z hz=>?_,shr_pw h'.2⟩;obtain ⟨⟨y,hy,e1,e2⟩,_⟩:=shr_mem hz;have:=h'.1 y hy;unfold kc at this ⊢;rw [←e1,←e2]; exact this
theorem Bo.val{lo:Int}{l:List WS}{n r:Int}{out:List Int}(v:Val lo l)(hn:n≤1125899906842624)(b:Bo l n out r):Val 1 (shr l out) where
 len:=Nat.le_trans (shr_len l out) v.len
 each x hx:=by
  obtain ⟨⟨y,hy,e1,e2⟩,h2,h3⟩:=shr_mem hx;have h:=v.each y hy;have:=sm_le b.pos h3;have h5:=b.sum;have h6:=b.r0;unfold inB at h ⊢;simp only [Bool.and_eq_true,decide_eq_true_eq] at h ⊢;rw [←e1,←e2];exact ⟨h.1,h.2.1,h.2.2.1,by omega,by omega⟩
 ord:=shr_pw v.ord
 sum:=by
  have h5:=b.sum;have h6:=b.r0;rw [shr_sum b.pos b.len]; omega


end Go.Proofs.Ytgbolgaodaokcaa
namespace Go.Proofs.Ytgbolgaodaokcaa
set_option linter.unusedVariables false
set_option linter.unusedSimpArgs false
set_option maxRecDepth 100000
open Go.RowKit

def mark:List Int→List Int→List Int
 | rs,[]=>rs
 | rs,z::T=>mark (rs.set z.toNat (-1)) T
end Go.Proofs.Ytgbolgaodaokcaa
namespace Go.Proofs.Ytgbolgaodaokcaa
set_option linter.unusedVariables false
set_option linter.unusedSimpArgs false
set_option maxRecDepth 100000
open Go.RowKit
theorem keyE(a b:Key_):Key_.eqb a b=true↔a=b:=⟨Key_.eqb_eq,fun h=>by subst h; simp [Key_.eqb,seq_refl]⟩
abbrev KM:=List (Key_×Int)
def kW(x:WS):Key_:=Key_.mk x.Level x.Owner
def kF(x:WF):Key_:=Key_.mk x.Level x.Owner
def fx(k:Key_):List WF→Nat→Int
 | [],_=>-1
 | y::r,i=>bif Key_.eqb (kF y) k then (i:Int) else fx k r (i+1)
def mk:List WF→Nat→KM→KM
 | [],_,m=>m
 | x::r,i,m=>mk r (i+1) (mPut Key_.eqb (kF x) (i:Int) m)
theorem mhasPut{k q:Key_}{v:Int} : ∀m:KM,mHas Key_.eqb k (mPut Key_.eqb q v m)=(Key_.eqb k q||mHas Key_.eqb k m)
 | []=>by simp [mPut,mHas]
 | (a,w)::r=>by
  rw [mPut];cases h:Key_.eqb q a with
  | true =>
   have:=(keyE _ _).1 h; subst this;simp only [cond_true,mHas];cases Key_.eqb k q<;>simp
  | false =>
   simp only [cond_false,mHas];rw [mhasPut r];cases Key_.eqb k a<;>cases Key_.eqb k q<;>simp
theorem fx_low(k:Key_):∀(l:List WF)(i:Nat),fx k l i = -1∨∃(j:Nat) (h:j<l.length),fx k l i=((i+j:Nat):Int)∧kF l[j]=k
 | [],i=>.inl rfl
 | y::r,i=>by
  rw [fx];cases h:Key_.eqb (kF y) k with
  | true=>exact .inr ⟨0,by simp,rfl,(keyE _ _).1 h⟩
  | false =>
   rcases fx_low k r (i+1) with e | ⟨j,hj,e,e2⟩
   ·exact .inl e
   ·exact .inr ⟨j+1,by simpa using hj,by rw [cond_false,e]; congr 1; omega,by simpa using e2⟩
theorem fx_none{k:Key_} : ∀{l:List WF} (i:Nat),(∀y∈l,kF y≠k)→fx k l i = -1
 | [],_,_=>rfl
 | y::r,i,h=>by
  have:Key_.eqb (kF y) k=false:=by
   cases e:Key_.eqb (kF y) k with
   | false=>rfl
   | true=>exact absurd ((keyE _ _).1 e) (h y List.mem_cons_self)
  rw [fx,this,cond_false,fx_none _ fun z hz=>h z (List.mem_cons_of_mem y hz)]
theorem fx_at{l:List WF}(hd:l.Pairwise fun a b=>kF a≠kF b):∀(j i:Nat)(hj:j<l.length),fx (kF l[j]) l i=((i+j:Nat):Int):=by
 induction l with
 | nil=>intro j i hj; simp at hj
 | cons y r ih =>
  intro j i hj;have hd':=List.pairwise_cons.1 hd;cases j with
  | zero=>rw [fx,List.getElem_cons_zero,(keyE _ _).2 rfl]; rfl
  | succ j =>
   have hj':j<r.length:=by simpa using hj
   have hne:=hd'.1 r[j] (List.getElem_mem hj');have:Key_.eqb (kF y) (kF r[j])=false:=by
    cases e:Key_.eqb (kF y) (kF r[j]) with
    | false=>rfl
    | true=>exact absurd ((keyE _ _).1 e) hne
   rw [fx,List.getElem_cons_succ,this,cond_false,ih hd'.2 j (i+1) hj']
   congr 1; omega
theorem mk_get{k:Key_} : ∀{l:List WF} {i:Nat} {m:KM},(l.Pairwise fun a b=>kF a≠kF b)→mGet Key_.eqb 0 k (mk l i m)=bif decide (0≤fx k l i) then fx k l i else mGet Key_.eqb 0 k m
 | [],i,m,_=>by rw [mk,fx,decide_eq_false (by omega)]; rfl
 | x::r,i,m,h=>by
  have h':=List.pairwise_cons.1 h;rw [mk,mk_get h'.2,fx,mgetPut keyE]
  by_cases c:kF x=k
  ·subst c;rw [(keyE _ _).2 rfl,fx_none _ fun y hy e=>h'.1 y hy e.symm,decide_eq_false (by omega),cond_true,cond_true,cond_false,decide_eq_true (by omega)]; rfl
  ·have e1:Key_.eqb (kF x) k=false:=by
    cases e:Key_.eqb (kF x) k with
    | false=>rfl
    | true=>exact absurd ((keyE _ _).1 e) c
   have e2:Key_.eqb k (kF x)=false:=by
    cases e:Key_.eqb k (kF x) with
    | false=>rfl
    | true=>exact absurd ((keyE _ _).1 e).symm c
   rw [e1,e2,cond_false,cond_false]
theorem mk_has{k:Key_} : ∀{l:List WF} {i:Nat} {m:KM},mHas Key_.eqb k (mk l i m)=(decide (0≤fx k l i)||mHas Key_.eqb k m)
 | [],i,m=>by rw [mk,fx,decide_eq_false (by omega)]; rfl
 | x::r,i,m=>by
  rw [mk,mk_has,fx,mhasPut]
  by_cases c:kF x=k
  ·subst c;rw [(keyE _ _).2 rfl,cond_true,decide_eq_true (by omega:(0:Int)≤(i:Int))];cases decide (0≤fx (kF x) r (i+1))<;>simp
  ·have e1:Key_.eqb (kF x) k=false:=by
    cases e:Key_.eqb (kF x) k with
    | false=>rfl
    | true=>exact absurd ((keyE _ _).1 e) c
   have e2:Key_.eqb k (kF x)=false:=by
    cases e:Key_.eqb k (kF x) with
    | false=>rfl
    | true=>exact absurd ((keyE _ _).1 e).symm c
   rw [e1,e2,cond_false,Bool.false_or]
def fd(l:List WF)(x:WS):Option WF:=at? l (fx (kW x) l 0)
theorem fd_has(l:List WF)(x:WS):(fd l x).isSome=decide (0≤fx (kW x) l 0):=by
 unfold fd;rcases fx_low (kW x) l 0 with e | ⟨j,hj,e,_⟩
 ·rw [e]; rfl
 ·rw [e,Nat.zero_add,at_in hj,decide_eq_true (by omega)]; rfl
def chk(l:List WF):List WS→Int→Option Int
 | [],c=>some c
 | x::r,c=>match fd l x with
  | none=>none
  | some y=>chk l r (bif decide (y.Size<x.Amount) then 50 else c)
def sub1(y:WF)(a:Int):WF:=Qb.mk y.Level y.Owner (wr64 (y.Size-a)) y.Called
def aftL(l:List WF):List WS→List WF→List WF
 | [],st=>st
 | x::r,st=>aftL l r (match at? st (fx (kW x) l 0) with | some y=>st.set (fx (kW x) l 0).toNat (sub1 y x.Amount) | none=>st)
def mtc(l:List WF)(sh:List WS):Int:=bif vld 0 (l.map tos) then bif vld 1 sh then (match chk l sh 0 with | none=>6 | some c=>c) else 2 else 8
theorem chk_some{l:List WF} : ∀{sh:List WS} {c d:Int},chk l sh c=some d→∀x∈sh,∃y,fd l x=some y
 | [],_,_,_,x,hx=>by cases hx
 | z::r,c,d,h,x,hx=>by
  rw [chk] at h;cases hz:fd l z with
  | none=>rw [hz] at h; cases h
  | some y =>
   rw [hz] at h;rcases List.mem_cons.1 hx with rfl | hx
   ·exact ⟨y,hz⟩
   ·exact chk_some h x hx
theorem fd_idx{l:List WF}{x:WS}{y:WF}(h:fd l x=some y):∃(j:Nat) (hj:j<l.length),fx (kW x) l 0=(j:Int)∧l[j]=y:=by
 unfold fd at h;rcases fx_low (kW x) l 0 with e | ⟨j,hj,e,_⟩
 ·rw [e] at h; cases h
 ·rw [Nat.zero_add] at e;rw [e,at_in hj] at h;exact ⟨j,hj,e,Option.some.inj h⟩
theorem dist_of{l:List WF}(v:Val 0 (l.map tos)):l.Pairwise fun a b=>kF a≠kF b:=by
 have:=List.pairwise_map.1 v.ord;refine this.imp fun {a b} h e=>?_;exact (kc_lv h).2 ⟨congrArg Key_.level e,congrArg Key_.owner e⟩
theorem f48_eq{l:List WF}(hl:l.length≤1000):f48r1 l=some l:=by
 unfold f48r1 f48r1n0;rw [fitSmall (by omega) (by decide)];cases l<;>rfl
theorem f19_eq{l:List WF}(hl:l.length≤1000):f19 l=some l:=by
 unfold f19 f19n0;rw [fitSmall (by omega) (by decide)];cases l<;>rfl
theorem f50_eq(i a:Int)(st:List WF):f50r1 i a st=(at? st i).map fun y=>st.set i.toNat (sub1 y a):=by
 unfold f50r1 f50r1n0 sub1;cases at? st i<;>rfl
theorem f49r1n2L_at(l:List WF)(sh:List WS)(st:List WF):∀(q:List WF)(i:Nat)(m:KM),f49r1n2L l sh st q (i:Int) m=some (.exit0 (mk q i m))
 | [],i,m=>rfl
 | x::q,i,m=>by
  have e:f36 x=some (kF x):=rfl;rw [f49r1n2L,e,Option.bind_some,mk,show (i:Int)+1=((i+1:Nat):Int) by omega,f49r1n2L_at l sh st q]
theorem f49r1n4L_at{l:List WF}(hd:l.Pairwise fun a b=>kF a≠kF b)(sh:List WS)(st:List WF):∀(q:List WS)(c i:Int),f49r1n4L l sh st (mk l 0 []) q c i=some (match chk l q c with | some d=>.exit2 d | none=>.ret)
 | [],c,i=>rfl
 | x::q,c,i=>by
  have e:f39 x=some (kW x):=rfl;rw [f49r1n4L,e,Option.bind_some,mk_has,mk_get hd,chk];have hh:=fd_has l x;cases hf:fd l x with
  | none =>
   rw [hf] at hh;rw [←hh]; rfl
  | some y =>
   rw [hf] at hh;rw [←hh];have hf':at? l (fx (kW x) l 0)=some y:=hf;simp only [Option.isSome_some,Bool.true_or,cond_true,hf',Option.bind_some];cases decide (y.Size<x.Amount) with
   | true=>exact f49r1n4L_at hd sh st q 50 _
   | false=>exact f49r1n4L_at hd sh st q c _
theorem f49r1n6L_at{l:List WF}(hd:l.Pairwise fun a b=>kF a≠kF b)(sh:List WS):∀(q:List WS)(i:Int)(st:List WF),st.length=l.length→(∀x∈q,∃y,fd l x=some y)→f49r1n6L sh (mk l 0 []) q i st=some (.exit4 (aftL l q st))
 | [],i,st,_,_=>rfl
 | x::q,i,st,hl,h=>by
  have e:f39 x=some (kW x):=rfl;obtain ⟨y,hy⟩:=h x List.mem_cons_self;obtain ⟨j,hj,e1,e2⟩:=fd_idx hy;rw [f49r1n6L,e,Option.bind_some,mk_get hd,aftL,e1,decide_eq_true (by omega),cond_true,f50_eq,at_in (l:=st) (k:=j) (by omega)];simp only [Option.map_some,Option.bind_some];exact f49r1n6L_at hd sh q _ _ (by rw [List.length_set]; exact hl) fun z hz=>h z (List.mem_cons_of_mem x hz)
theorem f49r1_eq{l:List WF}{sh:List WS}{st:List WF}(hl:l.length≤1000)(hs:sh.length≤1000)(hst:st.length=l.length):f49r1 l sh st=some (mtc l sh,bif decide (mtc l sh=0) then aftL l sh st else st):=by
 unfold f49r1 f49r1n0 mtc;rw [f23_eq,Option.bind_some];cases hv:vld 0 (l.map tos) with
 | false=>rfl
 | true =>
  have v:=val_of hv;have hd:=dist_of v;simp only [cond_true];rw [decide_true,cond_true,f38_39_40_eq (by decide),List.map_id',Option.bind_some];cases hw:vld 1 sh with
  | false=>rfl
  | true =>
   have h1:f49r1n1 l sh st=some (.norm (mk l 0 [])):=by
    unfold f49r1n1;have:=f49r1n2L_at l sh st l 0 [];rw [show ((0:Nat):Int)=0 from rfl] at this;rw [f49r1n2_run l sh st [] (maxSmall (by omega)),this];rfl
   rw [cond_true,cond_true,h1];simp only [Option.bind_some];unfold f49r1n3;rw [f49r1n4_run l sh st _ 0 (maxSmall (by omega)),f49r1n4L_at hd sh st];cases hc:chk l sh 0 with
   | none=>rfl
   | some c =>
    simp only [Option.bind_some]
    by_cases c0:c=0
    ·rw [decide_eq_true c0,cond_true];unfold f49r1n5;rw [f49r1n6_run sh _ st (maxSmall (by omega)),f49r1n6L_at hd sh sh 0 st hst (chk_some hc)];subst c0;rfl
    ·rw [decide_eq_false c0]; rfl
end Go.Proofs.Ytgbolgaodaokcaa
namespace Go.Proofs.Ytgbolgaodaokcaa
set_option linter.unusedVariables false
set_option linter.unusedSimpArgs false
set_option maxRecDepth 100000
open Go.RowKit
theorem rn_run{L:Int}{rest:List WS}(hr:∀y∈rest,y.Level≠L):∀{g:List WS},g≠[]→(∀x∈g,x.Level=L)→rn (g++rest)=g::rn rest
 | [],h,_=>absurd rfl h
 | [x],_,h=>by
  have hx:=h x List.mem_cons_self;cases rest with
  | nil=>rfl
  | cons y r =>
   obtain ⟨g',t,e⟩:=rn_cons y r;have hy:=hr y List.mem_cons_self;rw [List.cons_append,List.nil_append,rn,e];simp only [sameLv];rw [decide_eq_false (by omega),cond_false]
 | x::y::g,_,h=>by
  have ih:=rn_run hr (g:=y::g) (by simp) fun z hz=>h z (List.mem_cons_of_mem x hz);have hx:=h x List.mem_cons_self;have hy:=h y (by simp);rw [List.cons_append,rn,ih];simp only [sameLv];rw [decide_eq_true (by omega),cond_true]
def part(L:Int)(l:List WS):List WS:=l.filter fun x=>decide (x.Level=L)
def geL(L:Int)(l:List WS):List WS:=l.filter fun x=>decide (L≤x.Level)
theorem part_mem{L:Int}{l:List WS}{x:WS}(h:x∈part L l):x∈l∧x.Level=L:=by
 have:=List.mem_filter.1 h;exact ⟨this.1,of_decide_eq_true this.2⟩
theorem geL_mem{L:Int}{l:List WS}{x:WS}(h:x∈geL L l):x∈l∧L≤x.Level:=by
 have:=List.mem_filter.1 h;exact ⟨this.1,of_decide_eq_true this.2⟩
theorem ge_cut(L:Int):∀{l:List WS},(l.Pairwise fun a b=>a.Level≤b.Level)→geL L l=part L l++geL (L+1) l
 | [],_=>rfl
 | x::r,h=>by
  have h':=List.pairwise_cons.1 h;have ih:=ge_cut L h'.2;unfold geL part at ih ⊢;rw [List.filter_cons,List.filter_cons,List.filter_cons]
  by_cases c:x.Level<L
  ·rw [decide_eq_false (by omega:¬L≤x.Level),decide_eq_false (by omega:¬x.Level=L),decide_eq_false (by omega:¬L+1≤x.Level)];simpa using ih
  ·by_cases d:x.Level=L
   ·rw [decide_eq_true (by omega:L≤x.Level),decide_eq_true d,decide_eq_false (by omega:¬L+1≤x.Level)];simpa using ih
   ·have hn:r.filter (fun x=>decide (x.Level=L))=[]:=List.filter_eq_nil_iff.2 fun y hy e=>by
     have:=h'.1 y hy;have:=of_decide_eq_true e;omega
    rw [hn,List.nil_append] at ih;rw [decide_eq_true (by omega:L≤x.Level),decide_eq_false d,decide_eq_true (by omega:L+1≤x.Level),hn];simpa using ih
theorem mnI_zero{n:Int}(h:0≤n):mnI n 0=0:=by
 unfold mnI
 by_cases c:0<n
 ·rw [decide_eq_true c]; rfl
 ·rw [decide_eq_false c,cond_false]; omega
theorem wss_app{L:Int}{g rest:List WS}(hr:∀y∈rest,y.Level≠L)(hg:g≠[])(h:∀x∈g,x.Level=L):wss (g++rest)=ams g::wss rest:=by
 unfold wss; rw [rn_run hr hg h]; rfl
theorem specA{L n:Int}(hn:0≤n){g rest:List WS}(hr:∀y∈rest,y.Level≠L)(h:∀x∈g,x.Level=L):sprA n (wss (g++rest))=((sprA (n-mnI n (sm (ams g))) (wss rest)).1,divL (mnI n (sm (ams g))) (ams g)++(sprA (n-mnI n (sm (ams g))) (wss rest)).2):=by
 by_cases hg:g=[]
 ·subst hg;rw [show sm (ams [])=0 from rfl,mnI_zero hn,Int.sub_zero]; rfl
 ·rw [wss_app hr hg h]; rfl


theorem Val.lev{lo:Int}{l:List WS}(v:Val lo l):∀x∈l,0≤x.Level∧x.Level<10:=fun x hx=>by
 have h:=v.each x hx;unfold inB at h;simp only [Bool.and_eq_true,decide_eq_true_eq] at h;exact ⟨h.1,h.2.1⟩
end Go.Proofs.Ytgbolgaodaokcaa
namespace Go.Proofs.Ytgbolgaodaokcaa
set_option linter.unusedVariables false
set_option linter.unusedSimpArgs false
set_option maxRecDepth 100000
open Go.RowKit
def take1(y:WF)(v:Int):WF:=Qb.mk y.Level y.Owner (y.Size-v) y.Called
def zipS:List WF→List Int→List WF
 | y::q,v::g=>take1 y v::zipS q g
 | _,_=>[]
def fitP:List WF→List Int→Prop
 | [],[]=>True
 | y::q,v::g=>(0≤v∧v≤y.Size∧y.Size≤1125899906842624)∧fitP q g
 | _,_=>False
theorem fitP_of:∀{q:List WF} {g:List Int},g.length=q.length→(∀(i:Nat)(hi:i<q.length),0≤g.getD i 0∧g.getD i 0≤q[i].Size∧q[i].Size≤1125899906842624)→fitP q g
 | [],[],_,_=>trivial
 | [],_::_,h,_=>by simp at h
 | _::_,[],h,_=>by simp at h
 | y::q,v::g,h,k=>by
  refine ⟨?_,fitP_of (by simpa using h) fun i hi=>?_⟩
  ·have:=k 0 (by simp);simpa using this
  ·have:=k (i+1) (by simpa using hi);simpa using this
section
variable {l:List WF} (hd:l.Pairwise fun a b=>kF a≠kF b)
include hd
theorem own_fd{pre q:List WF}{y:WF}(e:l=pre++y::q)(v:Int):fx (kW (Qa.mk (tos y).Level (tos y).Owner v)) l 0=((pre.length:Nat):Int)∧fd l (Qa.mk (tos y).Level (tos y).Owner v)=some y:=by
 have hp:pre.length<l.length:=by rw [e]; simp
 have hy:l[pre.length]=y:=by simp [e]
 have h:=fx_at hd pre.length 0 hp;rw [hy,Nat.zero_add] at h;have h':fx (kW (Qa.mk (tos y).Level (tos y).Owner v)) l 0=((pre.length:Nat):Int):=h;refine ⟨h',?_⟩;unfold fd;rw [h',at_in hp,hy]
theorem bear_chk:∀(q pre:List WF)(g:List Int),l=pre++q→fitP q g→chk l (shr (q.map tos) g) 0=some 0
 | [],pre,g,_,_=>by simp [shr,chk]
 | y::q,pre,[],_,h=>h.elim
 | y::q,pre,v::g,e,h=>by
  have ih:=bear_chk q (pre++[y]) g (by rw [e]; simp) h.2;rw [List.map_cons,shr];cases decide (0<v) with
  | false=>exact ih
  | true =>
   rw [cond_true,chk,(own_fd hd e v).2];simp only;rw [decide_eq_false (by have:=h.1; show ¬y.Size<v; omega),cond_false];exact ih
theorem bear_aft:∀(q pre pre':List WF)(g:List Int),l=pre++q→pre'.length=pre.length→fitP q g→aftL l (shr (q.map tos) g) (pre'++q)=pre'++zipS q g
 | [],pre,pre',g,_,_,h=>by
  cases g with
  | nil=>simp [shr,aftL,zipS]
  | cons v g=>exact h.elim
 | y::q,pre,pre',[],_,_,h=>h.elim
 | y::q,pre,pre',v::g,e,hp,h=>by
  have ih:=bear_aft q (pre++[y]) (pre'++[take1 y v]) g (by rw [e]; simp) (by simp [hp]) h.2;rw [List.append_assoc,List.append_assoc] at ih;simp only [List.cons_append,List.nil_append] at ih;rw [List.map_cons,shr,zipS,←ih];have hv:=h.1
  by_cases c:0<v
  ·rw [decide_eq_true c,cond_true,aftL,(own_fd hd e v).1,Qay (l:=pre'++y::q) rfl hp.symm];simp only;rw [Int.toNat_natCast,set_len (l:=pre'++y::q) rfl hp.symm];have:sub1 y (Qa.mk (tos y).Level (tos y).Owner v).Amount=take1 y v:=by
    show Qb.mk _ _ (wr64 (y.Size-v)) _=_;rw [wrIn (by omega) (by omega)]; rfl
   rw [this]
  ·have hv0:v=0:=by omega
   subst hv0;rw [decide_eq_false c,cond_false];have:take1 y 0=y:=by unfold take1; rw [Int.sub_zero]
   rw [this]
end
theorem zipS_len:∀{q:List WF} {g:List Int},fitP q g→(zipS q g).length=q.length
 | [],[],_=>rfl
 | [],_::_,h=>h.elim
 | _::_,[],h=>h.elim
 | y::q,v::g,h=>by rw [zipS,List.length_cons,List.length_cons,zipS_len h.2]
theorem zipS_mem:∀{q:List WF} {g:List Int},fitP q g→∀z∈zipS q g,∃y∈q,∃v,z=take1 y v∧0≤v∧v≤y.Size∧y.Size≤1125899906842624
 | [],[],_,z,hz=>by cases hz
 | [],_::_,h,_,_=>h.elim
 | _::_,[],h,_,_=>h.elim
 | y::q,v::g,h,z,hz=>by
  rw [zipS] at hz;rcases List.mem_cons.1 hz with rfl | hz
  ·exact ⟨y,List.mem_cons_self,v,rfl,h.1⟩
  ·obtain ⟨y',hy',k⟩:=zipS_mem h.2 z hz;exact ⟨y',List.mem_cons_of_mem y hy',k⟩
theorem zipS_sum:∀{q:List WF} {g:List Int},fitP q g→sm (ams ((zipS q g).map tos))=sm (ams (q.map tos))-sm g
 | [],[],_=>rfl
 | [],_::_,h=>h.elim
 | _::_,[],h=>h.elim
 | y::q,v::g,h=>by
  have ih:=zipS_sum h.2;unfold ams at ih ⊢;rw [zipS,List.map_cons,List.map_cons,List.map_cons,List.map_cons,sm,sm,sm,ih];show (y.Size-v)+_=y.Size+_-_;omega
theorem zipS_ord:∀{q:List WF} {g:List Int},fitP q g→((q.map tos).Pairwise fun a b=>kc a b<0)→((zipS q g).map tos).Pairwise fun a b=>kc a b<0
 | [],[],_,_=>List.Pairwise.nil
 | [],_::_,h,_=>h.elim
 | _::_,[],h,_=>h.elim
 | y::q,v::g,h,hp=>by
  have hp':=List.pairwise_cons.1 hp;rw [zipS,List.map_cons];refine List.pairwise_cons.2 ⟨fun z hz=>?_,zipS_ord h.2 hp'.2⟩;obtain ⟨w,hw,rfl⟩:=List.mem_map.1 hz;obtain ⟨y',hy',v',rfl,_⟩:=zipS_mem h.2 w hw;exact hp'.1 (tos y') (List.mem_map.2 ⟨y',hy',rfl⟩)
theorem zipS_val{q:List WF}{g:List Int}(h:fitP q g)(hg:∀v∈g,0≤v)(v:Val 0 (q.map tos)):Val 0 ((zipS q g).map tos) where
 len:=by rw [List.length_map,zipS_len h]; have:=v.len; rwa [List.length_map] at this
 each x hx:=by
  obtain ⟨w,hw,rfl⟩:=List.mem_map.1 hx;obtain ⟨y,hy,a,rfl,a0,a1,a2⟩:=zipS_mem h w hw;have k:=v.each (tos y) (List.mem_map.2 ⟨y,hy,rfl⟩);unfold inB at k ⊢;simp only [Bool.and_eq_true,decide_eq_true_eq] at k ⊢;refine ⟨k.1,k.2.1,k.2.2.1,?_,?_⟩
  ·show 0≤y.Size-a; omega
  ·show y.Size-a≤_; omega
 ord:=zipS_ord h v.ord
 sum:=by
  rw [zipS_sum h];have:=v.sum;have:=Qbd hg;omega
end Go.Proofs.Ytgbolgaodaokcaa
namespace Go.Proofs.Ytgbolgaodaokcaa
set_option linter.unusedVariables false
set_option linter.unusedSimpArgs false
set_option maxRecDepth 100000
open Go.RowKit
theorem lsum_le{L:Int} : ∀{l:List WS} {v:List Int},(∀x∈v,0≤x)→0≤lsum L l v∧lsum L l v≤sm v
 | [],v,h=>⟨by unfold lsum; omega,by unfold lsum; exact Qbd h⟩
 | _::_,[],_=>⟨by unfold lsum; omega,by unfold lsum; exact Int.le_refl _⟩
 | x::l,y::v,h=>by
  have h1:=h y List.mem_cons_self;have ih:=lsum_le (L:=L) (l:=l) fun z hz=>h z (List.mem_cons_of_mem y hz);rw [lsum,sm];cases decide (x.Level=L) with
  | true=>rw [cond_true]; omega
  | false=>rw [cond_false]; omega
end Go.Proofs.Ytgbolgaodaokcaa
namespace Go.Proofs.Ytgbolgaodaokcaa
set_option linter.unusedVariables false
set_option linter.unusedSimpArgs false
set_option maxRecDepth 100000
open Go.RowKit
def mA:Int→List Int→List Int
 | _,[]=>[]
 | n,s::t=>mnI n s::mA (n-mnI n s) t
def subL:List Int→List Int→List Int
 | a::x,b::y=>(a-b)::subL x y
 | _,_=>[]
def addL:List Int→List Int→List Int
 | a::x,b::y=>(a+b)::addL x y
 | _,_=>[]
theorem mA_add:∀{S:List Int} {n m:Int},0≤n→0≤m→(∀s∈S,0≤s)→addL (mA n S) (mA m (subL S (mA n S)))=mA (n+m) S
 | [],_,_,_,_,_=>rfl
 | s::t,n,m,hn,hm,h=>by
  have h0:=h s List.mem_cons_self;have ht:∀x∈t,0≤x:=fun x hx=>h x (List.mem_cons_of_mem s hx);have a1:=mnI_ok hn h0;have a2:=mnI_ok hm (show 0≤s-mnI n s by omega);have e:mnI n s+mnI m (s-mnI n s)=mnI (n+m) s:=by
   unfold mnI
   by_cases c:s<n
   ·rw [decide_eq_true c,decide_eq_true (show s<n+m by omega)];simp only [cond_true,Int.sub_self]
    by_cases d:0<m
    ·rw [decide_eq_true d]; simp
    ·rw [decide_eq_false d,cond_false]; omega
   ·rw [decide_eq_false c];simp only [cond_false]
    by_cases d:s-n<m
    ·rw [decide_eq_true d,decide_eq_true (show s<n+m by omega)]; simp only [cond_true]; omega
    ·rw [decide_eq_false d,decide_eq_false (show ¬s<n+m by omega)]; simp only [cond_false]
  have ih:=mA_add (S:=t) (n:=n-mnI n s) (m:=m-mnI m (s-mnI n s)) (by omega) (by omega) ht;rw [mA,subL,mA,addL,mA,ih,e]
  congr 2
  omega
def ss(l:List WS):Int→Nat→List Int
 | _,0=>[]
 | k,d+1=>lsum k l (ams l)::ss l (k+1) d
def lss(l:List WS)(v:List Int):Int→Nat→List Int
 | _,0=>[]
 | k,d+1=>lsum k l v::lss l v (k+1) d
theorem lsum_filter(L:Int):∀l:List WS,sm (ams (part L l))=lsum L l (ams l)
 | []=>rfl
 | x::r=>by
  have ih:=lsum_filter L r;unfold part ams at ih ⊢;rw [List.filter_cons,List.map_cons,lsum,←ih];cases decide (x.Level=L) with
  | true=>rw [if_pos rfl,List.map_cons,sm]; rfl
  | false=>rw [if_neg (by simp),cond_false,Int.zero_add]
theorem spr_levels{l:List WS}(hs:l.Pairwise fun a b=>a.Level≤b.Level)(h0:∀x∈ams l,0≤x):∀(d:Nat)(k n:Int),(∀x∈l,x.Level<k+d)→0≤n →
  (sprA n (wss (geL k l))).1=n-sm (mA n (ss l k d))∧lss (geL k l) (sprA n (wss (geL k l))).2 k d=mA n (ss l k d)
 | 0,k,n,hk,hn=>by
  have:geL k l=[]:=List.filter_eq_nil_iff.2 fun x hx e=>by
   have:=of_decide_eq_true e;have:=hk x hx; omega
  rw [this];exact ⟨by simp [wss,rn,sprA,ss,mA,sm],rfl⟩
 | d+1,k,n,hk,hn=>by
  have hcut:=ge_cut k hs;have hp0:0≤sm (ams (part k l)):=Qbd fun x hx=>by
   obtain ⟨y,hy,rfl⟩:=List.mem_map.1 hx;exact h0 _ (List.mem_map.2 ⟨y,(part_mem hy).1,rfl⟩)
  have hm:=mnI_ok hn hp0;have hsp:=specA (L:=k) hn (g:=part k l) (rest:=geL (k+1) l) (fun y hy=>by have:=(geL_mem hy).2; omega) (fun x hx=>(part_mem hx).2);have ih:=spr_levels hs h0 d (k+1) (n-mnI n (sm (ams (part k l)))) (fun x hx=>by have:=hk x hx; omega) (by omega);have hdl:(divL (mnI n (sm (ams (part k l)))) (ams (part k l))).length=(part k l).length:=by rw [divL_len,amsLen]
  have hpm:∀x∈ams (part k l),0≤x:=fun x hx=>by
   obtain ⟨y,hy,rfl⟩:=List.mem_map.1 hx;exact h0 _ (List.mem_map.2 ⟨y,(part_mem hy).1,rfl⟩)
  have hdo:=div_ok hpm hm.1 hm.2.1;have shift:∀(e:Nat)(j:Int)(v:List Int),k<j→lss (part k l++geL (k+1) l) (divL (mnI n (sm (ams (part k l)))) (ams (part k l))++v) j e=lss (geL (k+1) l) v j e:=by
   intro e
   induction e with
   | zero=>intro j v _; rfl
   | succ e ih2 =>
    intro j v hj;rw [lss,lss,ih2 (j+1) v (by omega),lsum_app _ _ _ _ _ hdl.symm,lsum_none (a:=part k l) fun x hx=>by rw [(part_mem hx).2]; omega,Int.zero_add]
  rw [hcut,hsp,ss,mA,lss,←lsum_filter,sm];refine ⟨by rw [ih.1]; omega,?_⟩;simp only;rw [shift d (k+1) _ (by omega),ih.2,lsum_app _ _ _ _ _ hdl.symm,lsum_all hdl.symm fun x hx=>(part_mem hx).2,lsum_none (a:=geL (k+1) l) fun x hx=>by have:=(geL_mem hx).2; omega,hdo.sum,Int.add_zero]
theorem geL_all{l:List WS}{k:Int}(h:∀x∈l,k≤x.Level):geL k l=l:=List.filter_eq_self.2 fun x hx=>decide_eq_true (h x hx)
theorem lsum_zip:∀{L:Int} {q:List WF} {g:List Int},fitP q g→lsum L ((zipS q g).map tos) (ams ((zipS q g).map tos))=lsum L (q.map tos) (ams (q.map tos))-lsum L (q.map tos) g
 | L,[],[],_=>rfl
 | _,[],_::_,h=>h.elim
 | _,_::_,[],h=>h.elim
 | L,y::q,v::g,h=>by
  have ih:=lsum_zip (L:=L) h.2;unfold ams at ih ⊢;rw [zipS,List.map_cons,List.map_cons,List.map_cons,List.map_cons,lsum,lsum,lsum,ih];show (bif decide (y.Level=L) then y.Size-v else 0)+_=(bif decide (y.Level=L) then y.Size else 0)+_-((bif decide (y.Level=L) then v else 0)+_);cases decide (y.Level=L) with
  | true=>simp only [cond_true]; omega
  | false=>simp only [cond_false]; omega
theorem ss_zip{q:List WF}{g:List Int}(h:fitP q g):∀(d:Nat)(k:Int),ss ((zipS q g).map tos) k d=subL (ss (q.map tos) k d) (lss (q.map tos) g k d)
 | 0,_=>rfl
 | d+1,k=>by rw [ss,ss,lss,subL,ss_zip h d,lsum_zip h]
theorem lsum_shr{L:Int} : ∀{l:List WS} {g:List Int},(∀v∈g,0≤v)→g.length=l.length→lsum L (shr l g) (ams (shr l g))=lsum L l g
 | [],[],_,_=>rfl
 | [],_::_,_,h=>by simp at h
 | _::_,[],_,h=>by simp at h
 | x::r,v::t,h0,hl=>by
  have hv:=h0 v List.mem_cons_self;have ih:=lsum_shr (L:=L) (l:=r) (fun y hy=>h0 y (List.mem_cons_of_mem v hy)) (by simpa using hl);rw [shr,lsum]
  by_cases c:0<v
  ·rw [decide_eq_true c,cond_true,ams,List.map_cons,lsum];unfold ams at ih;rw [ih]
  ·have:v=0:=by omega
   subst this;rw [decide_eq_false c,cond_false,ih];cases decide (x.Level=L)<;>simp

def lv(S:List WS)(i:Int):Int:=lsum i S (ams S)
def arrS(S:List WS):Qn:=Qn.mk (lv S 0) (lv S 1) (lv S 2) (lv S 3) (lv S 4) (lv S 5) (lv S 6) (lv S 7) (lv S 8) (lv S 9)
theorem lv_app(S:List WS)(x:WS)(i:Int):lv (S++[x]) i=lv S i+(bif decide (x.Level=i) then x.Amount else 0):=by
 unfold lv;rw [ams_app,lsum_app _ _ _ _ _ (amsLen S).symm];simp [ams,lsum]
theorem f27n2_at{s pre r:List WS}{x:WS}(e:s=pre++x::r)(hx:0≤x.Level∧x.Level<10)(hb:∀i,0≤lv pre i∧lv pre i≤1152921504606846976)(ha:0≤x.Amount∧x.Amount≤1125899906842624) :
  f27r1n2 s ((pre.length:Nat):Int) (arrS pre)=some (.norm (arrS (pre++[x]))):=by
 have hw:∀i,wr64 (lv pre i+x.Amount)=lv pre i+x.Amount:=fun i=>wrIn (by have:=hb i; omega) (by have:=hb i; omega);unfold f27r1n2 f27r1n3;rw [Qay e rfl];simp only [Option.bind_some];rw [decide_eq_true hx.1,cond_true,decide_eq_true hx.2];simp only [Option.bind_some];unfold f27r1n4;rw [cond_true,Qay e rfl];simp only [Option.bind_some];unfold arrS;simp only [lv_app,hw];have hc:x.Level=0∨x.Level=1∨x.Level=2∨x.Level=3∨x.Level=4∨x.Level=5∨x.Level=6∨x.Level=7∨x.Level=8∨x.Level=9:=by omega
 rcases hc with h | h | h | h | h | h | h | h | h | h<;>rw [h]<;>simp
theorem f27n5_at{s:List WS}(hl:s.length≤1000)(hx:∀x∈s,(0≤x.Level∧x.Level<10)∧0≤x.Amount∧x.Amount≤1125899906842624)(hs:sm (ams s)≤1125899906842624):∀(r pre:List WS)(f:Nat),s=pre++r→r.length<f →
  f27r1n5 f s ((pre.length:Nat):Int) (arrS pre)=some (.exit0 (arrS s))
 | _,_,0,_,h=>absurd h (Nat.not_lt_zero _)
 | [],pre,f+1,e,_=>by
  rw [f27r1n5,decide_eq_false (by rw [e]; simp),cond_false,e,List.append_nil]
 | x::r,pre,f+1,e,hf=>by
  have hp:s.length=pre.length+(r.length+1):=by rw [e]; simp
  have hpos:∀(q:List WS),(∀y∈q,y∈s)→∀v∈ams q,0≤v:=fun q hq v hv=>by
   obtain ⟨y,hy,rfl⟩:=List.mem_map.1 hv;exact (hx y (hq y hy)).2.1
  have hsp:sm (ams pre)≤1125899906842624:=by
   have h1:sm (ams s)=sm (ams pre)+sm (ams (x::r)):=by rw [e,ams_app,sm_app]
   have h2:=Qbd (hpos (x::r) fun y hy=>by rw [e]; exact List.mem_append_right _ hy);omega
  have hxs:=hx x (by rw [e]; simp);rw [f27r1n5,decide_eq_true (by omega),cond_true,f27n2_at e hxs.1 (fun i=>by
   have:=lsum_le (L:=i) (l:=pre) (hpos pre fun y hy=>by rw [e]; exact List.mem_append_left _ hy);unfold lv; omega) hxs.2]
  simp only [Option.bind_some];have ih:=f27n5_at hl hx hs r (pre++[x]) f (by rw [e]; simp) (by simpa using hf);rw [List.length_append,List.length_cons,List.length_nil] at ih;rw [wrSucc (by omega)];exact ih
theorem f27_eq{s:List WS}(v:Val 1 s):f27r1 s=some (arrS s):=by
 have hl:=v.len;have hx:∀x∈s,(0≤x.Level∧x.Level<10)∧0≤x.Amount∧x.Amount≤1125899906842624:=fun x h=>by
  have:=inB_am (v.each x h);exact ⟨v.lev x h,by omega,this.2⟩
 have h:=f27n5_at (by omega) hx v.sum s [] FUEL rfl (fuelSmall (by omega));rw [show (((([]:List WS).length:Nat)):Int)=0 from rfl,show arrS []=Qn.mk 0 0 0 0 0 0 0 0 0 0 from rfl] at h;unfold f27r1 f27r1n0 f27r1n1;rw [h];rfl
theorem f7n6_at{A B C:Qn}(h:∀i:Nat,i<10→f7n4 true (i:Int) A B C=some .norm):∀(d k f:Nat),k+d=10→d<f→f7n6 f true A B C (k:Int)=some .exit0
 | _,_,0,_,h=>absurd h (Nat.not_lt_zero _)
 | 0,k,f+1,hk,_=>by rw [f7n6,decide_eq_false (by omega),cond_false]
 | d+1,k,f+1,hk,hf=>by
  rw [f7n6,decide_eq_true (by omega),cond_true,h k (by omega)];simp only [Option.bind_some];rw [wrSucc (by omega)];exact f7n6_at h d (k+1) f (by omega) (by omega)
theorem f7n4_at{S T U:List WS}(h:∀i:Int,0≤i→i<10→wr64 (lv S i+lv T i)=lv U i)(i:Nat)(hi:i<10):f7n4 true (i:Int) (arrS S) (arrS T) (arrS U)=some .norm:=by
 have hc:i=0∨i=1∨i=2∨i=3∨i=4∨i=5∨i=6∨i=7∨i=8∨i=9:=by omega
 unfold f7n4 f7n5 arrS;have k0:=h 0 (by decide) (by decide);have k1:=h 1 (by decide) (by decide);have k2:=h 2 (by decide) (by decide);have k3:=h 3 (by decide) (by decide);have k4:=h 4 (by decide) (by decide);have k5:=h 5 (by decide) (by decide);have k6:=h 6 (by decide) (by decide);have k7:=h 7 (by decide) (by decide);have k8:=h 8 (by decide) (by decide);have k9:=h 9 (by decide) (by decide);rcases hc with rfl | rfl | rfl | rfl | rfl | rfl | rfl | rfl | rfl | rfl<;>simp [k0,k1,k2,k3,k4,k5,k6,k7,k8,k9]
theorem f26V_eq{l:List WF}{sh:List WS}(hl:l.length≤1000)(hs:sh.length≤1000):f26 l sh=some (bif decide (mtc l sh=0) then aftL l sh l else [],mtc l sh):=by
 unfold f26 f26n0;rw [f48_eq hl,Option.bind_some,f49r1_eq hl hs rfl,Option.bind_some]
 by_cases h:mtc l sh=0
 ·simp only [h,decide_true,cond_true,Option.bind_some]
 ·simp only [decide_eq_false h,cond_false,Option.bind_some]
theorem addL_get:∀{a b c:List Int},addL a b=c→a.length=b.length→∀i<a.length,a.getD i 0+b.getD i 0=c.getD i 0
 | [],_,_,_,_,i,hi=>by simp at hi
 | _::_,[],_,_,h,_,_=>by simp at h
 | x::a,y::b,c,h,hl,i,hi=>by
  subst h;rw [addL];cases i with
  | zero=>simp
  | succ i =>
   have:=addL_get (a:=a) (b:=b) rfl (by simpa using hl) i (by simpa using hi);simpa using this
theorem lss_get(l:List WS)(v:List Int):∀(d:Nat)(k:Int)(i:Nat),i<d→(lss l v k d).getD i 0=lsum (k+i) l v
 | 0,_,_,h=>absurd h (Nat.not_lt_zero _)
 | d+1,k,0,_=>by rw [lss]; simp
 | d+1,k,i+1,h=>by
  rw [lss,List.getD_cons_succ,lss_get l v d (k+1) i (by omega)]
  congr 1; omega
theorem lss_len(l:List WS)(v:List Int):∀(d:Nat)(k:Int),(lss l v k d).length=d
 | 0,_=>rfl
 | d+1,k=>by rw [lss,List.length_cons,lss_len l v d]
theorem sm_add:∀{a b:List Int},a.length=b.length→sm (addL a b)=sm a+sm b
 | [],[],_=>rfl
 | [],_::_,h=>by simp at h
 | _::_,[],h=>by simp at h
 | x::a,y::b,h=>by rw [addL,sm,sm,sm,sm_add (by simpa using h)]; omega
theorem lawSteps{P Q R:Prop}(s:List WF)(n m:Int)(_:P)(_:Q)(_:R):f7 s n m=some true:=by
 unfold f7 f7n0;rw [alive_t];simp only [Option.bind_some];unfold f7n1 f7n2;rw [f12_eq,show decide (120<([]:List WS).length)=false from rfl,Bool.or_false,Option.bind_some];cases hg:decide (120<s.length) with
 | true=>rfl
 | false =>
  by_cases hn0:n<0
  ·rw [cond_false,decide_eq_true hn0]; rfl
  ·by_cases hm0:m<0
   ·rw [cond_false,decide_eq_false hn0,cond_false,decide_eq_true hm0]; rfl
   ·by_cases hn:1125899906842624<n
    ·rw [cond_false,decide_eq_false hn0,cond_false,decide_eq_false hm0,cond_false,decide_eq_true hn]; rfl
    ·rw [cond_false,decide_eq_false hn0,cond_false,decide_eq_false hm0,cond_false,decide_eq_false hn,cond_false,wrIn (n:=1125899906842624-n) (by omega) (by omega)]
     by_cases hm:1125899906842624-n<m
     ·rw [decide_eq_true hm]; rfl
     ·rw [decide_eq_false hm];simp only [cond_false,Bool.not_true,Option.bind_some];rw [f13_eq];simp only [Option.bind_some];cases hv:vld 0 (s.map tos) with
      | false =>
       have:bearS (s.map tos) n=([],0,8):=by unfold bearS; rw [hv]; rfl
       rw [this]; rfl
      | true =>
       have v:=val_of hv;have mN:monB n=true:=monB_iff.2 ⟨by omega,by omega⟩;have mM:monB m=true:=monB_iff.2 ⟨by omega,by omega⟩;have mT:monB (n+m)=true:=monB_iff.2 ⟨by omega,by omega⟩;have hl:=v.len;rw [List.length_map] at hl;obtain ⟨b,_⟩:=boA (n:=n) (by decide) v (by omega);obtain ⟨b3,_⟩:=boA (n:=n+m) (by decide) v (by omega);have hlen:=b.len;rw [List.length_map] at hlen;have hd:=dist_of v;have hf:fitP s (sprA n (wss (s.map tos))).2:=fitP_of hlen fun i hi=>by
        have h1:=b.each i (by rw [List.length_map]; exact hi);have h2:=inB_am (v.each (tos s[i]) (List.mem_map.2 ⟨s[i],List.getElem_mem hi,rfl⟩));rw [amS hi] at h1;exact ⟨h1.1,h1.2,h2.2⟩
       have vS:=b.val v (by omega);have vU:=b3.val v (by omega);have vz:=zipS_val hf b.pos v;obtain ⟨b2,_⟩:=boA (n:=m) (by decide) vz (by omega);have vT:=b2.val vz (by omega);have e1:bearS (s.map tos) n=(shr (s.map tos) (sprA n (wss (s.map tos))).2,(sprA n (wss (s.map tos))).1,0):=by unfold bearS; rw [hv,mN]; rfl
       have e3:bearS (s.map tos) (n+m)=(shr (s.map tos) (sprA (n+m) (wss (s.map tos))).2,(sprA (n+m) (wss (s.map tos))).1,0):=by unfold bearS; rw [hv,mT]; rfl
       have em:mtc s (shr (s.map tos) (sprA n (wss (s.map tos))).2)=0:=by
        unfold mtc;rw [hv,vS.vld,bear_chk hd s [] _ rfl hf]; rfl
       have ea:=bear_aft hd s [] [] _ rfl rfl hf;simp only [List.nil_append] at ea;have e2:bearS ((zipS s (sprA n (wss (s.map tos))).2).map tos) m=(shr ((zipS s (sprA n (wss (s.map tos))).2).map tos) (sprA m (wss ((zipS s (sprA n (wss (s.map tos))).2).map tos))).2,(sprA m (wss ((zipS s (sprA n (wss (s.map tos))).2).map tos))).1,0):=by unfold bearS; rw [vz.vld,mM]; rfl
       -- what the levels bear
       have ge0:∀{l:List WS} {lo:Int},Val lo l→geL 0 l=l:=fun w=>geL_all fun x hx=>(w.lev x hx).1;have L1:=spr_levels v.lv (v.am (by decide)) 10 0 n (fun x hx=>by have:=(v.lev x hx).2; omega) (by omega);have L3:=spr_levels v.lv (v.am (by decide)) 10 0 (n+m) (fun x hx=>by have:=(v.lev x hx).2; omega) (by omega);have L2:=spr_levels vz.lv (vz.am (by decide)) 10 0 m (fun x hx=>by have:=(vz.lev x hx).2; omega) (by omega);rw [ge0 v] at L1 L3;rw [ge0 vz] at L2;rw [ss_zip hf 10 0,L1.2] at L2;have hS0:∀x∈ss (s.map tos) 0 10,0≤x:=by
        have:∀(d:Nat)(k:Int),∀x∈ss (s.map tos) k d,0≤x:=by
         intro d
         induction d with
         | zero=>intro k x hx; cases hx
         | succ d ih =>
          intro k x hx;rw [ss] at hx;rcases List.mem_cons.1 hx with rfl | hx
          ·exact (lsum_le (v.am (by decide))).1
          ·exact ih _ x hx
        exact this 10 0
       have hadd:=mA_add (S:=ss (s.map tos) 0 10) (n:=n) (m:=m) (by omega) (by omega) hS0;have hlenA:(mA n (ss (s.map tos) 0 10)).length=(mA m (subL (ss (s.map tos) 0 10) (mA n (ss (s.map tos) 0 10)))).length:=by
        rw [←L2.2,←L1.2,lss_len,lss_len]
       have hsum:=sm_add hlenA;rw [hadd] at hsum;have hget:=addL_get hadd hlenA;rw [←L2.2,←L1.2,←L3.2,lss_len] at hget;have hlv:∀i:Int,0≤i→i<10→lv (shr (s.map tos) (sprA n (wss (s.map tos))).2) i+lv (shr ((zipS s (sprA n (wss (s.map tos))).2).map tos) (sprA m (wss ((zipS s (sprA n (wss (s.map tos))).2).map tos))).2) i=lv (shr (s.map tos) (sprA (n+m) (wss (s.map tos))).2) i:=fun i h1 h2=>by
        unfold lv;rw [lsum_shr b.pos b.len,lsum_shr b2.pos b2.len,lsum_shr b3.pos b3.len];have:=hget i.toNat (by omega);rw [lss_get _ _ _ _ _ (by omega),lss_get _ _ _ _ _ (by omega),lss_get _ _ _ _ _ (by omega),show (0:Int)+((i.toNat:Nat):Int)=i by omega] at this;exact this
       have hb1:∀i,0≤lv (shr (s.map tos) (sprA (n+m) (wss (s.map tos))).2) i∧lv (shr (s.map tos) (sprA (n+m) (wss (s.map tos))).2) i≤1125899906842624:=fun i=>by
        have h1:=lsum_le (L:=i) (l:=shr (s.map tos) (sprA (n+m) (wss (s.map tos))).2) (vU.am (by decide));have:=vU.sum;unfold lv; omega
       have l1:=L1.1;have l2:=L2.1;have l3:=L3.1;have hSl:=vS.len;rw [e1];simp only [decide_true,cond_true];rw [f19_eq (by omega),Option.bind_some,f26V_eq (by omega) (by omega),Option.bind_some,em];simp only [decide_true,cond_true];rw [ea,f13_eq,Option.bind_some,e2,wrIn (n:=n+m) (by omega) (by omega),f13_eq,Option.bind_some,e3];simp only [decide_true,cond_true];rw [decide_eq_true (show wr64 ((sprA n (wss (s.map tos))).1+(sprA m (wss ((zipS s (sprA n (wss (s.map tos))).2).map tos))).1)=(sprA (n+m) (wss (s.map tos))).1 by
        have r1:=b.r0; have r2:=b2.r0; have r3:=b3.r0;have p1:=Qbd b3.pos;have q1:=b3.sum;rw [wrIn (by omega) (by omega)]; omega),cond_true,f27_eq vS,Option.bind_some,f27_eq vT,Option.bind_some,f27_eq vU,Option.bind_some]
       unfold f7n3;have h6:=f7n6_at (f7n4_at (S:=shr (s.map tos) (sprA n (wss (s.map tos))).2) (T:=shr ((zipS s (sprA n (wss (s.map tos))).2).map tos) (sprA m (wss ((zipS s (sprA n (wss (s.map tos))).2).map tos))).2) (U:=shr (s.map tos) (sprA (n+m) (wss (s.map tos))).2) fun i h1 h2=>by
        have:=hb1 i;rw [hlv i h1 h2,wrIn (by omega) (by omega)]) 10 0 FUEL (by omega) (fuelSmall (by omega))
       rw [show ((0:Nat):Int)=0 from rfl] at h6;rw [h6];rfl
end Go.Proofs.Ytgbolgaodaokcaa
