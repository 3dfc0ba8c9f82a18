/- Several texts in one. No condition. -/
import Derived.Test.YtgbolgaodaokcaaR6
import Derived.Test.YtgbolgaodaokcaaTU
import Derived.Laws.MathBits
import Derived.Test.YtgbolgaodaokcaaWaR
namespace Go.Proofs.Ytgbolgaodaokcaa
set_option linter.unusedVariables false
set_option linter.unusedSimpArgs false
set_option maxRecDepth 100000
open Go.RowKit
theorem wru_eq(n:Int):Qi n=n % 18446744073709551616:=IntKind.wrap_u64 n
theorem wruIn{n:Int}(h0:0≤n)(h1:n<18446744073709551616):Qi n=n:=by rw [wru_eq]; omega
theorem shr32(a:Int):shrK .u64 a 32=a / 4294967296:=by
 unfold shrK;rw [show (2:Int) ^ (min (Int.toNat 32) IntKind.u64.bits)=4294967296 by decide,Int.fdiv_eq_ediv_of_nonneg _ (by decide)]
theorem andL{z:Int}(h0:0≤z)(h1:z<18446744073709551616):andU z 4294967295=z % 4294967296:=and_low32 z h0 h1
theorem andW(z:Int):andU (Qi z) 4294967295=Qi z % 4294967296:=andL (by rw [wru_eq]; omega) (by rw [wru_eq]; omega)
theorem f66_eq{a b:Int}(ha:0≤a)(ha':a<18446744073709551616)(hb:0≤b)(hb':b<18446744073709551616):f66 a b=some (a*b / 18446744073709551616,a*b % 18446744073709551616):=by
 have h:=mul64_arith a b ha ha' hb hb';unfold f66 f66n0;rw [Option.bind_some,andW,andL ha ha',andL hb hb'];simp only [shr32,wru_eq];rw [←h]

theorem len_tab:((List.range 256).all fun i=>decide (at? Qd.data.toList (i:Int)=some (UInt8.ofNat (bitLen i))))=true:=by kernel_rfl
theorem len_at{i:Nat}(h:i<256):∃b:UInt8,at? Qd.data.toList (i:Int)=some b∧b.toNat=bitLen i:=by
 have h1:=List.all_eq_true.1 len_tab i (List.mem_range.2 h);have h8:=bitLen_le8 i h;refine ⟨_,of_decide_eq_true h1,?_⟩;rw [UInt8.toNat_ofNat'];exact Nat.mod_eq_of_lt (by omega)
theorem divC(n k:Nat):((n:Int)) / ((k:Nat):Int)=((n / k:Nat):Int):=(Int.natCast_ediv n k).symm
theorem f82_eq{n:Nat}(h0:0<n)(h:n<2 ^ 56):f82 (n:Int)=some ((bitLen n:Nat):Int):=by
 have hshr:∀m k:Nat,k≤32→shrK .u64 (m:Int) (k:Int)=((m / 2 ^ k:Nat):Int):=fun m k hk=>by
  unfold shrK;rw [Int.toNat_natCast,show min k IntKind.u64.bits=k by show min k 64=k; omega,Int.fdiv_eq_ediv_of_nonneg _ (Int.pow_nonneg (by decide)),show (2:Int) ^ k=((2 ^ k:Nat):Int) by simp,divC]
 have h16:(2:Nat) ^ 16=65536:=by decide
 have h32:(2:Nat) ^ 32=4294967296:=by decide
 have h8:(2:Nat) ^ 8=256:=by decide
 have h56:(2:Nat) ^ 56=72057594037927936:=by decide
 have e1:∃m k:Nat,f82n1 (n:Int)=some (.norm (m:Int) (k:Int))∧bitLen n=k+bitLen m∧m<4294967296∧k≤32:=by
  unfold f82n1
  by_cases c:4294967296≤n
  ·rw [decide_eq_true (by omega),cond_true];refine ⟨n / 2 ^ 32,32,?_,bitLen_shift n 32 (by rw [h32]; omega),by rw [h32]; omega,by omega⟩;rw [show (32:Int)=((32:Nat):Int) from rfl,hshr n 32 (by omega)]
  ·rw [decide_eq_false (by omega),cond_false];exact ⟨n,0,rfl,by omega,by omega,by omega⟩
 obtain ⟨m,k,e1,b1,m1,k1⟩:=e1;have e2:∃m' k':Nat,f82n2 (m:Int) (k:Int)=some (.norm (m':Int) (k':Int))∧bitLen n=k'+bitLen m'∧m'<65536∧k'≤48:=by
  unfold f82n2
  by_cases c:65536≤m
  ·rw [decide_eq_true (by omega),cond_true];refine ⟨m / 2 ^ 16,k+16,?_,by rw [b1,bitLen_shift m 16 (by rw [h16]; omega)]; omega,by rw [h16]; omega,by omega⟩;rw [show (16:Int)=((16:Nat):Int) from rfl,hshr m 16 (by omega),wrIn (by omega) (by omega)];rw [Int.natCast_add]
  ·rw [decide_eq_false (by omega),cond_false];exact ⟨m,k,rfl,b1,by omega,by omega⟩
 obtain ⟨m',k',e2,b2,m2,k2⟩:=e2;unfold f82 f82n0;rw [e1]; simp only [Option.bind_some];rw [e2]; simp only [Option.bind_some]
 by_cases c:256≤m'
 ·obtain ⟨b,t1,t2⟩:=len_at (i:=m' / 256) (by omega);have bl:=bitLen_le8 (m' / 256) (by omega);have bs:=bitLen_shift m' 8 (by rw [h8]; omega);rw [h8] at bs;rw [decide_eq_true (by omega),cond_true,show (8:Int)=((8:Nat):Int) from rfl,hshr m' 8 (by omega),h8,show wru8 (((m' / 256:Nat)):Int)=((m' / 256:Nat):Int) by
   show IntKind.u8.wrap _=_;rw [IntKind.wrap_u8']; omega,t1]
  simp only [Option.bind_some,t2];rw [wrIn (n:=((bitLen (m' / 256):Nat):Int)) (by omega) (by omega),wrIn (n:=(k':Int)+((8:Nat):Int)) (by omega) (by omega),wrIn (by omega) (by omega)];rw [b2,bs]; congr 1; omega
 ·obtain ⟨b,t1,t2⟩:=len_at (i:=m') (by omega);have bl:=bitLen_le8 m' (by omega);rw [decide_eq_false (by omega),cond_false,show wru8 ((m':Nat):Int)=((m':Nat):Int) by
   show IntKind.u8.wrap _=_;rw [IntKind.wrap_u8']; omega,t1]
  simp only [Option.bind_some,t2];rw [wrIn (n:=((bitLen m':Nat):Int)) (by omega) (by omega),wrIn (by omega) (by omega)];rw [b2]; congr 1
theorem f77_eq{n:Nat}(h0:0<n)(h:n<2 ^ 56):∃s:Nat,f77 (n:Int)=some (s:Int)∧1≤s∧s≤63∧2 ^ 63≤n*2 ^ s∧n*2 ^ s<2 ^ 64:=by
 have hb:=bitLen_spec n;have h1:=hb.2 (by omega);have hb0:1≤bitLen n:=by
  rcases Nat.eq_zero_or_pos (bitLen n) with e | e
  ·rw [e] at hb; have:=hb.1; omega
  ·exact e
 have hb1:bitLen n≤56:=by
  rcases Nat.lt_or_ge 56 (bitLen n) with e | e
  ·have:2 ^ 56≤2 ^ (bitLen n-1):=Nat.pow_le_pow_right (by decide) (by omega);omega
  ·exact e
 refine ⟨64-bitLen n,?_,by omega,by omega,?_,?_⟩
 ·unfold f77 f77n0;rw [f82_eq h0 h]; simp only [Option.bind_some];rw [wrIn (by omega) (by omega)]; congr 1; omega
 ·have:2 ^ 63=2 ^ (bitLen n-1)*2 ^ (64-bitLen n):=by rw [←Nat.pow_add]; congr 1; omega
  rw [this];exact Nat.mul_le_mul_right _ h1
 ·have:2 ^ 64=2 ^ (bitLen n)*2 ^ (64-bitLen n):=by rw [←Nat.pow_add]; congr 1; omega
  rw [this];exact Nat.mul_lt_mul_of_pos_right hb.1 (Nat.two_pow_pos _)

structure Kn (a b U d Q:Int):Prop where
 a1:2147483648≤a
 a2:a<4294967296
 b1:0≤b
 b2:b<4294967296
 d1:0≤d
 d2:d<4294967296
 u1:0≤U
 u2:U<a*4294967296+b
 q1:Q*(a*4294967296+b)≤U*4294967296+d
 q2:U*4294967296+d<(Q+1)*(a*4294967296+b)
theorem Kn.q0{a b U d Q:Int}(k:Kn a b U d Q):0≤Q:=by
 rcases Int.lt_or_le Q 0 with h | h
 ·have h1:=k.q2;have:(Q+1)*(a*4294967296+b)≤0:=Int.mul_nonpos_of_nonpos_of_nonneg (by omega) (by have:=k.a1; have:=k.b1; omega);have:=k.u1; have:=k.d1; omega
 ·exact h
theorem Kn.q3{a b U d Q:Int}(k:Kn a b U d Q):Q<4294967296:=by
 rcases Int.lt_or_le Q 4294967296 with h | h
 ·exact h
 ·have h1:=k.q1;have:4294967296*(a*4294967296+b)≤Q*(a*4294967296+b):=Int.mul_le_mul_of_nonneg_right h (by have:=k.a1; have:=k.b1; omega);have:=k.u2; have:=k.d2; omega
theorem Kn.diff{a b U d Q q r:Int}(k:Kn a b U d Q)(h:U=q*a+r):q*(a*4294967296+b)-(U*4294967296+d)=q*b-(4294967296*r+d):=by
 rw [h,Int.mul_add,←Int.mul_assoc]; omega
theorem Kn.cmp{a b U d Q q r:Int}(k:Kn a b U d Q)(h:U=q*a+r):4294967296*r+d<q*b↔Q<q:=by
 have h1:=k.diff h;have hp:0≤a*4294967296+b:=by have:=k.a1; have:=k.b1; omega
 constructor
 ·intro h2;rcases Int.lt_or_le Q q with h3 | h3
  ·exact h3
  ·have:=Int.mul_le_mul_of_nonneg_right h3 hp;have:=k.q1; omega
 ·intro h2;have:=Int.mul_le_mul_of_nonneg_right (show Q+1≤q by omega) hp;have:=k.q2; omega
theorem Kn.test{a b U d Q q r:Int}(k:Kn a b U d Q)(h:U=q*a+r)(hr0:0≤r)(hr:r<4294967296)(hq0:0≤q) :
  (bif decide (4294967296≤q) then true else decide (Qi (Qi (4294967296*r)+d)<Qi (q*b)))=decide (Q<q):=by
 have:=k.b1; have:=k.b2; have:=k.d1; have:=k.d2
 by_cases c:4294967296≤q
 ·have:=k.q3;rw [decide_eq_true c,decide_eq_true (show Q<q by omega)]; rfl
 ·have p:=prod_bound q b hq0 (by omega) k.b1 (by omega);rw [decide_eq_false c,cond_false,wruIn (n:=q*b) p.1 (by omega),wruIn (n:=4294967296*r) (by omega) (by omega),wruIn (by omega) (by omega)]
  congr 1; exact propext (k.cmp h)
theorem Kn.last{a b U d Q q r:Int}(k:Kn a b U d Q)(h:U=q*a+r)(hq:q≤4294967297)(hQ:Q<q)(hr:4294967296≤r+a):q-1=Q:=by
 have h':U=(q-1)*a+(r+a):=by rw [Int.sub_mul]; omega
 have h2:=k.cmp h';have p:(q-1)*b≤4294967296*4294967296:=by
  have:=k.b1; have:=k.b2; have:=k.q0;have h3:=Int.mul_le_mul_of_nonneg_right (show q-1≤4294967296 by omega) k.b1;omega
 have:¬Q<q-1:=fun h3=>by
  have:=h2.2 h3; have:=k.d1; omega
 omega
theorem f67n3_at{y s hi lo a b U d Q:Int}(k:Kn a b U d Q) (ea:shrK .u64 (shlK .u64 y (Qi s)) 32=a) (eb:andU (shlK .u64 y (Qi s)) 4294967295=b) (ed:shrK .u64 (shlK .u64 lo (Qi s)) 32=d) :
  ∀(f:Nat)(q r:Int),U=q*a+r→0≤r→r<4294967296→Q≤q→q≤4294967297→(q-Q).toNat<f→f67n3 f y s hi lo q r=some (.exit0 Q)
 | 0,_,_,_,_,_,_,_,h=>absurd h (Nat.not_lt_zero _)
 | f+1,q,r,hU,hr0,hr,hQ,hq,hf=>by
  have q0:=k.q0;have t:=k.test hU hr0 hr (by omega);have a1:=k.a1; have a2:=k.a2;rw [f67n3,ea];unfold f67n1 f67n2;rw [eb,ed];have e:∀x z:Bool,(bif x then some (f67n2O.norm true) else some (.norm z))=some (.norm (bif x then true else z)):=fun x z=>by cases x<;>rfl
  rw [e,t];simp only [Option.bind_some]
  by_cases c:Q<q
  ·rw [decide_eq_true c];simp only [cond_true,Option.bind_some];rw [wruIn (n:=r+a) (by omega) (by omega),wruIn (n:=q-1) (by omega) (by omega)]
   by_cases c2:4294967296≤r+a
   ·rw [decide_eq_true c2,cond_true,k.last hU hq c c2]
   ·rw [decide_eq_false c2,cond_false];exact f67n3_at k ea eb ed f (q-1) (r+a) (by rw [Int.sub_mul]; omega) (by omega) (by omega) (by omega) (by omega) (by omega)
  ·have:q=Q:=by omega
   rw [decide_eq_false c,this]; rfl
theorem f67n6_at{y s hi lo v a b U d Q:Int}(k:Kn a b U d Q) (ea:shrK .u64 (shlK .u64 y (Qi s)) 32=a) (eb:andU (shlK .u64 y (Qi s)) 4294967295=b) (ed:andU (shlK .u64 lo (Qi s)) 4294967295=d) :
  ∀(f:Nat)(q r:Int),U=q*a+r→0≤r→r<4294967296→Q≤q→q≤4294967297→(q-Q).toNat<f→f67n6 f y s lo v hi r q=some (.exit2 Q)
 | 0,_,_,_,_,_,_,_,h=>absurd h (Nat.not_lt_zero _)
 | f+1,q,r,hU,hr0,hr,hQ,hq,hf=>by
  have q0:=k.q0;have t:=k.test hU hr0 hr (by omega);have a1:=k.a1; have a2:=k.a2;rw [f67n6,ea];unfold f67n4 f67n5;rw [eb,ed];have e:∀x z:Bool,(bif x then some (f67n5O.norm true) else some (.norm z))=some (.norm (bif x then true else z)):=fun x z=>by cases x<;>rfl
  rw [e,t];simp only [Option.bind_some]
  by_cases c:Q<q
  ·rw [decide_eq_true c];simp only [cond_true,Option.bind_some];rw [wruIn (n:=r+a) (by omega) (by omega),wruIn (n:=q-1) (by omega) (by omega)]
   by_cases c2:4294967296≤r+a
   ·rw [decide_eq_true c2,cond_true,k.last hU hq c c2]
   ·rw [decide_eq_false c2,cond_false];exact f67n6_at k ea eb ed f (q-1) (r+a) (by rw [Int.sub_mul]; omega) (by omega) (by omega) (by omega) (by omega) (by omega)
  ·have:q=Q:=by omega
   rw [decide_eq_false c,this]; rfl
theorem Kn.guess{a b U d Q:Int}(k:Kn a b U d Q):U=U / a*a+(U-U / a*a)∧0≤U-U / a*a∧U-U / a*a<4294967296∧Q≤U / a∧U / a≤4294967297:=by
 have a1:=k.a1; have a2:=k.a2;have h1:=Int.mul_ediv_add_emod U a;have h2:=Int.emod_nonneg U (show a≠0 by omega);have h3:=Int.emod_lt_of_pos U (show 0<a by omega);rw [Int.mul_comm a] at h1;refine ⟨by omega,by omega,by omega,?_,?_⟩
 ·have hU:U=U / a*a+(U-U / a*a):=by omega
  rcases Int.lt_or_le (U / a) Q with h | h
  ·exfalso
   have hb:=k.b1; have:=k.q0; have q1:=k.q1;have h4:=Int.mul_le_mul_of_nonneg_right (show U / a+1≤Q by omega) (show 0≤a*4294967296+b by omega);have h5:(U / a+1)*(a*4294967296+b)=U / a*a*4294967296+a*4294967296+(U / a+1)*b:=by
    rw [Int.mul_add,←Int.mul_assoc,Int.add_mul (U / a) 1 a]; omega
   have h6:0≤(U / a+1)*b:=Int.mul_nonneg (by have:=Int.ediv_nonneg k.u1 (show 0≤a by omega); omega) hb;have:=k.d2; omega
  ·exact h
 ·have hb:=k.b2; have hu:=k.u2;rcases Int.lt_or_le 4294967297 (U / a) with h | h
  ·exfalso
   have h4:=Int.mul_le_mul_of_nonneg_right (show 4294967298≤U / a by omega) (show 0≤a by omega);omega
  ·exact h
theorem f67_eq{hi lo y:Int}(hy0:0<y)(hy:y<72057594037927936)(hh0:0≤hi)(hh:hi<y)(hl0:0≤lo)(hl:lo<18446744073709551616) :
  f67 hi lo y=some ((hi*18446744073709551616+lo) / y,(hi*18446744073709551616+lo) % y):=by
 unfold f67 f67n0;rw [decide_eq_false (by omega),cond_false,decide_eq_false (by omega),cond_false]
 by_cases c:hi=0
 ·subst c;rw [decide_eq_true rfl,cond_true,Option.bind_some];rw [Int.tdiv_eq_ediv_of_nonneg hl0,Int.tmod_eq_emod_of_nonneg hl0,Int.zero_mul,Int.zero_add];have h1:lo / y≤lo:=Int.ediv_le_self _ hl0;have h2:=Int.ediv_nonneg hl0 (Int.le_of_lt hy0);rw [wruIn h2 (by omega)]
 ·rw [decide_eq_false c,cond_false];have e56:(2:Nat) ^ 56=72057594037927936:=by decide
  obtain ⟨s,es,s1,s2,p1,p2⟩:=f77_eq (n:=y.toNat) (by omega) (by omega);rw [show ((y.toNat:Nat):Int)=y by omega] at es;rw [es]; simp only [Option.bind_some];generalize hP:(2:Int) ^ s=P;have hPn:((2 ^ s:Nat):Int)=P:=by rw [←hP]; simp
  have hP0:0<P:=by rw [←hP]; exact Int.pow_pos (by decide)
  have e63:(2:Nat) ^ 63=9223372036854775808:=by decide
  have e64:(2:Nat) ^ 64=18446744073709551616:=by decide
  have hY1:9223372036854775808≤y*P:=by
   have:(((2 ^ 63:Nat)):Int)≤((y.toNat*2 ^ s:Nat):Int):=Int.ofNat_le.2 p1;rw [Int.natCast_mul,hPn,show ((y.toNat:Nat):Int)=y by omega,e63] at this;omega
  have hY2:y*P<18446744073709551616:=by
   have:((y.toNat*2 ^ s:Nat):Int)<(((2 ^ 64:Nat)):Int):=Int.ofNat_lt.2 p2;rw [Int.natCast_mul,hPn,show ((y.toNat:Nat):Int)=y by omega,e64] at this;omega
  have ews:Qi (s:Int)=(s:Int):=wruIn (by omega) (by omega);have ew2:Qi (64-(s:Int))=((64-s:Nat):Int):=by rw [wruIn (by omega) (by omega)]; omega
  have eshl:∀x:Int,shlK .u64 x (s:Int)=(x*P) % 18446744073709551616:=fun x=>by
   unfold shlK;rw [Int.toNat_natCast,show min s IntKind.u64.bits=s by show min s 64=s; omega,hP];exact wru_eq _
  generalize hD:(2:Int) ^ (64-s)=D;have hD0:0<D:=by rw [←hD]; exact Int.pow_pos (by decide)
  have hPD:P*D=18446744073709551616:=by
   rw [←hP,←hD,←Int.pow_add,show s+(64-s)=64 by omega]; decide
  have eshr:∀x:Int,shrK .u64 x ((64-s:Nat):Int)=x / D:=fun x=>by
   unfold shrK;rw [Int.toNat_natCast,show min (64-s) IntKind.u64.bits=64-s by show min (64-s) 64=_; omega,hD,Int.fdiv_eq_ediv_of_nonneg _ (by omega)]
  have eshs:∀x:Int,shrK .u64 x (s:Int)=x / P:=fun x=>by
   unfold shrK;rw [Int.toNat_natCast,show min s IntKind.u64.bits=s by show min s 64=_; omega,hP,Int.fdiv_eq_ediv_of_nonneg _ (by omega)]
  have eY:shlK .u64 y (s:Int)=y*P:=by rw [eshl]; omega
  have hhP:hi*P<y*P:=Int.mul_lt_mul_of_pos_right hh hP0;have hhP0:0≤hi*P:=Int.mul_nonneg hh0 (by omega);have eH:shlK .u64 hi (s:Int)=hi*P:=by rw [eshl]; omega
  have hloD0:0≤lo / D:=Int.ediv_nonneg hl0 (by omega);have hloD:lo / D<P:=by
   rw [Int.ediv_lt_iff_lt_mul hD0,hPD]; exact hl
  have eor:orU (hi*P) (lo / D)=hi*P+lo / D:=by
   have hPy:1*P≤y*P:=Int.mul_le_mul_of_nonneg_right (show 1≤y by omega) (show 0≤P by omega);have h1:=u64_or (hi*P) (lo / D) hhP0 (by omega) hloD0 (by omega);have h2:(hi*P).toNat ||| (lo / D).toNat=(hi*P).toNat+(lo / D).toNat:=nat_join s _ _ (by
    have:(hi*P).toNat=hi.toNat*2 ^ s:=by
     apply Int.ofNat_inj.1
     rw [Int.natCast_mul,hPn,Int.toNat_of_nonneg hhP0,Int.toNat_of_nonneg hh0]
    rw [this]; exact Nat.mul_mod_left _ _) (by
    apply Int.ofNat_lt.1
    rw [hPn]; omega)
   rw [h2] at h1;have h3:(((hi*P).toNat+(lo / D).toNat:Nat):Int)=hi*P+lo / D:=by omega
   rw [h3] at h1;exact h1
  have hLo:lo*P=lo / D*18446744073709551616+(lo*P) % 18446744073709551616:=by
   have h1:lo*P / 18446744073709551616=lo / D:=by
    rw [←hPD,Int.mul_comm lo P]; exact Int.mul_ediv_mul_of_pos _ _ hP0
   omega
  rw [ews,ew2,eY,eH,eshr,eor,eshl lo];generalize hL:lo*P % 18446744073709551616=L at *;have hL0:0≤L:=by omega
  have hL1:L<18446744073709551616:=by omega
  generalize hU:hi*P+lo / D=U at *;have hN:(hi*18446744073709551616+lo)*P=U*18446744073709551616+L:=by
   rw [Int.add_mul,hLo,←hU,Int.mul_assoc,Int.mul_comm 18446744073709551616 P,←Int.mul_assoc]; omega
  generalize hNN:hi*18446744073709551616+lo=N at *;have hN0:0≤N:=by omega
  have hUY:U<y*P:=by
   have h1:N*P<y*18446744073709551616*P:=Int.mul_lt_mul_of_pos_right (by omega) hP0;rw [Int.mul_assoc,Int.mul_comm 18446744073709551616 P,←Int.mul_assoc] at h1;omega
  have hU0:0≤U:=by omega
  rw [andL hL0 hL1,shr32,shr32];generalize hY:y*P=Y at *;have ba:2147483648≤Y / 4294967296:=by omega
  have rqt:∀{α:Type} (x:Option α),req true x=x:=fun x=>rfl;rw [decide_eq_true (show (0:Int)≤(s:Int) by omega),decide_eq_true (show (0:Int)≤((64-s:Nat):Int) by omega),decide_eq_false (show ¬Y / 4294967296=0 by omega),Bool.not_false,rqt,rqt,rqt];have kn:∀V d:Int,0≤V→V<Y→0≤d→d<4294967296→Kn (Y / 4294967296) (Y % 4294967296) V d ((V*4294967296+d) / Y):=fun V d v0 v1 d0 d1=>by
   have eY:Y / 4294967296*4294967296+Y % 4294967296=Y:=by omega
   have h1:=Int.mul_ediv_add_emod (V*4294967296+d) Y;have h2:=Int.emod_nonneg (V*4294967296+d) (show Y≠0 by omega);have h3:=Int.emod_lt_of_pos (V*4294967296+d) (show 0<Y by omega);rw [Int.mul_comm Y] at h1;exact ⟨ba,by omega,by omega,by omega,d0,d1,v0,by omega,by rw [eY]; omega,by rw [eY,Int.add_mul]; omega⟩
  have k1:=kn U (L / 4294967296) hU0 hUY (by omega) (by omega);have g1:=k1.guess;have eYs:shlK .u64 y (Qi (s:Int))=Y:=by rw [ews,eY]
  have eLs:shlK .u64 lo (Qi (s:Int))=L:=by rw [ews,eshl,hL]
  rw [Int.tdiv_eq_ediv_of_nonneg hU0];have hfu:(4294967297:Nat)<FUEL:=by unfold FUEL; decide
  rw [wruIn (n:=U / (Y / 4294967296)) (by have:=k1.q0; omega) (by omega),wruIn (n:=U / (Y / 4294967296)*(Y / 4294967296)) (by have:=k1.q0; exact Int.mul_nonneg (by omega) (by omega)) (by omega),wruIn (n:=U-U / (Y / 4294967296)*(Y / 4294967296)) (by omega) (by omega)];rw [f67n3_at k1 (by rw [eYs,shr32]) (by rw [eYs,andL (by omega) hY2]) (by rw [eLs,shr32]) FUEL _ _ g1.1 g1.2.1 g1.2.2.1 g1.2.2.2.1 g1.2.2.2.2 (by have:=k1.q0; omega)];simp only [Option.bind_some];generalize hQ1:(U*4294967296+L / 4294967296) / Y=Q1 at *;have q10:=k1.q0; have q13:=k1.q3;have q11:=k1.q1; have q12:=k1.q2;rw [show Y / 4294967296*4294967296+Y % 4294967296=Y by omega] at q11 q12;rw [Int.add_mul] at q12;have eU2:Qi (Qi (Qi (U*4294967296)+L / 4294967296)-Qi (Q1*Y))=U*4294967296+L / 4294967296-Q1*Y:=by
   simp only [wru_eq]; omega
  rw [eU2];generalize hU2:U*4294967296+L / 4294967296-Q1*Y=U2 at *;have k2:=kn U2 (L % 4294967296) (by omega) (by omega) (by omega) (by omega);have g2:=k2.guess;rw [Int.tdiv_eq_ediv_of_nonneg (show 0≤U2 by omega)];rw [wruIn (n:=U2 / (Y / 4294967296)) (by have:=k2.q0; omega) (by omega),wruIn (n:=U2 / (Y / 4294967296)*(Y / 4294967296)) (by have:=k2.q0; exact Int.mul_nonneg (by omega) (by omega)) (by omega),wruIn (n:=U2-U2 / (Y / 4294967296)*(Y / 4294967296)) (by omega) (by omega)];rw [f67n6_at k2 (by rw [eYs,shr32]) (by rw [eYs,andL (by omega) hY2]) (by rw [eLs,andL hL0 hL1]) FUEL _ _ g2.1 g2.2.1 g2.2.2.1 g2.2.2.2.1 g2.2.2.2.2 (by have:=k2.q0; omega)];simp only [Option.bind_some];generalize hQ0:(U2*4294967296+L % 4294967296) / Y=Q0 at *;have q00:=k2.q0; have q03:=k2.q3;have q01:=k2.q1; have q02:=k2.q2;rw [show Y / 4294967296*4294967296+Y % 4294967296=Y by omega] at q01 q02
  rw [Int.add_mul] at q02;have eR:Qi (Qi (Qi (U2*4294967296)+L % 4294967296)-Qi (Q0*Y))=U2*4294967296+L % 4294967296-Q0*Y:=by
   simp only [wru_eq]; omega
  have eK:Qi (Qi (Q1*4294967296)+Q0)=Q1*4294967296+Q0:=by rw [wruIn (n:=Q1*4294967296) (by omega) (by omega),wruIn (by omega) (by omega)]
  rw [eR,eK,eshs];have hfin:N*P=(Q1*4294967296+Q0)*Y+(U2*4294967296+L % 4294967296-Q0*Y):=by
   rw [Int.add_mul,Int.mul_assoc Q1,Int.mul_comm 4294967296 Y,←Int.mul_assoc Q1]; omega
  generalize hK:Q1*4294967296+Q0=K at *;have hR:U2*4294967296+L % 4294967296-Q0*Y=(N-K*y)*P:=by
   rw [Int.sub_mul,Int.mul_assoc K y P,hY]; omega
  rw [hR,Int.mul_ediv_cancel _ (by omega)];have r0:0≤N-K*y:=by
   rcases Int.lt_or_le (N-K*y) 0 with h | h
   ·have:(N-K*y)*P<0:=Int.mul_neg_of_neg_of_pos h hP0;omega
   ·exact h
  have r1:N-K*y<y:=by
   rcases Int.lt_or_le (N-K*y) y with h | h
   ·exact h
   ·have:=Int.mul_le_mul_of_nonneg_right h (show 0≤P by omega);omega
  have:=(Int.ediv_emod_unique (a:=N) (b:=y) (r:=N-K*y) (q:=K) hy0).2 ⟨by rw [Int.mul_comm y K]; omega,r0,r1⟩;rw [this.1,this.2]
theorem share_eq{n w S:Int}(hS0:0<S)(hS:S≤1125899906842624)(hn0:0≤n)(hn:n≤S)(hw0:0≤w)(hw:w≤S) :
  (f66 (Qi n) (Qi w)).bind (fun x=>f67 x.1 x.2 (Qi S))=some (n*w / S,n*w % S):=by
 have hp0:=Int.mul_nonneg hn0 hw0;have hp:n*w≤S*S:=Int.mul_le_mul hn hw hw0 (by omega);have hSS:S*S≤S*1125899906842624:=Int.mul_le_mul_of_nonneg_left hS (by omega);rw [wruIn hn0 (by omega),wruIn hw0 (by omega),wruIn (n:=S) (by omega) (by omega),f66_eq hn0 (by omega) hw0 (by omega),Option.bind_some];rw [f67_eq hS0 (by omega) (by omega) (by omega) (by omega) (by omega)];rw [show n*w / 18446744073709551616*18446744073709551616+n*w % 18446744073709551616=n*w by omega]
end Go.Proofs.Ytgbolgaodaokcaa
namespace Go.Proofs.Ytgbolgaodaokcaa
set_option linter.unusedVariables false
set_option linter.unusedSimpArgs false
set_option maxRecDepth 100000
open Go.RowKit
def sm:List Int→Int
 | []=>0
 | x::r=>x+sm r
theorem sm_app:∀a b:List Int,sm (a++b)=sm a+sm b
 | [],b=>by simp [sm]
 | x::a,b=>by rw [List.cons_append,sm,sm,sm_app a b]; omega
theorem Qcj:∀{l:List Int},(∀x∈l,0≤x)→0≤sm l
 | [],_=>by simp [sm]
 | x::r,h=>by
  have h1:=h x List.mem_cons_self;have h2:=Qcj fun y hy=>h y (List.mem_cons_of_mem x hy);rw [sm]; omega
theorem sm_le{l:List Int}(h:∀x∈l,0≤x){x:Int}(hx:x∈l):x≤sm l:=by
 obtain ⟨a,b,rfl⟩:=List.append_of_mem hx;have h1:=Qcj fun y hy=>h y (List.mem_append_left _ hy);have h2:=Qcj fun y hy=>h y (List.mem_append_right _ (List.mem_cons_of_mem _ hy));rw [sm_app,sm]; omega
theorem sm_bound{S:Int} : ∀{l:List Int},(∀x∈l,x≤S)→sm l≤(l.length:Int)*S
 | [],_=>by simp [sm]
 | x::r,h=>by
  have h1:=h x List.mem_cons_self;have h2:=sm_bound fun y hy=>h y (List.mem_cons_of_mem x hy);rw [sm,List.length_cons,Int.natCast_add,Int.add_mul]; omega
theorem f70_eq(a b:Int):f70 a b=some (cmpI a b):=by
 have f79_eq:∀a,f79 a=some false:=fun a=>by unfold f79 f79n0; simp
 unfold f70 f70n0 cmpI;rw [f79_eq,f79_eq];simp only [Option.bind_some,cond_false];cases decide (a<b)<;>cases decide (b<a)<;>rfl
theorem f64n2L_eq(bg:List Int):∀(l:List Int)(v k:Int),f64_65n2L bg l (wr64 v) k=some (.exit0 (wr64 (v+sm l)))
 | [],v,k=>by rw [f64_65n2L,sm,Int.add_zero]
 | x::r,v,k=>by
  have:f65 x=some x:=rfl;rw [f64_65n2L,this,Option.bind_some,wrL,f64n2L_eq bg r,sm];rw [show v+x+sm r=v+(x+sm r) by omega]
theorem f64_eq{l:List Int}(hl:l.length≤maxLen)(h0:∀x∈l,0≤x)(h:sm l≤1125899906842624):f64_65 l=some (sm l):=by
 have h1:=Qcj h0;unfold f64_65 f64_65n0 f64_65n1;have h2:=f64n2L_eq l l 0 0;rw [show wr64 0=0 from rfl] at h2;rw [f64_65n2_run l 0 hl,h2];simp only [Option.bind_some];rw [Int.zero_add,wrIn (by omega) (by omega)]

def qL(n S:Int)(ws:List Int):List Int:=ws.map fun w=>n*w / S
def rL(n S:Int)(ws:List Int):List Int:=ws.map fun w=>n*w % S
def ids(k:Nat):List Int:=(List.range k).map fun i:Nat=>(i:Int)
theorem ids_succ(k:Nat):ids (k+1)=ids k++[(k:Int)]:=by unfold ids; rw [List.range_succ,List.map_append]; rfl
theorem ids_len(k:Nat):(ids k).length=k:=by simp [ids]
theorem ids_mem{k:Nat}{z:Int} : z∈ids k↔0≤z∧z<(k:Int):=by
 unfold ids;rw [List.mem_map]
 constructor
 ·rintro ⟨i,hi,rfl⟩
  rw [List.mem_range] at hi; omega
 ·intro h;exact ⟨z.toNat,List.mem_range.2 (by omega),by omega⟩
theorem ids_lt(k:Nat):(ids k).Pairwise fun a b=>a<b:=by
 unfold ids;rw [List.pairwise_map];exact List.pairwise_lt_range.imp fun h=>by omega
theorem qL_len(n S:Int)(ws:List Int):(qL n S ws).length=ws.length:=by simp [qL]
theorem rL_len(n S:Int)(ws:List Int):(rL n S ws).length=ws.length:=by simp [rL]
section
variable {n S:Int} (hS0:0<S) (hS:S≤1125899906842624) (hn0:0≤n) (hn:n≤S)
include hS0 hn0 hn
theorem q_le{w:Int}(hw:0≤w):0≤n*w / S∧n*w / S≤w:=by
 have h0:=Int.mul_nonneg hn0 hw;refine ⟨Int.ediv_nonneg h0 (by omega),?_⟩;have h1:=Int.mul_le_mul_of_nonneg_right hn hw;have h2:=Int.ediv_le_ediv hS0 h1;rw [Int.mul_ediv_cancel_left _ (by omega)] at h2;exact h2
theorem qL_le:∀{ws:List Int},(∀x∈ws,0≤x)→0≤sm (qL n S ws)∧sm (qL n S ws)≤sm ws
 | [],_=>by simp [qL,sm]
 | w::r,h=>by
  have h1:=q_le hS0 hn0 hn (h w List.mem_cons_self);have h2:=qL_le fun y hy=>h y (List.mem_cons_of_mem w hy);unfold qL at h2 ⊢;rw [List.map_cons,sm,sm]; omega
omit hS0 hn0 hn in
theorem qr_sum:∀ws:List Int,sm (qL n S ws)*S+sm (rL n S ws)=n*sm ws
 | []=>by simp [qL,rL,sm]
 | w::r=>by
  have h1:=Int.mul_ediv_add_emod (n*w) S;have h2:=qr_sum r;unfold qL rL at h2 ⊢;rw [List.map_cons,List.map_cons,sm,sm,sm,Int.add_mul,Int.mul_add,Int.mul_comm (n*w / S) S];omega
omit hn0 hn in
theorem rL_mem{ws:List Int}{x:Int}(h:x∈rL n S ws):0≤x∧x<S:=by
 unfold rL at h;obtain ⟨w,_,rfl⟩:=List.mem_map.1 h;exact ⟨Int.emod_nonneg _ (by omega),Int.emod_lt_of_pos _ hS0⟩
include hS in
theorem f55n2L_at{ws:List Int}(h0:∀x∈ws,0≤x)(hsm:sm ws=S):∀(rest pre:List Int),ws=pre++rest →
  f55n2L n S ws rest (n-sm (qL n S pre)) (pre.length:Int) (qL n S pre++List.replicate rest.length 0) (ids pre.length++List.replicate rest.length 0) (rL n S pre++List.replicate rest.length 0)=some (.exit0 (n-sm (qL n S ws)) (qL n S ws) (ids ws.length) (rL n S ws))
 | [],pre,h=>by
  rw [List.append_nil] at h;subst h;rw [f55n2L]; simp
 | w::rest,pre,h=>by
  have hw:0≤w:=h0 w (by rw [h]; simp);have hw2:w≤S:=by rw [←hsm]; exact sm_le h0 (by rw [h]; simp)
  have hs:=share_eq hS0 hS hn0 hn hw hw2;have hq:=q_le hS0 hn0 hn hw;have hp:=qL_le hS0 hn0 hn (ws:=pre++[w]) fun x hx=>h0 x (by rw [h]; simp at hx ⊢; rcases hx with hx | hx<;>simp [hx]);have hp2:sm (pre++[w])≤S:=by
   rw [←hsm,h,show pre++w::rest=(pre++[w])++rest by simp,sm_app (pre++[w])];have:=Qcj fun x hx=>h0 x (by rw [h]; exact List.mem_append_right _ (List.mem_cons_of_mem w hx));omega
  have eq1:qL n S (pre++[w])=qL n S pre++[n*w / S]:=by simp [qL]
  have er1:rL n S (pre++[w])=rL n S pre++[n*w % S]:=by simp [rL]
  rw [eq1,sm_app,sm,sm] at hp;have ih:=f55n2L_at h0 hsm rest (pre++[w]) (by rw [h]; simp);rw [f55n2L];cases hm:f66 (Qi n) (Qi w) with
  | none=>rw [hm] at hs; cases hs
  | some p =>
   rw [hm,Option.bind_some] at hs;rw [Option.bind_some,hs,Option.bind_some];rw [List.length_cons,List.replicate_succ];rw [Qbd (l:=qL n S pre++0::List.replicate rest.length 0) rfl (qL_len n S pre).symm,Qbd (l:=rL n S pre++0::List.replicate rest.length 0) rfl (rL_len n S pre).symm,Qbd (l:=ids pre.length++0::List.replicate rest.length 0) rfl (ids_len pre.length).symm];simp only [Option.bind_some];rw [show Int.toNat (pre.length:Int)=pre.length from rfl,set_len (l:=qL n S pre++0::List.replicate rest.length 0) rfl (qL_len n S pre).symm,set_len (l:=rL n S pre++0::List.replicate rest.length 0) rfl (rL_len n S pre).symm,set_len (l:=ids pre.length++0::List.replicate rest.length 0) rfl (ids_len pre.length).symm];rw [wrIn (n:=n*w / S) (by omega) (by omega),wrIn (by omega) (by omega)];rw [eq1,er1,sm_app,sm,sm,List.length_append,List.length_cons,List.length_nil,ids_succ] at ih
   rw [show n-(sm (qL n S pre)+(n*w / S+0))=n-sm (qL n S pre)-n*w / S by omega,show ((pre.length+(0+1):Nat):Int)=(pre.length:Int)+1 by omega] at ih;simpa using ih
end
def bump:List Int→List Int→List Int
 | o,[]=>o
 | o,i::T=>bump (o.set i.toNat (o.getD i.toNat 0+1)) T
theorem bump_len:∀(T o:List Int),(bump o T).length=o.length
 | [],o=>rfl
 | i::T,o=>by rw [bump,bump_len T]; simp
theorem f55n4_at{m:Int}{sl:List Int}(hm0:0≤m)(hm:m≤(sl.length:Int))(hb:sl.length≤100000):∀(T:List Int)(f t:Nat)(o:List Int),(sl.take m.toNat).drop t=T→T.length<f→(∀z∈T,0≤z∧z<(o.length:Int))→(∀x∈o,0≤x∧x+(T.length:Int)≤1152921504606846976) →
  f55n4 f m sl (t:Int) o=some (.exit2 (bump o T))
 | _,0,_,_,_,h,_,_=>absurd h (Nat.not_lt_zero _)
 | [],f+1,t,o,hd,_,_,_=>by
  have hl:=Qab hd;rw [List.length_take] at hl;rw [f55n4,Nat.sub_zero,decide_eq_false (by omega),cond_false,bump]
 | z::T,f+1,t,o,hd,hf,hr,hv=>by
  obtain ⟨h1,h2,h3⟩:=dropAt hd;rw [List.length_take] at h2;simp only [List.length_cons] at hf hv;have hz:=hr z List.mem_cons_self;have hx:o[z.toNat]∈o:=List.getElem_mem (by omega);have hxv:=hv _ hx;have eg:o.getD z.toNat 0=o[z.toNat]'(by omega):=by simp [List.getD,show z.toNat<o.length by omega]
  rw [f55n4,Nat.sub_zero,decide_eq_true (by omega),cond_true,List.drop_zero];have rqt:∀{α:Type} (x:Option α),req true x=x:=fun x=>rfl;rw [decide_eq_true (by omega:0+m.toNat≤sl.length),rqt,h1];simp only [Option.bind_some];rw [show at? o z=some (o[z.toNat]'(by omega)) by
   have:=at_in (l:=o) (k:=z.toNat) (by omega)
   rwa [show ((z.toNat:Nat):Int)=z by omega] at this]
  simp only [Option.bind_some];rw [wrSucc (by omega),wrIn (n:=o[z.toNat]+1) (by omega) (by omega),bump,eg];refine f55n4_at hm0 hm hb T f (t+1) _ h3 (by omega) (fun y hy=>by rw [List.length_set]; exact hr y (List.mem_cons_of_mem z hy)) fun x hx=>?_;rcases List.mem_or_eq_of_mem_set hx with hx | rfl
  ·have:=hv x hx; omega
  ·omega

def rv(rs:List Int)(z:Int):Int:=rs.getD z.toNat 0
def cQ(rs:List Int)(x y:Int):Int:=cmpI (-(rv rs x)) (-(rv rs y))
theorem cQ_neg{rs:List Int}{x y:Int} : cQ rs x y<0↔rv rs y<rv rs x:=by unfold cQ; rw [cmpI_neg]; omega
theorem cQ_swo(rs:List Int):SWo fun x y=>decide (cQ rs x y<0):=(Cmp.int fun x=>-(rv rs x)).swo
theorem at_rv{rs:List Int}{z:Int}(h0:0≤z)(h:z<(rs.length:Int)):at? rs z=some (rv rs z):=by
 have:=at_in (l:=rs) (k:=z.toNat) (by omega);rw [show ((z.toNat:Nat):Int)=z by omega] at this;rw [this]; simp [rv,List.getD,show z.toNat<rs.length by omega]
theorem f69_eq{rs:List Int}(x y:Int) (hx:decide (0≤x∧x<(rs.length:Int))=true) (hy:decide (0≤y∧y<(rs.length:Int))=true):f69r1 x y rs=some (cQ rs x y):=by
 have hx':=of_decide_eq_true hx;have hy':=of_decide_eq_true hy;unfold f69r1 f69r1n0;rw [at_rv hx'.1 hx'.2,at_rv hy'.1 hy'.2];simp only [Option.bind_some,f70_eq]
 congr 1
 unfold cQ cmpI;rw [show decide (-(rv rs x) < -(rv rs y))=decide (rv rs y<rv rs x) by congr 1; apply propext; omega,show decide (-(rv rs y) < -(rv rs x))=decide (rv rs x<rv rs y) by congr 1; apply propext; omega]
abbrev ltR(rs:List Int):Int→Int→Bool:=fun x y=>decide (cQ rs x y<0)
def ordR(rs:List Int):List Int:=Qbb (ltR rs) (ids rs.length)
theorem f68_eq{rs:List Int}(h:rs.length≤100000):f68r1 (ids rs.length) rs=some (ordR rs) :=
 st_sorted (qq:=fun z=>decide (0≤z∧z<(rs.length:Int))) f69_eq (cQ_swo rs) (ids rs.length) (by rw [ids_len]; omega) (by
  rw [List.all_eq_true];intro z hz;exact decide_eq_true (ids_mem.1 hz))
def bf(rs:List Int)(a b:Int):Prop:=rv rs b<rv rs a∨(rv rs b=rv rs a∧a<b)
theorem insS_bf{rs:List Int}(x:Int):∀{l:List Int},(∀z∈l,x<z)→l.Pairwise (bf rs)→(insS (ltR rs) x l).Pairwise (bf rs)
 | [],_,_=>by simp [insS]
 | y::ys,hx,h=>by
  have h':=List.pairwise_cons.1 h;rw [insS]
  by_cases k:cQ rs y x<0
  ·rw [show ltR rs y x=true from decide_eq_true k,cond_true];refine List.pairwise_cons.2 ⟨fun z hz=>?_,insS_bf x (fun z hz=>hx z (List.mem_cons_of_mem y hz)) h'.2⟩;rcases List.mem_cons.1 ((insS_perm x ys).mem_iff.1 hz) with rfl | hz
   ·exact .inl (cQ_neg.1 k)
   ·exact h'.1 z hz
  ·rw [show ltR rs y x=false from decide_eq_false k,cond_false];rw [cQ_neg] at k;refine List.pairwise_cons.2 ⟨fun z hz=>?_,h⟩;have hxz:=hx z hz;rcases List.mem_cons.1 hz with rfl | hz
   ·unfold bf; omega
   ·have:=h'.1 z hz;unfold bf at this ⊢; omega
theorem sort_bf{rs:List Int} : ∀{l:List Int},(l.Pairwise fun a b=>a<b)→(Qbb (ltR rs) l).Pairwise (bf rs)
 | [],_=>List.Pairwise.nil
 | x::l,h=>by
  have h':=List.pairwise_cons.1 h;exact insS_bf x (fun z hz=>h'.1 z ((Qbj (cQ_swo rs) l).mem.1 hz)) (sort_bf h'.2)
theorem ordR_perm(rs:List Int):(ordR rs).Perm (ids rs.length):=(Qbj (cQ_swo rs) _).1
theorem ordR_bf(rs:List Int):(ordR rs).Pairwise (bf rs):=sort_bf (ids_lt _)
theorem ordR_len(rs:List Int):(ordR rs).length=rs.length:=by rw [(ordR_perm rs).length_eq,ids_len]
theorem ordR_nodup(rs:List Int):(ordR rs).Nodup:=(ordR_bf rs).imp fun {a b} h e=>by unfold bf at h; rw [e] at h; omega
theorem ordR_mem{rs:List Int}{z:Int} : z∈ordR rs↔0≤z∧z<(rs.length:Int):=by rw [(ordR_perm rs).mem_iff,ids_mem]
theorem rv_mem{rs:List Int}{z:Int}(h:0≤z∧z<(rs.length:Int)):rv rs z∈rs:=by
 have:rv rs z=rs[z.toNat]'(by omega):=by simp [rv,List.getD,show z.toNat<rs.length by omega]
 rw [this]; exact List.getElem_mem _

def lft(n S:Int)(ws:List Int):Int:=n-sm (qL n S ws)
def tops(n S:Int)(ws:List Int):List Int:=(ordR (rL n S ws)).take (lft n S ws).toNat
def divL(n:Int)(ws:List Int):List Int:=bif decide (sm ws=0) then List.replicate ws.length 0 else bump (qL n (sm ws) ws) (tops n (sm ws) ws)
section
variable {n S:Int} {ws:List Int} (hS0:0<S) (hsm:sm ws=S)
include hS0 hsm
omit hS0 in
theorem lft_mul:lft n S ws*S=sm (rL n S ws):=by
 have h:=qr_sum (n:=n) (S:=S) ws;unfold lft;rw [Int.sub_mul];rw [hsm] at h; omega
theorem lft_pos:0≤lft n S ws:=by
 have h1:=lft_mul (n:=n) hsm;have h2:=Qcj (l:=rL n S ws) fun x hx=>(rL_mem hS0 hx).1;rcases Int.lt_or_le (lft n S ws) 0 with h | h
 ·have:=Int.mul_neg_of_neg_of_pos h hS0; omega
 ·exact h
theorem lft_le:lft n S ws≤(ws.length:Int):=by
 have h1:=lft_mul (n:=n) hsm;have h2:=sm_bound (S:=S) (l:=rL n S ws) fun x hx=>by have:=rL_mem hS0 hx; omega
 rw [rL_len] at h2;rcases Int.lt_or_le (ws.length:Int) (lft n S ws) with h | h
 ·have:=Int.mul_lt_mul_of_pos_right h hS0; omega
 ·exact h
theorem tops_len:((tops n S ws).length:Int)=lft n S ws:=by
 have h1:=lft_pos (n:=n) hS0 hsm;have h2:=lft_le (n:=n) hS0 hsm;unfold tops;rw [List.length_take,ordR_len,rL_len]; omega
omit hS0 hsm in
theorem tops_mem{z:Int}(h:z∈tops n S ws):0≤z∧z<(ws.length:Int):=by
 have:=ordR_mem.1 (List.mem_of_mem_take h)
 rwa [rL_len] at this
end
theorem f55_eq{n:Int}{ws:List Int}(hl:ws.length≤100000)(h0:∀x∈ws,0≤x)(hb:sm ws≤1125899906842624)(hn0:0≤n)(hn:n≤sm ws):f55 n ws=some (divL n ws):=by
 have hs0:=Qcj h0;have rqt:∀{α:Type} (x:Option α),req true x=x:=fun x=>rfl;unfold f55 f55n0;rw [f64_eq (Qaa (by omega)) h0 hb];simp only [Option.bind_some];rw [decide_eq_true (show (0:Int)≤(ws.length:Int) by omega),rqt,show Int.toNat (ws.length:Int)=ws.length from rfl,Qan (by omega) (by decide),rqt];unfold divL
 by_cases hz:sm ws=0
 ·rw [decide_eq_true hz]; rfl
 ·rw [decide_eq_false hz,cond_false,cond_false];have hS0:0<sm ws:=by omega
  have h1:f55n1 n ws (sm ws)=some (.norm (lft n (sm ws) ws) (qL n (sm ws) ws) (ids ws.length) (rL n (sm ws) ws)):=by
   unfold f55n1;have:=f55n2L_at hS0 hb hn0 hn h0 rfl ws [] rfl;simp only [qL,rL,ids,List.map_nil,List.length_nil,List.range_zero,List.nil_append,sm,Int.sub_zero,Int.natCast_zero] at this;rw [f55n2_run n (sm ws) ws n _ _ _ (Qaa (by omega)),show Int.toNat (ws.length:Int)=ws.length from rfl,this];rfl
  rw [h1];simp only [Option.bind_some];have hrl:=rL_len n (sm ws) ws;have h2:=f68_eq (rs:=rL n (sm ws) ws) (by omega);rw [hrl] at h2;rw [h2];simp only [Option.bind_some];have k1:=lft_pos (n:=n) (ws:=ws) hS0 rfl;have k2:=lft_le (n:=n) (ws:=ws) hS0 rfl;have k3:=tops_len (n:=n) (ws:=ws) hS0 rfl;have k4:=ordR_len (rL n (sm ws) ws);unfold f55n3;rw [show cutB 0 (lft n (sm ws) ws) (ordR (rL n (sm ws) ws)).length=true from decide_eq_true (by omega),rqt];have h3:=f55n4_at (m:=lft n (sm ws) ws) (sl:=ordR (rL n (sm ws) ws)) k1 (by omega) (by omega) (tops n (sm ws) ws) FUEL 0 (qL n (sm ws) ws) (by rw [List.drop_zero]; rfl) (Qak (by omega)) (fun z hz=>by rw [qL_len]; exact tops_mem hz) (fun x hx=>by
   unfold qL at hx;obtain ⟨w,hw,rfl⟩:=List.mem_map.1 hx;have hw2:=sm_le h0 hw;have:=q_le hS0 hn0 hn (h0 w hw);omega)
  rw [show (0:Int)=((0:Nat):Int) from rfl,h3];rfl
theorem getD_mem{l:List Int}{i:Nat}(h:i<l.length):l.getD i 0∈l:=by
 have:l.getD i 0=l[i]:=by simp [List.getD,h]
 rw [this]; exact List.getElem_mem _
end Go.Proofs.Ytgbolgaodaokcaa
namespace Go.Proofs.Ytgbolgaodaokcaa
set_option linter.unusedVariables false
set_option linter.unusedSimpArgs false
open Go.RowKit
abbrev WF:=Qb
abbrev WS:=Qa

theorem f71_eq(c:Int):f71 c=some (ltrI c):=by
 unfold f71 f71n0 ltrI;cases decide (97≤c)<;>cases decide (c≤122)<;>cases decide (65≤c)<;>cases decide (c≤90)<;>rfl
theorem f56n2_eq{s:ByteArray}{k:Int}{b:UInt8}(h:at? s.data.toList k=some b):f56n2 s k=some (bif chB b then .norm else .ret):=by
 have h3:f56n3 s b k=some (.norm (!(chB b))):=by
  unfold f56n3 chB othI;rw [f71_eq,ltNot,ltNot];simp only [Option.bind_some];cases ltrI b.toNat<;>cases decide ((48:Int)≤(b.toNat:Int))<;>cases decide ((b.toNat:Int)≤57)<;>cases decide ((b.toNat:Int)=95)<;>cases decide ((b.toNat:Int)=45)<;>rfl
 unfold f56n2;rw [h];simp only [Option.bind_some,h3];cases chB b<;>rfl
theorem f56n4_at(s:ByteArray)(hs:s.data.toList.length≤1000):∀(r:List UInt8)(f k:Nat),s.data.toList.drop k=r→r.length<f→f56n4 f s (k:Int)=some (bif r.all chB then .exit0 else .ret)
 | _,0,_,_,h=>absurd h (Nat.not_lt_zero _)
 | [],f+1,k,hd,_=>by
  have:=Qab hd;rw [f56n4,sizeList,decide_eq_false (by omega),cond_false]; rfl
 | b::r,f+1,k,hd,hf=>by
  obtain ⟨h1,h2,h3⟩:=dropAt hd;rw [f56n4,sizeList,decide_eq_true (by omega),cond_true,f56n2_eq h1,List.all_cons];cases chB b with
  | false=>rfl
  | true =>
   simp only [cond_true,Option.bind_some,Bool.true_and];rw [wrSucc (by omega)];exact f56n4_at s hs r f (k+1) h3 (by simpa using hf)
theorem f56_eq(s:ByteArray):f56 s=some (nmB s):=by
 unfold f56 f56n0 nmB;rw [sizeList]
 by_cases hs:s.data.toList.length≤40
 ·have h1:f56n1 s=some (bif s.data.toList.all chB then .norm else .ret):=by
   unfold f56n1;have:=f56n4_at s (by omega) s.data.toList FUEL 0 List.drop_zero (Qak (by omega));rw [show ((0:Nat):Int)=0 from rfl] at this;rw [this];cases s.data.toList.all chB<;>rfl
  rw [h1];generalize s.data.toList=l at hs;rw [decide_eq_false (by omega:¬(40:Int)<(l.length:Int))];cases l with
  | nil=>rfl
  | cons b r =>
   have h0:at? (b::r) 0=some b:=rfl;rw [decide_eq_false (by simp; omega:¬(((b::r).length:Nat):Int)<1),h0];simp only [cond_false,Option.bind_some,f71_eq,isNm,decide_eq_true hs,Bool.true_and,List.all_cons,chB];cases ltrI b.toNat<;>cases othI b.toNat<;>cases r.all chB<;>rfl
 ·rw [decide_eq_false (by omega:¬((s.data.toList.length:Nat):Int)<1),decide_eq_true (by omega:(40:Int)<((s.data.toList.length:Nat):Int))];have:isNm s.data.toList=false:=by
   generalize s.data.toList=l at hs;cases l with
   | nil=>rfl
   | cons b r=>simp only [isNm,decide_eq_false hs,Bool.false_and]
  rw [this]; rfl
theorem f62n2_eq{s:ByteArray}{k:Int}{b:UInt8}(h:at? s.data.toList k=some b):f62n2 s k=some (bif ltrI b.toNat||(othI b.toNat&&!(decide (k=0))) then .norm else .ret):=by
 have h3:f62n3 s k b=some (.norm (ltrI b.toNat)):=by
  unfold f62n3 ltrI;cases decide ((97:Int)≤(b.toNat:Int))<;>cases decide ((b.toNat:Int)≤122)<;>cases decide ((65:Int)≤(b.toNat:Int))<;>cases decide ((b.toNat:Int)≤90)<;>rfl
 have h4:f62n4 s k b (ltrI b.toNat)=some (.norm (othI b.toNat)):=by
  unfold f62n4 othI;cases decide ((48:Int)≤(b.toNat:Int))<;>cases decide ((b.toNat:Int)≤57)<;>cases decide ((b.toNat:Int)=95)<;>cases decide ((b.toNat:Int)=45)<;>rfl
 unfold f62n2;rw [h];simp only [Option.bind_some,h3,h4];unfold f62n5;cases ltrI b.toNat<;>cases othI b.toNat<;>cases decide (k=0)<;>rfl
theorem f62n6_at(s:ByteArray)(hs:s.data.toList.length≤1000):∀(r:List UInt8)(f k:Nat),1≤k→s.data.toList.drop k=r→r.length<f→f62n6 f s (k:Int)=some (bif r.all chB then .exit0 else .ret)
 | _,0,_,_,_,h=>absurd h (Nat.not_lt_zero _)
 | [],f+1,k,_,hd,_=>by
  have:=Qab hd;rw [f62n6,sizeList,decide_eq_false (by omega),cond_false]; rfl
 | b::r,f+1,k,h1k,hd,hf=>by
  obtain ⟨h1,h2,h3⟩:=dropAt hd;rw [f62n6,sizeList,decide_eq_true (by omega),cond_true,f62n2_eq h1,List.all_cons,decide_eq_false (by omega:¬((k:Int)=0)),Bool.not_false,Bool.and_true];show _=some (bif chB b&&r.all chB then _ else _);unfold chB;cases ltrI b.toNat||othI b.toNat with
  | false=>rfl
  | true =>
   simp only [cond_true,Option.bind_some,Bool.true_and];rw [wrSucc (by omega)];exact f62n6_at s hs r f (k+1) (by omega) h3 (by simpa using hf)
theorem f62_eq(s:ByteArray):f62 s=some (nmB s):=by
 unfold f62 f62n0 nmB;rw [sizeList]
 by_cases hs:s.data.toList.length≤40
 ·cases hl:s.data.toList with
  | nil=>rfl
  | cons b r =>
   rw [hl] at hs;have h1:f62n1 s=some (bif ltrI b.toNat&&r.all chB then .norm else .ret):=by
    unfold f62n1;obtain ⟨g,hg⟩:∃g,FUEL=g+1:=⟨FUEL-1,by have:=Qak (n:=1) (by omega); omega⟩;have hlt:r.length<g:=by
     have:=Qak (n:=50) (by omega);simp only [List.length_cons] at hs;omega
    have h0:at? s.data.toList 0=some b:=by rw [hl]; rfl
    rw [hg,f62n6,sizeList,hl,decide_eq_true (by simp),cond_true,f62n2_eq h0];cases hb:ltrI b.toNat with
    | false=>cases othI b.toNat<;>rfl
    | true =>
     have:=f62n6_at s (by rw [hl]; omega) r g 1 (by omega) (by rw [hl]; rfl) hlt;rw [show wr64 (0+1)=((1:Nat):Int) from by rw [wrIn (by omega) (by omega)]; rfl,this];cases r.all chB<;>rfl
   rw [decide_eq_false (by simp; omega:¬(((b::r).length:Nat):Int)<1),decide_eq_false (by omega:¬(40:Int)<(((b::r).length:Nat):Int)),h1];simp only [cond_false,Option.bind_some,isNm,decide_eq_true hs,Bool.true_and];cases ltrI b.toNat&&r.all chB<;>rfl
 ·rw [decide_eq_false (by omega:¬((s.data.toList.length:Nat):Int)<1),decide_eq_true (by omega:(40:Int)<((s.data.toList.length:Nat):Int))];have:isNm s.data.toList=false:=by
   generalize s.data.toList=l at hs;cases l with
   | nil=>rfl
   | cons b r=>simp only [isNm,decide_eq_false hs,Bool.false_and]
  rw [this]; rfl

theorem f80_eq(a:Int):f80 a=some false:=by unfold f80 f80n0; simp
theorem f81_eq(a:ByteArray):f81 a=some false:=by unfold f81 f81n0; simp [seq_refl]
theorem f73_eq(a b:Int):f73 a b=some (cmpI a b):=by
 unfold f73 f73n0 cmpI;rw [f80_eq,f80_eq];simp only [Option.bind_some,cond_false];cases decide (a<b)<;>cases decide (b<a)<;>rfl
theorem f74_eq(a b:ByteArray):f74 a b=some (cmpB a b):=by
 unfold f74 f74n0 cmpB;rw [f81_eq,f81_eq];simp only [Option.bind_some,cond_false];cases slt a b<;>cases seq a b<;>rfl
theorem f72_eq(x y:Int):f72 [x,y]=some (cmpOr x y):=by
 unfold f72 f72n0 f72n1 cmpOr;rw [f72n2_run [x,y] (Qaa (by simp))]
 by_cases hx:x=0
 ·by_cases hy:y=0
  ·subst hx hy; rfl
  ·subst hx; simp only [f72n2L,decide_eq_false hy,decide_true,cond_true,cond_false,Option.bind_some]
 ·simp only [f72n2L,decide_eq_false hx,cond_false,Option.bind_some]
def kc(a b:WS):Int:=cmpOr (cmpI a.Level b.Level) (cmpB a.Owner b.Owner)
theorem kc_cmp:Cmp kc:=(Cmp.int Qa.Level).lex (Cmp.str Qa.Owner)
theorem f57_eq(a b:WS):f57 (Key_.mk a.Level a.Owner) (Key_.mk b.Level b.Owner)=some (kc a b):=by
 unfold f57 f57n0;rw [f73_eq,f74_eq];simp only [Option.bind_some,f72_eq]; rfl
def tos(x:WF):WS:=Qa.mk x.Level x.Owner x.Size

def inB(lo:Int)(x:WS):Bool:=decide (0≤x.Level)&&(decide (x.Level<10)&&(nmB x.Owner&&(decide (lo≤x.Amount)&&decide (x.Amount≤1125899906842624))))
def ordB:Option WS→WS→Bool
 | none,_=>true
 | some y,x=>decide (kc y x<0)
def okW(lo:Int):Option WS→List WS→Bool
 | _,[]=>true
 | p,x::r=>inB lo x&&(ordB p x&&okW lo (some x) r)
def ams(l:List WS):List Int:=l.map Qa.Amount
def vld(lo:Int)(l:List WS):Bool:=decide (l.length≤100)&&(okW lo none l&&decide (sm (ams l)≤1125899906842624))
theorem inB_am{lo:Int}{x:WS}(h:inB lo x=true):lo≤x.Amount∧x.Amount≤1125899906842624:=by
 unfold inB at h;simp only [Bool.and_eq_true,decide_eq_true_eq] at h;exact ⟨h.2.2.2.1,h.2.2.2.2⟩
theorem okW_in{lo:Int} : ∀{p:Option WS} {l:List WS},okW lo p l=true→∀x∈l,inB lo x=true
 | _,[],_,x,hx=>by cases hx
 | p,y::r,h,x,hx=>by
  rw [okW,Bool.and_eq_true,Bool.and_eq_true] at h;rcases List.mem_cons.1 hx with rfl | hx
  ·exact h.1
  ·exact okW_in h.2.2 x hx
theorem ams_le{lo:Int}(h0:0≤lo){l:List WS}(h:∀x∈l,inB lo x=true):0≤sm (ams l)∧sm (ams l)≤(l.length:Int)*1125899906842624:=by
 constructor
 ·refine Qcj fun x hx=>?_;obtain ⟨y,hy,rfl⟩:=List.mem_map.1 hx;have:=inB_am (h y hy); omega
 ·have:=sm_bound (S:=1125899906842624) (l:=ams l) fun x hx=>by
   obtain ⟨y,hy,rfl⟩:=List.mem_map.1 hx;exact (inB_am (h y hy)).2
  unfold ams at this ⊢
  rwa [List.length_map] at this
theorem geN(a b:Int):decide (a<b) = !(decide (b≤a)):=ltNot a b
theorem f46_36_37n2_eq{lo:Int}{s pre r:List WF}{x:WF}(acc:Int)(h:s=pre++x::r)(hl:s.length≤1000) :
  f46_36_37n2 s lo acc ((pre.length:Nat):Int)=some (bif inB lo (tos x)&&ordB (pre.getLast?.map fun y=>tos y) (tos x) then .norm (wr64 (acc+(tos x).Amount)) else .ret):=by
 have h4:f46_36_37n4 s lo acc ((pre.length:Nat):Int) (tos x).Amount (Key_.mk (tos x).Level (tos x).Owner)=some (.norm (!(inB lo (tos x)&&ordB (pre.getLast?.map fun y=>tos y) (tos x)))):=by
  unfold f46_36_37n4 inB;rw [f56_eq];have hlast:(bif decide ((0:Int)<((pre.length:Nat):Int)) then (at? s (wr64 (((pre.length:Nat):Int)-1))).bind fun x227=>(f36 x227).bind fun x229=>(f57 x229 (Key_.mk (tos x).Level (tos x).Owner)).bind fun x231=>some (f46_36_37n4O.norm (decide (0≤x231))) else some (.norm false))=some (.norm (!(ordB (pre.getLast?.map fun y=>tos y) (tos x)))):=by
   rcases List.eq_nil_or_concat pre with rfl | ⟨q,y,rfl⟩
   ·rfl
   ·rw [List.concat_eq_append] at h ⊢;have hq:q.length+1≤1000:=by rw [h] at hl; simp at hl; omega
    rw [decide_eq_true (by simp:(0:Int)<(((q++[y]).length:Nat):Int)),show wr64 ((((q++[y]).length:Nat):Int)-1)=((q.length:Nat):Int) by rw [wrIn (by simp<;>omega) (by simp<;>omega)]; simp,Qbd (k:=q.length) (a:=q) (x:=y) (b:=x::r) (by rw [h]; simp) rfl,List.getLast?_concat];have hk:f36 y=some (Key_.mk (tos y).Level (tos y).Owner):=rfl;simp only [cond_true,Option.bind_some,hk,f57_eq,Option.map_some,ordB];rw [show decide (0≤kc (tos y) (tos x)) = !(decide (kc (tos y) (tos x)<0)) by rw [ltNot,Bool.not_not]]
  simp only [Option.bind_some];rw [hlast,geN (tos x).Level 0,show decide (10≤(tos x).Level) = !(decide ((tos x).Level<10)) by rw [ltNot,Bool.not_not],geN (tos x).Amount lo,geN 1125899906842624];cases decide (0≤(tos x).Level)<;>cases decide ((tos x).Level<10)<;>cases nmB (tos x).Owner<;>cases decide (lo≤(tos x).Amount)<;>cases decide ((tos x).Amount≤1125899906842624)<;>rfl
 have e1:f36 x=some (Key_.mk (tos x).Level (tos x).Owner):=rfl;have e2:f37 x=some (tos x).Amount:=rfl;unfold f46_36_37n2 f46_36_37n3;rw [Qbd h rfl];simp only [Option.bind_some,e1,e2,h4];cases inB lo (tos x)&&ordB (pre.getLast?.map fun y=>tos y) (tos x)<;>rfl
theorem f46_36_37n5_at{lo:Int}(h0:0≤lo){s:List WF}(hl:s.length≤1000):∀(r pre:List WF)(f:Nat),s=pre++r→(∀x∈pre,inB lo (tos x)=true)→r.length<f →
  Qbm f s lo (sm (ams (pre.map fun y=>tos y))) ((pre.length:Nat):Int)=some (bif okW lo (pre.getLast?.map fun y=>tos y) (r.map fun y=>tos y) then .exit0 (sm (ams (s.map fun y=>tos y))) else .ret)
 | _,_,0,_,_,h=>absurd h (Nat.not_lt_zero _)
 | [],pre,f+1,h,_,_=>by
  rw [Qbm,decide_eq_false (by rw [h]; simp),cond_false,h,List.append_nil]; rfl
 | x::r,pre,f+1,h,hp,hf=>by
  have hpl:pre.length<s.length:=by rw [h]; simp
  rw [Qbm,decide_eq_true (by omega),cond_true,f46_36_37n2_eq _ h hl,List.map_cons,okW];cases hx:inB lo (tos x) with
  | false=>rfl
  | true =>
   cases ordB (pre.getLast?.map fun y=>tos y) (tos x) with
   | false=>rfl
   | true =>
    have ih:=f46_36_37n5_at h0 hl r (pre++[x]) f (by rw [h]; simp) (fun z hz=>by
     rcases List.mem_append.1 hz with hz | hz
     ·exact hp z hz
     ·rw [List.mem_singleton.1 hz]; exact hx) (by simpa using hf)
    rw [List.length_append,List.getLast?_concat,List.map_append] at ih;unfold ams at ih ⊢;rw [List.map_append,sm_app] at ih;have hb:=ams_le h0 (l:=pre.map fun y=>tos y) fun z hz=>by
     obtain ⟨y,hy,rfl⟩:=List.mem_map.1 hz;exact hp y hy
    have hx2:=inB_am hx;unfold ams at hb;rw [List.length_map] at hb;simp only [Bool.and_self,cond_true,Option.bind_some,Bool.true_and];rw [wrSucc (by omega),wrIn (by omega) (by omega)];simpa [sm] using ih
theorem f46_36_37_eq{lo:Int}(h0:0≤lo)(s:List WF):f46_36_37 s lo=some (vld lo (s.map fun y=>tos y)):=by
 unfold f46_36_37 f46_36_37n0 vld;rw [geN 100,show decide ((s.length:Int)≤100)=decide ((s.map fun y=>tos y).length≤100) by rw [List.length_map]; congr 1; apply propext; omega]
 by_cases hl:s.length≤100
 ·have h1:f46_36_37n1 s lo=some (bif okW lo none (s.map fun y=>tos y) then .norm (sm (ams (s.map fun y=>tos y))) else .ret):=by
   unfold f46_36_37n1;have:=f46_36_37n5_at h0 (s:=s) (by omega) s [] FUEL rfl (fun x hx=>by cases hx) (Qak (by omega));rw [show (((([]:List WF).length:Nat)):Int)=0 from rfl,List.getLast?_nil] at this;simp only [List.map_nil,Option.map_none] at this;rw [show sm (ams [])=0 from rfl] at this;rw [this];cases okW lo none (s.map fun y=>tos y)<;>rfl
  rw [h1,decide_eq_true (by rw [List.length_map]; exact hl)];cases okW lo none (s.map fun y=>tos y)<;>rfl
 ·rw [decide_eq_false (by rw [List.length_map]; exact hl)]; rfl
theorem f38_39_40n2_eq{lo:Int}{s pre r:List WS}{x:WS}(acc:Int)(h:s=pre++x::r)(hl:s.length≤1000) :
  f38_39_40n2 s lo acc ((pre.length:Nat):Int)=some (bif inB lo (x)&&ordB (pre.getLast?.map fun y=>y) (x) then .norm (wr64 (acc+(x).Amount)) else .ret):=by
 have h4:f38_39_40n4 s lo acc ((pre.length:Nat):Int) (x).Amount (Key_.mk (x).Level (x).Owner)=some (.norm (!(inB lo (x)&&ordB (pre.getLast?.map fun y=>y) (x)))):=by
  unfold f38_39_40n4 inB;rw [f56_eq];have hlast:(bif decide ((0:Int)<((pre.length:Nat):Int)) then (at? s (wr64 (((pre.length:Nat):Int)-1))).bind fun x227=>(f39 x227).bind fun x229=>(f57 x229 (Key_.mk (x).Level (x).Owner)).bind fun x231=>some (f38_39_40n4O.norm (decide (0≤x231))) else some (.norm false))=some (.norm (!(ordB (pre.getLast?.map fun y=>y) (x)))):=by
   rcases List.eq_nil_or_concat pre with rfl | ⟨q,y,rfl⟩
   ·rfl
   ·rw [List.concat_eq_append] at h ⊢;have hq:q.length+1≤1000:=by rw [h] at hl; simp at hl; omega
    rw [decide_eq_true (by simp:(0:Int)<(((q++[y]).length:Nat):Int)),show wr64 ((((q++[y]).length:Nat):Int)-1)=((q.length:Nat):Int) by rw [wrIn (by simp<;>omega) (by simp<;>omega)]; simp,Qbd (k:=q.length) (a:=q) (x:=y) (b:=x::r) (by rw [h]; simp) rfl,List.getLast?_concat];have hk:f39 y=some (Key_.mk (y).Level (y).Owner):=rfl;simp only [cond_true,Option.bind_some,hk,f57_eq,Option.map_some,ordB];rw [show decide (0≤kc (y) (x)) = !(decide (kc (y) (x)<0)) by rw [ltNot,Bool.not_not]]
  simp only [Option.bind_some];rw [hlast,geN (x).Level 0,show decide (10≤(x).Level) = !(decide ((x).Level<10)) by rw [ltNot,Bool.not_not],geN (x).Amount lo,geN 1125899906842624];cases decide (0≤(x).Level)<;>cases decide ((x).Level<10)<;>cases nmB (x).Owner<;>cases decide (lo≤(x).Amount)<;>cases decide ((x).Amount≤1125899906842624)<;>rfl
 have e1:f39 x=some (Key_.mk (x).Level (x).Owner):=rfl;have e2:f40 x=some (x).Amount:=rfl;unfold f38_39_40n2 f38_39_40n3;rw [Qbd h rfl];simp only [Option.bind_some,e1,e2,h4];cases inB lo (x)&&ordB (pre.getLast?.map fun y=>y) (x)<;>rfl
theorem f38_39_40n5_at{lo:Int}(h0:0≤lo){s:List WS}(hl:s.length≤1000):∀(r pre:List WS)(f:Nat),s=pre++r→(∀x∈pre,inB lo (x)=true)→r.length<f →
  Qbl f s lo (sm (ams (pre.map fun y=>y))) ((pre.length:Nat):Int)=some (bif okW lo (pre.getLast?.map fun y=>y) (r.map fun y=>y) then .exit0 (sm (ams (s.map fun y=>y))) else .ret)
 | _,_,0,_,_,h=>absurd h (Nat.not_lt_zero _)
 | [],pre,f+1,h,_,_=>by
  rw [Qbl,decide_eq_false (by rw [h]; simp),cond_false,h,List.append_nil]; rfl
 | x::r,pre,f+1,h,hp,hf=>by
  have hpl:pre.length<s.length:=by rw [h]; simp
  rw [Qbl,decide_eq_true (by omega),cond_true,f38_39_40n2_eq _ h hl,List.map_cons,okW];cases hx:inB lo (x) with
  | false=>rfl
  | true =>
   cases ordB (pre.getLast?.map fun y=>y) (x) with
   | false=>rfl
   | true =>
    have ih:=f38_39_40n5_at h0 hl r (pre++[x]) f (by rw [h]; simp) (fun z hz=>by
     rcases List.mem_append.1 hz with hz | hz
     ·exact hp z hz
     ·rw [List.mem_singleton.1 hz]; exact hx) (by simpa using hf)
    rw [List.length_append,List.getLast?_concat,List.map_append] at ih;unfold ams at ih ⊢;rw [List.map_append,sm_app] at ih;have hb:=ams_le h0 (l:=pre.map fun y=>y) fun z hz=>by
     obtain ⟨y,hy,rfl⟩:=List.mem_map.1 hz;exact hp y hy
    have hx2:=inB_am hx;unfold ams at hb;rw [List.length_map] at hb;simp only [Bool.and_self,cond_true,Option.bind_some,Bool.true_and];rw [wrSucc (by omega),wrIn (by omega) (by omega)];simpa [sm] using ih
theorem f38_39_40_eq{lo:Int}(h0:0≤lo)(s:List WS):f38_39_40 s lo=some (vld lo (s.map fun y=>y)):=by
 unfold f38_39_40 f38_39_40n0 vld;rw [geN 100,show decide ((s.length:Int)≤100)=decide ((s.map fun y=>y).length≤100) by rw [List.length_map]; congr 1; apply propext; omega]
 by_cases hl:s.length≤100
 ·have h1:f38_39_40n1 s lo=some (bif okW lo none (s.map fun y=>y) then .norm (sm (ams (s.map fun y=>y))) else .ret):=by
   unfold f38_39_40n1;have:=f38_39_40n5_at h0 (s:=s) (by omega) s [] FUEL rfl (fun x hx=>by cases hx) (Qak (by omega));rw [show (((([]:List WS).length:Nat)):Int)=0 from rfl,List.getLast?_nil] at this;simp only [List.map_nil,Option.map_none] at this;rw [show sm (ams [])=0 from rfl] at this;rw [this];cases okW lo none (s.map fun y=>y)<;>rfl
  rw [h1,decide_eq_true (by rw [List.length_map]; exact hl)];cases okW lo none (s.map fun y=>y)<;>rfl
 ·rw [decide_eq_false (by rw [List.length_map]; exact hl)]; rfl
theorem f23_eq(l:List WF):f23 l=some (bif vld 0 (l.map tos) then 0 else 8):=by
 unfold f23 f23n0;rw [f46_36_37_eq (by decide)];show _=some (bif vld 0 (l.map fun y=>tos y) then 0 else 8);cases vld 0 (l.map fun y=>tos y)<;>rfl
def monB(n:Int):Bool:=decide (0≤n)&&decide (n≤1125899906842624)
theorem f34_eq(n:Int):f34 n=some (monB n):=by
 unfold f34 f34n0 monB;cases decide (0≤n)<;>rfl
end Go.Proofs.Ytgbolgaodaokcaa
namespace Go.Proofs.Ytgbolgaodaokcaa
set_option linter.unusedVariables false
set_option linter.unusedSimpArgs false
set_option maxRecDepth 100000
open Go.RowKit
def sameLv(x:WS):List WS→Bool
 | []=>false
 | y::_=>decide (x.Level=y.Level)
def rn:List WS→List (List WS)
 | []=>[]
 | x::r=>match rn r with
  | []=>[[x]]
  | g::t=>bif sameLv x g then (x::g)::t else [x]::g::t
theorem rn_cons(y:WS)(r:List WS):∃g t,rn (y::r)=(y::g)::t:=by
 rw [rn];cases rn r with
 | nil=>exact ⟨[],[],rfl⟩
 | cons g t =>
  cases h:sameLv y g with
  | true=>exact ⟨g,t,by simp [h]⟩
  | false=>exact ⟨[],g::t,by simp [h]⟩
theorem rn_join:∀l:List WS,(rn l).flatten=l
 | []=>rfl
 | x::r=>by
  have h:=rn_join r;rw [rn]
  revert h
  cases rn r with
  | nil=>intro h; simpa using h
  | cons g t =>
   intro h;cases k:sameLv x g with
   | true=>simpa [k] using h
   | false=>simpa [k] using h
def cum:Int→List (List WS)→List Int
 | _,[]=>[]
 | b,g::t=>(b+g.length)::cum (b+g.length) t
theorem cum_len:∀(G:List (List WS))(b:Int),(cum b G).length=G.length
 | [],_=>rfl
 | g::t,b=>by rw [cum,List.length_cons,List.length_cons,cum_len t]
theorem cum_app:∀(G1 G2:List (List WS))(b:Int),cum b (G1++G2)=cum b G1++cum (b+G1.flatten.length) G2
 | [],G2,b=>by simp [cum]
 | g::t,G2,b=>by
  rw [List.cons_append,cum,cum,cum_app t,List.flatten_cons,List.length_append,List.cons_append]
  congr 3; omega
theorem flat_len(G:List (List WS))(h:∀g∈G,g≠[]):G.length≤G.flatten.length:=by
 induction G with
 | nil=>simp
 | cons g t ih =>
  have h1:=ih fun x hx=>h x (List.mem_cons_of_mem g hx);have h2:0<g.length:=List.length_pos_iff.2 (h g List.mem_cons_self);rw [List.flatten_cons,List.length_append,List.length_cons]; omega
theorem rn_ne:∀l:List WS,∀g∈rn l,g≠[]
 | [],g,hg=>by cases hg
 | x::r,g,hg=>by
  have h:=rn_ne r;rw [rn] at hg
  revert hg h
  cases rn r with
  | nil=>intro hg h; simp at hg; rw [hg]; simp
  | cons g' t =>
   intro hg h;cases k:sameLv x g' with
   | true =>
    simp only [k,cond_true] at hg;rcases List.mem_cons.1 hg with rfl | hg
    ·simp
    ·exact h g (List.mem_cons_of_mem g' hg)
   | false =>
    simp only [k,cond_false] at hg;rcases List.mem_cons.1 hg with rfl | hg
    ·simp
    ·exact h g hg

def sprD:Int→List (List Int)→Int×List Int
 | n,[]=>(n,[])
 | n,ws::t=>((sprD n t).1-mnI (sprD n t).1 (sm ws),divL (mnI (sprD n t).1 (sm ws)) ws++(sprD n t).2)
def wss(l:List WS):List (List Int):=(rn l).map ams
def shr:List WS→List Int→List WS
 | x::r,g::t=>bif decide (0<g) then Qa.mk x.Level x.Owner g::shr r t else shr r t
 | _,_=>[]
theorem shr_nil(l:List WS):shr l []=[]:=by cases l<;>rfl
theorem mnI_ok{n S:Int}(hn:0≤n)(hS:0≤S):0≤mnI n S∧mnI n S≤S∧mnI n S≤n:=by
 unfold mnI
 by_cases h:S<n
 ·rw [decide_eq_true h,cond_true]; omega
 ·rw [decide_eq_false h,cond_false]; omega
def wOK(ws:List Int):Prop:=(∀x∈ws,0≤x)∧sm ws≤1125899906842624∧ws.length≤1000
theorem divL_len(n:Int)(ws:List Int):(divL n ws).length=ws.length:=by
 unfold divL;cases decide (sm ws=0) with
 | true=>simp
 | false=>rw [cond_false,bump_len,qL_len]
theorem sprD_len:∀(W:List (List Int))(n:Int),(sprD n W).2.length=W.flatten.length
 | [],_=>rfl
 | ws::t,n=>by rw [sprD,List.length_append,divL_len,sprD_len t,List.flatten_cons,List.length_append]
theorem sprD_ok:∀{W:List (List Int)} {n:Int},0≤n→(∀ws∈W,wOK ws)→0≤(sprD n W).1∧(sprD n W).1≤n
 | [],n,hn,_=>⟨hn,Int.le_refl _⟩
 | ws::t,n,hn,h=>by
  have ih:=sprD_ok hn fun x hx=>h x (List.mem_cons_of_mem ws hx);have h2:=mnI_ok ih.1 (Qcj (h ws List.mem_cons_self).1);rw [sprD]; constructor
  ·show 0≤_-_; omega
  ·show _-_≤_; omega
theorem ams_join:∀G:List (List WS),ams G.flatten=(G.map ams).flatten
 | []=>rfl
 | g::t=>by
  have:=ams_join t;unfold ams at this ⊢;rw [List.flatten_cons,List.map_append,this]; rfl
theorem amsLen(l:List WS):(ams l).length=l.length:=by simp [ams]
theorem flen(G:List (List WS)):(G.map ams).flatten.length=G.flatten.length:=by rw [←ams_join,amsLen]
theorem put_mid{GP Z GR out:List Int}(h:out.length=Z.length)(k:Nat)(hk:k=GP.length)(m:Nat)(hm:m=out.length):putL (GP++(Z++GR)) k (out.take (Nat.min out.length m))=GP++(out++GR):=by
 subst hk hm;unfold putL;rw [show Nat.min out.length out.length=out.length from Nat.min_self _,List.take_length,List.take_left',h,List.drop_append,List.drop_eq_nil_of_le (by omega),show GP.length+Z.length-GP.length=Z.length by omega,List.drop_left',List.nil_append,List.append_assoc]
 all_goals rfl
theorem cut_mid{α:Type}{s P g R:List α}(h:s=P++(g++R)):(s.take (P.length+g.length)).drop P.length=g:=by
 subst h;rw [←List.append_assoc,List.take_left' (by simp),List.drop_left' rfl]
theorem f59_40n2L_at(bg:List WS):∀(l:List WS)(v k:Int),f59_40n2L bg l (wr64 v) k=some (.exit0 (wr64 (v+sm (ams (l.map fun y=>y)))))
 | [],v,k=>by rw [f59_40n2L,List.map_nil,show sm (ams [])=0 from rfl,Int.add_zero]
 | x::r,v,k=>by
  have:f40 x=some (x).Amount:=rfl;rw [f59_40n2L,this,Option.bind_some,wrL,f59_40n2L_at bg r];rw [show v+(x).Amount+sm (ams (r.map fun y=>y))=v+sm (ams ((x::r).map fun y=>y)) by simp only [ams,List.map_cons,sm]; omega]
theorem f59_40_eq{l:List WS}(hl:l.length≤maxLen) (h:wOK (ams (l.map fun y=>y))):f59_40 l=some (sm (ams (l.map fun y=>y))):=by
 have h1:=Qcj h.1;have h3:=h.2.1;unfold f59_40 f59_40n0 f59_40n1;have h2:=f59_40n2L_at l l 0 0;rw [show wr64 0=0 from rfl] at h2;rw [f59_40n2_run l 0 hl,h2];simp only [Option.bind_some];rw [Int.zero_add,wrIn (by omega) (by omega)]
theorem f75r1n2L_at{s:List WS}(n:Int)(got:List Int)(hl:s.length≤1000):∀(r pre:List WS)(acc:List Int),s=pre++r→acc.length+r.length≤100000 →
  f75r1n2L s n got r ((pre.length:Nat):Int) acc=some (.exit0 (acc++cum ((pre.length:Nat):Int) (rn (r.map fun y=>y))))
 | [],pre,acc,h,_=>by rw [f75r1n2L]; simp [rn,cum]
 | x::r,pre,acc,h,hb=>by
  have hp:s.length=pre.length+(r.length+1):=by rw [h]; simp
  have rqt:∀{α:Type} (x:Option α),req true x=x:=fun x=>rfl;simp only [List.length_cons] at hb;rw [f75r1n2L,wrSucc (by omega)];have step:=fun acc' hb'=>f75r1n2L_at n got hl r (pre++[x]) acc' (by rw [h]; simp) hb';have el:(pre++[x]).length=pre.length+1:=by simp
  rw [el] at step;cases r with
  | nil =>
   rw [decide_eq_true (by simp at hp; omega),cond_true,Qan (by omega) (by decide),rqt];have:=step (acc++[((pre.length+1:Nat):Int)]) (by simp<;>omega);rw [show ((pre.length:Nat):Int)+1=((pre.length+1:Nat):Int) by omega];rw [this];simp [rn,cum]
  | cons y r =>
   have hp':s.length=pre.length+(r.length+2):=by rw [h]; simp
   obtain ⟨g,t,hg⟩:=rn_cons (y) (r.map fun y=>y);have e1:f39 x=some (Key_.mk (x).Level (x).Owner):=rfl;have e2:f39 y=some (Key_.mk (y).Level (y).Owner):=rfl;rw [decide_eq_false (by omega),cond_false,e1,Qbd (k:=pre.length+1) (a:=pre++[x]) (x:=y) (b:=r) (by rw [h]; simp) (by simp)];simp only [Option.bind_some,e2];rw [List.map_cons] at step ⊢;rw [List.map_cons,rn];rw [hg] at step;rw [hg];simp only [sameLv]
   by_cases k:(x).Level=(y).Level
   ·rw [decide_eq_true k];simp only [cond_true];rw [show ((pre.length:Nat):Int)+1=((pre.length+1:Nat):Int) by omega,step acc (by simp at hb ⊢; omega)];simp only [cum,List.length_cons];rw [show (((pre.length+1:Nat):Int))+((g.length+1:Nat):Int)=((pre.length:Nat):Int)+((g.length+1+1:Nat):Int) by omega]
   ·rw [decide_eq_false k];simp only [cond_false];rw [Qan (by simp at hb; omega) (by decide),rqt,show ((pre.length:Nat):Int)+1=((pre.length+1:Nat):Int) by omega,step _ (by simp at hb ⊢; omega)];simp only [cum,List.length_cons,List.length_nil,List.append_assoc,List.cons_append,List.nil_append]
    congr 3
theorem f75r1n1_eq{s:List WS}(n:Int)(got:List Int)(hl:s.length≤1000):f75r1n1 s n got=some (.norm (cum 0 (rn (s.map fun y=>y)))):=by
 unfold f75r1n1;have:=f75r1n2L_at n got hl s [] [] rfl (by simp; omega);rw [show (((([]:List WS).length:Nat)):Int)=0 from rfl,List.nil_append] at this;rw [f75r1n2_run s n got [] (Qaa (by omega)),this];rfl
theorem f41y1n2L_at(a b n t:Int)(s:List WS)(got:List Int):∀(l:List WS)(v:Int)(acc:List Int),acc.length+l.length≤100000→f41y1n2L a b n t s got l v acc=some (.exit2 (acc++ams (l.map fun y=>y)))
 | [],v,acc,_=>by rw [f41y1n2L]; simp [ams]
 | x::r,v,acc,h=>by
  have e:f40 x=some (x).Amount:=rfl;have rqt:∀{α:Type} (x:Option α),req true x=x:=fun x=>rfl;simp only [List.length_cons] at h;rw [f41y1n2L,e,Option.bind_some,Qan (by omega) (by decide),rqt,f41y1n2L_at a b n t s got r _ _ (by simp; omega)];simp [ams]
theorem f41y1_eq{s P g R:List WS}{GP Z GR:List Int}{n:Int}(h:s=P++(g++R))(hs:s.length≤1000)(hn0:0≤n)(hn:n≤1125899906842624) (hw:wOK (ams (g.map fun y=>y))) (h1:GP.length=P.length) (h2:Z.length=g.length) (h3:GR.length=R.length) :
  f41y1n0 ((P.length:Nat):Int) ((P.length+g.length:Nat):Int) s n (GP++(Z++GR))=some (.norm (n-mnI n (sm (ams (g.map fun y=>y)))) (GP++(divL (mnI n (sm (ams (g.map fun y=>y)))) (ams (g.map fun y=>y))++GR))):=by
 have hsl:s.length=P.length+(g.length+R.length):=by rw [h]; simp
 have rqt:∀{α:Type} (x:Option α),req true x=x:=fun x=>rfl;have hm:=mnI_ok hn0 (Qcj hw.1);have hwl:(ams (g.map fun y=>y)).length=g.length:=by rw [amsLen,List.length_map]
 have k1:f41y1n1 ((P.length:Nat):Int) ((P.length+g.length:Nat):Int) s n (sm (ams (g.map fun y=>y))) (GP++(Z++GR))=some (.norm (ams (g.map fun y=>y))):=by
  unfold f41y1n1;rw [f41y1n2_run _ _ _ _ _ _ _ (by rw [Int.toNat_natCast,Int.toNat_natCast,cut_mid h]; exact Qaa (by omega)),Int.toNat_natCast,Int.toNat_natCast,cut_mid h,f41y1n2L_at _ _ _ _ _ _ _ _ _ (by simp; omega)];rfl
 unfold f41y1n0;rw [show cutB ((P.length:Nat):Int) ((P.length+g.length:Nat):Int) s.length=true from decide_eq_true (by omega),rqt,Int.toNat_natCast,Int.toNat_natCast,cut_mid h,f59_40_eq (Qaa (by omega)) hw];simp only [Option.bind_some];rw [k1];simp only [Option.bind_some];rw [show cutB ((P.length:Nat):Int) ((P.length+g.length:Nat):Int) (GP++(Z++GR)).length=true from decide_eq_true (by simp; omega),rqt,f55_eq (by omega) hw.1 hw.2.1 hm.1 hm.2.1];simp only [Option.bind_some];rw [put_mid (by rw [divL_len]; omega) P.length h1.symm _ (by rw [divL_len]; omega),wrIn (by omega) (by omega)]
theorem f75r1n5_at{s:List WS}(hs:s.length≤1000){G:List (List WS)}(hG:G.flatten=s.map fun y=>y)(hne:∀g∈G,g≠[])(hw:∀g∈G,wOK (ams g)){n:Int}(hn0:0≤n)(hn:n≤1125899906842624):∀(k:Nat)(G1 G2:List (List WS))(f:Nat),G=G1++G2→G1.length=k→k<f →
  f75r1n5 f (cum 0 G) s ((G2.length:Nat):Int) (sprD n (G2.map ams)).1 (List.replicate G1.flatten.length 0++(sprD n (G2.map ams)).2)=some (.exit2 (sprD n (G.map ams)).1 (sprD n (G.map ams)).2)
 | _,_,_,0,_,_,h=>absurd h (Nat.not_lt_zero _)
 | 0,G1,G2,f+1,h,hk,_=>by
  rw [List.eq_nil_of_length_eq_zero hk] at h ⊢;rw [List.nil_append] at h;subst h;rw [f75r1n5,decide_eq_false (by rw [cum_len]; omega),cond_false];rfl
 | k+1,G1',G2,f+1,h,hk,hf=>by
  obtain ⟨G1,g,rfl⟩:∃G1 g,G1'=G1++[g]:=by
   rcases List.eq_nil_or_concat G1' with rfl | ⟨a,b,rfl⟩
   ·simp at hk
   ·exact ⟨a,b,by rw [List.concat_eq_append]⟩
  have hl:=flat_len G hne;rw [hG,List.length_map] at hl;have hGl:G.length=G1.length+1+G2.length:=by rw [h]; simp; omega
  have hk':G1.length=k:=by simpa using hk
  have hfl:s.length=G1.flatten.length+(g.length+G2.flatten.length):=by
   have:=congrArg List.length hG;rw [List.length_map] at this;rw [←this,h]; simp
  have hwg:=hw g (by rw [h]; simp);have hcur:=sprD_ok (W:=G2.map ams) hn0 fun ws hws=>by
   obtain ⟨x,hx,rfl⟩:=List.mem_map.1 hws;exact hw x (by rw [h]; exact List.mem_append_right _ hx)
  have hlen:=sprD_len (G2.map ams) n;rw [flen] at hlen;rw [f75r1n5,decide_eq_true (by rw [cum_len]; omega),cond_true];obtain ⟨P,Q,rfl,hP,hQ⟩:=List.map_eq_append_iff.1 (show s.map (fun y=>y)=G1.flatten++(g++G2.flatten) by rw [←hG,h]; simp);obtain ⟨g',R,rfl,hg',hR⟩:=List.map_eq_append_iff.1 hQ;have lP:P.length=G1.flatten.length:=by rw [←hP,List.length_map]
  have lg:g'.length=g.length:=by rw [←hg',List.length_map]
  have lR:R.length=G2.flatten.length:=by rw [←hR,List.length_map]
  have ec:cum 0 G=cum 0 G1++(((P.length+g'.length:Nat):Int))::cum ((P.length+g'.length:Nat):Int) G2:=by
   rw [h,List.append_assoc,cum_app,List.cons_append,List.nil_append,cum,show (0:Int)+(G1.flatten.length:Int)+(g.length:Int)=((P.length+g'.length:Nat):Int) by omega]
  have ei:wr64 (wr64 (((cum 0 G).length:Int)-1)-((G2.length:Nat):Int))=((G1.length:Nat):Int):=by
   rw [cum_len,wrIn (n:=(G.length:Int)-1) (by omega) (by omega),wrIn (by omega) (by omega)]; omega
  have h4:f75r1n4 (cum 0 G) ((G2.length:Nat):Int) (P++(g'++R)) (sprD n (G2.map ams)).1 (List.replicate (G1++[g]).flatten.length 0++(sprD n (G2.map ams)).2)=some (.norm ((P.length:Nat):Int)):=by
   unfold f75r1n4;rw [ei];rcases List.eq_nil_or_concat G1 with rfl | ⟨G0,g0,rfl⟩
   ·simp at lP;rw [decide_eq_false (by simp),cond_false,lP]; rfl
   ·rw [List.concat_eq_append] at ec lP hGl ⊢;rw [decide_eq_true (by simp<;>omega),cond_true,show wr64 ((((G0++[g0]).length:Nat):Int)-1)=((G0.length:Nat):Int) by rw [wrIn (by simp<;>omega) (by simp at hGl ⊢; omega)]; simp];rw [cum_app G0,cum,cum,List.append_assoc,List.cons_append,List.nil_append] at ec;rw [Qbd (k:=G0.length) ec (by rw [cum_len])];simp only [Option.bind_some]
    congr 2
    simp only [List.flatten_append,List.flatten_cons,List.flatten_nil,List.length_append,List.append_nil] at lP;omega
  have h3:f75r1n3 (cum 0 G) ((G2.length:Nat):Int) (P++(g'++R)) (sprD n (G2.map ams)).1 (List.replicate (G1++[g]).flatten.length 0++(sprD n (G2.map ams)).2)=some (.norm (sprD n ((g::G2).map ams)).1 (List.replicate G1.flatten.length 0++(sprD n ((g::G2).map ams)).2)):=by
   unfold f75r1n3;rw [h4];simp only [Option.bind_some];rw [ei,Qbd (k:=G1.length) ec (by rw [cum_len])];simp only [Option.bind_some];rw [List.flatten_append,List.flatten_cons,List.flatten_nil,List.append_nil,List.length_append,←List.replicate_append_replicate,List.append_assoc];rw [f41y1_eq rfl hs hcur.1 (by omega) (by rw [hg']; exact hwg) (by rw [List.length_replicate]; omega) (by rw [List.length_replicate]; omega) (by omega),hg'];rfl
  rw [h3];simp only [Option.bind_some];have ih:=f75r1n5_at hs hG hne hw hn0 hn k G1 (g::G2) f (by rw [h]; simp) hk' (by omega);rw [wrSucc (by omega)];exact ih
theorem f75r1_eq{s:List WS}{n:Int}(hs:s.length≤1000)(hw:∀g∈rn (s.map fun y=>y),wOK (ams g))(hn0:0≤n)(hn:n≤1125899906842624) :
  f75r1 s n (List.replicate s.length 0)=some (sprD n (wss (s.map fun y=>y))):=by
 have h5:f75r1n5 FUEL (cum 0 (rn (s.map fun y=>y))) s 0 n (List.replicate s.length 0)=some (.exit2 (sprD n (wss (s.map fun y=>y))).1 (sprD n (wss (s.map fun y=>y))).2):=by
  have:=f75r1n5_at hs (rn_join _) (rn_ne _) hw hn0 hn (rn (s.map fun y=>y)).length (rn (s.map fun y=>y)) [] FUEL (by simp) rfl (Qak (by have:=flat_len _ (rn_ne (s.map fun y=>y)); rw [rn_join,List.length_map] at this; omega));rw [show (((([]:List (List WS)).length:Nat)):Int)=0 from rfl,List.map_nil,sprD,List.append_nil,rn_join,List.length_map] at this;exact this
 unfold f75r1 f75r1n0;rw [f75r1n1_eq _ _ hs];simp only [Option.bind_some];rw [h5];rfl
theorem f41r1n4L_at{s:List WS}{n:Int}{got:List Int}(hl:got.length=s.length)(hs:s.length≤1000):∀(r pre acc:List WS),s=pre++r→acc.length+r.length≤100000 →
  f41r1n4L s n got r ((pre.length:Nat):Int) acc=some (.exit4 (acc++shr (r.map fun y=>y) (got.drop pre.length)))
 | [],pre,acc,h,_=>by rw [f41r1n4L]; simp [shr]
 | x::r,pre,acc,h,hb=>by
  have hp:s.length=pre.length+(r.length+1):=by rw [h]; simp
  have hk:pre.length<got.length:=by omega
  have rqt:∀{α:Type} (x:Option α),req true x=x:=fun x=>rfl;have e:f39 x=some (Key_.mk (x).Level (x).Owner):=rfl;simp only [List.length_cons] at hb;have step:=fun acc' hb'=>f41r1n4L_at (n:=n) hl hs r (pre++[x]) acc' (by rw [h]; simp) hb';rw [show (pre++[x]).length=pre.length+1 by simp] at step;rw [f41r1n4L,at_in hk,List.drop_eq_getElem_cons hk,List.map_cons,shr];simp only [Option.bind_some];rw [show ((pre.length:Nat):Int)+1=((pre.length+1:Nat):Int) by omega];cases decide (0<got[pre.length]) with
  | true =>
   rw [cond_true,cond_true,e,Option.bind_some,Qan (by omega) (by decide),rqt,step _ (by simp; omega)]
   simp
  | false=>rw [cond_false,cond_false,step _ (by omega)]
theorem f41r1_eq{s:List WS}{n:Int}(hs:s.length≤1000)(hw:∀g∈rn (s.map fun y=>y),wOK (ams g))(hn0:0≤n)(hn:n≤1125899906842624) :
  f41r1 s n=some ((sprD n (wss (s.map fun y=>y))).1,shr (s.map fun y=>y) (sprD n (wss (s.map fun y=>y))).2):=by
 have rqt:∀{α:Type} (x:Option α),req true x=x:=fun x=>rfl;have hlen:(sprD n (wss (s.map fun y=>y))).2.length=s.length:=by
  rw [sprD_len]; unfold wss; rw [flen,rn_join,List.length_map]
 have h1:f41r1n1 s n=some (.norm (sprD n (wss (s.map fun y=>y))).1 (sprD n (wss (s.map fun y=>y))).2):=by
  unfold f41r1n1 f41r1n2;have e:f58r1 s=some ():=rfl;rw [e,Int.toNat_natCast,f75r1_eq hs hw hn0 hn];rfl
 have h3:f41r1n3 s (sprD n (wss (s.map fun y=>y))).1 (sprD n (wss (s.map fun y=>y))).2=some (.norm (shr (s.map fun y=>y) (sprD n (wss (s.map fun y=>y))).2)):=by
  unfold f41r1n3;rw [f41r1n4_run s _ _ _ (Qaa (by omega))];have:=f41r1n4L_at (n:=(sprD n (wss (s.map fun y=>y))).1) hlen hs s [] [] rfl (by simp; omega);rw [show (((([]:List WS).length:Nat)):Int)=0 from rfl,List.nil_append,List.length_nil,List.drop_zero] at this;rw [this];rfl
 unfold f41r1 f41r1n0;rw [decide_eq_true (show (0:Int)≤(s.length:Int) by omega),rqt,Int.toNat_natCast,Qan (by omega) (by decide),rqt,h1];simp only [Option.bind_some];rw [h3];rfl
end Go.Proofs.Ytgbolgaodaokcaa
namespace Go.Proofs.Ytgbolgaodaokcaa
set_option linter.unusedVariables false
set_option linter.unusedSimpArgs false
set_option maxRecDepth 100000
open Go.RowKit
def outs:List (List Int)→List Int→List Int
 | ws::t,m::r=>divL m ws++outs t r
 | _,_=>[]


theorem ams_app(a b:List WS):ams (a++b)=ams a++ams b:=by simp [ams]
end Go.Proofs.Ytgbolgaodaokcaa
namespace Go.Proofs.Ytgbolgaodaokcaa
set_option linter.unusedVariables false
set_option linter.unusedSimpArgs false
set_option maxRecDepth 100000
open Go.RowKit
theorem kc_lv{a b:WS}(h:kc a b<0):a.Level≤b.Level∧¬(a.Level=b.Level∧a.Owner=b.Owner):=by
 unfold kc cmpOr at h
 by_cases c:cmpI a.Level b.Level=0
 ·rw [decide_eq_true c,cond_true] at h;rw [cmpI_zero] at c;rw [cmpB_neg] at h;exact ⟨by omega,fun k=>sltNe h k.2⟩
 ·rw [decide_eq_false c,cond_false,cmpI_neg] at h;exact ⟨by omega,fun k=>by omega⟩
theorem okW_pw{lo:Int} : ∀{p:Option WS} {l:List WS},okW lo p l=true→l.Pairwise (fun a b=>kc a b<0)∧∀y,p=some y→∀x∈l,kc y x<0
 | p,[],_=>⟨List.Pairwise.nil,fun y _ x hx=>by cases hx⟩
 | p,x::r,h=>by
  rw [okW,Bool.and_eq_true,Bool.and_eq_true] at h;obtain ⟨_,h2,h3⟩:=h;have ih:=okW_pw h3;refine ⟨List.pairwise_cons.2 ⟨fun z hz=>ih.2 x rfl z hz,ih.1⟩,fun y hy z hz=>?_⟩;subst hy;have hyx:kc y x<0:=of_decide_eq_true h2;rcases List.mem_cons.1 hz with rfl | hz
  ·exact hyx
  ·exact kc_cmp.tr hyx (ih.2 x rfl z hz)
structure Val (lo:Int) (l:List WS):Prop where
 len:l.length≤100
 each:∀x∈l,inB lo x=true
 ord:l.Pairwise fun a b=>kc a b<0
 sum:sm (ams l)≤1125899906842624
theorem val_of{lo:Int}{l:List WS}(h:vld lo l=true):Val lo l:=by
 unfold vld at h;rw [Bool.and_eq_true,Bool.and_eq_true,decide_eq_true_eq,decide_eq_true_eq] at h;exact ⟨h.1,okW_in h.2.1,(okW_pw h.2.1).1,h.2.2⟩
theorem Val.lv{lo:Int}{l:List WS}(v:Val lo l):l.Pairwise fun a b=>a.Level≤b.Level:=v.ord.imp fun h=>(kc_lv h).1
theorem Val.am{lo:Int}(h0:0≤lo){l:List WS}(v:Val lo l):∀x∈ams l,0≤x:=fun x hx=>by
 obtain ⟨y,hy,rfl⟩:=List.mem_map.1 hx;have:=inB_am (v.each y hy); omega
theorem Val.w{lo:Int}(h0:0≤lo){l:List WS}(v:Val lo l):∀g∈rn l,wOK (ams g):=fun g hg=>by
 obtain ⟨a,b,e⟩:=List.append_of_mem hg;have hj:=rn_join l;rw [e,List.flatten_append,List.flatten_cons] at hj;have hs:=v.sum;have hl:=v.len;have h1:=v.am h0;rw [←hj,ams_app,ams_app] at h1 hs;rw [←hj,List.length_append,List.length_append] at hl;rw [sm_app,sm_app] at hs;have p1:=Qcj fun x hx=>h1 x (List.mem_append_left _ hx);have p2:=Qcj fun x hx=>h1 x (List.mem_append_right _ (List.mem_append_right _ hx));exact ⟨fun x hx=>h1 x (List.mem_append_right _ (List.mem_append_left _ hx)),by omega,by rw [amsLen]; omega⟩
theorem monB_iff{n:Int} : monB n=true↔0≤n∧n≤1125899906842624:=by
 unfold monB; rw [Bool.and_eq_true,decide_eq_true_eq,decide_eq_true_eq]

def retS(l:List WS)(n:Int):Int×Int×List WS :=
 bif vld 1 l then bif monB n then ((sprD n (wss l)).1,0,shr l (sprD n (wss l)).2) else (0,2,[]) else (0,2,[])
theorem f16r1_eq(s:List WS)(n:Int):f16r1 s n=some (retS s n):=by
 unfold f16r1 f16r1n0 retS;rw [f38_39_40_eq (by decide),List.map_id',Option.bind_some];cases hv:vld 1 s with
 | false=>rfl
 | true =>
  have v:=val_of hv;rw [cond_true,f34_eq,Option.bind_some];cases hm:monB n with
  | false=>rfl
  | true =>
   have hn:=monB_iff.1 hm;have hl:=v.len;rw [cond_true,f41r1_eq (by omega) (by rw [List.map_id']; exact v.w (by decide)) hn.1 hn.2,List.map_id'];rfl
theorem f12_eq(a:List WF)(b:List WS):f12 a b=some (decide (120<a.length)||decide (120<b.length)):=by
 unfold f12 f12n0;rw [show decide ((120:Int)<(a.length:Int))=decide (120<a.length) by congr 1; apply propext; omega,show decide ((120:Int)<(b.length:Int))=decide (120<b.length) by congr 1; apply propext; omega];cases decide (120<a.length)<;>rfl

theorem shr_len:∀(l:List WS)(g:List Int),(shr l g).length≤l.length
 | [],g=>by simp [shr]
 | y::r,[]=>by simp [shr]
 | y::r,v::t=>by
  have:=shr_len r t;rw [shr];cases decide (0<v)<;>simp<;>omega


end Go.Proofs.Ytgbolgaodaokcaa
namespace Go.Proofs.Ytgbolgaodaokcaa
set_option linter.unusedVariables false
set_option linter.unusedSimpArgs false
set_option maxRecDepth 100000
open Go.RowKit
theorem f18_refl{l:List WS}(hl:l.length≤maxLen):f18 l l=some true:=by
 have loop:∀(r pre:List WS),l=pre++r→f18n2L l l r ((pre.length:Nat):Int)=some .exit0:=by
  intro r
  induction r with
  | nil=>intro pre _; rfl
  | cons x r ih =>
   intro pre e;have:=ih (pre++[x]) (by rw [e]; simp);rw [f18n2L,Qbd e rfl,Option.bind_some,show Qa.eqb x x=true by simp [Qa.eqb,seq_refl],cond_true];rw [List.length_append,List.length_cons,List.length_nil] at this;rw [show ((pre.length:Nat):Int)+1=((pre.length+(0+1):Nat):Int) by omega];exact this
 have:=loop l [] rfl;rw [show (((([]:List WS).length:Nat)):Int)=0 from rfl] at this;unfold f18 f18n0 f18n1;rw [decide_eq_true rfl,cond_true,f18n2_run l l hl,this];rfl
theorem f17_eq{l:List WS}(hl:l.length≤1000):f17 l=some l:=by
 unfold f17 f17n0;rw [Qan (by omega) (by decide)];cases l<;>rfl


end Go.Proofs.Ytgbolgaodaokcaa
namespace Go.Proofs.Ytgbolgaodaokcaa
set_option linter.unusedVariables false
set_option linter.unusedSimpArgs false
set_option maxRecDepth 100000
open Go.RowKit
theorem kc_dec(y x:WS):decide (kc y x<0)=bif decide (x.Level<y.Level) then false else bif decide (y.Level=x.Level) then slt y.Owner x.Owner else true:=by
 unfold kc cmpOr
 by_cases c:cmpI y.Level x.Level=0
 ·have e:=cmpI_zero.1 c;rw [decide_eq_true c,cond_true,decide_eq_false (show ¬x.Level<y.Level by omega),cond_false,decide_eq_true e,cond_true];cases h:slt y.Owner x.Owner with
  | true=>exact decide_eq_true (cmpB_neg.2 h)
  | false=>exact decide_eq_false fun k=>by rw [cmpB_neg.1 k] at h; cases h
 ·have e:¬y.Level=x.Level:=fun e=>c (cmpI_zero.2 e);rw [decide_eq_false c,cond_false,decide_eq_false e,cond_false]
  by_cases d:x.Level<y.Level
  ·rw [decide_eq_true d,cond_true];exact decide_eq_false fun k=>by rw [cmpI_neg] at k; omega
  ·rw [decide_eq_false d,cond_false];exact decide_eq_true (cmpI_neg.2 (by omega))
theorem f47n2_eq{lo:Int}{s pre r:List WS}{x:WS}(acc:Int)(h:s=pre++x::r)(hl:s.length≤1000) :
  f47n2 s lo acc ((pre.length:Nat):Int)=some (bif inB lo x&&ordB pre.getLast? x then .norm (wr64 (acc+x.Amount)) else .ret):=by
 unfold f47n2 inB;rw [Qbd h rfl];simp only [Option.bind_some];rw [f62_eq];simp only [Option.bind_some];rw [geN x.Level 0,show decide (10≤x.Level) = !(decide (x.Level<10)) by rw [ltNot,Bool.not_not],geN x.Amount lo,geN 1125899906842624];rcases List.eq_nil_or_concat pre with rfl | ⟨q,y,rfl⟩
 ·rw [decide_eq_false (by simp:¬(0:Int)<((([]:List WS).length:Nat):Int))];cases decide (0≤x.Level)<;>cases decide (x.Level<10)<;>cases nmB x.Owner<;>cases decide (lo≤x.Amount)<;>cases decide (x.Amount≤1125899906842624)<;>rfl
 ·rw [List.concat_eq_append] at h ⊢;have hq:q.length+1≤1000:=by rw [h] at hl; simp at hl; omega
  rw [decide_eq_true (by simp:(0:Int)<(((q++[y]).length:Nat):Int)),show wr64 ((((q++[y]).length:Nat):Int)-1)=((q.length:Nat):Int) by rw [wrIn (by simp<;>omega) (by simp<;>omega)]; simp,Qbd (k:=q.length) (a:=q) (x:=y) (b:=x::r) (by rw [h]; simp) rfl,List.getLast?_concat];simp only [Option.bind_some,cond_true,ordB,kc_dec];cases decide (0≤x.Level)<;>cases decide (x.Level<10)<;>cases nmB x.Owner<;>cases decide (lo≤x.Amount)<;>cases decide (x.Amount≤1125899906842624)<;>cases decide (x.Level<y.Level)<;>cases decide (y.Level=x.Level)<;>cases slt y.Owner x.Owner<;>rfl
theorem f47n3_at{lo:Int}(h0:0≤lo){s:List WS}(hl:s.length≤1000):∀(r pre:List WS)(f:Nat),s=pre++r→(∀x∈pre,inB lo x=true)→r.length<f →
  f47n3 f s lo (sm (ams pre)) ((pre.length:Nat):Int)=some (bif okW lo pre.getLast? r then .exit0 (sm (ams s)) else .ret)
 | _,_,0,_,_,h=>absurd h (Nat.not_lt_zero _)
 | [],pre,f+1,h,_,_=>by
  rw [f47n3,decide_eq_false (by rw [h]; simp),cond_false,h,List.append_nil]; rfl
 | x::r,pre,f+1,h,hp,hf=>by
  have hpl:pre.length<s.length:=by rw [h]; simp
  rw [f47n3,decide_eq_true (by omega),cond_true,f47n2_eq _ h hl,okW];cases hx:inB lo x with
  | false=>rfl
  | true =>
   cases ordB pre.getLast? x with
   | false=>rfl
   | true =>
    have ih:=f47n3_at h0 hl r (pre++[x]) f (by rw [h]; simp) (fun z hz=>by
     rcases List.mem_append.1 hz with hz | hz
     ·exact hp z hz
     ·rw [List.mem_singleton.1 hz]; exact hx) (by simpa using hf)
    rw [List.length_append,List.getLast?_concat,ams_app,sm_app] at ih;have hb:=ams_le h0 (l:=pre) hp;have hx2:=inB_am hx;simp only [Bool.and_self,cond_true,Option.bind_some,Bool.true_and];rw [wrSucc (by omega),wrIn (by omega) (by omega)];simpa [sm,ams] using ih
theorem f47_eq{lo:Int}(h0:0≤lo)(s:List WS):f47 s lo=some (vld lo s):=by
 unfold f47 f47n0 vld;rw [geN 100,show decide ((s.length:Int)≤100)=decide (s.length≤100) by congr 1; apply propext; omega]
 by_cases hl:s.length≤100
 ·have h1:f47n1 s lo=some (bif okW lo none s then .norm (sm (ams s)) else .ret):=by
   unfold f47n1;have:=f47n3_at h0 (s:=s) (by omega) s [] FUEL rfl (fun x hx=>by cases hx) (Qak (by omega));rw [show (((([]:List WS).length:Nat)):Int)=0 from rfl,List.getLast?_nil,show sm (ams [])=0 from rfl] at this;rw [this];cases okW lo none s<;>rfl
  rw [h1,decide_eq_true hl];cases okW lo none s<;>rfl
 ·rw [decide_eq_false hl]; rfl
theorem f44_eq{s:List WF}(hl:s.length≤1000):f44 s=some (s.map tos):=by
 have loop:∀(r:List WF)(i:Int)(acc:List WS),acc.length+r.length≤100000→f44n2L s r i acc=some (.exit0 (acc++r.map tos)):=by
  intro r
  induction r with
  | nil=>intro i acc _; rw [f44n2L]; simp
  | cons x r ih =>
   intro i acc h;have rqt:∀{α:Type} (x:Option α),req true x=x:=fun x=>rfl;simp only [List.length_cons] at h;rw [f44n2L,Qan (by omega) (by decide),rqt,ih _ _ (by simp; omega)];simp [tos]
 unfold f44 f44n0 f44n1;rw [f44n2_run s [] (Qaa (by omega)),loop s 0 [] (by simp; omega)];rfl
theorem f24_eq{s:List WF}(hl:s.length≤1000):f24 s=some (bif vld 0 (s.map tos) then 0 else 8):=by
 unfold f24 f24n0
 by_cases c:100<s.length
 ·rw [decide_eq_true (by omega)];have:vld 0 (s.map tos)=false:=by unfold vld; rw [List.length_map,decide_eq_false (by omega)]; rfl
  rw [this]; rfl
 ·rw [decide_eq_false (by omega),cond_false,f44_eq hl,Option.bind_some,f47_eq (by decide),Option.bind_some];cases vld 0 (s.map tos)<;>rfl
theorem f42_eq(n:Int):f42 n=some (monB n):=by
 unfold f42 f42n0 monB;cases decide (0≤n)<;>rfl

theorem f76n4_at{n w S bit:Int}(hS:0<S):∀(f:Nat)(q r:Int),0≤r→r≤4611686018427387904→0≤q→q+r / S≤4611686018427387904→(r / S).toNat<f→f76n4 f n w S bit q r=some (.exit2 (q+r / S) (r % S))
 | 0,_,_,_,_,_,_,h=>absurd h (Nat.not_lt_zero _)
 | f+1,q,r,r0,r1,q0,q1,hf=>by
  rw [f76n4]
  by_cases c:S≤r
  ·have e:r / S=(r-S) / S+1:=by rw [Int.sub_ediv_of_dvd r (Int.dvd_refl S),Int.ediv_self (by omega)]; omega
   have e2:r % S=(r-S) % S:=by rw [Int.sub_emod_right]
   have h0:=Int.ediv_nonneg (show 0≤r-S by omega) (Int.le_of_lt hS);rw [decide_eq_true c,cond_true,wrIn (n:=q+1) (by omega) (by omega),wrIn (n:=r-S) (by omega) (by omega),f76n4_at hS f (q+1) (r-S) (by omega) (by omega) (by omega) (by omega) (by omega),e,e2]
   congr 2; omega
  ·rw [decide_eq_false c,cond_false,Int.ediv_eq_zero_of_lt r0 (by omega),Int.emod_eq_of_lt r0 (by omega),Int.add_zero]
section
variable {n w S:Int} (hS0:0<S) (hS:S≤1125899906842624) (hn0:0≤n) (hn:n≤S) (hw0:0≤w) (hw:w≤S)
include hS0 hS hn0 hn hw0 hw
theorem f76n2_at{B:Int}(hB:0<B){q r:Int}(r0:0≤r)(r1:r<S)(q0:0≤q)(q1:q≤w)(h:q*S+r=n / (2*B)*w) :
  ∃q' r',f76n2 n w S q r B=some (.norm q' r')∧0≤r'∧r'<S∧0≤q'∧q'≤w∧q'*S+r'=n / B*w:=by
 have hnB:n / B / 2=n / (2*B):=by rw [Int.ediv_ediv_of_nonneg (by omega),Int.mul_comm]
 have hnB0:0≤n / B:=Int.ediv_nonneg hn0 (by omega);have hnB1:n / B≤n:=Int.ediv_le_self _ hn0;have hbit:∃r2,f76n3 n w S q r B=some (.norm r2)∧r2=2*r+n / B % 2*w∧0≤r2∧r2≤3*S:=by
  unfold f76n3;have rqt:∀{α:Type} (x:Option α),req true x=x:=fun x=>rfl;rw [decide_eq_false (by omega:¬B=0),Bool.not_false,rqt,Int.tdiv_eq_ediv_of_nonneg hn0,wrIn (n:=n / B) (by omega) (by omega),Int.tmod_eq_emod_of_nonneg hnB0];have hm:n / B % 2=0∨n / B % 2=1:=by omega
  rcases hm with e | e
  ·rw [decide_eq_false (by omega),cond_false,wrIn (n:=2*r) (by omega) (by omega),e];exact ⟨_,rfl,by omega,by omega,by omega⟩
  ·rw [decide_eq_true e,cond_true,wrIn (n:=2*r) (by omega) (by omega),wrIn (n:=2*r+w) (by omega) (by omega),e];exact ⟨_,rfl,by omega,by omega,by omega⟩
 obtain ⟨r2,e1,e2,p1,p2⟩:=hbit;have hd:r2 / S≤3:=by
  have:=Int.ediv_le_ediv hS0 p2;rw [Int.mul_ediv_cancel _ (by omega)] at this;exact this
 have hd0:=Int.ediv_nonneg p1 (Int.le_of_lt hS0);have hn4:=f76n4_at (n:=n) (w:=w) (bit:=B) hS0 FUEL (2*q) r2 p1 (by omega) (by omega) (by omega) (Qak (n:=(r2 / S).toNat) (by omega));have hfin:(2*q+r2 / S)*S+r2 % S=n / B*w:=by
  have h1:=Int.mul_ediv_add_emod r2 S;have h2:=Int.mul_ediv_add_emod (n / B) 2;rw [hnB] at h2;rw [Int.add_mul,Int.mul_comm (r2 / S) S,Int.mul_assoc,←h2,Int.add_mul,Int.mul_assoc 2,←h];omega
 refine ⟨2*q+r2 / S,r2 % S,?_,Int.emod_nonneg _ (by omega),Int.emod_lt_of_pos _ hS0,by omega,?_,hfin⟩
 ·unfold f76n2;rw [e1];simp only [Option.bind_some];rw [wrIn (n:=2*q) (by omega) (by omega),hn4];rfl
 ·have h1:n / B*w≤S*w:=Int.mul_le_mul_of_nonneg_right (by omega) hw0;have h2:=Int.emod_nonneg r2 (show S≠0 by omega);rcases Int.lt_or_le w (2*q+r2 / S) with h | h
  ·have:=Int.mul_le_mul_of_nonneg_right (show w+1≤2*q+r2 / S by omega) (show 0≤S by omega);rw [Int.add_mul,Int.mul_comm w S] at this;omega
  ·exact h
theorem f76n5_at:∀(k f:Nat)(q r:Int),k≤60→k+1<f→0≤r→r<S→0≤q→q≤w→q*S+r=n / (2*2 ^ k)*w→f76n5 f n w S q r (2 ^ k)=some (.exit0 (n*w / S) (n*w % S))
 | _,0,_,_,_,h,_,_,_,_,_=>absurd h (Nat.not_lt_zero _)
 | k,f+1,q,r,hk,hf,r0,r1,q0,q1,h=>by
  have hB:(0:Int)<2 ^ k:=Int.pow_pos (by decide);have hB1:(2:Int) ^ k≤2 ^ 60:=by
   have:(2:Nat) ^ k≤2 ^ 60:=Nat.pow_le_pow_right (by decide) hk;have h2:=Int.ofNat_le.2 this;simpa using h2
  have e60:(2:Int) ^ 60=1152921504606846976:=by decide
  obtain ⟨q',r',e,a1,a2,a3,a4,a5⟩:=f76n2_at hS0 hS hn0 hn hw0 hw hB r0 r1 q0 q1 h;rw [f76n5,decide_eq_true hB,cond_true,e];simp only [Option.bind_some];rw [Int.tdiv_eq_ediv_of_nonneg (by omega),wrIn (by omega) (by omega)];cases k with
  | succ k =>
   have:(2:Int) ^ (k+1) / 2=2 ^ k:=by rw [Int.pow_succ]; omega
   rw [this];exact f76n5_at k f q' r' (by omega) (by omega) a1 a2 a3 a4 (by rw [a5,Int.pow_succ,Int.mul_comm (2 ^ k) 2])
  | zero =>
   obtain ⟨f,rfl⟩:∃g,f=g+1:=⟨f-1,by omega⟩;rw [show (2:Int) ^ 0 / 2=0 from rfl,f76n5,decide_eq_false (by omega),cond_false];rw [show (2:Int) ^ 0=1 from rfl,Int.ediv_one] at a5;have:=(Int.ediv_emod_unique (a:=n*w) (b:=S) (r:=r') (q:=q') hS0).2 ⟨by rw [Int.mul_comm S q']; omega,a1,a2⟩;rw [this.1,this.2]
theorem f76_eq:f76 n w S=some (n*w / S,n*w % S):=by
 unfold f76 f76n0 f76n1;have h:=f76n5_at hS0 hS hn0 hn hw0 hw 60 FUEL 0 0 (by omega) (Qak (n:=61) (by omega)) (by omega) hS0 (by omega) hw0 (by
  rw [show (2:Int)*2 ^ 60=2305843009213693952 by decide,Int.ediv_eq_zero_of_lt hn0 (by omega)]; omega)
 rw [show (2:Int) ^ 60=1152921504606846976 by decide] at h;rw [h];rfl
end
def mark:List Int→List Int→List Int
 | rs,[]=>rs
 | rs,z::T=>mark (rs.set z.toNat (-1)) T
theorem mark_len:∀(T rs:List Int),(mark rs T).length=rs.length
 | [],rs=>rfl
 | z::T,rs=>by rw [mark,mark_len T,List.length_set]
theorem mark_app:∀(T U rs:List Int),mark rs (T++U)=mark (mark rs T) U
 | [],U,rs=>rfl
 | z::T,U,rs=>by rw [List.cons_append,mark,mark,mark_app T]
theorem mark_at:∀(T rs:List Int)(j:Nat),j<rs.length→(∀z∈T,0≤z)→(mark rs T).getD j 0=if (j:Int)∈T then -1 else rs.getD j 0
 | [],rs,j,_,_=>by simp [mark]
 | z::T,rs,j,hj,h=>by
  have hz:=h z List.mem_cons_self;rw [mark,mark_at T _ j (by rw [List.length_set]; exact hj) fun y hy=>h y (List.mem_cons_of_mem z hy)]
  by_cases k:(j:Int)∈T
  ·rw [if_pos k,if_pos (List.mem_cons_of_mem z k)]
  ·rw [if_neg k]
   by_cases e:(j:Int)=z
   ·rw [if_pos (by rw [e]; exact List.mem_cons_self)];have:z.toNat=j:=by omega
    simp [List.getD,List.getElem?_set,this,hj]
   ·rw [if_neg (by rw [List.mem_cons]; exact fun h=>h.elim e k)];have:z.toNat≠j:=by omega
    simp [List.getD,List.getElem?_set,this]
def isTop(m:List Int)(b:Nat):Prop:=b<m.length∧∀i<m.length,m.getD i 0≤m.getD b 0∧(i<b→m.getD i 0<m.getD b 0)
theorem top_one{m:List Int}{b c:Nat}(h:isTop m b)(k:isTop m c):b=c:=by
 rcases Nat.lt_trichotomy b c with e | e | e
 ·have h1:=(k.2 b h.1).2 e;have h2:=(h.2 c k.1).1;omega
 ·exact e
 ·have h1:=(h.2 c k.1).2 e;have h2:=(k.2 b h.1).1;omega
theorem at_getD{m:List Int}{j:Nat}(h:j<m.length):at? m (j:Int)=some (m.getD j 0):=by
 rw [at_in h]; simp [List.getD,h]
theorem f61n7_at{bg:List WS}{S:Int}{o m:List Int}(hl:m.length=bg.length)(hb:bg.length≤1000):∀(d j f b:Nat),j+d=m.length→d<f→b<m.length→b≤j→(∀i<j,m.getD i 0≤m.getD b 0∧(i<b→m.getD i 0<m.getD b 0)) →
  ∃c:Nat,f61n7 f bg S o m (b:Int) (j:Int)=some (.exit6 (c:Int))∧isTop m c
 | _,_,0,_,_,h,_,_,_=>absurd h (Nat.not_lt_zero _)
 | 0,j,f+1,b,hj,_,hbm,_,h=>by
  rw [f61n7,decide_eq_false (by omega),cond_false];exact ⟨b,rfl,hbm,fun i hi=>h i (by omega)⟩
 | d+1,j,f+1,b,hj,hf,hbm,hbj,h=>by
  rw [f61n7,decide_eq_true (by omega),cond_true,at_getD (by omega),at_getD hbm];simp only [Option.bind_some];rw [wrSucc (by omega)]
  by_cases c:m.getD b 0<m.getD j 0
  ·rw [decide_eq_true c,cond_true];exact f61n7_at hl hb d (j+1) f j (by omega) (by omega) (by omega) (by omega) fun i hi=>by
    by_cases e:i=j
    ·subst e; omega
    ·have:=h i (by omega); omega
  ·rw [decide_eq_false c,cond_false];exact f61n7_at hl hb d (j+1) f b (by omega) (by omega) hbm (by omega) fun i hi=>by
    by_cases e:i=j
    ·subst e; omega
    ·exact h i (by omega)
theorem ord_top{rs done todo:List Int}{z:Int}(h0:∀x∈rs,0≤x)(e:ordR rs=done++z::todo):isTop (mark rs done) z.toNat:=by
 have hm:∀y,y∈ordR rs→0≤y∧y<(rs.length:Int):=fun y hy=>ordR_mem.1 hy;have hz:=hm z (by rw [e]; simp);have hd:∀y∈done,0≤y:=fun y hy=>(hm y (by rw [e]; simp [hy])).1;have hnd:=ordR_nodup rs;have hbf:=ordR_bf rs;rw [e] at hnd hbf;have hzd:z∉done:=fun h=>(List.nodup_append.1 hnd).2.2 z h z (by simp) rfl;have hbf2:=(List.pairwise_cons.1 (List.pairwise_append.1 hbf).2.1).1;have ez:((z.toNat:Nat):Int)=z:=by omega
 have mz:(mark rs done).getD z.toNat 0=rv rs z:=by
  rw [mark_at _ _ _ (by omega) hd,ez,if_neg hzd]; rfl
 have hz0:0≤rv rs z:=h0 _ (rv_mem hz);refine ⟨by rw [mark_len]; omega,fun i hi=>?_⟩;rw [mark_len] at hi;rw [mz,mark_at _ _ _ hi hd]
 by_cases k:(i:Int)∈done
 ·rw [if_pos k]; omega
 ·rw [if_neg k];have hi2:(i:Int)∈ordR rs:=ordR_mem.2 (by omega);rw [e] at hi2;rcases List.mem_append.1 hi2 with h | h
  ·exact absurd h k
  ·rcases List.mem_cons.1 h with h | h
   ·have e2:rs.getD i 0=rv rs z:=by rw [←h]; rfl
    rw [e2];refine ⟨Int.le_refl _,fun hlt=>by omega⟩
   ·have:=hbf2 _ h;have e2:rs.getD i 0=rv rs (i:Int):=rfl;rw [e2];unfold bf at this;refine ⟨by omega,fun hlt=>by omega⟩
theorem f61n8_at{g:List WS}{rs:List Int}(hl:rs.length=g.length)(hb:g.length≤1000)(h0:∀x∈rs,0≤x):∀(T done rest:List Int)(f:Nat)(o:List Int),ordR rs=done++(T++rest)→T.length<f→o.length=g.length→(∀x∈o,0≤x∧x+(T.length:Int)≤1152921504606846976) →
  f61n8 f g (T.length:Int) o (mark rs done)=some (.exit4 (bump o T))
 | _,_,_,0,_,_,h,_,_=>absurd h (Nat.not_lt_zero _)
 | [],done,rest,f+1,o,_,_,_,_=>by rw [f61n8,decide_eq_false (by simp),cond_false]; rfl
 | z::T,done,rest,f+1,o,e,hf,ho,hv=>by
  have htop:=ord_top h0 (z:=z) (todo:=T++rest) e;have hlen:=ordR_len rs;have hzz:=ordR_mem.1 (show z∈ordR rs by rw [e]; simp);have hT:T.length≤1000:=by rw [e] at hlen; simp at hlen; omega
  obtain ⟨c,e1,hc⟩:=f61n7_at (bg:=g) (S:=((z::T).length:Int)) (o:=o) (m:=mark rs done) (by rw [mark_len]; exact hl) hb (mark rs done).length 0 FUEL 0 (by omega) (by rw [mark_len]; exact Qak (by omega)) (by rw [mark_len]; omega) (by omega) (fun i hi=>by omega);have ec:=top_one hc htop;subst ec;have hx:o.getD z.toNat 0∈o:=getD_mem (by omega);have hxv:=hv _ hx;rw [List.length_cons] at hxv;have h5:f61n5 g ((z::T).length:Int) o (mark rs done)=some (.norm (o.set z.toNat (o.getD z.toNat 0+1)) ((mark rs done).set z.toNat (-1))):=by
   unfold f61n5 f61n6;rw [show (0:Int)=((0:Nat):Int) from rfl,e1];simp only [Option.bind_some];rw [at_getD (m:=o) (by omega),at_getD (m:=mark rs done) (by rw [mark_len]; omega)];simp only [Option.bind_some];rw [Int.toNat_natCast,wrIn (by omega) (by omega)];rfl
  rw [f61n8,decide_eq_true (by simp),cond_true,h5];simp only [Option.bind_some];have ih:=f61n8_at hl hb h0 T (done++[z]) rest f (o.set z.toNat (o.getD z.toNat 0+1)) (by rw [e]; simp) (by simpa using hf) (by rw [List.length_set]; exact ho) fun x hx=>by
   have hv':=hv x;rcases List.mem_or_eq_of_mem_set hx with hx | rfl
   ·have:=hv x hx; rw [List.length_cons] at this; omega
   ·omega
  rw [mark_app,mark,mark] at ih;rw [show wr64 (((z::T).length:Int)-1)=(T.length:Int) by rw [List.length_cons,wrIn (by omega) (by omega)]; omega,bump];exact ih

theorem f61_eq{g:List WS}{n:Int}(hl:g.length≤1000)(h0:∀x∈ams g,0≤x)(hb:sm (ams g)≤1125899906842624)(hn0:0≤n)(hn:n≤sm (ams g)):f61 n g=some (divL n (ams g)):=by
 have rqt:∀{α:Type} (x:Option α),req true x=x:=fun x=>rfl;have hs0:=Qcj h0;have hsum:∀(r:List WS)(v i:Int),f61n2L n g r (wr64 v) i=some (.exit0 (wr64 (v+sm (ams r)))):=by
  intro r
  induction r with
  | nil=>intro v i; rw [f61n2L,show sm (ams [])=0 from rfl,Int.add_zero]
  | cons x r ih =>
   intro v i;rw [f61n2L,wrL,ih];rw [show v+x.Amount+sm (ams r)=v+sm (ams (x::r)) by simp only [ams,List.map_cons,sm]; omega]
 have e1:f61n1 n g=some (.norm (sm (ams g))):=by
  unfold f61n1;have h:=hsum g 0 0;rw [show wr64 0=0 from rfl,Int.zero_add,wrIn (by omega) (by omega)] at h;rw [f61n2_run n g 0 (Qaa (by omega)),h];rfl
 unfold f61 f61n0 divL;rw [e1];simp only [Option.bind_some]
 by_cases hz:sm (ams g)=0
 ·have loop:∀(r:List WS)(a i:Int)(u v:List Int),a=0→u.length+r.length≤100000→v.length+r.length≤100000→f61n4L n g 0 r a i u v=some (.exit2 0 (u++List.replicate r.length 0) (v++List.replicate r.length 0)):=by
   intro r
   induction r with
   | nil=>intro a i u v ha _ _; rw [f61n4L,ha]; simp
   | cons x r ih =>
    intro a i u v ha h1 h2;simp only [List.length_cons] at h1 h2;subst ha;rw [f61n4L,decide_eq_false (by omega),cond_false,Qan (by omega) (by decide),rqt,Qan (by omega) (by decide),rqt,show wr64 (0-0)=0 from rfl,ih 0 _ _ _ rfl (by simp; omega) (by simp; omega),List.length_cons,List.replicate_succ]
    simp
  rw [hz];have e3:f61n3 n g 0=some (.norm 0 (List.replicate g.length 0) (List.replicate g.length 0)):=by
   unfold f61n3;rw [f61n4_run n g 0 n [] [] (Qaa (by omega)),loop g n 0 [] [] (by omega) (by simp; omega) (by simp; omega)];rfl
  rw [e3];simp only [Option.bind_some];obtain ⟨k,hk⟩:∃k,FUEL=k+1:=⟨FUEL-1,by have:=Qak (n:=1) (by omega); omega⟩;rw [hk,f61n8,decide_eq_false (by omega),cond_false,decide_true,cond_true,amsLen];rfl
 ·have hS0:0<sm (ams g):=by omega
  have loop:∀(r pre:List WS)(i:Int),g=pre++r→f61n4L n g (sm (ams g)) r (n-sm (qL n (sm (ams g)) (ams pre))) i (qL n (sm (ams g)) (ams pre)) (rL n (sm (ams g)) (ams pre))=some (.exit2 (lft n (sm (ams g)) (ams g)) (qL n (sm (ams g)) (ams g)) (rL n (sm (ams g)) (ams g))):=by
   intro r
   induction r with
   | nil=>intro pre i e; rw [List.append_nil] at e; rw [f61n4L,←e]; rfl
   | cons x r ih =>
    intro pre i e;have hpl:g.length=pre.length+(r.length+1):=by rw [e]; simp
    have hxm:x.Amount∈ams g:=List.mem_map.2 ⟨x,by rw [e]; simp,rfl⟩;have hx0:=h0 _ hxm;have hx1:=sm_le h0 hxm;have hq:=q_le hS0 hn0 hn hx0;have hpm:∀y∈ams (pre++[x]),0≤y:=fun y hy=>h0 y (by
     rw [e,show pre++x::r=(pre++[x])++r by simp,ams_app]; exact List.mem_append_left _ hy)
    have hp:=qL_le hS0 hn0 hn hpm;have hp2:sm (ams (pre++[x]))≤sm (ams g):=by
     have h3:sm (ams g)=sm (ams (pre++[x]))+sm (ams r):=by rw [←sm_app,←ams_app]; congr 2; rw [e]; simp
     have:=Qcj (l:=ams r) fun y hy=>h0 y (by rw [e,ams_app]; exact List.mem_append_right _ (by unfold ams at hy ⊢; rw [List.map_cons]; exact List.mem_cons_of_mem _ hy));omega
    have ih:=ih (pre++[x]) (i+1) (by rw [e]; simp);have eq1:qL n (sm (ams g)) (ams (pre++[x]))=qL n (sm (ams g)) (ams pre)++[n*x.Amount / sm (ams g)]:=by simp [qL,ams]
    have er1:rL n (sm (ams g)) (ams (pre++[x]))=rL n (sm (ams g)) (ams pre)++[n*x.Amount % sm (ams g)]:=by simp [rL,ams]
    rw [eq1,er1,sm_app,sm,sm] at ih;rw [eq1,sm_app,sm,sm] at hp;have hp0:=qL_le hS0 hn0 hn (ws:=ams pre) fun y hy=>hpm y (by rw [ams_app]; exact List.mem_append_left _ hy);rw [f61n4L,decide_eq_true hS0,cond_true,f76_eq hS0 hb hn0 hn hx0 hx1];simp only [Option.bind_some];rw [Qan (by rw [qL_len,amsLen]; omega) (by decide),rqt,Qan (by rw [rL_len,amsLen]; omega) (by decide),rqt,wrIn (by omega) (by omega)];rw [show n-sm (qL n (sm (ams g)) (ams pre))-n*x.Amount / sm (ams g)=n-(sm (qL n (sm (ams g)) (ams pre))+(n*x.Amount / sm (ams g)+0)) by omega];exact ih
  have e3:f61n3 n g (sm (ams g))=some (.norm (lft n (sm (ams g)) (ams g)) (qL n (sm (ams g)) (ams g)) (rL n (sm (ams g)) (ams g))):=by
   unfold f61n3;have:=loop g [] 0 rfl;simp only [show ams ([]:List WS)=[] from rfl,show qL n (sm (ams g)) []=[] from rfl,show rL n (sm (ams g)) []=[] from rfl,show sm []=0 from rfl,Int.sub_zero] at this;rw [f61n4_run n g _ n [] [] (Qaa (by omega)),this];rfl
  have htl:=tops_len (n:=n) (ws:=ams g) hS0 rfl;have h8:=f61n8_at (g:=g) (rs:=rL n (sm (ams g)) (ams g)) (by rw [rL_len,amsLen]) hl (fun x hx=>(rL_mem hS0 hx).1) (tops n (sm (ams g)) (ams g)) [] ((ordR (rL n (sm (ams g)) (ams g))).drop (lft n (sm (ams g)) (ams g)).toNat) FUEL (qL n (sm (ams g)) (ams g)) (by rw [List.nil_append]; exact (List.take_append_drop _ _).symm) (by
   have:=lft_le (n:=n) (ws:=ams g) hS0 rfl;rw [amsLen] at this;exact Qak (by omega)) (by rw [qL_len,amsLen]) (fun x hx=>by
   unfold qL at hx;obtain ⟨w,hw,rfl⟩:=List.mem_map.1 hx;have hw2:=sm_le h0 hw;have:=q_le hS0 hn0 hn (h0 w hw);have:=lft_le (n:=n) (ws:=ams g) hS0 rfl;rw [amsLen] at this;omega)
  rw [htl] at h8;rw [e3,decide_eq_false hz,cond_false];simp only [Option.bind_some];rw [show mark (rL n (sm (ams g)) (ams g)) []=rL n (sm (ams g)) (ams g) from rfl] at h8;rw [h8];rfl
end Go.Proofs.Ytgbolgaodaokcaa
namespace Go.Proofs.Ytgbolgaodaokcaa
set_option linter.unusedVariables false
set_option linter.unusedSimpArgs false
set_option maxRecDepth 100000
open Go.RowKit
theorem keyE(a b:Key_):Key_.eqb a b=true↔a=b:=⟨Key_.eqb_eq,fun h=>by subst h; simp [Key_.eqb,seq_refl]⟩
abbrev KM:=List (Key_×Int)
def kW(x:WS):Key_:=Key_.mk x.Level x.Owner
def kF(x:WF):Key_:=Key_.mk x.Level x.Owner
def fx(k:Key_):List WF→Nat→Int
 | [],_=>-1
 | y::r,i=>bif Key_.eqb (kF y) k then (i:Int) else fx k r (i+1)
def mk:List WF→Nat→KM→KM
 | [],_,m=>m
 | x::r,i,m=>mk r (i+1) (mPut Key_.eqb (kF x) (i:Int) m)
theorem mhasPut{k q:Key_}{v:Int} : ∀m:KM,mHas Key_.eqb k (mPut Key_.eqb q v m)=(Key_.eqb k q||mHas Key_.eqb k m)
 | []=>by simp [mPut,mHas]
 | (a,w)::r=>by
  rw [mPut];cases h:Key_.eqb q a with
  | true =>
   have:=(keyE _ _).1 h; subst this;simp only [cond_true,mHas];cases Key_.eqb k q<;>simp
  | false =>
   simp only [cond_false,mHas];rw [mhasPut r];cases Key_.eqb k a<;>cases Key_.eqb k q<;>simp
theorem fx_low(k:Key_):∀(l:List WF)(i:Nat),fx k l i = -1∨∃(j:Nat) (h:j<l.length),fx k l i=((i+j:Nat):Int)∧kF l[j]=k
 | [],i=>.inl rfl
 | y::r,i=>by
  rw [fx];cases h:Key_.eqb (kF y) k with
  | true=>exact .inr ⟨0,by simp,rfl,(keyE _ _).1 h⟩
  | false =>
   rcases fx_low k r (i+1) with e | ⟨j,hj,e,e2⟩
   ·exact .inl e
   ·exact .inr ⟨j+1,by simpa using hj,by rw [cond_false,e]; congr 1; omega,by simpa using e2⟩
theorem fx_none{k:Key_} : ∀{l:List WF} (i:Nat),(∀y∈l,kF y≠k)→fx k l i = -1
 | [],_,_=>rfl
 | y::r,i,h=>by
  have:Key_.eqb (kF y) k=false:=by
   cases e:Key_.eqb (kF y) k with
   | false=>rfl
   | true=>exact absurd ((keyE _ _).1 e) (h y List.mem_cons_self)
  rw [fx,this,cond_false,fx_none _ fun z hz=>h z (List.mem_cons_of_mem y hz)]
theorem mk_get{k:Key_} : ∀{l:List WF} {i:Nat} {m:KM},(l.Pairwise fun a b=>kF a≠kF b)→mGet Key_.eqb 0 k (mk l i m)=bif decide (0≤fx k l i) then fx k l i else mGet Key_.eqb 0 k m
 | [],i,m,_=>by rw [mk,fx,decide_eq_false (by omega)]; rfl
 | x::r,i,m,h=>by
  have h':=List.pairwise_cons.1 h;rw [mk,mk_get h'.2,fx,mgetPut keyE]
  by_cases c:kF x=k
  ·subst c;rw [(keyE _ _).2 rfl,fx_none _ fun y hy e=>h'.1 y hy e.symm,decide_eq_false (by omega),cond_true,cond_true,cond_false,decide_eq_true (by omega)]; rfl
  ·have e1:Key_.eqb (kF x) k=false:=by
    cases e:Key_.eqb (kF x) k with
    | false=>rfl
    | true=>exact absurd ((keyE _ _).1 e) c
   have e2:Key_.eqb k (kF x)=false:=by
    cases e:Key_.eqb k (kF x) with
    | false=>rfl
    | true=>exact absurd ((keyE _ _).1 e).symm c
   rw [e1,e2,cond_false,cond_false]
theorem mk_has{k:Key_} : ∀{l:List WF} {i:Nat} {m:KM},mHas Key_.eqb k (mk l i m)=(decide (0≤fx k l i)||mHas Key_.eqb k m)
 | [],i,m=>by rw [mk,fx,decide_eq_false (by omega)]; rfl
 | x::r,i,m=>by
  rw [mk,mk_has,fx,mhasPut]
  by_cases c:kF x=k
  ·subst c;rw [(keyE _ _).2 rfl,cond_true,decide_eq_true (by omega:(0:Int)≤(i:Int))];cases decide (0≤fx (kF x) r (i+1))<;>simp
  ·have e1:Key_.eqb (kF x) k=false:=by
    cases e:Key_.eqb (kF x) k with
    | false=>rfl
    | true=>exact absurd ((keyE _ _).1 e) c
   have e2:Key_.eqb k (kF x)=false:=by
    cases e:Key_.eqb k (kF x) with
    | false=>rfl
    | true=>exact absurd ((keyE _ _).1 e).symm c
   rw [e1,e2,cond_false,Bool.false_or]
def fd(l:List WF)(x:WS):Option WF:=at? l (fx (kW x) l 0)
theorem fd_has(l:List WF)(x:WS):(fd l x).isSome=decide (0≤fx (kW x) l 0):=by
 unfold fd;rcases fx_low (kW x) l 0 with e | ⟨j,hj,e,_⟩
 ·rw [e]; rfl
 ·rw [e,Nat.zero_add,at_in hj,decide_eq_true (by omega)]; rfl
def chk(l:List WF):List WS→Int→Option Int
 | [],c=>some c
 | x::r,c=>match fd l x with
  | none=>none
  | some y=>chk l r (bif decide (y.Size<x.Amount) then 50 else c)
def sub1(y:WF)(a:Int):WF:=Qb.mk y.Level y.Owner (wr64 (y.Size-a)) y.Called
def aftL(l:List WF):List WS→List WF→List WF
 | [],st=>st
 | x::r,st=>aftL l r (match at? st (fx (kW x) l 0) with | some y=>st.set (fx (kW x) l 0).toNat (sub1 y x.Amount) | none=>st)
def cal(l:List WF):List WS→Int→Int
 | [],c=>c
 | x::r,c=>cal l r (match fd l x with | some y=>bif y.Called then wr64 (c+x.Amount) else c | none=>c)
def mtc(l:List WF)(sh:List WS):Int:=bif vld 0 (l.map tos) then bif vld 1 sh then (match chk l sh 0 with | none=>6 | some c=>c) else 2 else 8
theorem chk_some{l:List WF} : ∀{sh:List WS} {c d:Int},chk l sh c=some d→∀x∈sh,∃y,fd l x=some y
 | [],_,_,_,x,hx=>by cases hx
 | z::r,c,d,h,x,hx=>by
  rw [chk] at h;cases hz:fd l z with
  | none=>rw [hz] at h; cases h
  | some y =>
   rw [hz] at h;rcases List.mem_cons.1 hx with rfl | hx
   ·exact ⟨y,hz⟩
   ·exact chk_some h x hx
theorem fd_idx{l:List WF}{x:WS}{y:WF}(h:fd l x=some y):∃(j:Nat) (hj:j<l.length),fx (kW x) l 0=(j:Int)∧l[j]=y:=by
 unfold fd at h;rcases fx_low (kW x) l 0 with e | ⟨j,hj,e,_⟩
 ·rw [e] at h; cases h
 ·rw [Nat.zero_add] at e;rw [e,at_in hj] at h;exact ⟨j,hj,e,Option.some.inj h⟩
theorem dist_of{l:List WF}(v:Val 0 (l.map tos)):l.Pairwise fun a b=>kF a≠kF b:=by
 have:=List.pairwise_map.1 v.ord;refine this.imp fun {a b} h e=>?_;exact (kc_lv h).2 ⟨congrArg Key_.level e,congrArg Key_.owner e⟩
theorem f48_eq{l:List WF}(hl:l.length≤1000):f48r1 l=some l:=by
 unfold f48r1 f48r1n0;rw [Qan (by omega) (by decide)];cases l<;>rfl
theorem f19_eq{l:List WF}(hl:l.length≤1000):f19 l=some l:=by
 unfold f19 f19n0;rw [Qan (by omega) (by decide)];cases l<;>rfl
theorem f50_eq(i a:Int)(st:List WF):f50r1 i a st=(at? st i).map fun y=>st.set i.toNat (sub1 y a):=by
 unfold f50r1 f50r1n0 sub1;cases at? st i<;>rfl
theorem f49r1n2L_at(l:List WF)(sh:List WS)(st:List WF):∀(q:List WF)(i:Nat)(m:KM),f49r1n2L l sh st q (i:Int) m=some (.exit0 (mk q i m))
 | [],i,m=>rfl
 | x::q,i,m=>by
  have e:f36 x=some (kF x):=rfl;rw [f49r1n2L,e,Option.bind_some,mk,show (i:Int)+1=((i+1:Nat):Int) by omega,f49r1n2L_at l sh st q]
theorem f49r1n4L_at{l:List WF}(hd:l.Pairwise fun a b=>kF a≠kF b)(sh:List WS)(st:List WF):∀(q:List WS)(c i:Int),f49r1n4L l sh st (mk l 0 []) q c i=some (match chk l q c with | some d=>.exit2 d | none=>.ret)
 | [],c,i=>rfl
 | x::q,c,i=>by
  have e:f39 x=some (kW x):=rfl;rw [f49r1n4L,e,Option.bind_some,mk_has,mk_get hd,chk];have hh:=fd_has l x;cases hf:fd l x with
  | none =>
   rw [hf] at hh;rw [←hh]; rfl
  | some y =>
   rw [hf] at hh;rw [←hh];have hf':at? l (fx (kW x) l 0)=some y:=hf;simp only [Option.isSome_some,Bool.true_or,cond_true,hf',Option.bind_some];cases decide (y.Size<x.Amount) with
   | true=>exact f49r1n4L_at hd sh st q 50 _
   | false=>exact f49r1n4L_at hd sh st q c _
theorem f49r1n6L_at{l:List WF}(hd:l.Pairwise fun a b=>kF a≠kF b)(sh:List WS):∀(q:List WS)(i:Int)(st:List WF),st.length=l.length→(∀x∈q,∃y,fd l x=some y)→f49r1n6L sh (mk l 0 []) q i st=some (.exit4 (aftL l q st))
 | [],i,st,_,_=>rfl
 | x::q,i,st,hl,h=>by
  have e:f39 x=some (kW x):=rfl;obtain ⟨y,hy⟩:=h x List.mem_cons_self;obtain ⟨j,hj,e1,e2⟩:=fd_idx hy;rw [f49r1n6L,e,Option.bind_some,mk_get hd,aftL,e1,decide_eq_true (by omega),cond_true,f50_eq,at_in (l:=st) (k:=j) (by omega)];simp only [Option.map_some,Option.bind_some];exact f49r1n6L_at hd sh q _ _ (by rw [List.length_set]; exact hl) fun z hz=>h z (List.mem_cons_of_mem x hz)
theorem f49r1_eq{l:List WF}{sh:List WS}{st:List WF}(hl:l.length≤1000)(hs:sh.length≤1000)(hst:st.length=l.length):f49r1 l sh st=some (mtc l sh,bif decide (mtc l sh=0) then aftL l sh st else st):=by
 unfold f49r1 f49r1n0 mtc;rw [f23_eq,Option.bind_some];cases hv:vld 0 (l.map tos) with
 | false=>rfl
 | true =>
  have v:=val_of hv;have hd:=dist_of v;simp only [cond_true];rw [decide_true,cond_true,f38_39_40_eq (by decide),List.map_id',Option.bind_some];cases hw:vld 1 sh with
  | false=>rfl
  | true =>
   have h1:f49r1n1 l sh st=some (.norm (mk l 0 [])):=by
    unfold f49r1n1;have:=f49r1n2L_at l sh st l 0 [];rw [show ((0:Nat):Int)=0 from rfl] at this;rw [f49r1n2_run l sh st [] (Qaa (by omega)),this];rfl
   rw [cond_true,cond_true,h1];simp only [Option.bind_some];unfold f49r1n3;rw [f49r1n4_run l sh st _ 0 (Qaa (by omega)),f49r1n4L_at hd sh st];cases hc:chk l sh 0 with
   | none=>rfl
   | some c =>
    simp only [Option.bind_some]
    by_cases c0:c=0
    ·rw [decide_eq_true c0,cond_true];unfold f49r1n5;rw [f49r1n6_run sh _ st (Qaa (by omega)),f49r1n6L_at hd sh sh 0 st hst (chk_some hc)];subst c0;rfl
    ·rw [decide_eq_false c0]; rfl
theorem f49r2n2L_at(l:List WF)(sh:List WS)(st:Int):∀(q:List WF)(i:Nat)(m:KM),f49r2n2L l sh st q (i:Int) m=some (.exit0 (mk q i m))
 | [],i,m=>rfl
 | x::q,i,m=>by
  have e:f36 x=some (kF x):=rfl;rw [f49r2n2L,e,Option.bind_some,mk,show (i:Int)+1=((i+1:Nat):Int) by omega,f49r2n2L_at l sh st q]
theorem f49r2n4L_at{l:List WF}(hd:l.Pairwise fun a b=>kF a≠kF b)(sh:List WS)(st:Int):∀(q:List WS)(c i:Int),f49r2n4L l sh st (mk l 0 []) q c i=some (match chk l q c with | some d=>.exit2 d | none=>.ret)
 | [],c,i=>rfl
 | x::q,c,i=>by
  have e:f39 x=some (kW x):=rfl;rw [f49r2n4L,e,Option.bind_some,mk_has,mk_get hd,chk];have hh:=fd_has l x;cases hf:fd l x with
  | none =>
   rw [hf] at hh;rw [←hh]; rfl
  | some y =>
   rw [hf] at hh;rw [←hh];have hf':at? l (fx (kW x) l 0)=some y:=hf;simp only [Option.isSome_some,Bool.true_or,cond_true,hf',Option.bind_some];cases decide (y.Size<x.Amount) with
   | true=>exact f49r2n4L_at hd sh st q 50 _
   | false=>exact f49r2n4L_at hd sh st q c _
theorem f49r2n6L_at{l:List WF}(hd:l.Pairwise fun a b=>kF a≠kF b)(sh:List WS):∀(q:List WS)(i st:Int),(∀x∈q,∃y,fd l x=some y)→f49r2n6L sh l (mk l 0 []) q i st=some (.exit4 (cal l q st))
 | [],i,st,_=>rfl
 | x::q,i,st,h=>by
  have e:f39 x=some (kW x):=rfl;obtain ⟨y,hy⟩:=h x List.mem_cons_self;obtain ⟨j,hj,e1,e2⟩:=fd_idx hy;have e5:f53r1 (j:Int) x.Amount l st=some (bif y.Called then wr64 (st+x.Amount) else st):=by
   unfold f53r1 f53r1n0;rw [at_in hj,e2,Option.bind_some];cases y.Called<;>rfl
  rw [f49r2n6L,e,Option.bind_some,mk_get hd,cal,hy,e1,decide_eq_true (by omega),cond_true,e5];simp only [Option.bind_some];exact f49r2n6L_at hd sh q _ _ fun z hz=>h z (List.mem_cons_of_mem x hz)
theorem f49r2_eq{l:List WF}{sh:List WS}{st:Int}(hl:l.length≤1000)(hs:sh.length≤1000):f49r2 l sh st=some (mtc l sh,bif decide (mtc l sh=0) then cal l sh st else st):=by
 unfold f49r2 f49r2n0 mtc;rw [f23_eq,Option.bind_some];cases hv:vld 0 (l.map tos) with
 | false=>rfl
 | true =>
  have v:=val_of hv;have hd:=dist_of v;simp only [cond_true];rw [decide_true,cond_true,f38_39_40_eq (by decide),List.map_id',Option.bind_some];cases hw:vld 1 sh with
  | false=>rfl
  | true =>
   have h1:f49r2n1 l sh st=some (.norm (mk l 0 [])):=by
    unfold f49r2n1;have:=f49r2n2L_at l sh st l 0 [];rw [show ((0:Nat):Int)=0 from rfl] at this;rw [f49r2n2_run l sh st [] (Qaa (by omega)),this];rfl
   rw [cond_true,cond_true,h1];simp only [Option.bind_some];unfold f49r2n3;rw [f49r2n4_run l sh st _ 0 (Qaa (by omega)),f49r2n4L_at hd sh st];cases hc:chk l sh 0 with
   | none=>rfl
   | some c =>
    simp only [Option.bind_some]
    by_cases c0:c=0
    ·rw [decide_eq_true c0,cond_true];unfold f49r2n5;rw [f49r2n6_run sh l _ st (Qaa (by omega)),f49r2n6L_at hd sh sh 0 st (chk_some hc)];subst c0;rfl
    ·rw [decide_eq_false c0]; rfl
theorem f26r1_eq{l:List WF}{sh:List WS}(hl:l.length≤1000)(hs:sh.length≤1000):f26r1 l sh=some (mtc l sh,bif decide (mtc l sh=0) then aftL l sh l else []):=by
 unfold f26r1 f26r1n0;rw [f48_eq hl,Option.bind_some,f49r1_eq hl hs rfl,Option.bind_some]
 by_cases h:mtc l sh=0
 ·simp only [h,decide_true,cond_true,Option.bind_some]
 ·simp only [decide_eq_false h,cond_false,Option.bind_some]
theorem f29_eq{l:List WF}{sh:List WS}(hl:l.length≤1000)(hs:sh.length≤1000):f29 l sh=some (bif decide (mtc l sh=0) then cal l sh 0 else 0,mtc l sh):=by
 unfold f29 f29n0;rw [f49r2_eq hl hs];rfl
end Go.Proofs.Ytgbolgaodaokcaa
namespace Go.Proofs.Ytgbolgaodaokcaa
set_option linter.unusedVariables false
set_option linter.unusedSimpArgs false
set_option maxRecDepth 100000
open Go.RowKit
theorem rn_run{L:Int}{rest:List WS}(hr:∀y∈rest,y.Level≠L):∀{g:List WS},g≠[]→(∀x∈g,x.Level=L)→rn (g++rest)=g::rn rest
 | [],h,_=>absurd rfl h
 | [x],_,h=>by
  have hx:=h x List.mem_cons_self;cases rest with
  | nil=>rfl
  | cons y r =>
   obtain ⟨g',t,e⟩:=rn_cons y r;have hy:=hr y List.mem_cons_self;rw [List.cons_append,List.nil_append,rn,e];simp only [sameLv];rw [decide_eq_false (by omega),cond_false]
 | x::y::g,_,h=>by
  have ih:=rn_run hr (g:=y::g) (by simp) fun z hz=>h z (List.mem_cons_of_mem x hz);have hx:=h x List.mem_cons_self;have hy:=h y (by simp);rw [List.cons_append,rn,ih];simp only [sameLv];rw [decide_eq_true (by omega),cond_true]
def part(L:Int)(l:List WS):List WS:=l.filter fun x=>decide (x.Level=L)
def geL(L:Int)(l:List WS):List WS:=l.filter fun x=>decide (L≤x.Level)
theorem part_mem{L:Int}{l:List WS}{x:WS}(h:x∈part L l):x∈l∧x.Level=L:=by
 have:=List.mem_filter.1 h;exact ⟨this.1,of_decide_eq_true this.2⟩
theorem geL_mem{L:Int}{l:List WS}{x:WS}(h:x∈geL L l):x∈l∧L≤x.Level:=by
 have:=List.mem_filter.1 h;exact ⟨this.1,of_decide_eq_true this.2⟩
theorem ge_cut(L:Int):∀{l:List WS},(l.Pairwise fun a b=>a.Level≤b.Level)→geL L l=part L l++geL (L+1) l
 | [],_=>rfl
 | x::r,h=>by
  have h':=List.pairwise_cons.1 h;have ih:=ge_cut L h'.2;unfold geL part at ih ⊢;rw [List.filter_cons,List.filter_cons,List.filter_cons]
  by_cases c:x.Level<L
  ·rw [decide_eq_false (by omega:¬L≤x.Level),decide_eq_false (by omega:¬x.Level=L),decide_eq_false (by omega:¬L+1≤x.Level)];simpa using ih
  ·by_cases d:x.Level=L
   ·rw [decide_eq_true (by omega:L≤x.Level),decide_eq_true d,decide_eq_false (by omega:¬L+1≤x.Level)];simpa using ih
   ·have hn:r.filter (fun x=>decide (x.Level=L))=[]:=List.filter_eq_nil_iff.2 fun y hy e=>by
     have:=h'.1 y hy;have:=of_decide_eq_true e;omega
    rw [hn,List.nil_append] at ih;rw [decide_eq_true (by omega:L≤x.Level),decide_eq_false d,decide_eq_true (by omega:L+1≤x.Level),hn];simpa using ih
theorem mnI_zero{n:Int}(h:0≤n):mnI n 0=0:=by
 unfold mnI
 by_cases c:0<n
 ·rw [decide_eq_true c]; rfl
 ·rw [decide_eq_false c,cond_false]; omega
theorem wss_app{L:Int}{g rest:List WS}(hr:∀y∈rest,y.Level≠L)(hg:g≠[])(h:∀x∈g,x.Level=L):wss (g++rest)=ams g::wss rest:=by
 unfold wss; rw [rn_run hr hg h]; rfl
theorem specD{L n:Int}{g rest:List WS}(hr:∀y∈rest,y.Level≠L)(h:∀x∈g,x.Level=L) (hw:0≤(sprD n (wss rest)).1):sprD n (wss (g++rest))=((sprD n (wss rest)).1-mnI (sprD n (wss rest)).1 (sm (ams g)),divL (mnI (sprD n (wss rest)).1 (sm (ams g))) (ams g)++(sprD n (wss rest)).2):=by
 by_cases hg:g=[]
 ·subst hg;rw [show sm (ams [])=0 from rfl,mnI_zero hw,Int.sub_zero]; rfl
 ·rw [wss_app hr hg h]; rfl
theorem shr_app:∀(a:List WS)(u:List Int)(b:List WS)(v:List Int),u.length=a.length→shr (a++b) (u++v)=shr a u++shr b v
 | [],[],b,v,_=>rfl
 | [],_::_,_,_,h=>by simp at h
 | _::_,[],_,_,h=>by simp at h
 | x::a,y::u,b,v,h=>by
  have ih:=shr_app a u b v (by simpa using h);rw [List.cons_append,List.cons_append,shr,shr,ih];cases decide (0<y)<;>rfl
theorem f60_eq{l:List WS}(hl:l.length≤1000)(L:Int):f60 l L=some (part L l):=by
 have loop:∀(r:List WS)(i:Int)(acc:List WS),acc.length+r.length≤100000→f60n2L l L r i acc=some (.exit0 (acc++part L r)):=by
  intro r
  induction r with
  | nil=>intro i acc _; rw [f60n2L]; simp [part]
  | cons x r ih =>
   intro i acc h;have rqt:∀{α:Type} (x:Option α),req true x=x:=fun x=>rfl;simp only [List.length_cons] at h;rw [f60n2L];unfold part at ih ⊢;rw [List.filter_cons];cases decide (x.Level=L) with
   | true =>
    rw [cond_true,Qan (by omega) (by decide),rqt,ih _ _ (by simp; omega)]
    simp
   | false =>
    rw [cond_false,ih _ _ (by omega)]; rfl
 unfold f60 f60n0 f60n1;rw [f60n2_run l L [] (Qaa (by omega)),loop l 0 [] (by simp; omega)];rfl
section
variable {l:List WS} (hl:l.length≤1000) (h0:∀x∈ams l,0≤x) (hb:sm (ams l)≤1125899906842624) (hs:l.Pairwise fun a b=>a.Level≤b.Level)
include hl h0 hb in
theorem part_w(L:Int):wOK (ams (part L l))∧(part L l).length≤l.length:=by
 have hlen:(part L l).length≤l.length:=List.length_filter_le _ _;have hle:∀(r:List WS),(∀x∈ams r,0≤x)→sm (ams (part L r))≤sm (ams r):=by
  intro r
  induction r with
  | nil=>intro _; exact Int.le_refl _
  | cons x r ih =>
   intro h;have h1:=h x.Amount (by simp [ams]);have ih:=ih fun y hy=>h y (by unfold ams at hy ⊢; rw [List.map_cons]; exact List.mem_cons_of_mem _ hy);unfold part ams at ih ⊢;rw [List.filter_cons];cases decide (x.Level=L) with
   | true=>rw [if_pos rfl,List.map_cons,List.map_cons,sm,sm]; omega
   | false=>rw [if_neg (by simp),List.map_cons,sm]; omega
 refine ⟨⟨fun x hx=>?_,?_,by rw [amsLen]; omega⟩,hlen⟩
 ·obtain ⟨y,hy,rfl⟩:=List.mem_map.1 hx;exact h0 _ (List.mem_map.2 ⟨y,(part_mem hy).1,rfl⟩)
 ·have:=hle l h0; omega
include hl h0 hb in
theorem f43n2_eq{n i:Int}(rev:Bool){acc:List WS}(hn0:0≤n)(hn:n≤1125899906842624)(hi0:0≤i)(hi:i<10)(ha:acc.length≤1000){L:Int}(hL:L=bif rev then 9-i else i) :
  f43n2 l n rev i acc=some (.norm (n-mnI n (sm (ams (part L l)))) (bif rev then shr (part L l) (divL (mnI n (sm (ams (part L l)))) (ams (part L l)))++acc else acc++shr (part L l) (divL (mnI n (sm (ams (part L l)))) (ams (part L l))))):=by
 have rqt:∀{α:Type} (x:Option α),req true x=x:=fun x=>rfl;obtain ⟨hw,hpl⟩:=part_w hl h0 hb L;have h3:f43n3 l n rev i acc=some (.norm L):=by
  unfold f43n3;cases rev with
  | true=>rw [cond_true,wrIn (by omega) (by omega),hL]; rfl
  | false=>rw [cond_false,hL]; rfl
 have hm:=mnI_ok hn0 (Qcj hw.1);have hsum:∀(r:List WS)(v j:Int),f43n5L l n rev i L (part L l) acc r (wr64 v) j=some (.exit2 (wr64 (v+sm (ams r)))):=by
  intro r
  induction r with
  | nil=>intro v j; rw [f43n5L,show sm (ams [])=0 from rfl,Int.add_zero]
  | cons x r ih =>
   intro v j;rw [f43n5L,wrL,ih];rw [show v+x.Amount+sm (ams r)=v+sm (ams (x::r)) by simp only [ams,List.map_cons,sm]; omega]
 have hsp:=Qcj hw.1;have hw2:=hw.2.1;have h4:f43n4 l n rev i L (part L l) acc=some (.norm (sm (ams (part L l)))):=by
  unfold f43n4;have h:=hsum (part L l) 0 0;rw [show wr64 0=0 from rfl,Int.zero_add,wrIn (by omega) (by omega)] at h;rw [f43n5_run _ _ _ _ _ _ _ _ (Qaa (by omega)),h];rfl
 have h61:=f61_eq (g:=part L l) (by omega) hw.1 hw.2.1 hm.1 hm.2.1;have hdl:(divL (mnI n (sm (ams (part L l)))) (ams (part L l))).length=(part L l).length:=by rw [divL_len,amsLen]
 have hlv:∀x∈part L l,x.Level=L:=fun x hx=>(part_mem hx).2;generalize hd:divL (mnI n (sm (ams (part L l)))) (ams (part L l))=d at *;have loop:∀(r pre ac:List WS),part L l=pre++r→ac.length+r.length≤100000→f43n7L l n rev i L (part L l) (sm (ams (part L l))) d acc r ((pre.length:Nat):Int) ac=some (.exit4 (ac++shr r (d.drop pre.length))):=by
  intro r
  induction r with
  | nil=>intro pre ac _ _; rw [f43n7L]; simp [shr]
  | cons x r ih =>
   intro pre ac e h;have hk:pre.length<d.length:=by rw [hdl,e]; simp
   have hx:=hlv x (by rw [e]; simp);simp only [List.length_cons] at h;have step:=fun ac' h'=>ih (pre++[x]) ac' (by rw [e]; simp) h';rw [show (pre++[x]).length=pre.length+1 by simp] at step;rw [f43n7L,at_in hk,List.drop_eq_getElem_cons hk,shr];simp only [Option.bind_some];rw [show ((pre.length:Nat):Int)+1=((pre.length+1:Nat):Int) by omega];cases decide (0<d[pre.length]) with
   | true =>
    rw [cond_true,cond_true,Qan (by omega) (by decide),rqt,step _ (by simp; omega),hx]
    simp
   | false=>rw [cond_false,cond_false,step _ (by omega)]
 have h6:f43n6 l n rev i L (part L l) (sm (ams (part L l))) d acc=some (.norm (shr (part L l) d)):=by
  unfold f43n6;have:=loop (part L l) [] [] rfl (by simp; omega);rw [show (((([]:List WS).length:Nat)):Int)=0 from rfl,List.nil_append,List.length_nil,List.drop_zero] at this;rw [f43n7_run _ _ _ _ _ _ _ _ _ _ (Qaa (by omega)),this];rfl
 have hsl:=shr_len (part L l) d;unfold f43n2;rw [h3];simp only [Option.bind_some];rw [f60_eq hl,Option.bind_some,h4];simp only [Option.bind_some];rw [h61,Option.bind_some,h6];simp only [Option.bind_some];rw [wrIn (n:=n-_) (by omega) (by omega)];cases rev with
 | true =>
  simp only [cond_true];cases acc with
  | nil=>simp
  | cons y acc =>
   rw [Qan (by simp at ha ⊢; omega) (by decide),rqt]; rfl
 | false =>
  simp only [cond_false];cases hS:shr (part L l) d with
  | nil=>simp
  | cons y S =>
   rw [hS] at hsl;rw [Qan (by simp at hsl ⊢; omega) (by decide),rqt]; rfl
include hl h0 hb hs in
theorem f43D_at(hlv:∀x∈l,0≤x.Level∧x.Level<10){n:Int}(hn0:0≤n)(hn:n≤1125899906842624):∀(d i f:Nat),i+d=10→d<f →
  f43n8 f l true (sprD n (wss (geL (10-(i:Int)) l))).1 (i:Int) (shr (geL (10-(i:Int)) l) (sprD n (wss (geL (10-(i:Int)) l))).2)=some (.exit0 (sprD n (wss l)).1 (shr l (sprD n (wss l)).2))
 | _,_,0,_,h=>absurd h (Nat.not_lt_zero _)
 | 0,i,f+1,hi,_=>by
  have:geL (10-(i:Int)) l=l:=List.filter_eq_self.2 fun x hx=>decide_eq_true (by have:=hlv x hx; omega);rw [f43n8,decide_eq_false (by omega),cond_false,this]
 | d+1,i,f+1,hi,hf=>by
  have hcut:=ge_cut (9-(i:Int)) hs;rw [show 9-(i:Int)+1=10-(i:Int) by omega] at hcut;obtain ⟨hw,_⟩:=part_w hl h0 hb (9-(i:Int));have hgw:∀ws∈wss (geL (10-(i:Int)) l),wOK ws:=fun ws hws=>by
   obtain ⟨g,hg,rfl⟩:=List.mem_map.1 hws;obtain ⟨a,b,e⟩:=List.append_of_mem hg;have hj:=rn_join (geL (10-(i:Int)) l);rw [e,List.flatten_append,List.flatten_cons] at hj;have hgm:∀x∈ams (geL (10-(i:Int)) l),0≤x:=fun x hx=>by
    obtain ⟨y,hy,rfl⟩:=List.mem_map.1 hx;exact h0 _ (List.mem_map.2 ⟨y,(geL_mem hy).1,rfl⟩)
   have hgl:(geL (10-(i:Int)) l).length≤l.length:=List.length_filter_le _ _;have hgs:sm (ams (geL (10-(i:Int)) l))≤sm (ams l):=by
    have:∀(r:List WS),(∀x∈ams r,0≤x)→sm (ams (geL (10-(i:Int)) r))≤sm (ams r):=by
     intro r
     induction r with
     | nil=>intro _; exact Int.le_refl _
     | cons x r ih =>
      intro h;have h1:=h x.Amount (by simp [ams]);have ih:=ih fun y hy=>h y (by unfold ams at hy ⊢; rw [List.map_cons]; exact List.mem_cons_of_mem _ hy);unfold geL ams at ih ⊢;rw [List.filter_cons];cases decide (10-(i:Int)≤x.Level) with
      | true=>rw [if_pos rfl,List.map_cons,List.map_cons,sm,sm]; omega
      | false=>rw [if_neg (by simp),List.map_cons,sm]; omega
    exact this l h0
   rw [←hj,ams_app,ams_app] at hgm hgs;rw [←hj,List.length_append,List.length_append] at hgl;rw [sm_app,sm_app] at hgs;have p1:=Qcj fun x hx=>hgm x (List.mem_append_left _ hx);have p2:=Qcj fun x hx=>hgm x (List.mem_append_right _ (List.mem_append_right _ hx));exact ⟨fun x hx=>hgm x (List.mem_append_right _ (List.mem_append_left _ hx)),by omega,by rw [amsLen]; omega⟩
  have hcur:=sprD_ok hn0 hgw;have hm:=mnI_ok hcur.1 (Qcj hw.1);have hsp:=specD (n:=n) (L:=9-(i:Int)) (g:=part (9-(i:Int)) l) (rest:=geL (10-(i:Int)) l) (fun y hy=>by have:=(geL_mem hy).2; omega) (fun x hx=>(part_mem hx).2) hcur.1;have hdl:(divL (mnI (sprD n (wss (geL (10-(i:Int)) l))).1 (sm (ams (part (9-(i:Int)) l)))) (ams (part (9-(i:Int)) l))).length=(part (9-(i:Int)) l).length:=by rw [divL_len,amsLen]
  have hsl:=shr_len (geL (10-(i:Int)) l) (sprD n (wss (geL (10-(i:Int)) l))).2;have hgl:(geL (10-(i:Int)) l).length≤l.length:=List.length_filter_le _ _;have ih:=f43D_at hlv hn0 hn d (i+1) f (by omega) (by omega);rw [show 10-((i+1:Nat):Int)=9-(i:Int) by omega,hcut,hsp] at ih;simp only at ih;rw [shr_app _ _ _ _ hdl] at ih;rw [f43n8,decide_eq_true (by omega),cond_true,f43n2_eq (i:=(i:Int)) hl h0 hb true hcur.1 (by omega) (by omega) (by omega) (by omega) (L:=9-(i:Int)) rfl];simp only [Option.bind_some,cond_true];rw [wrSucc (by omega)];exact ih
end
theorem Val.lev{lo:Int}{l:List WS}(v:Val lo l):∀x∈l,0≤x.Level∧x.Level<10:=fun x hx=>by
 have h:=v.each x hx;unfold inB at h;simp only [Bool.and_eq_true,decide_eq_true_eq] at h;exact ⟨h.1,h.2.1⟩
theorem f43D_eq{lo n:Int}(h0:0≤lo){l:List WS}(v:Val lo l)(hn:monB n=true):f43 l n true=some (shr l (sprD n (wss l)).2,(sprD n (wss l)).1):=by
 have hn:=monB_iff.1 hn;have hl:=v.len;have hg:geL 10 l=[]:=List.filter_eq_nil_iff.2 fun x hx e=>by
  have:=of_decide_eq_true e;have:=v.lev x hx; omega
 have:=f43D_at (by omega) (v.am h0) v.sum v.lv v.lev hn.1 hn.2 10 0 FUEL (by omega) (Qak (by omega));rw [show ((0:Nat):Int)=0 from rfl,show (10:Int)-0=10 from rfl,hg] at this;unfold f43 f43n0 f43n1;rw [show sprD n (wss [])=(n,[]) from rfl,shr_nil] at this;rw [this];rfl
theorem f25_refl{l:List WF}(hl:l.length≤maxLen):f25 l l=some true:=by
 have loop:∀(r pre:List WF),l=pre++r→f25n2L l l r ((pre.length:Nat):Int)=some .exit0:=by
  intro r
  induction r with
  | nil=>intro pre _; rfl
  | cons x r ih =>
   intro pre e;have:=ih (pre++[x]) (by rw [e]; simp);rw [f25n2L,Qbd e rfl,Option.bind_some,show Qb.eqb x x=true by simp [Qb.eqb,seq_refl],cond_true];rw [List.length_append,List.length_cons,List.length_nil] at this;rw [show ((pre.length:Nat):Int)+1=((pre.length+(0+1):Nat):Int) by omega];exact this
 have:=loop l [] rfl;rw [show (((([]:List WF).length:Nat)):Int)=0 from rfl] at this;unfold f25 f25n0 f25n1;rw [decide_eq_true rfl,cond_true,f25n2_run l l hl,this];rfl
end Go.Proofs.Ytgbolgaodaokcaa
namespace Go.Proofs.Ytgbolgaodaokcaa
set_option linter.unusedVariables false
set_option linter.unusedSimpArgs false
set_option maxRecDepth 100000
open Go.RowKit
theorem f52_eq{l:List WF}(hl:l.length≤1000)(x:WS):f52 l x=some (fx (kW x) l 0):=by
 have loop:∀(r:List WF)(i:Nat),f52n2L l x r (i:Int)=some (bif decide (0≤fx (kW x) r i) then .ret (fx (kW x) r i) else .exit0):=by
  intro r
  induction r with
  | nil=>intro i; rfl
  | cons y r ih =>
   intro i;have e:Key_.eqb (kF y) (kW x)=(decide (y.Level=x.Level)&&seq y.Owner x.Owner):=rfl;have ih:=ih (i+1);rw [show ((i+1:Nat):Int)=(i:Int)+1 by omega] at ih;rw [f52n2L,fx,e];cases decide (y.Level=x.Level) with
   | false=>rw [cond_false,Bool.false_and,cond_false,ih]
   | true =>
    cases seq y.Owner x.Owner with
    | false=>rw [cond_true,cond_false,Bool.and_false,cond_false,ih]
    | true=>rw [cond_true,cond_true,Bool.and_true,cond_true,decide_eq_true (by omega)]; rfl
 have h:=loop l 0;rw [show ((0:Nat):Int)=0 from rfl] at h;unfold f52 f52n0 f52n1;rw [f52n2_run l x (Qaa (by omega)),h];rcases fx_low (kW x) l 0 with e | ⟨j,hj,e,_⟩
 ·rw [e]; rfl
 ·rw [e,decide_eq_true (by omega)]; rfl
def known(l:List WF)(sh:List WS):Bool:=sh.all fun x=>(fd l x).isSome
def large(l:List WF)(sh:List WS):Bool:=sh.any fun x=>match fd l x with | some y=>decide (y.Size<x.Amount) | none=>false
theorem chk_eq{l:List WF} : ∀{sh:List WS} {c:Int},chk l sh c=bif known l sh then some (bif large l sh then 50 else c) else none
 | [],c=>rfl
 | x::r,c=>by
  rw [chk];unfold known large;rw [List.all_cons,List.any_cons];cases h:fd l x with
  | none=>rfl
  | some y =>
   simp only [Option.isSome_some,Bool.true_and];rw [chk_eq];unfold known large;cases decide (y.Size<x.Amount)<;>cases List.all r (fun x=>(fd l x).isSome)<;>cases List.any r (fun x=>match fd l x with | some y=>decide (y.Size<x.Amount) | none=>false)<;>rfl
theorem f51_eq{l:List WF}{sh:List WS}(hl:l.length≤1000)(hs:sh.length≤1000):f51 l sh=some (mtc l sh):=by
 have l2:∀(r:List WS)(i:Int),f51n2L l sh r i=some (bif known l r then .exit0 else .ret):=by
  intro r
  induction r with
  | nil=>intro i; rfl
  | cons x r ih =>
   intro i;unfold known at ih ⊢;rw [f51n2L,f52_eq hl,Option.bind_some,List.all_cons,fd_has]
   by_cases c:0≤fx (kW x) l 0
   ·rw [decide_eq_false (by omega),cond_false,decide_eq_true c,Bool.true_and,ih]
   ·rw [decide_eq_true (by omega),decide_eq_false c]; rfl
 have l4:∀(r:List WS)(i:Int),known l r=true→f51n4L l sh r i=some (bif large l r then .ret else .exit2):=by
  intro r
  induction r with
  | nil=>intro i _; rfl
  | cons x r ih =>
   intro i h;unfold known at h ih;rw [List.all_cons,Bool.and_eq_true] at h;unfold large at ih ⊢;rw [f51n4L,f52_eq hl,Option.bind_some,List.any_cons];cases hf:fd l x with
   | none=>rw [hf] at h; cases h.1
   | some y =>
    have hf':at? l (fx (kW x) l 0)=some y:=hf;rw [hf',Option.bind_some,ih _ h.2];dsimp only;cases decide (y.Size<x.Amount)<;>rfl
 unfold f51 f51n0 mtc;rw [f24_eq hl];simp only [Option.bind_some];cases vld 0 (l.map tos) with
 | false=>rfl
 | true =>
  simp only [cond_true];rw [decide_true,cond_true,f47_eq (by decide),Option.bind_some];cases vld 1 sh with
  | false=>rfl
  | true =>
   rw [cond_true,cond_true];unfold f51n1;rw [f51n2_run l sh (Qaa (by omega)),l2,chk_eq];cases hk:known l sh with
   | false=>rfl
   | true =>
    simp only [cond_true,Option.bind_some];unfold f51n3;rw [f51n4_run l sh (Qaa (by omega)),l4 _ _ hk];cases large l sh<;>rfl
theorem known_of{l:List WF}{sh:List WS}(h:mtc l sh=0):∀x∈sh,∃y,fd l x=some y:=by
 unfold mtc at h;cases hv:vld 0 (l.map tos) with
 | false=>rw [hv] at h; simp at h
 | true =>
  cases hw:vld 1 sh with
  | false=>rw [hv,hw] at h; simp at h
  | true =>
   rw [hv,hw,cond_true,cond_true] at h;cases hc:chk l sh 0 with
   | none=>rw [hc] at h; simp at h
   | some c=>exact chk_some hc
theorem f28_eq{l:List WF}{sh:List WS}(hl:l.length≤1000)(hs:sh.length≤1000):f28 l sh=some (bif decide (mtc l sh=0) then aftL l sh l else [],mtc l sh):=by
 have loop:∀(r:List WS)(i:Int)(st:List WF),st.length=l.length→(∀x∈r,∃y,fd l x=some y)→f28n3L l sh r i st=some (.exit0 (aftL l r st)):=by
  intro r
  induction r with
  | nil=>intro i st _ _; rfl
  | cons x r ih =>
   intro i st hst h;obtain ⟨y,hy⟩:=h x List.mem_cons_self;obtain ⟨j,hj,e1,e2⟩:=fd_idx hy;rw [f28n3L,f52_eq hl,Option.bind_some,aftL,e1,at_in (l:=st) (k:=j) (by omega)];simp only [Option.bind_some];exact ih _ _ (by rw [List.length_set]; exact hst) fun z hz=>h z (List.mem_cons_of_mem x hz)
 have h1:f28n1 l sh=some (.norm l):=by
  unfold f28n1;rw [Qan (by omega) (by decide)];cases l<;>rfl
 unfold f28 f28n0;rw [f51_eq hl hs];simp only [Option.bind_some]
 by_cases c:mtc l sh=0
 ·rw [decide_eq_true c,cond_true,cond_true,h1];simp only [Option.bind_some];unfold f28n2;rw [f28n3_run l sh l (Qaa (by omega)),loop sh 0 l rfl (known_of c),c];rfl
 ·rw [decide_eq_false c]; rfl
theorem f30_eq{l:List WF}{sh:List WS}(hl:l.length≤1000)(hs:sh.length≤1000):f30 l sh=some (bif decide (mtc l sh=0) then cal l sh 0 else 0,mtc l sh):=by
 have loop:∀(r:List WS)(c i:Int),(∀x∈r,∃y,fd l x=some y)→f30n2L l sh r c i=some (.exit0 (cal l r c)):=by
  intro r
  induction r with
  | nil=>intro c i _; rfl
  | cons x r ih =>
   intro c i h;obtain ⟨y,hy⟩:=h x List.mem_cons_self;have hy':at? l (fx (kW x) l 0)=some y:=hy;have ih:=fun c=>ih c (i+1) fun z hz=>h z (List.mem_cons_of_mem x hz);rw [f30n2L,f52_eq hl,Option.bind_some,hy',Option.bind_some,cal,hy];simp only;cases y.Called with
   | true=>rw [cond_true,cond_true]; exact ih _
   | false=>rw [cond_false,cond_false]; exact ih _
 unfold f30 f30n0;rw [f51_eq hl hs];simp only [Option.bind_some]
 by_cases c:mtc l sh=0
 ·rw [decide_eq_true c,cond_true,cond_true];unfold f30n1;rw [f30n2_run l sh 0 (Qaa (by omega)),loop sh 0 0 (known_of c),c];rfl
 ·rw [decide_eq_false c]; rfl
theorem f31_eq(s:List WS)(n:Int):f31 s n=some ((retS s n).2.2,(retS s n).1,(retS s n).2.1):=by
 unfold f31 f31n0 retS;rw [f47_eq (by decide),Option.bind_some];cases hv:vld 1 s with
 | false=>rfl
 | true =>
  have v:=val_of hv;rw [cond_true,f42_eq,Option.bind_some];cases hm:monB n with
  | false=>rfl
  | true =>
   rw [cond_true,f43D_eq (by decide) v hm];rfl
theorem f8n3_at(a:List WF)(b:List WS)(p:Bool)(c:List WF)(d:List WS)(q:Bool)(e:Int×Int×(List WS)):∀(k i f:Nat)(st:List WF),i+k=st.length→st.length≤1000→k<f→f8n3 f a b p c d q e (i:Int) st=some .exit0
 | _,_,0,_,_,_,h=>absurd h (Nat.not_lt_zero _)
 | 0,i,f+1,st,h,_,_=>by rw [f8n3,decide_eq_false (by omega),cond_false]
 | k+1,i,f+1,st,h,hb,hf=>by
  rw [f8n3,decide_eq_true (by omega),cond_true,at_in (by omega)];simp only [Option.bind_some];rw [wrSucc (by omega)];exact f8n3_at a b p c d q e k (i+1) f _ (by rw [List.length_set]; omega) (by rw [List.length_set]; exact hb) (by omega)
theorem f8n5_at(a:List WF)(b:List WS)(p:Bool)(c:List WF)(d:List WS)(q:Bool):∀(k i f:Nat)(st:List WS),i+k=st.length→st.length≤1000→k<f→f8n5 f a b p c d q (i:Int) st=some .exit2
 | _,_,0,_,_,_,h=>absurd h (Nat.not_lt_zero _)
 | 0,i,f+1,st,h,_,_=>by rw [f8n5,decide_eq_false (by omega),cond_false]
 | k+1,i,f+1,st,h,hb,hf=>by
  rw [f8n5,decide_eq_true (by omega),cond_true,at_in (by omega)];simp only [Option.bind_some];rw [wrSucc (by omega)];exact f8n5_at a b p c d q k (i+1) f _ (by rw [List.length_set]; omega) (by rw [List.length_set]; exact hb) (by omega)
theorem aft_len(l:List WF):∀(sh:List WS)(st:List WF),(aftL l sh st).length=st.length
 | [],st=>rfl
 | x::r,st=>by
  rw [aftL,aft_len l r];cases at? st (fx (kW x) l 0) with
  | none=>rfl
  | some y=>simp
theorem ret_len(l:List WS)(hl:l.length≤1000)(n:Int):(retS l n).2.2.length≤1000:=by
 unfold retS;cases vld 1 l with
 | false=>simp
 | true =>
  cases monB n with
  | false=>simp
  | true =>
   have:=shr_len l (sprD n (wss l)).2;simp only [cond_true]; omega
theorem lawReturns{P Q R:Prop}(s:List WF)(sh:List WS)(n:Int)(_:P)(_:Q)(_:R):f8 s sh n=some true:=by
 unfold f8 f8n0;rw [alive_t];simp only [Option.bind_some];rw [f12_eq,Option.bind_some]
 by_cases hg:120<s.length
 ·rw [decide_eq_true hg]; rfl
 ·by_cases hh:120<sh.length
  ·rw [decide_eq_true hh,Bool.or_true]; rfl
  ·rw [decide_eq_false hg,decide_eq_false hh];have hrl:=ret_len sh (by omega) n;have hal:(bif decide (mtc s sh=0) then aftL s sh s else []).length≤1000:=by
    cases decide (mtc s sh=0) with
    | true=>rw [cond_true,aft_len]; omega
    | false=>simp
   simp only [Bool.or_self,cond_false,cond_true];rw [f19_eq (by omega),Option.bind_some,f17_eq (by omega),Option.bind_some,f26r1_eq (by omega) (by omega),Option.bind_some,f28_eq (by omega) (by omega),Option.bind_some,f29_eq (by omega) (by omega),Option.bind_some,f30_eq (by omega) (by omega),Option.bind_some,f16r1_eq,Option.bind_some,f31_eq,Option.bind_some];generalize (bif decide (mtc s sh=0) then aftL s sh s else [])=A at *;generalize (bif decide (mtc s sh=0) then cal s sh 0 else 0)=C at *;have h1:f8n1 s sh true s sh (mtc s sh,A) (A,mtc s sh) (C,mtc s sh) (C,mtc s sh) (retS sh n) ((retS sh n).2.2,(retS sh n).1,(retS sh n).2.1)=some (.norm true):=by
    unfold f8n1;simp only;rw [f25_refl (Qaa (by omega)),Option.bind_some,cond_true,f18_refl (Qaa (by omega)),Option.bind_some];simp only [decide_true,cond_true]
   have h2:f8n2 s sh true s sh true (mtc s sh,A) (retS sh n)=some .norm:=by
    unfold f8n2;have:=f8n3_at s sh true s sh true (retS sh n) A.length 0 FUEL A (by omega) hal (Qak (by omega));rw [show ((0:Nat):Int)=0 from rfl] at this;simp only;rw [this];rfl
   have h4:f8n4 s sh true s sh true (retS sh n)=some .norm:=by
    unfold f8n4;have:=f8n5_at s sh true s sh true (retS sh n).2.2.length 0 FUEL (retS sh n).2.2 (by omega) hrl (Qak (by omega));rw [show ((0:Nat):Int)=0 from rfl] at this;rw [this];rfl
   rw [h1];simp only [Option.bind_some];rw [h2];simp only [Option.bind_some];rw [h4];simp only [Option.bind_some,cond_true];rw [f25_refl (Qaa (by omega)),Option.bind_some,cond_true,f18_refl (Qaa (by omega))];rfl
end Go.Proofs.Ytgbolgaodaokcaa
