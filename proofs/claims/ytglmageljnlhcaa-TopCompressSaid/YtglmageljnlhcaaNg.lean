/- Several texts in one. No condition. -/
import Derived.Test.YtglmageljnlhcaaNc
namespace Go.Proofs.Ytglmageljnlhcaa
set_option linter.unusedVariables false
set_option linter.unusedSimpArgs false
open Go.RowKit
def ints(c:List Nat):List Int:=c.map (fun (n:Nat)=>(n:Int))
def memB(l:List ByteArray)(s:ByteArray):Bool:=l.any fun x=>seq s x
theorem memB_app(l:List ByteArray)(t s:ByteArray):memB (l++[t]) s=(memB l s||seq s t):=by
 unfold memB; simp
theorem f51n2L_eq'(s:ByteArray)(bg:List ByteArray):∀(l:List ByteArray)(v:Int),0≤v→∃o,f51n2L bg s l v=some o∧(memB l s=true→∃w,0≤w∧o = .ret w)∧(memB l s=false→o = .exit0)
 | [],v,_=>⟨.exit0,rfl,fun h=>(by cases h),fun _=>rfl⟩
 | x::r,v,hv=>by
  obtain ⟨o,h1,h2,h3⟩:=f51n2L_eq' s bg r (v+1) (by omega);rw [f51n2L];unfold memB at h2 h3 ⊢;rw [List.any_cons];cases seq s x with
  | true=>exact ⟨.ret v,rfl,fun _=>⟨v,hv,rfl⟩,fun h=>by simp at h⟩
  | false=>exact ⟨o,h1,by simpa using h2,by simpa using h3⟩
theorem f38_eq(l:List ByteArray)(s:ByteArray)(hm:l.length≤1000000):f38 l s=some (memB l s):=by
 obtain ⟨o,h1,h2,h3⟩:=f51n2L_eq' s l l 0 (by omega);unfold f38 f38n0 f51 f51n0 f51n1;rw [f51n2_run l s (Qbt hm),h1];cases h:memB l s with
 | true =>
  obtain ⟨w,hw,rfl⟩:=h2 h;simp only [Option.bind_some];rw [decide_eq_true hw]
 | false=>rw [h3 h]; rfl
def uns(S:List ByteArray)(V:List CT):Nat:=(V.filter fun x=>!(memB S x.To)).length
theorem uns_le(S:List ByteArray)(V:List CT):uns S V≤V.length:=List.length_filter_le _ _
theorem uns_mono(S:List ByteArray)(t:ByteArray):∀V:List CT,uns (S++[t]) V≤uns S V
 | []=>Nat.le_refl _
 | x::r=>by
  have ih:=uns_mono S t r;unfold uns at *;rw [List.filter_cons,List.filter_cons,memB_app];cases memB S x.To<;>cases seq x.To t<;>simp<;>omega
theorem uns_push(S:List ByteArray):∀{V:List CT} {x:CT},x∈V→memB S x.To=false→uns (S++[x.To]) V+1≤uns S V
 | y::r,x,h,hx=>by
  have hm:=uns_mono S x.To r;have ih:=fun h'=>uns_push S (V:=r) (x:=x) h' hx;unfold uns at *;rw [List.filter_cons,List.filter_cons,memB_app];rcases List.mem_cons.1 h with rfl | h
  ·rw [hx,Qbg]; simp; omega
  ·have:=ih h;cases memB S y.To<;>cases seq y.To x.To<;>simp<;>omega
def WK(V:List CT)(K F:ByteArray)(S:List ByteArray)(w:Way_):Prop :=
 ∃c:List Nat,w.trades=ints c∧Way V K F w.party c∧c.Nodup∧(∀j∈c,∀x,V[j]?=some x→memB S x.To=true∧x.To≠F)∧c.length≤S.length
theorem WK.mono{V:List CT}{K F:ByteArray}{S:List ByteArray}{w:Way_}(t:ByteArray)(h:WK V K F S w):WK V K F (S++[t]) w:=by
 obtain ⟨c,h1,h2,h3,h4,h5⟩:=h;refine ⟨c,h1,h2,h3,fun j hj x hx=>?_,by simp; omega⟩;have:=h4 j hj x hx;exact ⟨by rw [memB_app,this.1]; rfl,this.2⟩
structure SI (V:List CT) (K F:ByteArray) (st ln:Nat) (S:List ByteArray) (Q:List Way_):Prop where
 eq:st+ln=Q.length
 wk:∀w∈Q.drop st,WK V K F S w
 m:S.length+uns S V≤V.length+1
 b:ln+uns S V≤V.length+1
def Ring(V:List CT)(c:List Nat):Prop:=∃K a,Way V K a a c∧c.Nodup∧c≠[]∧c.length≤1000
structure HV (V:List CT):Prop where
 len:V.length≤200
 ne:∀x∈V,x.From≠x.To
theorem f37_id{l:List Int}(h:l.length≤1000):f37r1 l=some l:=by
 unfold f37r1 f37r1n0;cases l with
 | nil=>rfl
 | cons a r=>rw [req,fitSmall (by omega) (by omega)]; rfl
theorem ints_len(c:List Nat):(ints c).length=c.length:=List.length_map ..
theorem ints_snoc(c:List Nat)(j:Nat):ints c++[(j:Int)]=ints (c++[j]):=by unfold ints; simp
theorem snoc_ok{V:List CT}{K F:ByteArray}{S:List ByteArray}{g:Way_}(hv:HV V)(hg:WK V K F S g){j:Nat}{x:CT}(hj:V[j]?=some x)(hK:x.Contract=K)(hF:x.From=g.party)(hSl:S.length≤201) :
  ∃c,g.trades=ints c∧c.length≤S.length∧(x.To=F→Ring V (c++[j]))∧(x.To≠F→memB S x.To=false→WK V K F (S++[x.To]) ⟨x.To,ints (c++[j])⟩):=by
 obtain ⟨c,h1,h2,h3,h4,h5⟩:=hg;refine ⟨c,h1,h5,fun e=>?_,fun e hm=>?_⟩
 ·refine ⟨K,F,?_,?_,by simp,by simp; omega⟩
  ·have:=h2.snoc hj hF hK;rw [e] at this; exact this
  ·refine List.nodup_append.2 ⟨h3,by simp,fun a ha b hb e2=>?_⟩;rw [List.mem_singleton] at hb;subst hb; subst e2;exact (h4 a ha x hj).2 e
 ·refine ⟨c++[j],rfl,h2.snoc hj hF hK,?_,fun i hi y hy=>?_,by simp; omega⟩
  ·refine List.nodup_append.2 ⟨h3,by simp,fun a ha b hb e2=>?_⟩;rw [List.mem_singleton] at hb;subst hb; subst e2;have:=(h4 a ha x hj).1;rw [hm] at this; cases this
  ·rcases List.mem_append.1 hi with hi | hi
   ·have:=h4 i hi y hy;exact ⟨by rw [memB_app,this.1]; rfl,this.2⟩
   ·rw [List.mem_singleton] at hi;subst hi;rw [hj] at hy;obtain rfl:=Option.some.inj hy;exact ⟨by rw [memB_app,Qbg,Bool.or_true],e⟩
theorem at_nat?{α:Type}(l:List α)(k:Nat):at? l (k:Int)=l[k]?:=at_nat
theorem req_t{α:Type}{b:Bool}(h:b=true)(k:Option α):req b k=k:=by rw [h]; rfl
theorem mem_at{V:List CT}{j:Nat}{x:CT}(h:V[j]?=some x):x∈V∧j<V.length:=by
 obtain ⟨h1,h2⟩:=List.getElem?_eq_some_iff.1 h;exact ⟨h2 ▸ List.getElem_mem h1,h1⟩
section
variable {V:List CT}
theorem yA_eq(hv:HV V){i0:Nat}{x0:CT}(h0:V[i0]?=some x0){g:Way_}{S:List ByteArray}{st ln:Nat}{Q:List Way_}(hs:SI V x0.Contract x0.From st ln S Q)(hg:WK V x0.Contract x0.From S g){j:Nat}{x:CT}(hj:V[j]?=some x)(hK:x.Contract=x0.Contract)(hF:x.From=g.party)(fl:Bool)(fv:List Int) :
  (∃c,f24y2n0 (j:Int) x (i0:Int) fl fv st ln g V S Q=some (.ret (ints c))∧Ring V c) ∨
  ∃st' ln' S' Q',f24y2n0 (j:Int) x (i0:Int) fl fv st ln g V S Q=some (.norm st' ln' S' Q')∧SI V x0.Contract x0.From st' ln' S' Q'∧WK V x0.Contract x0.From S' g∧ln'+uns S' V≤ln+uns S V:=by
 obtain ⟨c,c1,c2,c3,c4⟩:=snoc_ok hv hg hj hK hF (by have:=hs.m; have:=hv.len; omega);have hl:=hv.len;have hm:=hs.m;have hb:=hs.b;have e1:f37r1 g.trades=some (ints c):=by rw [c1]; exact f37_id (by rw [ints_len]; omega)
 unfold f24y2n0;rw [e1];simp only [Option.bind_some,ints_len,ints_snoc];rw [req_t (fitSmall (by omega) (by omega))]
 skip
 rw [at_nat?,h0];simp only [Option.bind_some];cases he:seq x.To x0.From with
 | true=>exact .inl ⟨c++[j],rfl,c3 (seq_iff.1 he)⟩
 | false =>
  have hne:x.To≠x0.From:=fun e=>by rw [e,Qbg] at he; cases he
  rw [cond_false,f38_eq _ _ (by omega)];simp only [Option.bind_some];cases hS:memB S x.To with
  | true=>exact .inr ⟨st,ln,S,Q,rfl,hs,hg,Nat.le_refl _⟩
  | false =>
   have hp:=uns_push S (mem_at hj).1 hS;have e2:f34r2 x.To st ln (ints (c++[j])) Q=some ():=by
    unfold f34r2 f34r2n0;rw [req_t (b:=fit (ln+1) 40) (fitSmall (by omega) (by omega)),req_t (decide_eq_true hs.eq)];rfl
   have hq:=hs.eq;rw [cond_false,req_t (fitSmall (by omega) (by omega)),e2];refine .inr ⟨_,_,_,_,rfl,⟨by simp,fun w hw=>?_,?_,?_⟩,hg.mono _,?_⟩
   ·rw [List.drop_zero] at hw;rcases List.mem_append.1 hw with hw | hw
    ·exact (hs.wk w hw).mono _
    ·rw [List.mem_singleton] at hw;subst hw;exact c4 hne hS
   ·simp; omega
   ·simp; omega
   ·simp; omega
theorem oneA_eq(hv:HV V){i0:Nat}{x0:CT}(h0:V[i0]?=some x0){g:Way_}{S:List ByteArray}{st ln:Nat}{Q:List Way_}(hs:SI V x0.Contract x0.From st ln S Q)(hg:WK V x0.Contract x0.From S g){j:Nat}{x:CT}(hj:V[j]?=some x)(fl:Bool)(fv:List Int) :
  (∃c,f50r2n1 V (j:Int) x0.Contract g.party (i0:Int) fl fv st ln g S Q=some (.ret (ints c))∧Ring V c) ∨
  ∃st' ln' S' Q',f50r2n1 V (j:Int) x0.Contract g.party (i0:Int) fl fv st ln g S Q=some (.norm st' ln' S' Q')∧SI V x0.Contract x0.From st' ln' S' Q'∧WK V x0.Contract x0.From S' g∧ln'+uns S' V≤ln+uns S V:=by
 unfold f50r2n1
 skip
 rw [at_nat?,hj];simp only [Option.bind_some];cases hK:seq x.Contract x0.Contract with
 | false=>exact .inr ⟨st,ln,S,Q,rfl,hs,hg,Nat.le_refl _⟩
 | true =>
  cases hF:seq x.From g.party with
  | false=>exact .inr ⟨st,ln,S,Q,rfl,hs,hg,Nat.le_refl _⟩
  | true =>
   rcases yA_eq hv h0 hs hg hj (seq_iff.1 hK) (seq_iff.1 hF) fl fv with ⟨c,h1,h2⟩|⟨st',ln',S',Q',h1,h2⟩
   ·exact .inl ⟨c,by rw [cond_true,cond_true,h1]; rfl,h2⟩
   ·exact .inr ⟨st',ln',S',Q',by rw [cond_true,cond_true,h1]; rfl,h2⟩
theorem allA_eq(hv:HV V){i0:Nat}{x0:CT}(h0:V[i0]?=some x0){g:Way_}(fl:Bool)(fv:List Int):∀(m f j:Nat){S:List ByteArray}{st ln:Nat}{Q:List Way_},m+j=V.length→m<f→SI V x0.Contract x0.From st ln S Q→WK V x0.Contract x0.From S g →
  (∃a b c S' Q',f50r2n2 f V x0.Contract g.party (i0:Int) fl fv g (j:Int) st ln S Q=some (.ret a b (ints c) S' Q')∧Ring V c) ∨
  ∃st' ln' S' Q',f50r2n2 f V x0.Contract g.party (i0:Int) fl fv g (j:Int) st ln S Q=some (.exit0 st' ln' S' Q')∧SI V x0.Contract x0.From st' ln' S' Q'∧ln'+uns S' V≤ln+uns S V
 | _,0,_,_,_,_,_,_,h,_,_=>absurd h (Nat.not_lt_zero _)
 | 0,f+1,j,S,st,ln,Q,hm,_,hs,hg=>by

  rw [f50r2n2,decide_eq_false (by omega)];exact .inr ⟨st,ln,S,Q,rfl,hs,Nat.le_refl _⟩
 | m+1,f+1,j,S,st,ln,Q,hm,hf,hs,hg=>by

  have hj:j<V.length:=by omega
  have hl:=hv.len;rw [f50r2n2,decide_eq_true (by omega),cond_true];rcases oneA_eq hv h0 hs hg (List.getElem?_eq_getElem hj) fl fv with ⟨c,h1,h2⟩|⟨st',ln',S',Q',h1,h2,h3,h4⟩
  ·exact .inl ⟨_,_,c,_,_,by rw [h1]; rfl,h2⟩
  ·rw [h1];simp only [Option.bind_some];rw [wrSucc (by omega)];rcases allA_eq hv h0 fl fv m f (j+1) (by omega) (by omega) h2 h3 with ⟨a,b,c,S'',Q'',k1,k2⟩|⟨st'',ln'',S'',Q'',k1,k2,k3⟩
   ·exact .inl ⟨a,b,c,S'',Q'',k1,k2⟩
   ·exact .inr ⟨st'',ln'',S'',Q'',k1,k2,by omega⟩
theorem popA_eq(hv:HV V){i0:Nat}{x0:CT}(h0:V[i0]?=some x0){S:List ByteArray}{st ln:Nat}{Q:List Way_}(hs:SI V x0.Contract x0.From st ln S Q)(hln:0<ln)(fl:Bool)(fv:List Int) :
  (∃c,f24r1n1 x0 V (i0:Int) fl fv st ln S Q=some (.ret false (ints c))∧Ring V c) ∨
  ∃fl' fv' st' ln' S' Q',f24r1n1 x0 V (i0:Int) fl fv st ln S Q=some (.norm fl' fv' st' ln' S' Q')∧SI V x0.Contract x0.From st' ln' S' Q'∧ln'+uns S' V+1≤ln+uns S V:=by
 have hl:=hv.len;have hq:=hs.eq;have hb:=hs.b;cases hQ:Q.drop st with
 | nil=>have:=congrArg List.length hQ; rw [List.length_drop] at this; simp at this; omega
 | cons g r =>
  have hlen:(g::r).length=ln:=by rw [←hQ,List.length_drop]; omega
  have e1:f35r2 st ln Q=some g:=by
   unfold f35r2 f35r2n0;rw [req_t (decide_eq_true (by omega)),hQ,List.take_of_length_le (by omega)];have e0:at? (g::r) 0=some g:=rfl;rw [e0];simp only [Option.bind_some];rw [req_t (b:=cutB 1 (ln:Int) ln) (by unfold cutB; exact decide_eq_true (by omega))];rfl
  have hg:WK V x0.Contract x0.From S g:=hs.wk g (by rw [hQ]; exact List.mem_cons_self);have hr:Q.drop (st+1)=r:=by rw [←List.drop_drop,hQ]; rfl
  have hs2:SI V x0.Contract x0.From (st+1) (ln-1) S Q:=⟨by omega,fun w hw=>hs.wk w (by rw [hr] at hw; rw [hQ]; exact List.mem_cons_of_mem _ hw),hs.m,by omega⟩;have e3:f36r1 x0.Contract g.party V=some ():=rfl;unfold f24r1n1 f24r1n2;rw [e1];simp only [Option.bind_some];rw [e3];simp only [Option.bind_some];unfold f50r2 f50r2n0;rw [show (Int.toNat 1)=1 from rfl];rcases allA_eq hv h0 (g:=g) fl fv V.length FUEL 0 (by omega) (Qay (by omega)) hs2 hg with ⟨a,b,c,S',Q',k1,k2⟩|⟨st',ln',S',Q',k1,k2,k3⟩
  ·rw [show ((0:Nat):Int)=0 from rfl] at k1;rw [k1];exact .inl ⟨c,rfl,k2⟩
  ·rw [show ((0:Nat):Int)=0 from rfl] at k1;rw [k1];exact .inr ⟨fl,fv,st',ln',S',Q',rfl,k2,by omega⟩
theorem loopA_eq(hv:HV V){i0:Nat}{x0:CT}(h0:V[i0]?=some x0):∀(f:Nat)(fl:Bool)(fv:List Int){S:List ByteArray}{st ln:Nat}{Q:List Way_},ln+uns S V<f→SI V x0.Contract x0.From st ln S Q →
  (∃c,f24r1n3 f x0 V (i0:Int) fl fv st ln S Q=some (.ret false (ints c))∧Ring V c) ∨
  ∃a b,f24r1n3 f x0 V (i0:Int) fl fv st ln S Q=some (.exit0 a b)
 | 0,_,_,_,_,_,_,h,_=>absurd h (Nat.not_lt_zero _)
 | f+1,fl,fv,S,st,ln,Q,h,hs=>by
  rw [f24r1n3]
  by_cases hln:0<ln
  ·rw [decide_eq_true (by omega:(0:Int)<(ln:Int)),cond_true];rcases popA_eq hv h0 hs hln fl fv with ⟨c,h1,h2⟩|⟨fl',fv',st',ln',S',Q',h1,h2,h3⟩
   ·exact .inl ⟨c,by rw [h1]; rfl,h2⟩
   ·rw [h1];simp only [Option.bind_some];exact loopA_eq hv h0 f fl' fv' (by omega) h2
  ·rw [decide_eq_false (by omega)];exact .inr ⟨_,_,rfl⟩
theorem backA_eq(hv:HV V){i0:Nat}(hi:i0<V.length) :
  (∃c,f24r1 (i0:Int) V=some (false,ints c)∧Ring V c)∨f24r1 (i0:Int) V=some (true,[]):=by
 have hl:=hv.len;have h0:=List.getElem?_eq_getElem hi;have hu:=uns_le [V[i0].To] V;have hw:WK V V[i0].Contract V[i0].From [V[i0].To] ⟨V[i0].To,[(i0:Int)]⟩:=by
  refine ⟨[i0],rfl,⟨_,h0,rfl,rfl,rfl⟩,by simp,fun j hj x hx=>?_,by simp⟩;rw [List.mem_singleton] at hj;subst hj;rw [h0] at hx;obtain rfl:=Option.some.inj hx;exact ⟨by unfold memB; simp [Qbg],fun e=>hv.ne _ (List.getElem_mem hi) e.symm⟩
 have hs:SI V V[i0].Contract V[i0].From 0 1 [V[i0].To] [⟨V[i0].To,[(i0:Int)]⟩]:=⟨rfl,fun w hw'=>by
  rw [List.drop_zero,List.mem_singleton] at hw';subst hw'; exact hw,by simp; omega,by omega⟩
 have e3:f34r1 V[i0].To [(i0:Int)]=some ():=rfl;unfold f24r1 f24r1n0
 skip
 rw [at_nat?,h0];simp only [Option.bind_some];rw [e3];simp only [Option.bind_some];rcases loopA_eq hv h0 FUEL true [] (Qay (by omega)) hs with ⟨c,h1,h2⟩|⟨a,b,h1⟩
 ·rw [h1]; exact .inl ⟨c,rfl,h2⟩
 ·rw [h1]; exact .inr rfl
theorem eachA_eq(hv:HV V):∀(m f i:Nat),m+i=V.length→m<f →
  (∃c,f12r1n2 f V (i:Int)=some (.ret false (ints c))∧Ring V c)∨f12r1n2 f V (i:Int)=some .exit0
 | _,0,_,_,h=>absurd h (Nat.not_lt_zero _)
 | 0,f+1,i,hm,_=>by

  rw [f12r1n2,decide_eq_false (by omega)];exact .inr rfl
 | m+1,f+1,i,hm,hf=>by

  have hl:=hv.len;rw [f12r1n2,decide_eq_true (by omega),cond_true];rcases backA_eq hv (i0:=i) (by omega) with ⟨c,h1,h2⟩ | h1
  ·rw [h1];refine .inl ⟨c,?_,h2⟩;obtain ⟨K,a,_,_,h3,_⟩:=h2;cases c with
   | nil=>exact absurd rfl h3
   | cons b r=>rfl
  ·rw [h1];simp only [Option.bind_some,cond_true];rw [wrSucc (by omega)];exact eachA_eq hv m f (i+1) (by omega) (by omega)
theorem firstA_eq(hv:HV V) :
  (∃c,f12r1 V=some (false,ints c)∧Ring V c)∨f12r1 V=some (true,[]):=by
 have hl:=hv.len;unfold f12r1 f12r1n0 f12r1n1;rcases eachA_eq hv V.length FUEL 0 (by omega) (Qay (by omega)) with ⟨c,h1,h2⟩ | h1
 ·rw [show ((0:Nat):Int)=0 from rfl] at h1;rw [h1]; exact .inl ⟨c,rfl,h2⟩
 ·rw [show ((0:Nat):Int)=0 from rfl] at h1;rw [h1]; exact .inr rfl
end
section
variable {V:List CT} {L:List CT} {s n:Nat} (hV:(L.drop s).take n=V) (hL:s+n≤L.length)
include hV hL
theorem nB:V.length=n:=by rw [←hV,List.length_take,List.length_drop]; omega
theorem yB_eq(hv:HV V){i0:Nat}{x0:CT}(h0:V[i0]?=some x0){g:Way_}{S:List ByteArray}{st ln:Nat}{Q:List Way_}(hs:SI V x0.Contract x0.From st ln S Q)(hg:WK V x0.Contract x0.From S g){j:Nat}{x:CT}(hj:V[j]?=some x)(hK:x.Contract=x0.Contract)(hF:x.From=g.party)(fl:Bool)(fv:List Int) :
  (∃c,f24y6n0 (j:Int) x s n (i0:Int) fl fv st ln g L S Q=some (.ret (ints c))∧Ring V c) ∨
  ∃st' ln' S' Q',f24y6n0 (j:Int) x s n (i0:Int) fl fv st ln g L S Q=some (.norm st' ln' S' Q')∧SI V x0.Contract x0.From st' ln' S' Q'∧WK V x0.Contract x0.From S' g∧ln'+uns S' V≤ln+uns S V:=by
 obtain ⟨c,c1,c2,c3,c4⟩:=snoc_ok hv hg hj hK hF (by have:=hs.m; have:=hv.len; omega);have hl:=hv.len;have hm:=hs.m;have hb:=hs.b;have e1:f37r1 g.trades=some (ints c):=by rw [c1]; exact f37_id (by rw [ints_len]; omega)
 unfold f24y6n0;rw [e1];simp only [Option.bind_some,ints_len,ints_snoc];rw [req_t (fitSmall (by omega) (by omega))];rw [req_t (decide_eq_true hL)];rw [hV,at_nat?,h0];simp only [Option.bind_some];cases he:seq x.To x0.From with
 | true=>exact .inl ⟨c++[j],rfl,c3 (seq_iff.1 he)⟩
 | false =>
  have hne:x.To≠x0.From:=fun e=>by rw [e,Qbg] at he; cases he
  rw [cond_false,f38_eq _ _ (by omega)];simp only [Option.bind_some];cases hS:memB S x.To with
  | true=>exact .inr ⟨st,ln,S,Q,rfl,hs,hg,Nat.le_refl _⟩
  | false =>
   have hp:=uns_push S (mem_at hj).1 hS;have e2:f34r2 x.To st ln (ints (c++[j])) Q=some ():=by
    unfold f34r2 f34r2n0;rw [req_t (b:=fit (ln+1) 40) (fitSmall (by omega) (by omega)),req_t (decide_eq_true hs.eq)];rfl
   have hq:=hs.eq;rw [cond_false,req_t (fitSmall (by omega) (by omega)),e2];refine .inr ⟨_,_,_,_,rfl,⟨by simp,fun w hw=>?_,?_,?_⟩,hg.mono _,?_⟩
   ·rw [List.drop_zero] at hw;rcases List.mem_append.1 hw with hw | hw
    ·exact (hs.wk w hw).mono _
    ·rw [List.mem_singleton] at hw;subst hw;exact c4 hne hS
   ·simp; omega
   ·simp; omega
   ·simp; omega
theorem oneB_eq(hv:HV V){i0:Nat}{x0:CT}(h0:V[i0]?=some x0){g:Way_}{S:List ByteArray}{st ln:Nat}{Q:List Way_}(hs:SI V x0.Contract x0.From st ln S Q)(hg:WK V x0.Contract x0.From S g){j:Nat}{x:CT}(hj:V[j]?=some x)(fl:Bool)(fv:List Int) :
  (∃c,f50r6n1 s n (j:Int) x0.Contract g.party (i0:Int) fl fv st ln g L S Q=some (.ret (ints c))∧Ring V c) ∨
  ∃st' ln' S' Q',f50r6n1 s n (j:Int) x0.Contract g.party (i0:Int) fl fv st ln g L S Q=some (.norm st' ln' S' Q')∧SI V x0.Contract x0.From st' ln' S' Q'∧WK V x0.Contract x0.From S' g∧ln'+uns S' V≤ln+uns S V:=by
 unfold f50r6n1;rw [req_t (decide_eq_true hL)];rw [hV,at_nat?,hj];simp only [Option.bind_some];cases hK:seq x.Contract x0.Contract with
 | false=>exact .inr ⟨st,ln,S,Q,rfl,hs,hg,Nat.le_refl _⟩
 | true =>
  cases hF:seq x.From g.party with
  | false=>exact .inr ⟨st,ln,S,Q,rfl,hs,hg,Nat.le_refl _⟩
  | true =>
   rcases yB_eq hV hL hv h0 hs hg hj (seq_iff.1 hK) (seq_iff.1 hF) fl fv with ⟨c,h1,h2⟩|⟨st',ln',S',Q',h1,h2⟩
   ·exact .inl ⟨c,by rw [cond_true,cond_true,h1]; rfl,h2⟩
   ·exact .inr ⟨st',ln',S',Q',by rw [cond_true,cond_true,h1]; rfl,h2⟩
theorem allB_eq(hv:HV V){i0:Nat}{x0:CT}(h0:V[i0]?=some x0){g:Way_}(fl:Bool)(fv:List Int):∀(m f j:Nat){S:List ByteArray}{st ln:Nat}{Q:List Way_},m+j=V.length→m<f→SI V x0.Contract x0.From st ln S Q→WK V x0.Contract x0.From S g →
  (∃a b c S' Q',f50r6n2 f s n x0.Contract g.party (i0:Int) fl fv g L (j:Int) st ln S Q=some (.ret a b (ints c) S' Q')∧Ring V c) ∨
  ∃st' ln' S' Q',f50r6n2 f s n x0.Contract g.party (i0:Int) fl fv g L (j:Int) st ln S Q=some (.exit0 st' ln' S' Q')∧SI V x0.Contract x0.From st' ln' S' Q'∧ln'+uns S' V≤ln+uns S V
 | _,0,_,_,_,_,_,_,h,_,_=>absurd h (Nat.not_lt_zero _)
 | 0,f+1,j,S,st,ln,Q,hm,_,hs,hg=>by
  have hn:=nB hV hL;rw [f50r6n2,decide_eq_false (by omega)];exact .inr ⟨st,ln,S,Q,rfl,hs,Nat.le_refl _⟩
 | m+1,f+1,j,S,st,ln,Q,hm,hf,hs,hg=>by
  have hn:=nB hV hL;have hj:j<V.length:=by omega
  have hl:=hv.len;rw [f50r6n2,decide_eq_true (by omega),cond_true];rcases oneB_eq hV hL hv h0 hs hg (List.getElem?_eq_getElem hj) fl fv with ⟨c,h1,h2⟩|⟨st',ln',S',Q',h1,h2,h3,h4⟩
  ·exact .inl ⟨_,_,c,_,_,by rw [h1]; rfl,h2⟩
  ·rw [h1];simp only [Option.bind_some];rw [wrSucc (by omega)];rcases allB_eq hv h0 fl fv m f (j+1) (by omega) (by omega) h2 h3 with ⟨a,b,c,S'',Q'',k1,k2⟩|⟨st'',ln'',S'',Q'',k1,k2,k3⟩
   ·exact .inl ⟨a,b,c,S'',Q'',k1,k2⟩
   ·exact .inr ⟨st'',ln'',S'',Q'',k1,k2,by omega⟩
theorem popB_eq(hv:HV V){i0:Nat}{x0:CT}(h0:V[i0]?=some x0){S:List ByteArray}{st ln:Nat}{Q:List Way_}(hs:SI V x0.Contract x0.From st ln S Q)(hln:0<ln)(fl:Bool)(fv:List Int) :
  (∃c,f24r3n1 x0 L s n (i0:Int) fl fv st ln S Q=some (.ret false (ints c))∧Ring V c) ∨
  ∃fl' fv' st' ln' S' Q',f24r3n1 x0 L s n (i0:Int) fl fv st ln S Q=some (.norm fl' fv' st' ln' S' Q')∧SI V x0.Contract x0.From st' ln' S' Q'∧ln'+uns S' V+1≤ln+uns S V:=by
 have hl:=hv.len;have hq:=hs.eq;have hb:=hs.b;cases hQ:Q.drop st with
 | nil=>have:=congrArg List.length hQ; rw [List.length_drop] at this; simp at this; omega
 | cons g r =>
  have hlen:(g::r).length=ln:=by rw [←hQ,List.length_drop]; omega
  have e1:f35r2 st ln Q=some g:=by
   unfold f35r2 f35r2n0;rw [req_t (decide_eq_true (by omega)),hQ,List.take_of_length_le (by omega)];have e0:at? (g::r) 0=some g:=rfl;rw [e0];simp only [Option.bind_some];rw [req_t (b:=cutB 1 (ln:Int) ln) (by unfold cutB; exact decide_eq_true (by omega))];rfl
  have hg:WK V x0.Contract x0.From S g:=hs.wk g (by rw [hQ]; exact List.mem_cons_self);have hr:Q.drop (st+1)=r:=by rw [←List.drop_drop,hQ]; rfl
  have hs2:SI V x0.Contract x0.From (st+1) (ln-1) S Q:=⟨by omega,fun w hw=>hs.wk w (by rw [hr] at hw; rw [hQ]; exact List.mem_cons_of_mem _ hw),hs.m,by omega⟩;have e3:f36r3 s n x0.Contract g.party L=some ():=rfl;unfold f24r3n1 f24r3n2;rw [e1];simp only [Option.bind_some];rw [e3];simp only [Option.bind_some];unfold f50r6 f50r6n0;rw [show (Int.toNat 1)=1 from rfl];rcases allB_eq hV hL hv h0 (g:=g) fl fv V.length FUEL 0 (by omega) (Qay (by omega)) hs2 hg with ⟨a,b,c,S',Q',k1,k2⟩|⟨st',ln',S',Q',k1,k2,k3⟩
  ·rw [show ((0:Nat):Int)=0 from rfl] at k1;rw [k1];exact .inl ⟨c,rfl,k2⟩
  ·rw [show ((0:Nat):Int)=0 from rfl] at k1;rw [k1];exact .inr ⟨fl,fv,st',ln',S',Q',rfl,k2,by omega⟩
theorem loopB_eq(hv:HV V){i0:Nat}{x0:CT}(h0:V[i0]?=some x0):∀(f:Nat)(fl:Bool)(fv:List Int){S:List ByteArray}{st ln:Nat}{Q:List Way_},ln+uns S V<f→SI V x0.Contract x0.From st ln S Q →
  (∃c,f24r3n3 f x0 L s n (i0:Int) fl fv st ln S Q=some (.ret false (ints c))∧Ring V c) ∨
  ∃a b,f24r3n3 f x0 L s n (i0:Int) fl fv st ln S Q=some (.exit0 a b)
 | 0,_,_,_,_,_,_,h,_=>absurd h (Nat.not_lt_zero _)
 | f+1,fl,fv,S,st,ln,Q,h,hs=>by
  rw [f24r3n3]
  by_cases hln:0<ln
  ·rw [decide_eq_true (by omega:(0:Int)<(ln:Int)),cond_true];rcases popB_eq hV hL hv h0 hs hln fl fv with ⟨c,h1,h2⟩|⟨fl',fv',st',ln',S',Q',h1,h2,h3⟩
   ·exact .inl ⟨c,by rw [h1]; rfl,h2⟩
   ·rw [h1];simp only [Option.bind_some];exact loopB_eq hv h0 f fl' fv' (by omega) h2
  ·rw [decide_eq_false (by omega)];exact .inr ⟨_,_,rfl⟩
theorem backB_eq(hv:HV V){i0:Nat}(hi:i0<V.length) :
  (∃c,f24r3 s n (i0:Int) L=some (false,ints c)∧Ring V c)∨f24r3 s n (i0:Int) L=some (true,[]):=by
 have hl:=hv.len;have h0:=List.getElem?_eq_getElem hi;have hu:=uns_le [V[i0].To] V;have hw:WK V V[i0].Contract V[i0].From [V[i0].To] ⟨V[i0].To,[(i0:Int)]⟩:=by
  refine ⟨[i0],rfl,⟨_,h0,rfl,rfl,rfl⟩,by simp,fun j hj x hx=>?_,by simp⟩;rw [List.mem_singleton] at hj;subst hj;rw [h0] at hx;obtain rfl:=Option.some.inj hx;exact ⟨by unfold memB; simp [Qbg],fun e=>hv.ne _ (List.getElem_mem hi) e.symm⟩
 have hs:SI V V[i0].Contract V[i0].From 0 1 [V[i0].To] [⟨V[i0].To,[(i0:Int)]⟩]:=⟨rfl,fun w hw'=>by
  rw [List.drop_zero,List.mem_singleton] at hw';subst hw'; exact hw,by simp; omega,by omega⟩
 have e3:f34r1 V[i0].To [(i0:Int)]=some ():=rfl;unfold f24r3 f24r3n0;rw [req_t (decide_eq_true hL)];rw [hV,at_nat?,h0];simp only [Option.bind_some];rw [e3];simp only [Option.bind_some];rcases loopB_eq hV hL hv h0 FUEL true [] (Qay (by omega)) hs with ⟨c,h1,h2⟩|⟨a,b,h1⟩
 ·rw [h1]; exact .inl ⟨c,rfl,h2⟩
 ·rw [h1]; exact .inr rfl
theorem eachB_eq(hv:HV V):∀(m f i:Nat),m+i=V.length→m<f →
  (∃c,f12r3n2 f s n L (i:Int)=some (.ret false (ints c))∧Ring V c)∨f12r3n2 f s n L (i:Int)=some .exit0
 | _,0,_,_,h=>absurd h (Nat.not_lt_zero _)
 | 0,f+1,i,hm,_=>by
  have hn:=nB hV hL;rw [f12r3n2,decide_eq_false (by omega)];exact .inr rfl
 | m+1,f+1,i,hm,hf=>by
  have hn:=nB hV hL;have hl:=hv.len;rw [f12r3n2,decide_eq_true (by omega),cond_true];rcases backB_eq hV hL hv (i0:=i) (by omega) with ⟨c,h1,h2⟩ | h1
  ·rw [h1];refine .inl ⟨c,?_,h2⟩;obtain ⟨K,a,_,_,h3,_⟩:=h2;cases c with
   | nil=>exact absurd rfl h3
   | cons b r=>rfl
  ·rw [h1];simp only [Option.bind_some,cond_true];rw [wrSucc (by omega)];exact eachB_eq hv m f (i+1) (by omega) (by omega)
theorem firstB_eq(hv:HV V) :
  (∃c,f12r3 s n L=some (false,ints c)∧Ring V c)∨f12r3 s n L=some (true,[]):=by
 have hl:=hv.len;unfold f12r3 f12r3n0 f12r3n1;rcases eachB_eq hV hL hv V.length FUEL 0 (by omega) (Qay (by omega)) with ⟨c,h1,h2⟩ | h1
 ·rw [show ((0:Nat):Int)=0 from rfl] at h1;rw [h1]; exact .inl ⟨c,rfl,h2⟩
 ·rw [show ((0:Nat):Int)=0 from rfl] at h1;rw [h1]; exact .inr rfl
end

end Go.Proofs.Ytglmageljnlhcaa
namespace Go.Proofs.Ytglmageljnlhcaa
set_option linter.unusedVariables false
set_option linter.unusedSimpArgs false
open Go.RowKit
theorem bd_{α β:Type}(a:α)(k:α→Option β):(some a).bind k=k a:=rfl

def am(V:List CT)(j:Nat):Int:=match V[j]? with | some x=>x.Amount | none=>0
def mnV(V:List CT)(v:Int):List Nat→Int
 | []=>v
 | j::c=>mnV V (mnI v (am V j)) c
theorem mnI_le(a b:Int):mnI a b≤a∧mnI a b≤b∧(mnI a b=a∨mnI a b=b):=by
 unfold mnI
 by_cases h:b<a
 ·rw [decide_eq_true h]; simp; omega
 ·rw [decide_eq_false h]; simp; omega
theorem mnV_ok(V:List CT):∀(c:List Nat)(v:Int),mnV V v c≤v∧(∀j∈c,mnV V v c≤am V j)∧(mnV V v c=v∨∃j∈c,mnV V v c=am V j)
 | [],v=>⟨Int.le_refl _,fun j h=>(by cases h),.inl rfl⟩
 | i::c,v=>by
  obtain ⟨h1,h2,h3⟩:=mnV_ok V c (mnI v (am V i));obtain ⟨k1,k2,k3⟩:=mnI_le v (am V i);rw [mnV];refine ⟨by omega,fun j hj=>?_,?_⟩
  ·rcases List.mem_cons.1 hj with rfl | hj
   ·omega
   ·exact h2 j hj
  ·rcases h3 with h3 | ⟨j,hj,h3⟩
   ·rcases k3 with k3 | k3
    ·exact .inl (by omega)
    ·exact .inr ⟨i,List.mem_cons_self,by omega⟩
   ·exact .inr ⟨j,List.mem_cons_of_mem _ hj,h3⟩
section
variable {V L:List CT} {s n:Nat} (hV:(L.drop s).take n=V) (hL:s+n≤L.length)
include hV hL
theorem min_eq(fl:Bool)(bf:List Int):∀(c:List Nat)(v k:Int),(∀j∈c,j<V.length)→f6r2n4L s n fl bf L (ints c) v k=some (.exit2 (mnV V v c))
 | [],v,k,_=>rfl
 | i::c,v,k,h=>by
  have hi:=h i List.mem_cons_self;show f6r2n4L s n fl bf L ((i:Int)::ints c) v k=_;rw [f6r2n4L,req_t (decide_eq_true hL),hV,at_nat?,List.getElem?_eq_getElem hi,bd_,min_eq fl bf c _ _ fun j hj=>h j (List.mem_cons_of_mem _ hj)];rw [mnV];have:am V i=V[i].Amount:=by unfold am; rw [List.getElem?_eq_getElem hi]
  rw [this]
omit hL in
theorem vw_set(j:Nat)(y:CT)(hj:j<V.length):((L.set (s+j) y).drop s).take n=V.set j y:=by
 rw [List.drop_set,if_neg (by omega),Nat.add_sub_cancel_left,List.take_set,hV]
end
structure Sub (m:Int) (c:List Nat) (V:List CT):Prop where
 bd:∀x∈V,0≤x.Amount∧x.Amount≤1125899906842624
 le:∀j∈c,j<V.length∧m≤am V j
 nd:c.Nodup
theorem am_get{V:List CT}{j:Nat}(h:j<V.length):am V j=V[j].Amount:=by unfold am; rw [List.getElem?_eq_getElem h]
theorem Sub.step{m:Int}{i:Nat}{c:List Nat}{V:List CT}(hm:0≤m)(h:Sub m (i::c) V):Sub m c (les1 m i V):=by
 have hi:=h.le i List.mem_cons_self;have hnd:=List.nodup_cons.1 h.nd;refine ⟨fun x hx=>?_,fun j hj=>?_,hnd.2⟩
 ·obtain ⟨j,hj,rfl⟩:=List.getElem_of_mem hx;have hj':j<V.length:=by rw [Qbe] at hj; exact hj
  rw [les1_get m V i j hi.1 hj'];have hb:=h.bd _ (List.getElem_mem hj')
  by_cases e:i=j
  ·subst e;rw [if_pos rfl];have:=hi.2;rw [am_get hi.1] at this;show 0≤V[i].Amount-m∧V[i].Amount-m≤_;omega
  ·rw [if_neg e]; exact hb
 ·have hj':=h.le j (List.mem_cons_of_mem _ hj);have hne:¬i=j:=fun e=>hnd.1 (e ▸ hj);refine ⟨by rw [Qbe]; exact hj'.1,?_⟩;rw [am_get (by rw [Qbe]; exact hj'.1),les1_get m V i j hi.1 hj'.1,if_neg hne];have:=hj'.2;rw [am_get hj'.1] at this;exact this
theorem Sub.all{m:Int}(hm:0≤m):∀{c:List Nat} {V:List CT},Sub m c V→∀x∈lesL m c V,0≤x.Amount∧x.Amount≤1125899906842624
 | [],V,h=>h.bd
 | i::c,V,h=>(h.step hm).all hm
theorem sub_eq{s n:Nat}{m:Int}(hm:0≤m∧m≤1125899906842624)(fl:Bool)(bf:List Int):∀(c:List Nat)(k:Int){V L:List CT},(L.drop s).take n=V→s+n≤L.length→Sub m c V →
  ∃L',f6r2n6L s n m fl bf (ints c) k L=some (.exit4 L')∧L'.length=L.length∧(L'.drop s).take n=lesL m c V
 | [],k,V,L,hV,hL,_=>⟨L,rfl,rfl,hV⟩
 | i::c,k,V,L,hV,hL,h=>by
  have hi:=h.le i List.mem_cons_self;have hb:=h.bd _ (List.getElem_mem hi.1);show ∃L',f6r2n6L s n m fl bf ((i:Int)::ints c) k L=_∧_;rw [f6r2n6L,req_t (decide_eq_true hL),hV,at_nat?,List.getElem?_eq_getElem hi.1,bd_];rw [wrIn (n:=V[i].Amount-m) (by omega) (by omega)];have hs:((L.set (s+Int.toNat (i:Int)) (les m V[i])).drop s).take n=les1 m i V:=by
   rw [Int.toNat_natCast,vw_set hV i _ hi.1,les1_set m i V hi.1]
  obtain ⟨L',h1,h2,h3⟩:=sub_eq hm fl bf c (k+1) hs (by rw [List.length_set]; exact hL) (h.step hm.1);exact ⟨L',h1,by rw [h2,List.length_set],h3⟩

theorem f14_eq(x:CT):f14 x=some (decide (x.Amount=0)):=rfl
theorem f25n2L_eq(bg:List CT):∀(l:List CT)(k:Nat),(∃pre x post,l=pre++x::post∧(∀y∈pre,y.Amount≠0)∧x.Amount=0∧f25_14n2L bg l (k:Int)=some (.ret ((k+pre.length:Nat):Int)))∨((∀y∈l,y.Amount≠0)∧f25_14n2L bg l (k:Int)=some .exit0)
 | [],k=>.inr ⟨fun y h=>(by cases h),rfl⟩
 | x::r,k=>by
  rw [f25_14n2L,f14_eq,bd_]
  by_cases h:x.Amount=0
  ·rw [decide_eq_true h];exact .inl ⟨[],x,r,rfl,fun y h=>(by cases h),h,rfl⟩
  ·rw [decide_eq_false h,cond_false];have e:((k:Int)+1)=((k+1:Nat):Int):=by omega
   rw [e];rcases f25n2L_eq bg r (k+1) with ⟨pre,y,post,h1,h2,h3,h4⟩|⟨h1,h2⟩
   ·refine .inl ⟨x::pre,y,post,by rw [h1]; rfl,fun z hz=>?_,h3,?_⟩
    ·rcases List.mem_cons.1 hz with rfl | hz
     ·exact h
     ·exact h2 z hz
    ·rw [h4,List.length_cons]
     congr 3; omega
   ·refine .inr ⟨fun z hz=>?_,h2⟩;rcases List.mem_cons.1 hz with rfl | hz
    ·exact h
    ·exact h1 z hz
theorem dropZ_all{l:List CT}(h:∀y∈l,y.Amount≠0):Qaz l=l:=by
 unfold Qaz;refine List.filter_eq_self.2 fun x hx=>?_;rw [decide_eq_false (h x hx)]; rfl
theorem dropZ_app(a b:List CT):Qaz (a++b)=Qaz a++Qaz b:=List.filter_append ..
theorem dropZ_zero{x:CT}(h:x.Amount=0)(l:List CT):Qaz (x::l)=Qaz l:=by
 unfold Qaz; rw [List.filter_cons,decide_eq_true h]; rfl
theorem dropZ_one{x:CT}(h:x.Amount≠0)(l:List CT):Qaz (x::l)=x::Qaz l:=by
 unfold Qaz; rw [List.filter_cons,decide_eq_false h]; rfl
theorem mv_eq{s n:Nat}(hn:n≤1000):∀(B:List CT)(f:Nat)(A G L:List CT),(L.drop s).take n=A++G++B→s+n≤L.length→G≠[]→B.length<f →
  ∃L' G',f13r3n2 f s n ((A.length:Nat):Int) (((A++G).length:Nat):Int) L=some (.exit0 (((A++Qaz B).length:Nat):Int) L')∧L'.length=L.length∧(L'.drop s).take n=A++Qaz B++G'
 | _,0,_,_,_,_,_,_,h=>absurd h (Nat.not_lt_zero _)
 | [],f+1,A,G,L,hV,hL,hG,_=>by
  have hlen:(A++G).length=n:=by have:=congrArg List.length hV; rw [List.length_take,List.length_drop,List.append_nil] at this; omega
  rw [f13r3n2,decide_eq_false (by omega),cond_false];exact ⟨L,G,by unfold Qaz; simp,rfl,by rw [hV]; unfold Qaz; simp⟩
 | x::B,f+1,A,G,L,hV,hL,hG,hf=>by
  have hlen:(A++G).length+1+B.length=n:=by have:=congrArg List.length hV; rw [List.length_take,List.length_drop,List.length_append,List.length_cons] at this; omega
  have hgl:(A++G).length=A.length+G.length:=List.length_append;have e1:at? ((L.drop s).take n) (((A++G).length:Nat):Int)=some x:=at_len (a:=A++G) (x:=x) (b:=B) (by rw [hV]) rfl;rw [f13r3n2,decide_eq_true (by omega),cond_true,req_t (decide_eq_true hL),e1,bd_,f14_eq,bd_,wrSucc (by omega)]
  by_cases h:x.Amount=0
  ·rw [decide_eq_true h,cond_true,dropZ_zero h];obtain ⟨L',G',h1,h2,h3⟩:=mv_eq hn B f A (G++[x]) L (by rw [hV]; simp) hL (by simp) (by simpa using hf);rw [show (A++(G++[x])).length=(A++G).length+1 by simp; omega] at h1;exact ⟨L',G',h1,h2,h3⟩
  ·rw [decide_eq_false h,cond_false,dropZ_one h];cases G with
   | nil=>exact absurd rfl hG
   | cons g G2 =>
    have e2:at? ((L.drop s).take n) ((A.length:Nat):Int)=some g:=at_len (a:=A) (x:=g) (b:=G2++x::B) (by rw [hV]; simp) rfl;rw [e2,bd_,wrSucc (by omega),Int.toNat_natCast];have hs:((L.set (s+A.length) x).drop s).take n=(A++[x])++(G2++[x])++B:=by
     rw [vw_set rfl A.length x (by rw [hV]; simp),hV]
     simp
    obtain ⟨L',G',h1,h2,h3⟩:=mv_eq hn B f (A++[x]) (G2++[x]) (L.set (s+A.length) x) hs (by rw [List.length_set]; exact hL) (by simp) (by simpa using hf);rw [show ((A++[x])++(G2++[x])).length=(A++g::G2).length+1 by simp; omega,show (A++[x]).length=A.length+1 by simp] at h1;refine ⟨L',G',?_,by rw [h2,List.length_set],by rw [h3]; simp⟩;rw [h1]; simp
theorem putL_len{α:Type}(xs:List α)(a:Nat)(ys:List α)(h:a+ys.length≤xs.length):(putL xs a ys).length=xs.length:=by
 unfold putL; simp; omega
theorem del_eq{V L:List CT}{s n:Nat}(hV:(L.drop s).take n=V)(hL:s+n≤L.length)(hn:n≤1000) :
  ∃s' L',f13r3 s n L=some (s',(Qaz V).length,L')∧(L'.drop s').take (Qaz V).length=Qaz V∧s'+(Qaz V).length≤L'.length:=by
 have hlen:V.length=n:=by rw [←hV,List.length_take,List.length_drop]; omega
 unfold f13r3 f13r3n0;rw [req_t (decide_eq_true hL),hV];unfold f25_14 f25_14n0 f25_14n1;rw [f25_14n2_run V (Qbt (by omega))];rcases f25n2L_eq V V 0 with ⟨pre,x,post,h1,h2,h3,h4⟩|⟨h1,h2⟩
 ·rw [show ((0:Nat):Int)=0 from rfl] at h4;rw [h4];simp only [Option.bind_some,Nat.zero_add];rw [decide_eq_false (by omega),cond_false];have hd:Qaz V=pre++Qaz post:=by rw [h1,dropZ_app,dropZ_zero h3,dropZ_all h2]
  obtain ⟨L',G',k1,k2,k3⟩:=mv_eq (s:=s) hn post FUEL pre [x] L (by rw [hV,h1]; simp) hL (by simp) (by
   refine Qay ?_;have:=congrArg List.length h1;rw [List.length_append,List.length_cons] at this; omega)
  have hpl:pre.length+1+post.length=n:=by rw [←hlen,h1]; simp; omega
  rw [←hd] at k1 k3;have hdl:(Qaz V).length≤n:=by rw [←hlen]; exact List.length_filter_le _ _
  unfold f13r3n1;rw [wrSucc (by omega),show pre.length+1=(pre++[x]).length by simp,k1];simp only [Option.bind_some,Int.toNat_natCast];have hpp:(putL L' (s+(Qaz V).length) (List.replicate (n-(Qaz V).length) (Qa.mk Qau Qau Qau 0))).length=L'.length:=putL_len _ _ _ (by rw [List.length_replicate]; omega);rw [req_t (b:=cutB ((Qaz V).length:Int) (n:Int) n) (by unfold cutB; exact decide_eq_true (by omega)),req_t (decide_eq_true (by omega)),req_t (decide_eq_true (by omega)),req_t (b:=cutB 0 ((Qaz V).length:Int) n) (by unfold cutB; exact decide_eq_true (by omega)),req_t (decide_eq_true (by rw [hpp]; omega))];refine ⟨s,_,rfl,?_,by rw [hpp]; omega⟩;have e1:∀Z:List CT,(Z.drop s).take (Qaz V).length=((Z.take (s+(Qaz V).length)).drop s):=fun Z=>by rw [List.take_drop,Nat.add_comm]
  have e2:(putL L' (s+(Qaz V).length) (List.replicate (n-(Qaz V).length) (Qa.mk Qau Qau Qau 0))).take (s+(Qaz V).length)=L'.take (s+(Qaz V).length):=by
   unfold putL;rw [List.append_assoc,List.take_left' (by rw [List.length_take]; omega)]
  rw [Nat.sub_zero,e1,e2,←e1];have:=congrArg (List.take (Qaz V).length) k3;rw [List.take_take,Nat.min_eq_left hdl,List.take_left' rfl] at this;exact this
 ·rw [show ((0:Nat):Int)=0 from rfl] at h2;rw [h2];simp only [Option.bind_some];rw [dropZ_all h1,hlen];exact ⟨s,L,rfl,hV,hL⟩
end Go.Proofs.Ytglmageljnlhcaa
namespace Go.Proofs.Ytglmageljnlhcaa
set_option linter.unusedVariables false
set_option linter.unusedSimpArgs false
open Go.RowKit
structure GV (A:Int) (V:List CT):Prop where
 len:V.length≤200
 el:∀x∈V,1≤x.Amount∧x.Amount≤A∧x.From≠x.To∧nmB x.From=true∧nmB x.To=true∧nmB x.Contract=true
theorem GV.hv{A:Int}{V:List CT}(h:GV A V):HV V:=⟨h.len,fun x hx=>(h.el x hx).2.2.1⟩
theorem lesL_mem{m:Int}{c:List Nat}{V:List CT}(hc:∀i∈c,i<V.length)(hn:c.Nodup){y:CT}(hy:y∈lesL m c V):∃x∈V,sam y x∧(y.Amount=x.Amount∨y.Amount=x.Amount-m):=by
 obtain ⟨j,hj,rfl⟩:=List.getElem_of_mem hy;have hj':j<V.length:=by rw [lesL_len] at hj; exact hj
 refine ⟨V[j],List.getElem_mem hj',?_⟩;rw [lesL_get m c V hc hn j hj']
 by_cases h:j∈c
 ·rw [if_pos h]; exact ⟨les_sam m _,.inr rfl⟩
 ·rw [if_neg h]; exact ⟨⟨rfl,rfl,rfl⟩,.inl rfl⟩
theorem rnd_eq{A:Int}(hA:A≤1125899906842624){V L:List CT}{s:Nat}(hV:(L.drop s).take V.length=V)(hL:s+V.length≤L.length)(hG:GV A V){c:List Nat}(hc:Ring V c)(fl:Bool) :
  ∃s' L' V',f6r2n2 s V.length fl (ints c) L=some (.norm s' V'.length L')∧(L'.drop s').take V'.length=V'∧s'+V'.length≤L'.length∧GV A V'∧V'.length<V.length∧∀w k,sT (nw w k) V'=sT (nw w k) V:=by
 obtain ⟨K,a,h1,h2,h3,h4⟩:=hc;have hlt:=h1.lt;have hgl:=hG.len;cases c with
 | nil=>exact absurd rfl h3
 | cons c0 cr =>
  have h0:=hlt c0 List.mem_cons_self;obtain ⟨m1,m2,m3⟩:=mnV_ok V (c0::cr) V[c0].Amount;generalize hm:mnV V V[c0].Amount (c0::cr)=m at m1 m2 m3;have hex:∃j∈c0::cr,m=am V j:=by
   rcases m3 with e | e
   ·exact ⟨c0,List.mem_cons_self,by rw [am_get h0]; exact e⟩
   ·exact e
  obtain ⟨j0,hj0,hj1⟩:=hex;have hj0':=hlt j0 hj0;have hmb:1≤m∧m≤1125899906842624:=by
   rw [hj1,am_get hj0'];have:=hG.el _ (List.getElem_mem hj0');omega
  have hsub:Sub m (c0::cr) V:=⟨fun x hx=>by have:=hG.el x hx; omega,fun j hj=>⟨hlt j hj,m2 j hj⟩,h2⟩;have e1:f6r2n3 s V.length fl (ints (c0::cr)) V[c0] L=some (.norm m):=by
   unfold f6r2n3;rw [f6r2n4_run _ _ _ _ _ _ (Qbt (by rw [ints_len]; omega)),min_eq hV hL fl _ (c0::cr) _ _ hlt,hm];rfl
  obtain ⟨L1,k1,k2,k3⟩:=sub_eq (s:=s) (n:=V.length) ⟨by omega,hmb.2⟩ fl (ints (c0::cr)) (c0::cr) 0 hV hL hsub;have e2:f6r2n5 s V.length fl (ints (c0::cr)) m L=some (.norm L1):=by
   unfold f6r2n5;rw [f6r2n6_run _ _ _ _ _ _ (Qbt (by rw [ints_len]; omega)),k1];rfl
  obtain ⟨s',L',d1,d2,d3⟩:=del_eq k3 (by rw [k2]; exact hL) (by omega);have hle:(lesL m (c0::cr) V).length=V.length:=lesL_len m _ V;refine ⟨s',L',Qaz (lesL m (c0::cr) V),?_,d2,d3,⟨?_,fun y hy=>?_⟩,?_,fun w k=>?_⟩
  ·unfold f6r2n2;have e0:at? (ints (c0::cr)) 0=some (c0:Int):=rfl;rw [e0,bd_,req_t (decide_eq_true hL),hV,at_nat?,List.getElem?_eq_getElem h0,bd_,e1];simp only [Option.bind_some];rw [e2];simp only [Option.bind_some];rw [d1]; rfl
  ·have:(Qaz (lesL m (c0::cr) V)).length≤(lesL m (c0::cr) V).length:=List.length_filter_le _ _;omega
  ·unfold Qaz at hy;obtain ⟨y1,y2⟩:=List.mem_filter.1 hy;have yb:=(hsub.all (by omega)) y y1;obtain ⟨x,x1,x2,x3⟩:=lesL_mem hlt h2 y1;have hx:=hG.el x x1;have hn:y.Amount≠0:=by simpa using y2
   rw [x2.1,x2.2.1,x2.2.2];exact ⟨by omega,by omega,hx.2.2⟩
  ·rw [←hle];refine List.length_filter_lt_length_iff_exists.2 ⟨(lesL m (c0::cr) V)[j0]'(by omega),List.getElem_mem _,?_⟩;rw [lesL_get m _ V hlt h2 j0 hj0',if_pos hj0];have:(les m V[j0]).Amount=0:=by
    show V[j0].Amount-m=0;rw [hj1,am_get hj0']; omega
   rw [decide_eq_true this]; simp
  ·rw [drop_sum,round_sum h1]
def Fnd(V:List CT)(r:Bool×List Int):Prop:=(∃c,r=(false,ints c)∧Ring V c)∨r=(true,[])
theorem rounds_eq{A:Int}(hA:A≤1125899906842624):∀(f:Nat){V L:List CT}{s:Nat}{r:Bool×List Int},V.length<f→(L.drop s).take V.length=V→s+V.length≤L.length→GV A V→Fnd V r →
  ∃s' L' V',f6r2n7 f s V.length r.1 r.2 L=some (.exit0 s' V'.length L')∧(L'.drop s').take V'.length=V'∧s'+V'.length≤L'.length∧GV A V'∧V'.length≤V.length∧∀w k,sT (nw w k) V'=sT (nw w k) V
 | 0,_,_,_,_,h,_,_,_,_=>absurd h (Nat.not_lt_zero _)
 | f+1,V,L,s,r,h,hV,hL,hG,hr=>by
  rw [f6r2n7];rcases hr with ⟨c,rfl,hc⟩ | rfl
  ·obtain ⟨s',L',V',k1,k2,k3,k4,k5,k6⟩:=rnd_eq hA hV hL hG hc false;have hne:(!(ints c).isEmpty)=true:=by
    obtain ⟨_,_,_,_,h3,_⟩:=hc;cases c with
    | nil=>exact absurd rfl h3
    | cons b t=>rfl
   simp only [cond_false];rw [req_t hne,k1];simp only [Option.bind_some];have hF:∃r',f12r3 s' V'.length L'=some r'∧Fnd V' r':=by
    rcases firstB_eq k2 k3 k4.hv with ⟨c',q1,q2⟩ | q1
    ·exact ⟨_,q1,.inl ⟨c',rfl,q2⟩⟩
    ·exact ⟨_,q1,.inr rfl⟩
   obtain ⟨r',q1,q2⟩:=hF;rw [q1,bd_];obtain ⟨s2,L2,V2,p1,p2,p3,p4,p5,p6⟩:=rounds_eq hA f (by omega) k2 k3 k4 q2;exact ⟨s2,L2,V2,p1,p2,p3,p4,by omega,fun w k=>(p6 w k).trans (k6 w k)⟩
  ·exact ⟨s,L,V,rfl,hV,hL,hG,Nat.le_refl _,fun _ _=>rfl⟩

theorem f23_eq'(a b:CT):∃r,f23 a b=some r:=by
 unfold f23 f23n0;rw [f22_eq,f22_eq,f22_eq];simp only [Option.bind_some,f20_eq];exact ⟨_,rfl⟩
def okT(x:CT):Bool:=nmB x.From&&(nmB x.To&&(nmB x.Contract&&(!(seq x.From x.To)&&(!(decide (x.Amount<1))&&!(decide (1125899906842624<x.Amount))))))
theorem f10n3_eq{V:List CT}(hl:V.length≤200){j:Nat}(hj:j<V.length):∃b,f10n3 V (j:Int) V[j]=some (.norm b)∧(b=false→okT V[j]=true):=by
 unfold f10n3 okT;rw [f16_eq,f16_eq,f16_eq];simp only [Option.bind_some];cases nmB V[j].From with
 | false=>exact ⟨true,rfl,fun h=>by cases h⟩
 | true =>
  cases nmB V[j].To with
  | false=>exact ⟨true,rfl,fun h=>by cases h⟩
  | true =>
   cases nmB V[j].Contract with
   | false=>exact ⟨true,rfl,fun h=>by cases h⟩
   | true =>
    cases seq V[j].From V[j].To with
    | true=>exact ⟨true,rfl,fun h=>by cases h⟩
    | false =>
     cases decide (V[j].Amount<1) with
     | true=>exact ⟨true,rfl,fun h=>by cases h⟩
     | false =>
      cases decide (1125899906842624<V[j].Amount) with
      | true=>exact ⟨true,rfl,fun h=>by cases h⟩
      | false =>
       by_cases h0:0<j
       ·rw [decide_eq_true (by omega:(0:Int)<(j:Int)),show wr64 ((j:Int)-1)=((j-1:Nat):Int) by rw [wrIn (by omega) (by omega)]; omega,at_nat?,List.getElem?_eq_getElem (by omega:j-1<V.length)];obtain ⟨r,hr⟩:=f23_eq' (V[j-1]'(by omega)) V[j];simp only [cond_true,cond_false,Option.bind_some];rw [hr];exact ⟨_,rfl,fun _=>rfl⟩
       ·rw [decide_eq_false (by omega:¬(0:Int)<(j:Int))];exact ⟨false,rfl,fun _=>rfl⟩
theorem f10n4_eq{V:List CT}(hl:V.length≤200):∀(m f j:Nat),m+j=V.length→m<f→(f10n4 f V (j:Int)=some .exit0∧∀i (h:i<V.length),j≤i→okT V[i]=true)∨f10n4 f V (j:Int)=some .ret
 | _,0,_,_,h=>absurd h (Nat.not_lt_zero _)
 | 0,f+1,j,hm,_=>by
  rw [f10n4,decide_eq_false (by omega)];exact .inl ⟨rfl,fun i h hi=>by omega⟩
 | m+1,f+1,j,hm,hf=>by
  have hj:j<V.length:=by omega
  rw [f10n4,decide_eq_true (by omega),cond_true];unfold f10n2;rw [at_nat?,List.getElem?_eq_getElem hj,bd_];obtain ⟨b,h1,h2⟩:=f10n3_eq hl hj;rw [h1];cases b with
  | true=>exact .inr rfl
  | false =>
   simp only [Option.bind_some,cond_false];rw [wrSucc (by omega)];rcases f10n4_eq hl m f (j+1) (by omega) (by omega) with ⟨k1,k2⟩ | k1
   ·refine .inl ⟨k1,fun i h hi=>?_⟩
    by_cases e:i=j
    ·subst e; exact h2 rfl
    ·exact k2 i h (by omega)
   ·exact .inr k1
theorem f10_eq(V:List CT):∃e,f10 V=some e∧(e=0→GV 1125899906842624 V):=by
 unfold f10 f10n0
 by_cases hl:V.length≤200
 ·rw [decide_eq_false (by omega),cond_false];unfold f10n1;rcases f10n4_eq hl V.length FUEL 0 (by omega) (Qay (by omega)) with ⟨h1,h2⟩ | h1
  ·rw [show ((0:Nat):Int)=0 from rfl] at h1;rw [h1];refine ⟨0,rfl,fun _=>⟨hl,fun x hx=>?_⟩⟩;obtain ⟨i,hi,rfl⟩:=List.getElem_of_mem hx;have:=h2 i hi (by omega);unfold okT at this;simp only [Bool.and_eq_true,Bool.not_eq_true',decide_eq_false_iff_not] at this;obtain ⟨a1,a2,a3,a4,a5,a6⟩:=this;exact ⟨by omega,by omega,fun e=>a4 (by rw [e]),a1,a2,a3⟩
  ·rw [show ((0:Nat):Int)=0 from rfl] at h1;rw [h1];exact ⟨8,rfl,fun h=>by cases h⟩
 ·rw [decide_eq_true (by omega)];exact ⟨4,rfl,fun h=>by cases h⟩
theorem f6_eq(V:List CT):(∃e,f6r2 V=some (0,0,e,[])∧e≠0) ∨
  (GV 1125899906842624 V∧∀A,A≤1125899906842624→GV A V→∃s L M,f6r2 V=some (s,M.length,0,L)∧(L.drop s).take M.length=M∧s+M.length≤L.length∧GV A M∧M.length≤V.length∧∀w k,sT (nw w k) M=sT (nw w k) V):=by
 obtain ⟨e,h1,h2⟩:=f10_eq V
 by_cases he:e=0
 ·have hG:=h2 he;refine .inr ⟨hG,fun A hA hGA=>?_⟩;have hl:=hG.len;have e1:f11r2 V=some V:=by
   unfold f11r2 f11r2n0;cases V with
   | nil=>rfl
   | cons a r=>rw [req,fitSmall (by omega) (by omega)]; rfl
  have hF:∃r',f12r1 V=some r'∧Fnd V r':=by
   rcases firstA_eq hG.hv with ⟨c',q1,q2⟩ | q1
   ·exact ⟨_,q1,.inl ⟨c',rfl,q2⟩⟩
   ·exact ⟨_,q1,.inr rfl⟩
  obtain ⟨r',q1,q2⟩:=hF;obtain ⟨s',L',V',p1,p2,p3,p4,p5,p6⟩:=rounds_eq hA FUEL (V:=V) (L:=V) (s:=0) (r:=r') (Qay (by omega)) (by rw [List.drop_zero,List.take_length]) (by omega) hGA q2;refine ⟨s',L',V',?_,p2,p3,p4,p5,p6⟩;unfold f6r2 f6r2n0 f6r2n1;rw [h1,bd_,he,decide_eq_true rfl,cond_true,e1,bd_,q1,bd_,p1];rfl
 ·refine .inl ⟨e,?_,he⟩;unfold f6r2 f6r2n0;rw [h1,bd_,decide_eq_false he];rfl
end Go.Proofs.Ytglmageljnlhcaa
namespace Go.Proofs.Ytglmageljnlhcaa
set_option linter.unusedVariables false
set_option linter.unusedSimpArgs false
open Go.RowKit
def sumB:Int→List UInt8→Int
 | v,[]=>v
 | v,b::r=>sumB (wr64 (v+wr64 (b.toNat:Int))) r
def pw(d:Int)(c:ByteArray):Int:=Int.tmod (sumB (wr64 d) c.data.toList) 9
def wgt(d:Int)(c:ByteArray):Int:=bif decide (0<pw d c) then pw d c else 0
def flo(d:Int)(x:CT):List NF:=bif decide (0<pw d x.Contract) then [⟨5,Qau,str_USD,x.From,x.To,x.Amount*pw d x.Contract⟩] else []
def Qal(d:Int):List CT→List NF
 | []=>[]
 | x::r=>flo d x++Qal d r
theorem pw_le(d:Int)(c:ByteArray):pw d c≤8:=by
 have:pw d c<9:=Int.tmod_lt_of_pos _ (by omega);omega
theorem flowsS_app(d:Int)(a b:List CT):Qal d (a++b)=Qal d a++Qal d b:=by
 induction a with
 | nil=>rfl
 | cons x r ih=>rw [List.cons_append,Qal,Qal,ih,List.append_assoc]
theorem flo_len(d:Int)(x:CT):(flo d x).length≤1:=by
 unfold flo;cases decide (0<pw d x.Contract)<;>simp
theorem Qcb(d:Int):∀V:List CT,(Qal d V).length≤V.length
 | []=>Nat.le_refl _
 | x::r=>by
  have h1:=Qcb d r;have h2:=flo_len d x;rw [Qal,List.length_append,List.length_cons]; omega
theorem f8n4_eq{V:List CT}{d:Int}{j:Nat}{x:CT}{bm:List NF}(hx:V[j]?=some x)(hs:x.Contract.data.toList.length≤1000):∀(r:List UInt8)(f k:Nat)(v:Int),x.Contract.data.toList.drop k=r→r.length<f→f8n4 f V d (j:Int) bm v (k:Int)=some (.exit2 (sumB v r))
 | _,0,_,_,_,h=>absurd h (Nat.not_lt_zero _)
 | [],f+1,k,v,hd,_=>by
  have:=Qbp hd;rw [f8n4,at_nat?,hx,bd_,sizeList,decide_eq_false (by omega),cond_false]; rfl
 | b::r,f+1,k,v,hd,hf=>by
  obtain ⟨h1,h2,h3⟩:=dropAt hd;rw [f8n4,at_nat?,hx,bd_,sizeList,decide_eq_true (by omega),cond_true,h1,bd_,wrSucc (by omega)];exact f8n4_eq hx hs r f (k+1) _ h3 (by simpa using hf)
theorem nm_len{s:ByteArray}(h:nmB s=true):s.data.toList.length≤40:=by
 unfold nmB at h;generalize s.data.toList=l at h;cases l with
 | nil=>simp
 | cons b r =>
  unfold isNm at h
  by_cases hs:(b::r).length≤40
  ·exact hs
  ·rw [decide_eq_false hs] at h;simp at h
theorem f8n2_eq{A:Int}(hA:A≤1125899906842624){V:List CT}(hG:GV A V)(d:Int){j:Nat}(hj:j<V.length)(bm:List NF)(hb:bm.length≤1000):f8n2 V d (j:Int) bm=some (.norm (bm++flo d V[j])):=by
 have hx:=hG.el _ (List.getElem_mem hj);have h0:=List.getElem?_eq_getElem hj;have hc:=nm_len hx.2.2.2.2.2;have h3:f8n3 V d (j:Int) bm=some (.norm (sumB (wr64 d) V[j].Contract.data.toList)):=by
  unfold f8n3;have:=f8n4_eq (V:=V) (d:=d) (bm:=bm) h0 (by omega) V[j].Contract.data.toList FUEL 0 (wr64 d) List.drop_zero (Qay (by omega));rw [show ((0:Nat):Int)=0 from rfl] at this;rw [this]; rfl
 unfold f8n2 flo;rw [h3];simp only [Option.bind_some];show (bif decide (0<pw d V[j].Contract) then _ else _)=_;have hp:=pw_le d V[j].Contract
 by_cases h:0<pw d V[j].Contract
 ·rw [decide_eq_true h,cond_true,cond_true,at_nat?,h0,bd_,req_t (fitSmall (by omega) (by omega))];have e:wr64 (V[j].Amount*pw d V[j].Contract)=V[j].Amount*pw d V[j].Contract:=by
   have h1:0≤V[j].Amount*pw d V[j].Contract:=Int.mul_nonneg (by omega) (by omega);have h2:V[j].Amount*pw d V[j].Contract≤1125899906842624*8:=Int.mul_le_mul (by omega) hp (by omega) (by omega);rw [wrIn (by omega) (by omega)]
  show some (f8n2O.norm (bm++[Qb.mk 5 Qau str_USD V[j].From V[j].To (wr64 (V[j].Amount*pw d V[j].Contract))]))=_;rw [e]
 ·rw [decide_eq_false h,cond_false,cond_false,List.append_nil]
theorem f8n5_eq{A:Int}(hA:A≤1125899906842624){V:List CT}(hG:GV A V)(d:Int):∀(r pre:List CT)(f:Nat),V=pre++r→r.length<f→f8n5 f V d ((pre.length:Nat):Int) (Qal d pre)=some (.exit0 (Qal d V))
 | _,_,0,_,h=>absurd h (Nat.not_lt_zero _)
 | [],pre,f+1,h,_=>by
  rw [List.append_nil] at h;subst h;rw [f8n5,decide_eq_false (by omega)]; rfl
 | x::r,pre,f+1,h,hf=>by
  have hl:=hG.len;have hj:pre.length<V.length:=by rw [h]; simp
  have hg:V[pre.length]=x:=by
   have:V[pre.length]?=some x:=by rw [h]; simp
   rw [List.getElem?_eq_getElem hj] at this;exact Option.some.inj this
  have ih:=f8n5_eq hA hG d r (pre++[x]) f (by rw [h]; simp) (by simpa using hf);rw [f8n5,decide_eq_true (by omega),cond_true,f8n2_eq hA hG d hj _ (by have:=Qcb d pre; omega),hg];simp only [Option.bind_some];rw [wrSucc (by omega)];rw [List.length_append,flowsS_app] at ih;simpa [Qal] using ih
theorem f8_eq{A:Int}(hA:A≤1125899906842624){V:List CT}(hG:GV A V)(d:Int):f8 V d=some (Qal d V):=by
 have hl:=hG.len;have:=f8n5_eq hA hG d V [] FUEL rfl (Qay (by omega));rw [show (([]:List CT).length:Int)=0 from rfl] at this;unfold f8 f8n0 f8n1;rw [show f8n5 FUEL V d 0 []=some (.exit0 (Qal d V)) from this];rfl

theorem seq_sy(a b:ByteArray):seq a b=seq b a:=by
 cases h:seq b a with
 | true=>rw [seq_iff.1 h,Qbg]
 | false=>rw [seqF]; intro e; rw [e,Qbg] at h; cases h
theorem flo_sum(d:Int)(k:Key_)(x:CT):sF (wH k) (flo d x)=bif decide (k.date=5)&&seq k.ccy str_USD then nw (wgt d) k.set x else 0:=by
 unfold flo nw wgt
 by_cases h:0<pw d x.Contract
 ·rw [decide_eq_true h];simp only [cond_true,sF];unfold wH kT kF sg Key_.eqb;simp only;rw [seq_sy k.set x.To,seq_sy k.set x.From,Int.mul_comm x.Amount];generalize pw d x.Contract*x.Amount=z;cases decide (k.date=5)<;>cases seq k.ccy str_USD<;>cases seq x.To k.set<;>cases seq x.From k.set<;>simp
 ·rw [decide_eq_false h];simp [sF]
theorem flows_sum(d:Int)(k:Key_):∀V:List CT,sF (wH k) (Qal d V)=bif decide (k.date=5)&&seq k.ccy str_USD then sT (nw (wgt d) k.set) V else 0
 | []=>by cases decide (k.date=5)&&seq k.ccy str_USD<;>rfl
 | x::r=>by
  rw [Qal,sF_app,flo_sum,flows_sum d k r,sT];cases decide (k.date=5)&&seq k.ccy str_USD<;>simp
theorem flo_good{V:List CT}(hG:GV 1099511627776 V)(d:Int){x:CT}(hx:x∈V):∀y∈flo d x,goodF y=true:=fun y hy=>by
 have hp:=pw_le d x.Contract;obtain ⟨h1,h2,h3,h4,h5,h6⟩:=hG.el x hx;unfold flo at hy
 by_cases h:0<pw d x.Contract
 ·rw [decide_eq_true h,cond_true,List.mem_singleton] at hy;subst hy;have a1:1*1≤x.Amount*pw d x.Contract:=Int.mul_le_mul h1 (by omega) (by omega) (by omega);have a2:x.Amount*pw d x.Contract≤1099511627776*8:=Int.mul_le_mul h2 hp (by omega) (by omega);have hc:nmB str_USD=true:=by decide
  unfold goodF namesB;simp only [Qbg,hc,h4,h5,seqF h3];rw [decide_eq_true (by omega:1≤x.Amount*pw d x.Contract),decide_eq_true (by omega:x.Amount*pw d x.Contract≤1125899906842624)];rfl
 ·rw [decide_eq_false h,cond_false] at hy; cases hy
theorem flows_good{d:Int}{V:List CT}(h:∀x∈V,∀y∈flo d x,goodF y=true):∀y∈Qal d V,goodF y=true:=fun y hy=>by
 induction V with
 | nil=>cases hy
 | cons x r ih =>
  rw [Qal] at hy;rcases List.mem_append.1 hy with hy | hy
  ·exact h x List.mem_cons_self y hy
  ·exact ih (fun z hz=>h z (List.mem_cons_of_mem _ hz)) hy
theorem flows_list{V:List CT}(hG:GV 1099511627776 V)(d:Int):listB (Qal d V)=true:=by
 unfold listB;rw [Bool.and_eq_true,decide_eq_true_eq,List.all_eq_true];have:=Qcb d V;have:=hG.len;exact ⟨by omega,flows_good fun x hx=>flo_good hG d hx⟩
theorem hub_code{V:List CT}(hG:GV 1099511627776 V)(d:Int):(hubS Qt (Qal d V)).2=0∨(hubS Qt (Qal d V)).2=14:=by
 have hh:nmB Qt=true:=by decide
 have h1:=addH_len (Qal d V) [];have h2:=Qcb d V;have h3:=madeH_len Qt (Qbj (Qal d V));have h4:=hG.len;unfold hubS hubM;rw [flows_list hG d,hh];unfold Qbj at *;simp only [List.length_nil] at h1;rw [decide_eq_false (by omega)];cases okH Qt (addH (Qal d V) []) with
 | true=>exact .inl rfl
 | false=>exact .inr rfl
theorem hub_len(hub:ByteArray)(l:List NF):(hubS hub l).1.length≤500:=by
 unfold hubS;cases listB l with
 | false=>simp
 | true =>
  cases nmB hub with
  | false=>simp
  | true =>
   show (hubM hub (Qbj l)).1.length≤500;unfold hubM;cases okH hub (Qbj l) with
   | false=>simp
   | true =>
    by_cases h:500<(madeH hub (Qbj l)).length
    ·rw [decide_eq_true h]; simp
    ·rw [decide_eq_false h];simp only [cond_true,cond_false,List.length_map];rw [sortS_len swo_S]; omega

def aV:List CT:=[(Qa.mk str_A str_B Qag 5),(Qa.mk str_B str_C Qag 3),(Qa.mk str_C str_A Qag 4)]
def aM:List CT:=[(Qa.mk str_A str_B Qag 2),(Qa.mk str_C str_A Qag 1)]
theorem a6_t:f6r1 aV=some (0,2,0,aM++[Qa.mk Qau Qau Qau 0]):=by kernel_rfl
theorem a8_t:f8 aV 1=some (Qal 1 aV):=by kernel_rfl
theorem a8_u:f8 aM 1=some (Qal 1 aM):=by kernel_rfl
theorem aV_g:GV 1099511627776 aV:=⟨by decide,fun x hx=>by
 simp only [aV,List.mem_cons,List.not_mem_nil,or_false] at hx;rcases hx with rfl | rfl | rfl<;>exact ⟨by decide,by decide,by decide,by decide,by decide,by decide⟩⟩
theorem aM_g:GV 1099511627776 aM:=⟨by decide,fun x hx=>by
 simp only [aM,List.mem_cons,List.not_mem_nil,or_false] at hx;rcases hx with rfl | rfl<;>exact ⟨by decide,by decide,by decide,by decide,by decide,by decide⟩⟩
theorem ah_t:(hubS Qt (Qal 1 aV)).2=0∧(hubS Qt (Qal 1 aV)).1.length=3:=⟨by kernel_rfl,by kernel_rfl⟩
theorem ah_u:hubS Qt (Qal 1 aV)=hubS Qt (Qal 1 aM):=by kernel_rfl
theorem alive_t:f4=some true:=by
 have l1:=Qcb 1 aV;have l2:=Qcb 1 aM;have l3:=aV_g.len;have l4:=aM_g.len;unfold f4 f4n0;rw [show f6r1 [(Qa.mk str_A str_B Qag 5),(Qa.mk str_B str_C Qag 3),(Qa.mk str_C str_A Qag 4)]=f6r1 aV from rfl,a6_t,bd_];rw [show f8 [(Qa.mk str_A str_B Qag 5),(Qa.mk str_B str_C Qag 3),(Qa.mk str_C str_A Qag 4)] 1=f8 aV 1 from rfl,a8_t,bd_,f7_eq Qt (Qbt (by omega)),bd_];rw [req_t (by rfl)];show ((f8 aM 1).bind _).bind _=_;rw [a8_u,bd_,f7_eq Qt (Qbt (by omega)),bd_,←ah_u,ah_t.1,ah_t.2,f9_same rfl (by rw [ah_t.2]; omega)];rfl

theorem f5_eq(V:List CT)(hm:V.length≤maxLen):∃b,f5 V=some b:=by
 have hL:∀(l:List CT)(v:Int),∃o,f5n4L V l v=some o:=fun l=>by
  induction l with
  | nil=>exact fun v=>⟨_,rfl⟩
  | cons x r ih =>
   intro v;rw [f5n4L];cases decide (1000<(x.From.size:Int)) with
   | true=>exact ⟨_,rfl⟩
   | false =>
    cases decide (1000<(x.To.size:Int)) with
    | true=>exact ⟨_,rfl⟩
    | false =>
     cases decide (1000<(x.Contract.size:Int)) with
     | true=>exact ⟨_,rfl⟩
     | false=>exact ih (v+1)
 obtain ⟨o,ho⟩:=hL V 0;have h3:∃o,f5n3 V=some o:=by
  unfold f5n3;rw [f5n4_run V hm,ho];cases o<;>exact ⟨_,rfl⟩
 have h1:∃o,f5n1 V=some o:=by
  unfold f5n1 f5n2;cases decide (30<(V.length:Int))<;>cases decide ((V.length:Int)≤200)<;>cases decide (210<(V.length:Int))<;>exact ⟨_,rfl⟩
 obtain ⟨o3,h3⟩:=h3;obtain ⟨o1,h1⟩:=h1;unfold f5 f5n0;rw [h1];cases o1 with
 | ret=>exact ⟨_,rfl⟩
 | norm =>
  simp only [Option.bind_some];rw [h3];cases o3<;>exact ⟨_,rfl⟩
theorem f3n1_eq(V:List CT)(hm:V.length≤maxLen)(d:Int)(b:Bool):(f3n1 V d b=some .norm∧∀x∈V,x.Amount≤1099511627776)∨f3n1 V d b=some .ret:=by
 have hL:∀(l:List CT)(v:Int),(f3n2L V d b l v=some .exit0∧∀x∈l,x.Amount≤1099511627776)∨f3n2L V d b l v=some .ret:=fun l=>by
  induction l with
  | nil=>exact fun v=>.inl ⟨rfl,fun x h=>(by cases h)⟩
  | cons x r ih =>
   intro v;rw [f3n2L]
   by_cases h:1099511627776<x.Amount
   ·rw [decide_eq_true h]; exact .inr rfl
   ·rw [decide_eq_false h,cond_false];rcases ih (v+1) with ⟨h1,h2⟩ | h1
    ·refine .inl ⟨h1,fun y hy=>?_⟩;rcases List.mem_cons.1 hy with rfl | hy
     ·omega
     ·exact h2 y hy
    ·exact .inr h1
 unfold f3n1;rw [f3n2_run V d b hm];rcases hL V 0 with ⟨h1,h2⟩ | h1
 ·rw [h1]; exact .inl ⟨rfl,h2⟩
 ·rw [h1]; exact .inr rfl
theorem lawCompress(V:List Qa)(d:Int)(hm:V.length≤maxLen∧∀x∈V,Qa.ok x)(_:okInt .u8 d):f3 V d=some true:=by
 unfold f3 f3n0;obtain ⟨b,hb⟩:=f5_eq V hm.1;rw [alive_t,bd_,hb,bd_];cases b with
 | true=>rfl
 | false =>
  rw [cond_false]
  by_cases hl:V.length≤200
  ·rw [decide_eq_false (by omega),cond_false,cond_true];rcases f3n1_eq V hm.1 d true with ⟨h1,h2⟩ | h1
   ·rw [h1,bd_];simp only;rcases f6_eq V with ⟨e,e1,e2⟩|⟨hG,hR⟩
    ·rw [e1,bd_,decide_eq_false e2]; rfl
    ·have hA:GV 1099511627776 V:=⟨hl,fun x hx=>by
      have:=hG.el x hx;exact ⟨this.1,h2 x hx,this.2.2⟩⟩
     obtain ⟨s,L,M,k1,k2,k3,k4,k5,k6⟩:=hR 1099511627776 (by omega) hA;have l1:=Qcb d V;have l2:=Qcb d M;have l3:=k4.len;have hs:hubS Qt (Qal d M)=hubS Qt (Qal d V):=hubS_same Qt (flows_list k4 d) (flows_list hA d) fun k=>by
      rw [flows_sum,flows_sum,k6]
     have hh:=hub_len Qt (Qal d V);rw [k1,bd_,decide_eq_true rfl,cond_true,f8_eq (A:=1099511627776) (by omega) hA,bd_,f7_eq Qt (Qbt (by omega)),bd_];simp only;rw [req_t (decide_eq_true k3),k2,f8_eq (A:=1099511627776) (by omega) k4,bd_,f7_eq Qt (Qbt (by omega)),bd_,hs,decide_eq_true rfl,cond_true,f9_same rfl (by omega),bd_,cond_true,decide_eq_true (by omega:((M.length:Nat):Int)≤(V.length:Int))];rcases hub_code hA d with h | h<;>rw [h]<;>rfl
   ·rw [h1,bd_]; rfl
  ·rw [decide_eq_true (by omega)]; rfl
end Go.Proofs.Ytglmageljnlhcaa
