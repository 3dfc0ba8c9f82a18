/- Several texts in one. No condition. -/
import Derived.Test.YtinabbgjignkbaaOb
namespace Go.Proofs.Ytinabbgjignkbaa
set_option linter.unusedVariables false
set_option linter.unusedSimpArgs false
open Go.RowKit Flo
def gI(l:List Int)(k:Nat):Int:=l.getD k 0
def gB(l:List Bool)(k:Nat):Bool:=l.getD k false
theorem Qau{l:List Int}{k:Nat}(h:k<l.length):l[k]?=some (gI l k):=by
 unfold gI; rw [List.getD_eq_getElem?_getD,List.getElem?_eq_getElem h]; rfl
theorem gB_at{l:List Bool}{k:Nat}(h:k<l.length):l[k]?=some (gB l k):=by
 unfold gB; rw [List.getD_eq_getElem?_getD,List.getElem?_eq_getElem h]; rfl
theorem Qaj{l:List Int}{k:Nat}(v:Int)(a:Nat)(hk:k<l.length):gI (l.set k v) a=if a=k then v else gI l a:=by
 unfold gI;rw [List.getD_eq_getElem?_getD,List.getD_eq_getElem?_getD,List.getElem?_set]
 by_cases e:k=a
 ·subst e; simp [hk]
 ·rw [if_neg e,if_neg (fun h=>e h.symm)]
theorem at_gI{l:List Int}{k:Nat}(h:k<l.length):at? l (k:Int)=some (gI l k):=by rw [at_nat,Qau h]
theorem Qap{k m:Nat}(h:k<m):idxB (k:Int) m=true:=decide_eq_true (by omega)
def ints(c:List Nat):List Int:=c.map (fun (n:Nat)=>(n:Int))
theorem ints_app(a b:List Nat):ints (a++b)=ints a++ints b:=List.map_append ..
theorem ints_len(c:List Nat):(ints c).length=c.length:=by unfold ints; rw [List.length_map]
theorem nd_len:∀(n:Nat)(l:List Nat),l.Nodup→(∀x∈l,x<n)→l.length≤n
 | 0,[],_,_=>Nat.le_refl _
 | 0,x::r,_,h=>absurd (h x List.mem_cons_self) (Nat.not_lt_zero _)
 | n+1,l,hn,h=>by
  have ih:=nd_len n (l.filter fun x=>decide (x≠n)) (hn.sublist List.filter_sublist) fun x hx=>by
   obtain ⟨h1,h2⟩:=List.mem_filter.1 hx;have:=h x h1;have:=of_decide_eq_true h2;omega
  have one:∀l:List Nat,l.Nodup→l.length≤(l.filter fun x=>decide (x≠n)).length+1:=fun l hl=>by
   induction l with
   | nil=>simp
   | cons x r ihr =>
    have hx:=List.nodup_cons.1 hl;rw [List.filter_cons]
    by_cases e:x=n
    ·subst e;have:r.filter (fun y=>decide (y≠x))=r:=List.filter_eq_self.2 fun y hy=>decide_eq_true (fun e=>hx.1 (e ▸ hy));rw [decide_eq_false (by simp),this]; simp
    ·rw [decide_eq_true e];have:=ihr hx.2;simp only [if_true,List.length_cons]; omega
  have:=one l hn;omega

abbrev XU(U:List Int):Nat→Nat→Int:=fun i j=>gI U (i*8+j)
theorem XU_set{U:List Int}(hU:U.length=80){i j a b:Nat}(hi:i<10)(hj:j<8)(ha:a<10)(hb:b<8)(v:Int):XU (U.set (i*8+j) v) a b=if a=i∧b=j then v else XU U a b:=by
 show gI (U.set (i*8+j) v) (a*8+b)=_;rw [Qaj v _ (by omega)]
 by_cases e:a=i∧b=j
 ·rw [if_pos e,if_pos (by rw [e.1,e.2])]
 ·rw [if_neg e,if_neg (by omega)]
structure FS (m n:Nat) (s0 d0:Nat→Int) (mf:Nat→Nat→Bool) (S N U:List Int) (tt:Int):Prop where
 m10:m≤10
 n8:n≤8
 sl:S.length=m
 nl:N.length=n
 ul:U.length=80
 fl:Flw m n s0 d0 mf (XU U)
 sv:∀i,i<m→gI S i=s0 i-sN n (XU U i)
 nv:∀j,j<n→gI N j=d0 j-sN m (fun i=>XU U i j)
 tv:tt=Flo.tot m n (XU U)
 sb:∀i,i<m→0≤s0 i∧s0 i≤68719476736
 db:∀j,j<n→0≤d0 j∧d0 j≤68719476736
def AP(m n:Nat)(mf:Nat→Nat→Bool)(S U A C:List Int)(c:Int):List Nat→Nat→Prop
 | [],i=>i<m∧gI A i = -2∧c≤gI S i
 | j::p,i=>i<m∧gI A i=(j:Int)∧j<n∧c≤gI U (i*8+j)∧∃i':Nat,gI C j=(i':Int)∧mf i' j=true∧AP m n mf S U A C c p i'
theorem AP.lt8{m n:Nat}{mf:Nat→Nat→Bool}{S U A C:List Int}{c:Int} : ∀{p:List Nat} {i:Nat},AP m n mf S U A C c p i→∀j∈p,j<n
 | j::p,i,h,k,hk=>by
  obtain ⟨_,_,h3,_,i',_,_,h6⟩:=h;rcases List.mem_cons.1 hk with rfl | hk
  ·exact h3
  ·exact h6.lt8 k hk
theorem AP.mono{m n:Nat}{mf:Nat→Nat→Bool}{S U A C A' C':List Int}{c:Int}(hA:∀i,i<m→gI A i≠-1→gI A' i=gI A i)(hC:∀j,j<n→0≤gI C j→gI C' j=gI C j):∀{p:List Nat} {i:Nat},AP m n mf S U A C c p i→AP m n mf S U A' C' c p i
 | [],i,h=>⟨h.1,by rw [hA i h.1 (by rw [h.2.1]; decide),h.2.1],h.2.2⟩
 | j::p,i,h=>by
  obtain ⟨h1,h2,h3,h4,i',h5,h6,h7⟩:=h;exact ⟨h1,by rw [hA i h1 (by rw [h2]; omega),h2],h3,h4,i',by rw [hC j h3 (by rw [h5]; omega),h5],h6,h7.mono hA hC⟩
def un(A:List Int):Nat→Nat
 | 0=>0
 | k+1=>un A k+(bif decide (gI A k = -1) then 1 else 0)
theorem un_set{A:List Int}{k:Nat}{v:Int}(hk:k<A.length)(h:gI A k = -1)(hv:v≠-1):∀m,un (A.set k v) m+(bif decide (k<m) then 1 else 0)=un A m
 | 0=>by simp [un]
 | m+1=>by
  have ih:=un_set hk h hv m;rw [un,un,Qaj v m hk]
  by_cases e:m=k
  ·subst e;rw [decide_eq_false (by omega:¬m<m)] at ih;rw [if_pos rfl,decide_eq_false hv,decide_eq_true (by omega:m<m+1),decide_eq_true h];simp at ih ⊢; omega
  ·rw [if_neg e];have:decide (k<m+1)=decide (k<m):=by rw [decide_eq_decide]; omega
   rw [this]; omega
structure BS (m n:Nat) (mf:Nat→Nat→Bool) (S N U:List Int) (ic jc st ln:Nat) (A C Q:List Int):Prop where
 al:A.length=10
 cl:C.length=8
 eq:st+ln=Q.length
 q:∃q:List Nat,Q.drop st=ints q∧(∀i∈q,i<m∧gI A i≠-1)∧∀i,i<m→gI A i≠-1→i∈q∨∀j,j<n→(i=ic→j<jc)→mf i j=true→0≤gI C j
 a2:∀i,i<m→0<gI S i→gI A i≠-1
 cv:∀j,j<n→gI C j = -1∨0≤gI C j
 c2:∀j,j<n→0≤gI C j→gI N j≤0
 c3:∀j,j<n→0≤gI C j→∀k,k<m→0<gI U (k*8+j)→gI A k≠-1
 ap:∀i,i<m→gI A i≠-1→∃p,AP m n mf S U A C 1 p i∧p.Nodup∧∀j∈p,0≤gI C j
 b:ln+un A m≤m
def Found(m n:Nat)(mf:Nat→Nat→Bool)(S N U A C:List Int)(j:Nat):Prop :=
 j<n∧0<gI N j∧A.length=10∧C.length=8∧∃i p,gI C j=((i:Nat):Int)∧mf i j=true∧AP m n mf S U A C 1 p i∧(j::p).Nodup
theorem sN_add1(f:Nat→Int)(k:Nat)(z:Int):∀m:Nat,sN m (fun a=>f a+(if a=k then z else 0))=sN m f+(if k<m then z else 0)
 | 0=>by simp [sN]
 | m+1=>by
  rw [sN,sN,sN_add1 f k z m]
  by_cases e:m=k
  ·subst e; simp; omega
  ·rw [if_neg e]
   by_cases h:k<m
   ·rw [if_pos h,if_pos (by omega)]; omega
   ·rw [if_neg h,if_neg (by omega)]; omega
section
variable {m n:Nat} {U:List Int} {i j:Nat}
theorem row_set(hU:U.length=80)(hn:n≤8)(hi:i<10)(hj:j<n)(v:Int){a:Nat}(ha:a<10):sN n (XU (U.set (i*8+j) v) a)=sN n (XU U a)+(if a=i then v-XU U i j else 0):=by
 by_cases e:a=i
 ·subst e;rw [if_pos rfl];have h1:sN n (XU (U.set (a*8+j) v) a)=sN n (fun b=>XU U a b+(if b=j then v-XU U a j else 0)):=Qz fun b hb=>by
   rw [XU_set hU hi (by omega) hi (by omega)]
   by_cases e2:b=j
   ·subst e2; rw [if_pos ⟨rfl,rfl⟩,if_pos rfl]; omega
   ·rw [if_neg (fun h=>e2 h.2),if_neg e2]; omega
  rw [h1,sN_add1,if_pos hj]
 ·rw [if_neg e];have h1:sN n (XU (U.set (i*8+j) v) a)=sN n (XU U a):=Qz fun b hb=>by
   rw [XU_set hU hi (by omega) ha (by omega),if_neg (fun h=>e h.1)]
  rw [h1]; omega
theorem col_set(hU:U.length=80)(hm:m≤10)(hi:i<m)(hj:j<8)(v:Int){b:Nat}(hb:b<8):sN m (fun a=>XU (U.set (i*8+j) v) a b)=sN m (fun a=>XU U a b)+(if b=j then v-XU U i j else 0):=by
 by_cases e:b=j
 ·subst e;rw [if_pos rfl];have h1:sN m (fun a=>XU (U.set (i*8+b) v) a b)=sN m (fun a=>XU U a b+(if a=i then v-XU U i b else 0)):=Qz fun a ha=>by
   rw [XU_set hU (by omega) hj (by omega) hj]
   by_cases e2:a=i
   ·subst e2; rw [if_pos ⟨rfl,rfl⟩,if_pos rfl]; omega
   ·rw [if_neg (fun h=>e2 h.1),if_neg e2]; omega
  rw [h1,sN_add1 (fun a=>XU U a b),if_pos hi]
 ·rw [if_neg e];have h1:sN m (fun a=>XU (U.set (i*8+j) v) a b)=sN m (fun a=>XU U a b):=Qz fun a ha=>by
   rw [XU_set hU (by omega) hj (by omega) hb,if_neg (fun h=>e h.2)]
  rw [h1]; omega
end
theorem AP.keep{m n:Nat}{mf:Nat→Nat→Bool}{S U U' A C:List Int}{c:Int} : ∀{p:List Nat} {i:Nat},(∀j∈p,∀a,a<m→gI U' (a*8+j)=gI U (a*8+j))→AP m n mf S U A C c p i→AP m n mf S U' A C c p i
 | [],i,_,h=>h
 | j::p,i,hU,h=>by
  obtain ⟨h1,h2,h3,h4,i',h5,h6,h7⟩:=h;exact ⟨h1,h2,h3,by rw [hU j List.mem_cons_self i h1]; exact h4,i',h5,h6,h7.keep fun k hk=>hU k (List.mem_cons_of_mem _ hk)⟩
theorem nd_one(n:Nat):∀l:List Nat,l.Nodup→l.length≤(l.filter fun x=>decide (x≠n)).length+1
 | [],_=>by simp
 | x::r,hl=>by
  have hx:=List.nodup_cons.1 hl;rw [List.filter_cons]
  by_cases e:x=n
  ·subst e;have:r.filter (fun y=>decide (y≠x))=r:=List.filter_eq_self.2 fun y hy=>decide_eq_true (fun e=>hx.1 (e ▸ hy));rw [decide_eq_false (by simp),this]; simp
  ·rw [decide_eq_true e];have:=nd_one n r hx.2;simp only [if_true,List.length_cons]; omega
theorem nd_un(A:List Int):∀(m:Nat)(q:List Nat),q.Nodup→(∀a∈q,a<m∧gI A a≠-1)→q.length+un A m≤m
 | 0,[],_,_=>by simp [un]
 | 0,x::r,_,h=>absurd (h x List.mem_cons_self).1 (Nat.not_lt_zero _)
 | m+1,q,hn,h=>by
  rw [un]
  by_cases e:gI A m = -1
  ·rw [decide_eq_true e];have:=nd_un A m q hn fun a ha=>by
    have:=h a ha;have:a≠m:=fun e2=>this.2 (e2 ▸ e);exact ⟨by omega,(h a ha).2⟩
   simp; omega
  ·rw [decide_eq_false e];have:=nd_un A m (q.filter fun x=>decide (x≠m)) (hn.sublist List.filter_sublist) fun a ha=>by
    obtain ⟨h1,h2⟩:=List.mem_filter.1 ha;have:=of_decide_eq_true h2;exact ⟨by have:=(h a h1).1; omega,(h a h1).2⟩
   have:=nd_one m q hn
   simp; omega
theorem gI_rep(k:Nat)(v:Int)(a:Nat)(h:a<k):gI (List.replicate k v) a=v:=by
 unfold gI;rw [List.getD_eq_getElem?_getD,List.getElem?_replicate,if_pos h]; rfl
theorem sN_bd{f:Nat→Int}{b:Int} : ∀{n:Nat},(∀j,j<n→f j≤b)→sN n f≤b*n
 | 0,_=>by simp [sN]
 | n+1,h=>by
  have h1:=sN_bd (n:=n) fun j hj=>h j (by omega);have h2:=h n (by omega);rw [sN,Int.natCast_add,Int.mul_add];simp only [Int.natCast_one,Int.mul_one];omega
theorem sN_ge{f:Nat→Int}{k:Nat} : ∀{n:Nat},k<n→(∀i,i<n→0≤f i)→f k≤sN n f
 | n+1,hk,h=>by
  rw [sN];have h1:0≤sN n f:=sN_nn fun i hi=>h i (by omega);have h2:=h n (by omega)
  by_cases e:k=n
  ·subst e; omega
  ·have:=sN_ge (n:=n) (by omega:k<n) fun i hi=>h i (by omega);omega
theorem tot_le{m n:Nat}{s d:Nat→Int}{mf:Nat→Nat→Bool}{x:Nat→Nat→Int}(h:Flw m n s d mf x):Flo.tot m n x≤sN n d:=by
 have:=h.le_cut (fun _=>false);unfold cut at this;have e:sN m (fun i=>bif tch n mf (fun _=>false) i then s i else 0)=0:=Qar fun a _=>by
  cases k:tch n mf (fun _=>false) a with
  | false=>rfl
  | true =>
   obtain ⟨b,_,hb,_⟩:=Qag.1 k;cases hb
 rw [e] at this;simp only [cond_false] at this;show _≤sN n (fun j=>d j);omega
theorem FS.start{m n:Nat}{mf:Nat→Nat→Bool}{S N:List Int}{s0 d0:Nat→Int}(hm:m≤10)(hn:n≤8)(hS:S.length=m)(hN:N.length=n)(hs:∀i,i<m→gI S i=s0 i)(hd:∀j,j<n→gI N j=d0 j)(sb:∀i,i<m→0≤s0 i∧s0 i≤68719476736)(db:∀j,j<n→0≤d0 j∧d0 j≤68719476736):FS m n s0 d0 mf S N (List.replicate 80 0) 0:=by
 have hx:∀a b,a<m→b<n→XU (List.replicate 80 0) a b=0:=fun a b ha hb=>gI_rep 80 0 _ (by omega);have hr:∀a,a<m→sN n (XU (List.replicate 80 0) a)=0:=fun a ha=>Qar fun b hb=>hx a b ha hb;have hc:∀b,b<n→sN m (fun a=>XU (List.replicate 80 0) a b)=0:=fun b hb=>Qar fun a ha=>hx a b ha hb;exact ⟨hm,hn,hS,hN,by simp,⟨fun a b ha hb=>by rw [hx a b ha hb]; exact Int.le_refl _,fun a b ha hb h=>absurd (hx a b ha hb) h,fun a ha=>by rw [hr a ha]; exact (sb a ha).1,fun b hb=>by rw [hc b hb]; exact (db b hb).1⟩,fun a ha=>by rw [hr a ha,hs a ha]; omega,fun b hb=>by rw [hc b hb,hd b hb]; omega,(Qar fun a ha=>hr a ha).symm,sb,db⟩
theorem f45_id{l:List Int}(h:l.length≤1000):f45r2 l=some l:=by
 unfold f45r2 f45r2n0;cases l with
 | nil=>rfl
 | cons a r=>rw [Qw (Qao (by omega) (by omega))]; rfl
theorem f45_pre{l:List Int}{k:Nat}(hk:k≤l.length)(h:k≤1000):f45r1 k l=some (l.take k):=by
 unfold f45r1 f45r1n0;rw [Qw (decide_eq_true (by omega)),List.drop_zero];cases he:l.take k with
 | nil=>rfl
 | cons a r =>
  have:=congrArg List.length he;rw [List.length_take] at this;rw [Qw (Qao (by omega) (by omega))]; rfl
theorem gI_take{l:List Int}{k a:Nat}(h:a<k):gI (l.take k) a=gI l a:=by
 unfold gI;rw [List.getD_eq_getElem?_getD,List.getD_eq_getElem?_getD,List.getElem?_take,if_pos h]
theorem mnI_le(a b:Int):mnI a b≤a∧mnI a b≤b∧(mnI a b=a∨mnI a b=b):=by
 unfold mnI
 by_cases h:b<a
 ·rw [decide_eq_true h]; simp; omega
 ·rw [decide_eq_false h]; simp; omega
section
variable {m n:Nat} {mf:Nat→Nat→Bool} {s0 d0:Nat→Int} {B:List Bool} {S N U:List Int} (tt:Int) (p q:List Int) (cs:List AC) (ls:List AA)
theorem callsr1_eq:f23r1n1 tt p q cs B ls S N U=some (.norm (List.replicate 8 (-1))):=by
 unfold f23r1n1;have:f23r1n2 FUEL tt p q cs B ls S N U 0 (List.replicate 8 0)=some (.exit2 (List.replicate 8 (-1))):=by rfl
 rw [this]; rfl
theorem innerr1_eq(hS:S.length=m)(hm:m≤10)(hUl:U.length=80){j:Nat}(hj:j<8)(i ee:Int)(C:List Int):∀(r f k:Nat){st ln:Nat}{A Q:List Int}{q0:List Nat},k+r=m→r<f→A.length=10→st+ln=Q.length→Q.drop st=ints q0→ln+un A m≤10 →
  ∃ st' ln' A' Q' new, f23r1n7 f tt ee i (j : Int) N S p q cs B ls U C st ln (k : Int) A Q = some (.exit10 st' ln' A' Q') ∧ A'.length = 10 ∧ st' + ln' = Q'.length ∧ Q'.drop st' = ints (q0 ++ new) ∧ ln' + un A' m = ln + un A m ∧
   (∀a,a<m→gI A a≠-1→gI A' a=gI A a)∧(∀a,a<m→gI A a = -1→gI A' a = -1∨(gI A' a=(j:Int)∧0<gI U (a*8+j)∧a∈new))∧(∀a∈new,a<m∧gI A' a≠-1)∧(∀a,k≤a→a<m→0<gI U (a*8+j)→gI A' a≠-1)
 | _,0,_,_,_,_,_,_,_,h,_,_,_,_=>absurd h (Nat.not_lt_zero _)
 | 0,f+1,k,st,ln,A,Q,q0,hk,_,hA,hq,hQ,hb=>by
  rw [f23r1n7,decide_eq_false (by omega),cond_false];exact ⟨st,ln,A,Q,[],rfl,hA,hq,by rw [List.append_nil]; exact hQ,rfl,fun _ _ _=>rfl,fun _ _ h=>.inl h,fun _ h=>(by cases h),fun a h1 h2 _=>by omega⟩
 | r+1,f+1,k,st,ln,A,Q,q0,hk,hf,hA,hq,hQ,hb=>by
  have hkA:k<A.length:=by omega
  rw [f23r1n7,decide_eq_true (by omega),cond_true,Qw (Qap (by omega)),Int.toNat_natCast,Nat.mul_one,Qau hkA,bd_,wrSucc (by omega)]
  by_cases h1:gI A k = -1
  ·rw [decide_eq_true h1,cond_true,Qw (Qap hj),Int.toNat_natCast,Nat.mul_one,Qau (by omega),bd_]
   by_cases h2:0<gI U (k*8+j)
   ·rw [decide_eq_true h2,cond_true,Qw (Qao (by omega) (by omega)),Qw (decide_eq_true hq)];have hun:=un_set hkA h1 (v:=(j:Int)) (by omega) m;rw [decide_eq_true (by omega:k<m)] at hun;simp only [cond_true] at hun;have hqn:Q.drop st++[(k:Int)]=ints (q0++[k]):=by rw [hQ,ints_app]; rfl
    have hln:(Q.drop st++[(k:Int)]).length=ln+1:=by rw [List.length_append,List.length_drop]; simp; omega
    obtain ⟨st',ln',A',Q',new,g1,g2,g3,g4,g5,g6,g7,g8,g9⟩:=innerr1_eq hS hm hUl hj i ee C r f (k+1) (st:=0) (ln:=(Q.drop st++[(k:Int)]).length) (A:=A.set k (j:Int)) (Q:=Q.drop st++[(k:Int)]) (q0:=q0++[k]) (by omega) (by omega) (by rw [List.length_set]; exact hA) (by omega) (by rw [List.drop_zero]; exact hqn) (by omega);have hkv:gI A' k=(j:Int):=by
     rw [g6 k (by omega) (by rw [Qaj _ _ hkA,if_pos rfl]; omega),Qaj _ _ hkA,if_pos rfl]
    refine ⟨st',ln',A',Q',[k]++new,g1,g2,g3,by rw [g4,List.append_assoc],by omega,fun a ha hne=>?_,fun a ha he=>?_,fun a ha=>?_,fun a ha1 ha2 ha3=>?_⟩
    ·have hne2:a≠k:=fun e=>hne (e ▸ h1);have:=g6 a ha (by rw [Qaj _ _ hkA,if_neg hne2]; exact hne);rw [this,Qaj _ _ hkA,if_neg hne2]
    ·by_cases e:a=k
     ·subst e; exact .inr ⟨hkv,h2,by simp⟩
     ·rcases g7 a ha (by rw [Qaj _ _ hkA,if_neg e]; exact he) with h | ⟨h3,h4,h5⟩
      ·exact .inl h
      ·exact .inr ⟨h3,h4,List.mem_append_right _ h5⟩
    ·rcases List.mem_append.1 ha with ha | ha
     ·rw [List.mem_singleton] at ha;subst ha;exact ⟨by omega,by rw [hkv]; omega⟩
     ·exact g8 a ha
    ·by_cases e:a=k
     ·subst e; rw [hkv]; omega
     ·exact g9 a (by omega) ha2 ha3
   ·rw [decide_eq_false h2,cond_false];obtain ⟨st',ln',A',Q',new,g1,g2,g3,g4,g5,g6,g7,g8,g9⟩:=innerr1_eq hS hm hUl hj i ee C r f (k+1) (by omega) (by omega) hA hq hQ hb;refine ⟨st',ln',A',Q',new,g1,g2,g3,g4,g5,g6,g7,g8,fun a ha1 ha2 ha3=>?_⟩
    by_cases e:a=k
    ·subst e; exact absurd ha3 h2
    ·exact g9 a (by omega) ha2 ha3
  ·rw [decide_eq_false h1,cond_false];obtain ⟨st',ln',A',Q',new,g1,g2,g3,g4,g5,g6,g7,g8,g9⟩:=innerr1_eq hS hm hUl hj i ee C r f (k+1) (by omega) (by omega) hA hq hQ hb;refine ⟨st',ln',A',Q',new,g1,g2,g3,g4,g5,g6,g7,g8,fun a ha1 ha2 ha3=>?_⟩
   by_cases e:a=k
   ·subst e; rw [g6 a ha2 h1]; exact h1
   ·exact g9 a (by omega) ha2 ha3
theorem oner1_eq(hS:S.length=m)(hN:N.length=n)(hm:m≤10)(hn:n≤8)(hB:B.length=80)(hU:U.length=80)(hmf:∀a b,a<m→b<n→mf a b=gB B (a*8+b))(ee:Int){i j st ln:Nat}{A C Q:List Int}(hi:i<m)(hj:j<n)(hb:BS m n mf S N U i j st ln A C Q)(hAi:gI A i≠-1) :
  (f23r1n6 tt st ln ee (i:Int) N (j:Int) p q cs B ls S U A C Q=some .exit8∧Found m n mf S N U A (C.set (j*1) (i:Int)) j) ∨
  ∃st' ln' A' C' Q',f23r1n6 tt st ln ee (i:Int) N (j:Int) p q cs B ls S U A C Q=some (.norm st' ln' A' C' Q')∧BS m n mf S N U i (j+1) st' ln' A' C' Q'∧ln'+un A' m=ln+un A m∧gI A' i≠-1:=by
 obtain ⟨pp,hp1,hp2,hp3⟩:=hb.ap i hi hAi;have hcl:=hb.cl;unfold f23r1n6;rw [Qw (Qap (by omega)),Qw (Qap (by omega)),Int.toNat_natCast,Int.toNat_natCast,Nat.mul_one,gB_at (by omega),bd_,←hmf i j hi hj];cases hmij:mf i j with
 | false =>
  refine .inr ⟨st,ln,A,C,Q,rfl,{ hb with q:=?_ },rfl,hAi⟩;obtain ⟨q0,q1,q2,q3⟩:=hb.q;refine ⟨q0,q1,q2,fun a ha1 ha2=>(q3 a ha1 ha2).imp id fun h k hk1 hk2 hk3=>?_⟩;refine h k hk1 (fun e=>?_) hk3;have:=hk2 e;have:k≠j:=fun e2=>by rw [e,e2,hmij] at hk3; cases hk3
  omega
 | true =>
  rw [cond_true,Qau (by omega),bd_]
  by_cases hC:0≤gI C j
  ·rw [decide_eq_true hC,cond_true];refine .inr ⟨st,ln,A,C,Q,rfl,{ hb with q:=?_ },rfl,hAi⟩;obtain ⟨q0,q1,q2,q3⟩:=hb.q;refine ⟨q0,q1,q2,fun a ha1 ha2=>(q3 a ha1 ha2).imp id fun h k hk1 hk2 hk3=>?_⟩
   by_cases e:k=j
   ·subst e; exact hC
   ·exact h k hk1 (fun e2=>by have:=hk2 e2; omega) hk3
  ·have hCj:gI C j = -1:=(hb.cv j hj).elim id fun h=>absurd h hC;have hjp:j∉pp:=fun h=>hC (hp3 j h);have hset:∀k,gI (C.set j (i:Int)) k=if k=j then (i:Int) else gI C k:=fun k=>Qaj _ _ (by omega);rw [decide_eq_false hC,cond_false,at_gI (by omega),bd_]
   by_cases hNj:0<gI N j
   ·rw [decide_eq_true hNj,cond_true];refine .inl ⟨rfl,hj,hNj,hb.al,by rw [List.length_set]; exact hcl,i,pp,by rw [hset,if_pos rfl],hmij,?_,List.nodup_cons.2 ⟨hjp,hp2⟩⟩;exact hp1.mono (fun _ _ _=>rfl) fun k hk hk2=>by rw [hset,if_neg (fun e=>by rw [e] at hk2; exact hC hk2)]
   ·rw [decide_eq_false hNj,cond_false];obtain ⟨q0,q1,q2,q3⟩:=hb.q;obtain ⟨st',ln',A',Q',new,g1,g2,g3,g4,g5,g6,g7,g8,g9⟩:=innerr1_eq tt p q cs ls (B:=B) hS hm hU (j:=j) (by omega) (i:Int) ee C (N:=N) m FUEL 0 (by omega) (Qad (by omega)) hb.al hb.eq q1 (by have:=hb.b; omega);rw [show ((0:Nat):Int)=0 from rfl] at g1;rw [g1];have hA1:∀a,a<m→gI A a≠-1→gI A' a≠-1:=fun a ha h=>by rw [g6 a ha h]; exact h
    have hC1:∀k,0≤gI C k→0≤gI (C.set j (i:Int)) k:=fun k hk=>by
     rw [hset]
     by_cases e:k=j
     ·rw [if_pos e]; omega
     ·rw [if_neg e]; exact hk
    have hmono:∀{c:Int} {w:List Nat} {a:Nat},AP m n mf S U A C c w a→AP m n mf S U A' (C.set j (i:Int)) c w a:=fun h=>h.mono g6 fun k hk hk2=>by rw [hset,if_neg (fun e=>by rw [e] at hk2; exact hC hk2)]
    refine .inr ⟨st',ln',A',C.set j (i:Int),Q',rfl,⟨g2,by rw [List.length_set]; exact hcl,g3,⟨q0++new,g4,fun a ha=>?_,fun a ha1 ha2=>?_⟩,fun a ha1 ha2=>hA1 a ha1 (hb.a2 a ha1 ha2),fun k hk=>?_,fun k hk hk2=>?_,fun k hk hk2 a ha1 ha2=>?_,fun a ha1 ha2=>?_,by have:=hb.b; omega⟩,g5,hA1 i hi hAi⟩
    ·rcases List.mem_append.1 ha with ha | ha
     ·exact ⟨(q2 a ha).1,hA1 a (q2 a ha).1 (q2 a ha).2⟩
     ·exact g8 a ha
    ·by_cases hAa:gI A a = -1
     ·rcases g7 a ha1 hAa with h | ⟨_,_,h⟩
      ·exact absurd h ha2
      ·exact .inl (List.mem_append_right _ h)
     ·rcases q3 a ha1 hAa with h | h
      ·exact .inl (List.mem_append_left _ h)
      ·refine .inr fun k hk1 hk2 hk3=>?_
       by_cases e:k=j
       ·subst e; rw [hset,if_pos rfl]; omega
       ·exact hC1 k (h k hk1 (fun e2=>by have:=hk2 e2; omega) hk3)
    ·rw [hset]
     by_cases e:k=j
     ·rw [if_pos e]; exact .inr (by omega)
     ·rw [if_neg e]; exact hb.cv k hk
    ·rw [hset] at hk2
     by_cases e:k=j
     ·subst e; omega
     ·rw [if_neg e] at hk2; exact hb.c2 k hk hk2
    ·rw [hset] at hk2
     by_cases e:k=j
     ·subst e; exact g9 a (Nat.zero_le _) ha1 ha2
     ·rw [if_neg e] at hk2; exact hA1 a ha1 (hb.c3 k hk hk2 a ha1 ha2)
    ·by_cases hAa:gI A a = -1
     ·rcases g7 a ha1 hAa with h | ⟨h1,h2,_⟩
      ·exact absurd h ha2
      ·refine ⟨j::pp,⟨ha1,h1,hj,by omega,i,by rw [hset,if_pos rfl],hmij,hmono hp1⟩,List.nodup_cons.2 ⟨hjp,hp2⟩,fun k hk=>?_⟩;rcases List.mem_cons.1 hk with rfl | hk
       ·rw [hset,if_pos rfl]; omega
       ·exact hC1 k (hp3 k hk)
     ·obtain ⟨w,w1,w2,w3⟩:=hb.ap a ha1 hAa;exact ⟨w,hmono w1,w2,fun k hk=>hC1 k (w3 k hk)⟩
theorem scanr1_eq(hS:S.length=m)(hN:N.length=n)(hm:m≤10)(hn:n≤8)(hB:B.length=80)(hU:U.length=80)(hmf:∀a b,a<m→b<n→mf a b=gB B (a*8+b))(ee:Int){i:Nat}(hi:i<m):∀(w f j:Nat){st ln:Nat}{A C Q:List Int},j+w=n→w<f→BS m n mf S N U i j st ln A C Q→gI A i≠-1 →
  (∃j' st' ln' A' C' Q',f23r1n8 f tt ee (i:Int) N p q cs B ls S U st ln (j:Int) A C Q=some (.exit8 st' ln' ((j':Nat):Int) A' C' Q')∧Found m n mf S N U A' C' j') ∨
  ∃st' ln' A' C' Q',f23r1n8 f tt ee (i:Int) N p q cs B ls S U st ln (j:Int) A C Q=some (.exit8 st' ln' ee A' C' Q')∧BS m n mf S N U i n st' ln' A' C' Q'∧ln'+un A' m=ln+un A m
 | _,0,_,_,_,_,_,_,_,h,_,_=>absurd h (Nat.not_lt_zero _)
 | 0,f+1,j,st,ln,A,C,Q,hw,_,hb,_=>by
  have e:j=n:=by omega
  subst e;rw [f23r1n8,decide_eq_false (by omega),cond_false];exact .inr ⟨st,ln,A,C,Q,rfl,hb,rfl⟩
 | w+1,f+1,j,st,ln,A,C,Q,hw,hf,hb,hAi=>by
  rw [f23r1n8,decide_eq_true (by omega),cond_true];rcases oner1_eq tt p q cs ls hS hN hm hn hB hU hmf ee hi (by omega:j<n) hb hAi with ⟨h1,h2⟩|⟨st',ln',A',C',Q',h1,h2,h3,h4⟩
  ·rw [h1];simp only [Option.bind_some,Int.toNat_natCast];exact .inl ⟨j,st,ln,A,_,Q,rfl,h2⟩
  ·rw [h1];simp only [Option.bind_some];rw [wrSucc (by omega)];rcases scanr1_eq hS hN hm hn hB hU hmf ee hi w f (j+1) (by omega) (by omega) h2 h4 with ⟨j',st2,ln2,A2,C2,Q2,k1,k2⟩|⟨st2,ln2,A2,C2,Q2,k1,k2,k3⟩
   ·exact .inl ⟨j',st2,ln2,A2,C2,Q2,k1,k2⟩
   ·exact .inr ⟨st2,ln2,A2,C2,Q2,k1,k2,by omega⟩
theorem popr1_eq(hS:S.length=m)(hN:N.length=n)(hm:m≤10)(hn:n≤8)(hB:B.length=80)(hU:U.length=80)(hmf:∀a b,a<m→b<n→mf a b=gB B (a*8+b))(ee:Int){st ln:Nat}{A C Q:List Int}(hb:BS m n mf S N U 100 0 st ln A C Q)(hln:0<ln) :
  (∃j' st' ln' A' C' Q',f23r1n5 tt st ln ee p q cs B ls S N U A C Q=some (.norm st' ln' ((j':Nat):Int) A' C' Q')∧Found m n mf S N U A' C' j') ∨
  ∃st' ln' A' C' Q',f23r1n5 tt st ln ee p q cs B ls S N U A C Q=some (.norm st' ln' ee A' C' Q')∧BS m n mf S N U 100 0 st' ln' A' C' Q'∧ln'+un A' m+1=ln+un A m:=by
 have heq:=hb.eq;obtain ⟨q0,q1,q2,q3⟩:=hb.q;cases q0 with
 | nil=>have:=congrArg List.length q1; rw [List.length_drop] at this; simp [ints] at this; omega
 | cons i q0 =>
  have hlen:(ints (i::q0)).length=ln:=by rw [←q1,List.length_drop]; omega
  unfold f23r1n5;rw [Qw (decide_eq_true (by omega)),q1,List.take_of_length_le (by omega)];have e0:at? (ints (i::q0)) 0=some (i:Int):=rfl;rw [e0,bd_,Qw (b:=cutB 1 (ln:Int) ln) (by unfold cutB; exact decide_eq_true (by omega)),show Int.toNat 1=1 from rfl];have hi:=q2 i List.mem_cons_self;have hq2:Q.drop (st+1)=ints q0:=by rw [←List.drop_drop,q1]; rfl
  have hb2:BS m n mf S N U i 0 (st+1) (ln-1) A C Q:={ hb with
   eq:=by omega
   b:=by have:=hb.b; omega
   q:=⟨q0,hq2,fun a ha=>q2 a (List.mem_cons_of_mem _ ha),fun a ha1 ha2=>by
    by_cases e:a=i
    ·exact .inr fun k hk1 hk2 hk3=>absurd (hk2 e) (Nat.not_lt_zero _)
    ·rcases q3 a ha1 ha2 with h | h
     ·rcases List.mem_cons.1 h with h | h
      ·exact absurd h e
      ·exact .inl h
     ·exact .inr fun k hk1 hk2 hk3=>h k hk1 (fun e2=>by omega) hk3⟩ }
  rcases scanr1_eq tt p q cs ls hS hN hm hn hB hU hmf ee hi.1 n FUEL 0 (by omega) (Qad (by omega)) hb2 hi.2 with ⟨j',st2,ln2,A2,C2,Q2,k1,k2⟩|⟨st2,ln2,A2,C2,Q2,k1,k2,k3⟩
  ·rw [show ((0:Nat):Int)=0 from rfl] at k1;rw [k1]; exact .inl ⟨j',st2,ln2,A2,C2,Q2,rfl,k2⟩
  ·rw [show ((0:Nat):Int)=0 from rfl] at k1;rw [k1];refine .inr ⟨st2,ln2,A2,C2,Q2,rfl,{ k2 with q:=?_ },by omega⟩;obtain ⟨w0,w1,w2,w3⟩:=k2.q;exact ⟨w0,w1,w2,fun a ha1 ha2=>(w3 a ha1 ha2).imp id fun h k hk1 hk2 hk3=>h k hk1 (fun _=>hk1) hk3⟩
theorem srchr1_eq(hS:S.length=m)(hN:N.length=n)(hm:m≤10)(hn:n≤8)(hB:B.length=80)(hU:U.length=80)(hmf:∀a b,a<m→b<n→mf a b=gB B (a*8+b)):∀(f:Nat){st ln:Nat}{A C Q:List Int},ln+un A m<f→BS m n mf S N U 100 0 st ln A C Q →
  (∃j' A' C',f23r1n9 (f+1) tt p q cs B ls S N U st ln (-1) A C Q=some (.exit6 ((j':Nat):Int) A' C')∧Found m n mf S N U A' C' j') ∨
  ∃st' A' C' Q',f23r1n9 (f+1) tt p q cs B ls S N U st ln (-1) A C Q=some (.exit6 (-1) A' C')∧BS m n mf S N U 100 0 st' 0 A' C' Q'
 | 0,_,_,_,_,_,h,_=>absurd h (Nat.not_lt_zero _)
 | f+1,st,ln,A,C,Q,h,hb=>by
  rw [f23r1n9,decide_eq_true (by omega:(-1:Int)<0),cond_true]
  by_cases hln:0<ln
  ·rw [decide_eq_true (by omega:(0:Int)<(ln:Int)),cond_true];rcases popr1_eq tt p q cs ls hS hN hm hn hB hU hmf (-1) hb hln with ⟨j',st2,ln2,A2,C2,Q2,k1,k2⟩|⟨st2,ln2,A2,C2,Q2,k1,k2,k3⟩
   ·rw [k1];simp only [Option.bind_some];rw [f23r1n9,decide_eq_false (by omega),cond_false];exact .inl ⟨j',A2,C2,rfl,k2⟩
   ·rw [k1];simp only [Option.bind_some];exact srchr1_eq hS hN hm hn hB hU hmf f (by omega) k2
  ·have e:ln=0:=by omega
   subst e;rw [decide_eq_false (by omega),cond_false];exact .inr ⟨st,A,C,Q,rfl,hb⟩
theorem initr1_eq(hS:S.length=m)(hm:m≤10)(C:List Int):∀(r f i:Nat){A:List Int}{q0:List Nat},i+r=10→r<f→A.length=10→q0.length≤i →
  ∃A' new,f23r1n4 f tt p q cs B ls S N U C (i:Int) A (ints q0)=some (.exit4 A' (ints (q0++new)))∧A'.length=10∧(∀a,a<i→gI A' a=gI A a)∧(∀a,i≤a→a<10→gI A' a=if a<m∧0<gI S a then -2 else -1)∧(∀a∈new,i≤a∧a<m∧0<gI S a)∧new.Nodup∧∀a,i≤a→a<m→0<gI S a→a∈new
 | _,0,_,_,_,_,h,_,_=>absurd h (Nat.not_lt_zero _)
 | 0,f+1,i,A,q0,hi,_,hA,_=>by
  rw [f23r1n4,decide_eq_false (by omega),cond_false];exact ⟨A,[],by rw [List.append_nil],hA,fun _ _=>rfl,fun a h1 h2=>by omega,fun _ h=>(by cases h),List.nodup_nil,fun a h1 h2 _=>by omega⟩
 | r+1,f+1,i,A,q0,hi,hf,hA,hq=>by
  have hiA:i<A.length:=by omega
  have e1:gI (A.set i (-1))=fun a=>if a=i then (-1:Int) else gI A a:=funext fun a=>Qaj _ _ hiA;have hlS:(A.set i (-1)).length=10:=by rw [List.length_set]; exact hA
  rw [f23r1n4,decide_eq_true (by omega),cond_true,Qw (Qap (by omega)),Int.toNat_natCast,Nat.mul_one,Qw (decide_eq_true hiA),wrSucc (by omega)];have small:(¬(i<m∧0<gI S i))→∃A' new,f23r1n4 f tt p q cs B ls S N U C ((i+1:Nat):Int) (A.set i (-1)) (ints q0)=some (.exit4 A' (ints (q0++new)))∧A'.length=10∧(∀a,a<i→gI A' a=gI A a)∧(∀a,i≤a→a<10→gI A' a=if a<m∧0<gI S a then -2 else -1)∧(∀a∈new,i≤a∧a<m∧0<gI S a)∧new.Nodup∧∀a,i≤a→a<m→0<gI S a→a∈new:=fun hno=>by
   obtain ⟨A',new,g1,g2,g3,g4,g5,g6,g7⟩:=initr1_eq hS hm C r f (i+1) (A:=A.set i (-1)) (q0:=q0) (by omega) (by omega) hlS (by omega);refine ⟨A',new,g1,g2,fun a ha=>?_,fun a h1 h2=>?_,fun a ha=>⟨by have:=(g5 a ha).1; omega,(g5 a ha).2⟩,g6,fun a h1 h2 h3=>g7 a (by by_cases e:a=i; subst e; exact absurd ⟨h2,h3⟩ hno; omega) h2 h3⟩
   ·rw [g3 a (by omega),e1]; exact if_neg (by omega)
   ·by_cases e:a=i
    ·subst e; rw [g3 a (by omega),e1,if_neg hno]; exact if_pos rfl
    ·exact g4 a (by omega) h2
  by_cases him:i<m
  ·rw [decide_eq_true (by omega),cond_true,at_gI (by omega),bd_]
   by_cases hpos:0<gI S i
   ·have hl2:((A.set i (-1)).set i (-2)).length=10:=by rw [List.length_set]; exact hlS
    have e2:gI ((A.set i (-1)).set i (-2))=fun a=>if a=i then (-2:Int) else gI A a:=funext fun a=>by
     rw [Qaj _ _ (by omega),e1]
     by_cases e:a=i
     ·rw [if_pos e,if_pos e]
     ·rw [if_neg e,if_neg e]; exact if_neg e
    rw [decide_eq_true hpos,cond_true,Qw (decide_eq_true (by omega)),Qw (Qao (by rw [ints_len]; omega) (by omega))];have hqe:ints q0++[(i:Int)]=ints (q0++[i]):=by rw [ints_app]; rfl
    rw [hqe];obtain ⟨A',new,g1,g2,g3,g4,g5,g6,g7⟩:=initr1_eq hS hm C r f (i+1) (A:=(A.set i (-1)).set i (-2)) (q0:=q0++[i]) (by omega) (by omega) hl2 (by simp; omega);refine ⟨A',[i]++new,by rw [g1,List.append_assoc],g2,fun a ha=>?_,fun a h1 h2=>?_,fun a ha=>?_,?_,fun a h1 h2 h3=>?_⟩
    ·rw [g3 a (by omega),e2]; exact if_neg (by omega)
    ·by_cases e:a=i
     ·subst e; rw [g3 a (by omega),e2,if_pos ⟨him,hpos⟩]; exact if_pos rfl
     ·exact g4 a (by omega) h2
    ·rcases List.mem_append.1 ha with ha | ha
     ·rw [List.mem_singleton] at ha;subst ha; exact ⟨Nat.le_refl _,him,hpos⟩
     ·exact ⟨by have:=(g5 a ha).1; omega,(g5 a ha).2⟩
    ·exact List.nodup_cons.2 ⟨fun h=>by have:=(g5 i h).1; omega,g6⟩
    ·by_cases e:a=i
     ·subst e; exact List.mem_append_left _ (List.mem_singleton.2 rfl)
     ·exact List.mem_append_right _ (g7 a (by omega) h2 h3)
   ·rw [decide_eq_false hpos,cond_false];exact small (fun h=>hpos h.2)
  ·rw [decide_eq_false (by omega),cond_false];exact small (fun h=>him h.1)
theorem leastr1_eq(hS:S.length=m)(hm:m≤10)(hn:n≤8)(hU:U.length=80)(ee:Int){A C:List Int}(hA:A.length=10)(hC:C.length=8):∀(w:List Nat)(f i j:Nat)(v:Int),w.length<f→j<n→gI C j=(i:Int)→AP m n mf S U A C 1 w i→1≤v →
  ∃c,f23r1n11 f tt ee p q cs B ls S N U A C v (j:Int)=some (.exit12 c)∧1≤c∧c≤v∧AP m n mf S U A C c w i
 | _,0,_,_,_,h,_,_,_,_=>absurd h (Nat.not_lt_zero _)
 | [],f+1,i,j,v,_,hj,hCj,hap,hv=>by
  obtain ⟨h1,h2,h3⟩:=hap;have hmn:=mnI_le v (gI S i);rw [f23r1n11,Qw (Qap (by omega)),Int.toNat_natCast,Nat.mul_one,Qau (by omega),bd_,hCj,Qw (Qap (by omega)),Int.toNat_natCast,Nat.mul_one,Qau (by omega),bd_,h2,decide_eq_true rfl,cond_true,at_gI (by omega),bd_];exact ⟨mnI v (gI S i),rfl,by omega,by omega,h1,h2,by omega⟩
 | k::w,f+1,i,j,v,hf,hj,hCj,hap,hv=>by
  obtain ⟨h1,h2,h3,h4,i',h5,h6,h7⟩:=hap;have hmn:=mnI_le v (gI U (i*8+k));rw [f23r1n11,Qw (Qap (by omega)),Int.toNat_natCast,Nat.mul_one,Qau (by omega),bd_,hCj,Qw (Qap (by omega)),Int.toNat_natCast,Nat.mul_one,Qau (by omega),bd_,h2,decide_eq_false (by omega),cond_false,Qw (Qap (by omega)),Int.toNat_natCast,Nat.mul_one,Qau (by omega),bd_];obtain ⟨c,k1,k2,k3,k4⟩:=leastr1_eq hS hm hn hU ee hA hC w f i' k (mnI v (gI U (i*8+k))) (by simpa using hf) h3 h5 h7 (by omega);exact ⟨c,k1,k2,by omega,h1,h2,h3,by omega,i',h5,h6,k4⟩
theorem augr1_eq(hS:S.length=m)(hm:m≤10)(hn:n≤8)(ee ne c:Int)(hc:1≤c∧c≤68719476736)(hSb:∀i,i<m→gI S i≤68719476736){A C:List Int}(hA:A.length=10)(hC:C.length=8):∀(w:List Nat)(f i j:Nat){U:List Int},U.length=80→w.length<f→j<n→gI C j=(i:Int)→mf i j=true→AP m n mf S U A C c w i→(j::w).Nodup →
   (∀a b,a<m→b<n→0≤XU U a b)→(∀a b,a<m→b<n→XU U a b≠0→mf a b=true)→(∀b∈j::w,∀a,a<m→XU U a b≤68719476736) →
  ∃ s U', f23r1n13 f tt c p q cs B ls S N ee ne A C (j : Int) U = some (.exit14 (S.set s (gI S s - c)) U') ∧ s < m ∧ c ≤ gI S s ∧ U'.length = 80 ∧
   (∀a,a<m→sN n (XU U' a)=sN n (XU U a)+(if a=s then c else 0))∧(∀b,b<n→sN m (fun a=>XU U' a b)=sN m (fun a=>XU U a b)+(if b=j then c else 0)) ∧
   (∀a b,a<m→b<n→0≤XU U' a b)∧(∀a b,a<m→b<n→XU U' a b≠0→mf a b=true)
 | _,0,_,_,_,_,h,_,_,_,_,_,_,_,_=>absurd h (Nat.not_lt_zero _)
 | [],f+1,i,j,U,hU,_,hj,hCj,hmf,hap,_,hnn,hsup,hbd=>by
  obtain ⟨h1,h2,h3⟩:=hap;have hx:=hnn i j h1 hj;have hx2:=hbd j List.mem_cons_self i h1;have hs:=hSb i h1;have e1:wr64 (gI U (i*8+j)+c)=gI U (i*8+j)+c:=wrIn (by show _≤XU U i j+c; omega) (by show XU U i j+c≤_; omega);have e2:wr64 (gI S i-c)=gI S i-c:=wrIn (by omega) (by omega);rw [f23r1n13,Qw (Qap (by omega)),Int.toNat_natCast,Nat.mul_one,Qau (by omega),bd_,hCj,Qw (Qap (by omega)),Int.toNat_natCast,Qau (by omega),bd_,Nat.mul_one,Qau (by omega),bd_,h2,decide_eq_true rfl,cond_true,at_gI (by omega),bd_,e1,e2];refine ⟨i,_,rfl,h1,h3,by rw [List.length_set]; exact hU,fun a ha=>?_,fun b hb=>?_,fun a b ha hb=>?_,fun a b ha hb=>?_⟩
  ·rw [row_set hU hn (by omega) hj _ (by omega)]
   by_cases e:a=i
   ·rw [if_pos e,if_pos e]; show _+(XU U i j+c-XU U i j)=_; omega
   ·rw [if_neg e,if_neg e]
  ·rw [col_set hU hm h1 (by omega) _ (by omega)]
   by_cases e:b=j
   ·rw [if_pos e,if_pos e]; show _+(XU U i j+c-XU U i j)=_; omega
   ·rw [if_neg e,if_neg e]
  ·rw [XU_set hU (by omega) (by omega) (by omega) (by omega)];have:=hnn a b ha hb
   split
   ·show 0≤XU U i j+c; omega
   ·exact this
  ·rw [XU_set hU (by omega) (by omega) (by omega) (by omega)]
   split
   ·rename_i e;intro _;rw [e.1,e.2]; exact hmf
   ·exact hsup a b ha hb
 | k::w,f+1,i,j,U,hU,hf,hj,hCj,hmf,hap,hnd,hnn,hsup,hbd=>by
  obtain ⟨h1,h2,h3,h4,i',h5,h6,h7⟩:=hap;have hx:=hnn i j h1 hj;have hx2:=hbd j List.mem_cons_self i h1;have hk2:=hbd k (List.mem_cons_of_mem _ List.mem_cons_self) i h1;have hnd1:=List.nodup_cons.1 hnd;have hnd2:=List.nodup_cons.1 hnd1.2;have hjk:k≠j:=fun e=>hnd1.1 (e ▸ List.mem_cons_self);have e1:wr64 (gI U (i*8+j)+c)=gI U (i*8+j)+c:=wrIn (by show _≤XU U i j+c; omega) (by show XU U i j+c≤_; omega);have hU1:(U.set (i*8+j) (gI U (i*8+j)+c)).length=80:=by rw [List.length_set]; exact hU
  have hk1:gI (U.set (i*8+j) (gI U (i*8+j)+c)) (i*8+k)=gI U (i*8+k):=by
   have:=XU_set hU (i:=i) (j:=j) (a:=i) (b:=k) (by omega) (by omega) (by omega) (by omega) (gI U (i*8+j)+c);rw [if_neg (fun h=>hjk h.2)] at this;exact this
  have e2:wr64 (gI U (i*8+k)-c)=gI U (i*8+k)-c:=wrIn (by omega) (by show XU U i k-c≤_; omega);rw [f23r1n13,Qw (Qap (by omega)),Int.toNat_natCast,Nat.mul_one,Qau (by omega),bd_,hCj,Qw (Qap (by omega)),Int.toNat_natCast,Qau (by omega),bd_,Nat.mul_one,Qau (by omega),bd_,h2,decide_eq_false (by omega),cond_false,Qw (Qap (by omega)),e1,Int.toNat_natCast,Nat.mul_one,Qau (by omega),bd_,hk1,e2];have hX2:∀a b,a<m→b<n→XU ((U.set (i*8+j) (gI U (i*8+j)+c)).set (i*8+k) (gI U (i*8+k)-c)) a b=if a=i∧b=k then XU U i k-c else if a=i∧b=j then XU U i j+c else XU U a b:=fun a b ha hb=>by
   rw [XU_set hU1 (by omega) (by omega) (by omega) (by omega),XU_set hU (by omega) (by omega) (by omega) (by omega)]
  have hXw:∀b∈w,∀a,a<m→b<n→XU ((U.set (i*8+j) (gI U (i*8+j)+c)).set (i*8+k) (gI U (i*8+k)-c)) a b=XU U a b:=fun b hb a ha hbn=>by
   rw [hX2 a b ha hbn,if_neg (fun (e:a=i∧b=k)=>hnd2.1 (e.2 ▸ hb)),if_neg (fun (e:a=i∧b=j)=>hnd1.1 (e.2 ▸ List.mem_cons_of_mem _ hb))]
  have hwn:=h7.lt8;obtain ⟨s,U',g1,g2,g3,g4,g5,g6,g7,g8⟩:=augr1_eq hS hm hn ee ne c hc hSb hA hC w f i' k (U:=(U.set (i*8+j) (gI U (i*8+j)+c)).set (i*8+k) (gI U (i*8+k)-c)) (by rw [List.length_set]; exact hU1) (by simpa using hf) h3 h5 h6 (h7.keep fun b hb a ha=>hXw b hb a ha (hwn b hb)) hnd1.2
   (fun a b ha hb=>by
    rw [hX2 a b ha hb];have:=hnn a b ha hb
    split
    ·show 0≤gI U (i*8+k)-c; omega
    ·split
     ·omega
     ·exact this)
   (fun a b ha hb=>by
    rw [hX2 a b ha hb]
    split
    ·rename_i e;intro _;rw [e.1,e.2];exact hsup i k h1 h3 (by show gI U (i*8+k)≠0; omega)
    ·split
     ·rename_i e;intro _;rw [e.1,e.2]; exact hmf
     ·exact hsup a b ha hb)
   (fun b hb a ha=>by
    rcases List.mem_cons.1 hb with e | hb
    ·subst e;rw [hX2 a b ha h3];have:=hbd b (List.mem_cons_of_mem _ List.mem_cons_self) a ha
     split
     ·omega
     ·rw [if_neg (fun e=>hjk e.2)]; exact this
    ·rw [hXw b hb a ha (hwn b hb)];exact hbd b (List.mem_cons_of_mem _ (List.mem_cons_of_mem _ hb)) a ha)
  refine ⟨s,U',g1,g2,g3,g4,fun a ha=>?_,fun b hb=>?_,g7,g8⟩
  ·rw [g5 a ha,row_set hU1 hn (by omega) h3 _ (by omega),row_set hU hn (by omega) hj _ (by omega)]
   by_cases e:a=i
   ·rw [if_pos e,if_pos e];have:XU (U.set (i*8+j) (gI U (i*8+j)+c)) i k=gI U (i*8+k):=hk1;rw [this];show _+(XU U i j+c-XU U i j)+_+_=_;omega
   ·rw [if_neg e,if_neg e]; omega
  ·rw [g6 b hb,col_set hU1 hm h1 (by omega) _ (by omega),col_set hU hm h1 (by omega) _ (by omega)];have hk3:XU (U.set (i*8+j) (gI U (i*8+j)+c)) i k=gI U (i*8+k):=hk1;rw [hk3]
   by_cases e:b=k
   ·have:b≠j:=fun e2=>hjk (e.symm.trans e2);rw [if_pos e,if_pos e,if_neg this,if_neg this]; omega
   ·rw [if_neg e,if_neg e]
    by_cases e2:b=j
    ·rw [if_pos e2,if_pos e2]; show _+(XU U i j+c-XU U i j)+_+_=_; omega
    ·rw [if_neg e2,if_neg e2]; omega
theorem mainr1_eq(hB:B.length=80)(hmf:∀a b,a<m→b<n→mf a b=gB B (a*8+b)):∀(f:Nat){S N U:List Int}{tt:Int},FS m n s0 d0 mf S N U tt→(549755813888-tt).toNat<f→∃v,f23r1n14 f p q cs B ls tt S N U=some (.ret v)∧IsMin m n s0 d0 mf v
 | 0,_,_,_,_,_,h=>absurd h (Nat.not_lt_zero _)
 | f+1,S,N,U,tt,hF,hf=>by
  have hm:=hF.m10;have hn:=hF.n8;have hU:=hF.ul;have hSl:=hF.sl;have hNl:=hF.nl;obtain ⟨A0,new,i1,i2,_,i4,i5,i6,i7⟩:=initr1_eq (N:=N) (U:=U) tt p q cs ls (B:=B) hSl hm (List.replicate 8 (-1)) 10 FUEL 0 (A:=List.replicate 10 0) (q0:=[]) (by omega) (Qad (by omega)) (by simp) (by simp);rw [List.nil_append] at i1;have i1':f23r1n4 FUEL tt p q cs B ls S N U (List.replicate 8 (-1)) 0 (List.replicate 10 0) []=some (.exit4 A0 (ints new)):=i1;have hA0:∀a,a<m→(gI A0 a≠-1↔0<gI S a):=fun a ha=>by
   rw [i4 a (Nat.zero_le _) (by omega)]
   by_cases h:0<gI S a
   ·rw [if_pos ⟨ha,h⟩]; simp [h]
   ·rw [if_neg (fun k=>h k.2)]; simp [h]
  have hb0:BS m n mf S N U 100 0 0 (ints new).length A0 (List.replicate 8 (-1)) (ints new):=by
   refine ⟨i2,by simp,by omega,⟨new,rfl,fun a ha=>⟨(i5 a ha).2.1,(hA0 a (i5 a ha).2.1).2 (i5 a ha).2.2⟩,fun a ha1 ha2=>.inl ?_⟩,fun a ha1 ha2=>(hA0 a ha1).2 ha2,fun k hk=>.inl (gI_rep 8 _ k (by omega)),fun k hk hk2=>?_,fun k hk hk2=>?_,fun a ha1 ha2=>?_,?_⟩
   ·refine Classical.byContradiction fun hno=>?_;have h2:=(hA0 a ha1).1 ha2;exact hno (i7 a (Nat.zero_le _) ha1 h2)
   ·rw [gI_rep 8 _ k (by omega)] at hk2; omega
   ·rw [gI_rep 8 _ k (by omega)] at hk2; omega
   ·have h2:=(hA0 a ha1).1 ha2;exact ⟨[],⟨ha1,by rw [i4 a (Nat.zero_le _) (by omega),if_pos ⟨ha1,h2⟩],by omega⟩,List.nodup_nil,fun _ h=>(by cases h)⟩
   ·rw [ints_len];exact nd_un A0 m new i6 fun a ha=>⟨(i5 a ha).2.1,(hA0 a (i5 a ha).2.1).2 (i5 a ha).2.2⟩
  have hnn:=hF.fl.nn;have hrow0:∀a,a<m→0≤sN n (XU U a):=fun a ha=>sN_nn fun b hb=>hnn a b ha hb;have hcol0:∀b,b<n→0≤sN m (fun a=>XU U a b):=fun b hb=>sN_nn fun a ha=>hnn a b ha hb;have e3:f23r1n3 tt p q cs B ls S N U (List.replicate 8 (-1))=some (.norm A0 (ints new)):=by
   unfold f23r1n3;rw [i1']; rfl
  rw [f23r1n14,callsr1_eq];simp only [Option.bind_some];rw [e3];simp only [Option.bind_some];rcases srchr1_eq (N:=N) (U:=U) tt p q cs ls (B:=B) hSl hNl hm hn hB hU hmf 18446744073709551615 (st:=0) (by have:=hb0.b; omega) hb0 with ⟨j,A',C',k1,hfd⟩|⟨st',A',C',Q',k1,hb⟩
  ·have k1':f23r1n9 FUEL tt p q cs B ls S N U 0 (ints new).length (-1) A0 (List.replicate 8 (-1)) (ints new)=_:=k1;obtain ⟨hj,hNj,hAl,hCl,i,w,hCj,hmij,hap,hnd⟩:=hfd;have hNv:=hF.nv j hj;have hdb:=hF.db j hj;have hc0:=hcol0 j hj;have hwl:w.length≤8:=nd_len 8 w (List.nodup_cons.1 hnd).2 fun x hx=>by have:=hap.lt8 x hx; omega
   rw [k1'];simp only [Option.bind_some];rw [decide_eq_false (by omega),cond_false,at_gI (by omega),bd_];obtain ⟨c,c1,c2,c3,c4⟩:=leastr1_eq (N:=N) tt p q cs ls (B:=B) hSl hm hn hU ((j:Nat):Int) hAl hCl w FUEL i j (gI N j) (Qad (by omega)) hj hCj hap (by omega);have e10:f23r1n10 tt ((j:Nat):Int) (gI N j) p q cs B ls S N U A' C'=some (.norm c):=by
    unfold f23r1n10;rw [c1]; rfl
   rw [e10];simp only [Option.bind_some];obtain ⟨s,U',g1,g2,g3,g4,g5,g6,g7,g8⟩:=augr1_eq (N:=N) tt p q cs ls (B:=B) hSl hm hn ((j:Nat):Int) (gI N j) c (by omega) (fun a ha=>by have:=hF.sv a ha; have:=hF.sb a ha; have:=hrow0 a ha; omega) hAl hCl w FUEL i j hU (Qad (by omega)) hj hCj hmij c4 hnd hnn hF.fl.may (fun b hb a ha=>by
    have hbn:b<n:=by
     rcases List.mem_cons.1 hb with rfl | hb
     ·exact hj
     ·exact hap.lt8 b hb
    have q1:=sN_ge (f:=XU U a) hbn fun b' hb'=>hnn a b' ha hb';have q2:=hF.fl.row a ha;have q3:=hF.sb a ha;omega)
   have e12:f23r1n12 tt ((j:Nat):Int) c p q cs B ls S N (gI N j) U A' C'=some (.norm (S.set s (gI S s-c)) U'):=by
    unfold f23r1n12;rw [g1]; rfl
   rw [e12];simp only [Option.bind_some,Int.toNat_natCast];have hsS:s<S.length:=by omega
   have hjN:j<N.length:=by omega
   have hfl':Flw m n s0 d0 mf (XU U'):=⟨g7,g8,fun a ha=>by
    rw [g5 a ha];have q2:=hF.fl.row a ha
    by_cases e:a=s
    ·subst e; rw [if_pos rfl]; have:=hF.sv a ha; omega
    ·rw [if_neg e]; omega,fun b hb=>by
    rw [g6 b hb];have q2:=hF.fl.col b hb
    by_cases e:b=j
    ·subst e; rw [if_pos rfl]; omega
    ·rw [if_neg e]; omega⟩
   have htot:Flo.tot m n (XU U')=tt+c:=by
    rw [hF.tv];unfold Flo.tot;rw [Qz (g:=fun a=>sN n (XU U a)+(if a=s then c else 0)) fun a ha=>g5 a ha,sN_add1 (fun a=>sN n (XU U a)),if_pos g2]
   have hle:Flo.tot m n (XU U')≤549755813888:=by
    have q1:=tot_le hfl';have q2:=sN_bd (f:=d0) (b:=68719476736) (n:=n) fun b hb=>(hF.db b hb).2;omega
   have htt0:0≤tt:=by
    rw [hF.tv];exact sN_nn hrow0
   have ew:wr64 (tt+c)=tt+c:=wrIn (by omega) (by omega);have ewN:wr64 (gI N j-c)=gI N j-c:=wrIn (by omega) (by omega);rw [ew,ewN];refine mainr1_eq hB hmf f ⟨hm,hn,by rw [List.length_set]; exact hSl,by rw [List.length_set]; exact hNl,g4,hfl',fun a ha=>?_,fun b hb=>?_,htot.symm,hF.sb,hF.db⟩ (by omega)
   ·rw [Qaj _ _ hsS,g5 a ha];have:=hF.sv a ha
    by_cases e:a=s
    ·subst e; rw [if_pos rfl,if_pos rfl]; omega
    ·rw [if_neg e,if_neg e]; omega
   ·rw [Qaj _ _ hjN,g6 b hb];have:=hF.nv b hb
    by_cases e:b=j
    ·subst e; rw [if_pos rfl,if_pos rfl]; omega
    ·rw [if_neg e,if_neg e]; omega
  ·have k1':f23r1n9 FUEL tt p q cs B ls S N U 0 (ints new).length (-1) A0 (List.replicate 8 (-1)) (ints new)=_:=k1;rw [k1'];simp only [Option.bind_some];rw [decide_eq_true (by omega),cond_true];refine ⟨tt,rfl,?_⟩;have hst:=hF.fl.stop (fun i=>decide (gI A' i≠-1)) (fun j=>decide (0≤gI C' j)) (fun a ha h=>by
     refine decide_eq_true (hb.a2 a ha ?_);have:=hF.sv a ha; omega) (fun a b ha hb' h1 h2=>by
     obtain ⟨q0,q1,q2,q3⟩:=hb.q;have hq0:q0=[]:=by
      have:=congrArg List.length q1;rw [List.length_drop,ints_len] at this;have:=hb.eq;exact List.eq_nil_of_length_eq_zero (by omega)
     rcases q3 a ha (of_decide_eq_true h1) with h | h
     ·rw [hq0] at h; cases h
     ·exact decide_eq_true (h b hb' (fun e=>by omega) h2)) (fun b hb' h=>by
     have h1:=hb.c2 b hb' (of_decide_eq_true h);have h2:=hF.nv b hb';have h3:=hF.fl.col b hb';omega) (fun a b ha hb' h1 h2=>decide_eq_true (hb.c3 b hb' (of_decide_eq_true h1) a ha h2))
   rw [hF.tv];exact hF.fl.min hst
end
theorem flowr1_eq{p q:List Int}{B:List Bool}(k:Nat)(cs:List AC)(ls:List AA)(hk:k≤p.length)(hk2:k≤10)(hn:q.length≤8)(hB:B.length=80)(hp:∀i,i<k→0≤gI p i∧gI p i≤68719476736)(hq:∀j,j<q.length→0≤gI q j∧gI q j≤68719476736) :
  ∃v,f23r1 k p q cs B ls=some v∧IsMin k q.length (gI p) (gI q) (fun a b=>gB B (a*8+b)) v:=by
 obtain ⟨v,h1,h2⟩:=mainr1_eq (mf:=fun a b=>gB B (a*8+b)) p q cs ls hB (fun _ _ _ _=>rfl) FUEL (FS.start (mf:=fun a b=>gB B (a*8+b)) (S:=p.take k) hk2 hn (by rw [List.length_take]; omega) rfl (fun i hi=>gI_take hi) (fun _ _=>rfl) hp hq) (by decide);refine ⟨v,?_,h2⟩;unfold f23r1 f23r1n0;rw [f45_pre hk (by omega),bd_,f45_id (by omega),bd_,h1]; rfl
section
variable {m n:Nat} {mf:Nat→Nat→Bool} {s0 d0:Nat→Int} {B:List Bool} {S N U:List Int} (tt:Int) (p q:List Int) (cs:List AC) (ls:List AA) (xr:List Int)
theorem callsr2_eq:f23r2n1 tt p q cs B ls xr S N U=some (.norm (List.replicate 8 (-1))):=by
 unfold f23r2n1;have:f23r2n2 FUEL tt p q cs B ls xr S N U 0 (List.replicate 8 0)=some (.exit2 (List.replicate 8 (-1))):=by rfl
 rw [this]; rfl
theorem innerr2_eq(hS:S.length=m)(hm:m≤10)(hUl:U.length=80){j:Nat}(hj:j<8)(i ee:Int)(C:List Int):∀(r f k:Nat){st ln:Nat}{A Q:List Int}{q0:List Nat},k+r=m→r<f→A.length=10→st+ln=Q.length→Q.drop st=ints q0→ln+un A m≤10 →
  ∃ st' ln' A' Q' new, f23r2n7 f tt ee i (j : Int) N S p q cs B ls xr U C st ln (k : Int) A Q = some (.exit10 st' ln' A' Q') ∧ A'.length = 10 ∧ st' + ln' = Q'.length ∧ Q'.drop st' = ints (q0 ++ new) ∧ ln' + un A' m = ln + un A m ∧
   (∀a,a<m→gI A a≠-1→gI A' a=gI A a)∧(∀a,a<m→gI A a = -1→gI A' a = -1∨(gI A' a=(j:Int)∧0<gI U (a*8+j)∧a∈new))∧(∀a∈new,a<m∧gI A' a≠-1)∧(∀a,k≤a→a<m→0<gI U (a*8+j)→gI A' a≠-1)
 | _,0,_,_,_,_,_,_,_,h,_,_,_,_=>absurd h (Nat.not_lt_zero _)
 | 0,f+1,k,st,ln,A,Q,q0,hk,_,hA,hq,hQ,hb=>by
  rw [f23r2n7,decide_eq_false (by omega),cond_false];exact ⟨st,ln,A,Q,[],rfl,hA,hq,by rw [List.append_nil]; exact hQ,rfl,fun _ _ _=>rfl,fun _ _ h=>.inl h,fun _ h=>(by cases h),fun a h1 h2 _=>by omega⟩
 | r+1,f+1,k,st,ln,A,Q,q0,hk,hf,hA,hq,hQ,hb=>by
  have hkA:k<A.length:=by omega
  rw [f23r2n7,decide_eq_true (by omega),cond_true,Qw (Qap (by omega)),Int.toNat_natCast,Nat.mul_one,Qau hkA,bd_,wrSucc (by omega)]
  by_cases h1:gI A k = -1
  ·rw [decide_eq_true h1,cond_true,Qw (Qap hj),Int.toNat_natCast,Nat.mul_one,Qau (by omega),bd_]
   by_cases h2:0<gI U (k*8+j)
   ·rw [decide_eq_true h2,cond_true,Qw (Qao (by omega) (by omega)),Qw (decide_eq_true hq)];have hun:=un_set hkA h1 (v:=(j:Int)) (by omega) m;rw [decide_eq_true (by omega:k<m)] at hun;simp only [cond_true] at hun;have hqn:Q.drop st++[(k:Int)]=ints (q0++[k]):=by rw [hQ,ints_app]; rfl
    have hln:(Q.drop st++[(k:Int)]).length=ln+1:=by rw [List.length_append,List.length_drop]; simp; omega
    obtain ⟨st',ln',A',Q',new,g1,g2,g3,g4,g5,g6,g7,g8,g9⟩:=innerr2_eq hS hm hUl hj i ee C r f (k+1) (st:=0) (ln:=(Q.drop st++[(k:Int)]).length) (A:=A.set k (j:Int)) (Q:=Q.drop st++[(k:Int)]) (q0:=q0++[k]) (by omega) (by omega) (by rw [List.length_set]; exact hA) (by omega) (by rw [List.drop_zero]; exact hqn) (by omega);have hkv:gI A' k=(j:Int):=by
     rw [g6 k (by omega) (by rw [Qaj _ _ hkA,if_pos rfl]; omega),Qaj _ _ hkA,if_pos rfl]
    refine ⟨st',ln',A',Q',[k]++new,g1,g2,g3,by rw [g4,List.append_assoc],by omega,fun a ha hne=>?_,fun a ha he=>?_,fun a ha=>?_,fun a ha1 ha2 ha3=>?_⟩
    ·have hne2:a≠k:=fun e=>hne (e ▸ h1);have:=g6 a ha (by rw [Qaj _ _ hkA,if_neg hne2]; exact hne);rw [this,Qaj _ _ hkA,if_neg hne2]
    ·by_cases e:a=k
     ·subst e; exact .inr ⟨hkv,h2,by simp⟩
     ·rcases g7 a ha (by rw [Qaj _ _ hkA,if_neg e]; exact he) with h | ⟨h3,h4,h5⟩
      ·exact .inl h
      ·exact .inr ⟨h3,h4,List.mem_append_right _ h5⟩
    ·rcases List.mem_append.1 ha with ha | ha
     ·rw [List.mem_singleton] at ha;subst ha;exact ⟨by omega,by rw [hkv]; omega⟩
     ·exact g8 a ha
    ·by_cases e:a=k
     ·subst e; rw [hkv]; omega
     ·exact g9 a (by omega) ha2 ha3
   ·rw [decide_eq_false h2,cond_false];obtain ⟨st',ln',A',Q',new,g1,g2,g3,g4,g5,g6,g7,g8,g9⟩:=innerr2_eq hS hm hUl hj i ee C r f (k+1) (by omega) (by omega) hA hq hQ hb;refine ⟨st',ln',A',Q',new,g1,g2,g3,g4,g5,g6,g7,g8,fun a ha1 ha2 ha3=>?_⟩
    by_cases e:a=k
    ·subst e; exact absurd ha3 h2
    ·exact g9 a (by omega) ha2 ha3
  ·rw [decide_eq_false h1,cond_false];obtain ⟨st',ln',A',Q',new,g1,g2,g3,g4,g5,g6,g7,g8,g9⟩:=innerr2_eq hS hm hUl hj i ee C r f (k+1) (by omega) (by omega) hA hq hQ hb;refine ⟨st',ln',A',Q',new,g1,g2,g3,g4,g5,g6,g7,g8,fun a ha1 ha2 ha3=>?_⟩
   by_cases e:a=k
   ·subst e; rw [g6 a ha2 h1]; exact h1
   ·exact g9 a (by omega) ha2 ha3
theorem oner2_eq(hS:S.length=m)(hN:N.length=n)(hm:m≤10)(hn:n≤8)(hB:B.length=80)(hU:U.length=80)(hmf:∀a b,a<m→b<n→mf a b=gB B (a*8+b))(ee:Int){i j st ln:Nat}{A C Q:List Int}(hi:i<m)(hj:j<n)(hb:BS m n mf S N U i j st ln A C Q)(hAi:gI A i≠-1) :
  (f23r2n6 tt st ln ee (i:Int) N (j:Int) p q cs B ls xr S U A C Q=some .exit8∧Found m n mf S N U A (C.set (j*1) (i:Int)) j) ∨
  ∃st' ln' A' C' Q',f23r2n6 tt st ln ee (i:Int) N (j:Int) p q cs B ls xr S U A C Q=some (.norm st' ln' A' C' Q')∧BS m n mf S N U i (j+1) st' ln' A' C' Q'∧ln'+un A' m=ln+un A m∧gI A' i≠-1:=by
 obtain ⟨pp,hp1,hp2,hp3⟩:=hb.ap i hi hAi;have hcl:=hb.cl;unfold f23r2n6;rw [Qw (Qap (by omega)),Qw (Qap (by omega)),Int.toNat_natCast,Int.toNat_natCast,Nat.mul_one,gB_at (by omega),bd_,←hmf i j hi hj];cases hmij:mf i j with
 | false =>
  refine .inr ⟨st,ln,A,C,Q,rfl,{ hb with q:=?_ },rfl,hAi⟩;obtain ⟨q0,q1,q2,q3⟩:=hb.q;refine ⟨q0,q1,q2,fun a ha1 ha2=>(q3 a ha1 ha2).imp id fun h k hk1 hk2 hk3=>?_⟩;refine h k hk1 (fun e=>?_) hk3;have:=hk2 e;have:k≠j:=fun e2=>by rw [e,e2,hmij] at hk3; cases hk3
  omega
 | true =>
  rw [cond_true,Qau (by omega),bd_]
  by_cases hC:0≤gI C j
  ·rw [decide_eq_true hC,cond_true];refine .inr ⟨st,ln,A,C,Q,rfl,{ hb with q:=?_ },rfl,hAi⟩;obtain ⟨q0,q1,q2,q3⟩:=hb.q;refine ⟨q0,q1,q2,fun a ha1 ha2=>(q3 a ha1 ha2).imp id fun h k hk1 hk2 hk3=>?_⟩
   by_cases e:k=j
   ·subst e; exact hC
   ·exact h k hk1 (fun e2=>by have:=hk2 e2; omega) hk3
  ·have hCj:gI C j = -1:=(hb.cv j hj).elim id fun h=>absurd h hC;have hjp:j∉pp:=fun h=>hC (hp3 j h);have hset:∀k,gI (C.set j (i:Int)) k=if k=j then (i:Int) else gI C k:=fun k=>Qaj _ _ (by omega);rw [decide_eq_false hC,cond_false,at_gI (by omega),bd_]
   by_cases hNj:0<gI N j
   ·rw [decide_eq_true hNj,cond_true];refine .inl ⟨rfl,hj,hNj,hb.al,by rw [List.length_set]; exact hcl,i,pp,by rw [hset,if_pos rfl],hmij,?_,List.nodup_cons.2 ⟨hjp,hp2⟩⟩;exact hp1.mono (fun _ _ _=>rfl) fun k hk hk2=>by rw [hset,if_neg (fun e=>by rw [e] at hk2; exact hC hk2)]
   ·rw [decide_eq_false hNj,cond_false];obtain ⟨q0,q1,q2,q3⟩:=hb.q;obtain ⟨st',ln',A',Q',new,g1,g2,g3,g4,g5,g6,g7,g8,g9⟩:=innerr2_eq tt p q cs ls xr (B:=B) hS hm hU (j:=j) (by omega) (i:Int) ee C (N:=N) m FUEL 0 (by omega) (Qad (by omega)) hb.al hb.eq q1 (by have:=hb.b; omega);rw [show ((0:Nat):Int)=0 from rfl] at g1;rw [g1];have hA1:∀a,a<m→gI A a≠-1→gI A' a≠-1:=fun a ha h=>by rw [g6 a ha h]; exact h
    have hC1:∀k,0≤gI C k→0≤gI (C.set j (i:Int)) k:=fun k hk=>by
     rw [hset]
     by_cases e:k=j
     ·rw [if_pos e]; omega
     ·rw [if_neg e]; exact hk
    have hmono:∀{c:Int} {w:List Nat} {a:Nat},AP m n mf S U A C c w a→AP m n mf S U A' (C.set j (i:Int)) c w a:=fun h=>h.mono g6 fun k hk hk2=>by rw [hset,if_neg (fun e=>by rw [e] at hk2; exact hC hk2)]
    refine .inr ⟨st',ln',A',C.set j (i:Int),Q',rfl,⟨g2,by rw [List.length_set]; exact hcl,g3,⟨q0++new,g4,fun a ha=>?_,fun a ha1 ha2=>?_⟩,fun a ha1 ha2=>hA1 a ha1 (hb.a2 a ha1 ha2),fun k hk=>?_,fun k hk hk2=>?_,fun k hk hk2 a ha1 ha2=>?_,fun a ha1 ha2=>?_,by have:=hb.b; omega⟩,g5,hA1 i hi hAi⟩
    ·rcases List.mem_append.1 ha with ha | ha
     ·exact ⟨(q2 a ha).1,hA1 a (q2 a ha).1 (q2 a ha).2⟩
     ·exact g8 a ha
    ·by_cases hAa:gI A a = -1
     ·rcases g7 a ha1 hAa with h | ⟨_,_,h⟩
      ·exact absurd h ha2
      ·exact .inl (List.mem_append_right _ h)
     ·rcases q3 a ha1 hAa with h | h
      ·exact .inl (List.mem_append_left _ h)
      ·refine .inr fun k hk1 hk2 hk3=>?_
       by_cases e:k=j
       ·subst e; rw [hset,if_pos rfl]; omega
       ·exact hC1 k (h k hk1 (fun e2=>by have:=hk2 e2; omega) hk3)
    ·rw [hset]
     by_cases e:k=j
     ·rw [if_pos e]; exact .inr (by omega)
     ·rw [if_neg e]; exact hb.cv k hk
    ·rw [hset] at hk2
     by_cases e:k=j
     ·subst e; omega
     ·rw [if_neg e] at hk2; exact hb.c2 k hk hk2
    ·rw [hset] at hk2
     by_cases e:k=j
     ·subst e; exact g9 a (Nat.zero_le _) ha1 ha2
     ·rw [if_neg e] at hk2; exact hA1 a ha1 (hb.c3 k hk hk2 a ha1 ha2)
    ·by_cases hAa:gI A a = -1
     ·rcases g7 a ha1 hAa with h | ⟨h1,h2,_⟩
      ·exact absurd h ha2
      ·refine ⟨j::pp,⟨ha1,h1,hj,by omega,i,by rw [hset,if_pos rfl],hmij,hmono hp1⟩,List.nodup_cons.2 ⟨hjp,hp2⟩,fun k hk=>?_⟩;rcases List.mem_cons.1 hk with rfl | hk
       ·rw [hset,if_pos rfl]; omega
       ·exact hC1 k (hp3 k hk)
     ·obtain ⟨w,w1,w2,w3⟩:=hb.ap a ha1 hAa;exact ⟨w,hmono w1,w2,fun k hk=>hC1 k (w3 k hk)⟩
theorem scanr2_eq(hS:S.length=m)(hN:N.length=n)(hm:m≤10)(hn:n≤8)(hB:B.length=80)(hU:U.length=80)(hmf:∀a b,a<m→b<n→mf a b=gB B (a*8+b))(ee:Int){i:Nat}(hi:i<m):∀(w f j:Nat){st ln:Nat}{A C Q:List Int},j+w=n→w<f→BS m n mf S N U i j st ln A C Q→gI A i≠-1 →
  (∃j' st' ln' A' C' Q',f23r2n8 f tt ee (i:Int) N p q cs B ls xr S U st ln (j:Int) A C Q=some (.exit8 st' ln' ((j':Nat):Int) A' C' Q')∧Found m n mf S N U A' C' j') ∨
  ∃st' ln' A' C' Q',f23r2n8 f tt ee (i:Int) N p q cs B ls xr S U st ln (j:Int) A C Q=some (.exit8 st' ln' ee A' C' Q')∧BS m n mf S N U i n st' ln' A' C' Q'∧ln'+un A' m=ln+un A m
 | _,0,_,_,_,_,_,_,_,h,_,_=>absurd h (Nat.not_lt_zero _)
 | 0,f+1,j,st,ln,A,C,Q,hw,_,hb,_=>by
  have e:j=n:=by omega
  subst e;rw [f23r2n8,decide_eq_false (by omega),cond_false];exact .inr ⟨st,ln,A,C,Q,rfl,hb,rfl⟩
 | w+1,f+1,j,st,ln,A,C,Q,hw,hf,hb,hAi=>by
  rw [f23r2n8,decide_eq_true (by omega),cond_true];rcases oner2_eq tt p q cs ls xr hS hN hm hn hB hU hmf ee hi (by omega:j<n) hb hAi with ⟨h1,h2⟩|⟨st',ln',A',C',Q',h1,h2,h3,h4⟩
  ·rw [h1];simp only [Option.bind_some,Int.toNat_natCast];exact .inl ⟨j,st,ln,A,_,Q,rfl,h2⟩
  ·rw [h1];simp only [Option.bind_some];rw [wrSucc (by omega)];rcases scanr2_eq hS hN hm hn hB hU hmf ee hi w f (j+1) (by omega) (by omega) h2 h4 with ⟨j',st2,ln2,A2,C2,Q2,k1,k2⟩|⟨st2,ln2,A2,C2,Q2,k1,k2,k3⟩
   ·exact .inl ⟨j',st2,ln2,A2,C2,Q2,k1,k2⟩
   ·exact .inr ⟨st2,ln2,A2,C2,Q2,k1,k2,by omega⟩
theorem popr2_eq(hS:S.length=m)(hN:N.length=n)(hm:m≤10)(hn:n≤8)(hB:B.length=80)(hU:U.length=80)(hmf:∀a b,a<m→b<n→mf a b=gB B (a*8+b))(ee:Int){st ln:Nat}{A C Q:List Int}(hb:BS m n mf S N U 100 0 st ln A C Q)(hln:0<ln) :
  (∃j' st' ln' A' C' Q',f23r2n5 tt st ln ee p q cs B ls xr S N U A C Q=some (.norm st' ln' ((j':Nat):Int) A' C' Q')∧Found m n mf S N U A' C' j') ∨
  ∃st' ln' A' C' Q',f23r2n5 tt st ln ee p q cs B ls xr S N U A C Q=some (.norm st' ln' ee A' C' Q')∧BS m n mf S N U 100 0 st' ln' A' C' Q'∧ln'+un A' m+1=ln+un A m:=by
 have heq:=hb.eq;obtain ⟨q0,q1,q2,q3⟩:=hb.q;cases q0 with
 | nil=>have:=congrArg List.length q1; rw [List.length_drop] at this; simp [ints] at this; omega
 | cons i q0 =>
  have hlen:(ints (i::q0)).length=ln:=by rw [←q1,List.length_drop]; omega
  unfold f23r2n5;rw [Qw (decide_eq_true (by omega)),q1,List.take_of_length_le (by omega)];have e0:at? (ints (i::q0)) 0=some (i:Int):=rfl;rw [e0,bd_,Qw (b:=cutB 1 (ln:Int) ln) (by unfold cutB; exact decide_eq_true (by omega)),show Int.toNat 1=1 from rfl];have hi:=q2 i List.mem_cons_self;have hq2:Q.drop (st+1)=ints q0:=by rw [←List.drop_drop,q1]; rfl
  have hb2:BS m n mf S N U i 0 (st+1) (ln-1) A C Q:={ hb with
   eq:=by omega
   b:=by have:=hb.b; omega
   q:=⟨q0,hq2,fun a ha=>q2 a (List.mem_cons_of_mem _ ha),fun a ha1 ha2=>by
    by_cases e:a=i
    ·exact .inr fun k hk1 hk2 hk3=>absurd (hk2 e) (Nat.not_lt_zero _)
    ·rcases q3 a ha1 ha2 with h | h
     ·rcases List.mem_cons.1 h with h | h
      ·exact absurd h e
      ·exact .inl h
     ·exact .inr fun k hk1 hk2 hk3=>h k hk1 (fun e2=>by omega) hk3⟩ }
  rcases scanr2_eq tt p q cs ls xr hS hN hm hn hB hU hmf ee hi.1 n FUEL 0 (by omega) (Qad (by omega)) hb2 hi.2 with ⟨j',st2,ln2,A2,C2,Q2,k1,k2⟩|⟨st2,ln2,A2,C2,Q2,k1,k2,k3⟩
  ·rw [show ((0:Nat):Int)=0 from rfl] at k1;rw [k1]; exact .inl ⟨j',st2,ln2,A2,C2,Q2,rfl,k2⟩
  ·rw [show ((0:Nat):Int)=0 from rfl] at k1;rw [k1];refine .inr ⟨st2,ln2,A2,C2,Q2,rfl,{ k2 with q:=?_ },by omega⟩;obtain ⟨w0,w1,w2,w3⟩:=k2.q;exact ⟨w0,w1,w2,fun a ha1 ha2=>(w3 a ha1 ha2).imp id fun h k hk1 hk2 hk3=>h k hk1 (fun _=>hk1) hk3⟩
theorem srchr2_eq(hS:S.length=m)(hN:N.length=n)(hm:m≤10)(hn:n≤8)(hB:B.length=80)(hU:U.length=80)(hmf:∀a b,a<m→b<n→mf a b=gB B (a*8+b)):∀(f:Nat){st ln:Nat}{A C Q:List Int},ln+un A m<f→BS m n mf S N U 100 0 st ln A C Q →
  (∃j' A' C',f23r2n9 (f+1) tt p q cs B ls xr S N U st ln (-1) A C Q=some (.exit6 ((j':Nat):Int) A' C')∧Found m n mf S N U A' C' j') ∨
  ∃st' A' C' Q',f23r2n9 (f+1) tt p q cs B ls xr S N U st ln (-1) A C Q=some (.exit6 (-1) A' C')∧BS m n mf S N U 100 0 st' 0 A' C' Q'
 | 0,_,_,_,_,_,h,_=>absurd h (Nat.not_lt_zero _)
 | f+1,st,ln,A,C,Q,h,hb=>by
  rw [f23r2n9,decide_eq_true (by omega:(-1:Int)<0),cond_true]
  by_cases hln:0<ln
  ·rw [decide_eq_true (by omega:(0:Int)<(ln:Int)),cond_true];rcases popr2_eq tt p q cs ls xr hS hN hm hn hB hU hmf (-1) hb hln with ⟨j',st2,ln2,A2,C2,Q2,k1,k2⟩|⟨st2,ln2,A2,C2,Q2,k1,k2,k3⟩
   ·rw [k1];simp only [Option.bind_some];rw [f23r2n9,decide_eq_false (by omega),cond_false];exact .inl ⟨j',A2,C2,rfl,k2⟩
   ·rw [k1];simp only [Option.bind_some];exact srchr2_eq hS hN hm hn hB hU hmf f (by omega) k2
  ·have e:ln=0:=by omega
   subst e;rw [decide_eq_false (by omega),cond_false];exact .inr ⟨st,A,C,Q,rfl,hb⟩
theorem initr2_eq(hS:S.length=m)(hm:m≤10)(C:List Int):∀(r f i:Nat){A:List Int}{q0:List Nat},i+r=10→r<f→A.length=10→q0.length≤i →
  ∃A' new,f23r2n4 f tt p q cs B ls xr S N U C (i:Int) A (ints q0)=some (.exit4 A' (ints (q0++new)))∧A'.length=10∧(∀a,a<i→gI A' a=gI A a)∧(∀a,i≤a→a<10→gI A' a=if a<m∧0<gI S a then -2 else -1)∧(∀a∈new,i≤a∧a<m∧0<gI S a)∧new.Nodup∧∀a,i≤a→a<m→0<gI S a→a∈new
 | _,0,_,_,_,_,h,_,_=>absurd h (Nat.not_lt_zero _)
 | 0,f+1,i,A,q0,hi,_,hA,_=>by
  rw [f23r2n4,decide_eq_false (by omega),cond_false];exact ⟨A,[],by rw [List.append_nil],hA,fun _ _=>rfl,fun a h1 h2=>by omega,fun _ h=>(by cases h),List.nodup_nil,fun a h1 h2 _=>by omega⟩
 | r+1,f+1,i,A,q0,hi,hf,hA,hq=>by
  have hiA:i<A.length:=by omega
  have e1:gI (A.set i (-1))=fun a=>if a=i then (-1:Int) else gI A a:=funext fun a=>Qaj _ _ hiA;have hlS:(A.set i (-1)).length=10:=by rw [List.length_set]; exact hA
  rw [f23r2n4,decide_eq_true (by omega),cond_true,Qw (Qap (by omega)),Int.toNat_natCast,Nat.mul_one,Qw (decide_eq_true hiA),wrSucc (by omega)];have small:(¬(i<m∧0<gI S i))→∃A' new,f23r2n4 f tt p q cs B ls xr S N U C ((i+1:Nat):Int) (A.set i (-1)) (ints q0)=some (.exit4 A' (ints (q0++new)))∧A'.length=10∧(∀a,a<i→gI A' a=gI A a)∧(∀a,i≤a→a<10→gI A' a=if a<m∧0<gI S a then -2 else -1)∧(∀a∈new,i≤a∧a<m∧0<gI S a)∧new.Nodup∧∀a,i≤a→a<m→0<gI S a→a∈new:=fun hno=>by
   obtain ⟨A',new,g1,g2,g3,g4,g5,g6,g7⟩:=initr2_eq hS hm C r f (i+1) (A:=A.set i (-1)) (q0:=q0) (by omega) (by omega) hlS (by omega);refine ⟨A',new,g1,g2,fun a ha=>?_,fun a h1 h2=>?_,fun a ha=>⟨by have:=(g5 a ha).1; omega,(g5 a ha).2⟩,g6,fun a h1 h2 h3=>g7 a (by by_cases e:a=i; subst e; exact absurd ⟨h2,h3⟩ hno; omega) h2 h3⟩
   ·rw [g3 a (by omega),e1]; exact if_neg (by omega)
   ·by_cases e:a=i
    ·subst e; rw [g3 a (by omega),e1,if_neg hno]; exact if_pos rfl
    ·exact g4 a (by omega) h2
  by_cases him:i<m
  ·rw [decide_eq_true (by omega),cond_true,at_gI (by omega),bd_]
   by_cases hpos:0<gI S i
   ·have hl2:((A.set i (-1)).set i (-2)).length=10:=by rw [List.length_set]; exact hlS
    have e2:gI ((A.set i (-1)).set i (-2))=fun a=>if a=i then (-2:Int) else gI A a:=funext fun a=>by
     rw [Qaj _ _ (by omega),e1]
     by_cases e:a=i
     ·rw [if_pos e,if_pos e]
     ·rw [if_neg e,if_neg e]; exact if_neg e
    rw [decide_eq_true hpos,cond_true,Qw (decide_eq_true (by omega)),Qw (Qao (by rw [ints_len]; omega) (by omega))];have hqe:ints q0++[(i:Int)]=ints (q0++[i]):=by rw [ints_app]; rfl
    rw [hqe];obtain ⟨A',new,g1,g2,g3,g4,g5,g6,g7⟩:=initr2_eq hS hm C r f (i+1) (A:=(A.set i (-1)).set i (-2)) (q0:=q0++[i]) (by omega) (by omega) hl2 (by simp; omega);refine ⟨A',[i]++new,by rw [g1,List.append_assoc],g2,fun a ha=>?_,fun a h1 h2=>?_,fun a ha=>?_,?_,fun a h1 h2 h3=>?_⟩
    ·rw [g3 a (by omega),e2]; exact if_neg (by omega)
    ·by_cases e:a=i
     ·subst e; rw [g3 a (by omega),e2,if_pos ⟨him,hpos⟩]; exact if_pos rfl
     ·exact g4 a (by omega) h2
    ·rcases List.mem_append.1 ha with ha | ha
     ·rw [List.mem_singleton] at ha;subst ha; exact ⟨Nat.le_refl _,him,hpos⟩
     ·exact ⟨by have:=(g5 a ha).1; omega,(g5 a ha).2⟩
    ·exact List.nodup_cons.2 ⟨fun h=>by have:=(g5 i h).1; omega,g6⟩
    ·by_cases e:a=i
     ·subst e; exact List.mem_append_left _ (List.mem_singleton.2 rfl)
     ·exact List.mem_append_right _ (g7 a (by omega) h2 h3)
   ·rw [decide_eq_false hpos,cond_false];exact small (fun h=>hpos h.2)
  ·rw [decide_eq_false (by omega),cond_false];exact small (fun h=>him h.1)
theorem leastr2_eq(hS:S.length=m)(hm:m≤10)(hn:n≤8)(hU:U.length=80)(ee:Int){A C:List Int}(hA:A.length=10)(hC:C.length=8):∀(w:List Nat)(f i j:Nat)(v:Int),w.length<f→j<n→gI C j=(i:Int)→AP m n mf S U A C 1 w i→1≤v →
  ∃c,f23r2n11 f tt ee p q cs B ls xr S N U A C v (j:Int)=some (.exit12 c)∧1≤c∧c≤v∧AP m n mf S U A C c w i
 | _,0,_,_,_,h,_,_,_,_=>absurd h (Nat.not_lt_zero _)
 | [],f+1,i,j,v,_,hj,hCj,hap,hv=>by
  obtain ⟨h1,h2,h3⟩:=hap;have hmn:=mnI_le v (gI S i);rw [f23r2n11,Qw (Qap (by omega)),Int.toNat_natCast,Nat.mul_one,Qau (by omega),bd_,hCj,Qw (Qap (by omega)),Int.toNat_natCast,Nat.mul_one,Qau (by omega),bd_,h2,decide_eq_true rfl,cond_true,at_gI (by omega),bd_];exact ⟨mnI v (gI S i),rfl,by omega,by omega,h1,h2,by omega⟩
 | k::w,f+1,i,j,v,hf,hj,hCj,hap,hv=>by
  obtain ⟨h1,h2,h3,h4,i',h5,h6,h7⟩:=hap;have hmn:=mnI_le v (gI U (i*8+k));rw [f23r2n11,Qw (Qap (by omega)),Int.toNat_natCast,Nat.mul_one,Qau (by omega),bd_,hCj,Qw (Qap (by omega)),Int.toNat_natCast,Nat.mul_one,Qau (by omega),bd_,h2,decide_eq_false (by omega),cond_false,Qw (Qap (by omega)),Int.toNat_natCast,Nat.mul_one,Qau (by omega),bd_];obtain ⟨c,k1,k2,k3,k4⟩:=leastr2_eq hS hm hn hU ee hA hC w f i' k (mnI v (gI U (i*8+k))) (by simpa using hf) h3 h5 h7 (by omega);exact ⟨c,k1,k2,by omega,h1,h2,h3,by omega,i',h5,h6,k4⟩
theorem augr2_eq(hS:S.length=m)(hm:m≤10)(hn:n≤8)(ee ne c:Int)(hc:1≤c∧c≤68719476736)(hSb:∀i,i<m→gI S i≤68719476736){A C:List Int}(hA:A.length=10)(hC:C.length=8):∀(w:List Nat)(f i j:Nat){U:List Int},U.length=80→w.length<f→j<n→gI C j=(i:Int)→mf i j=true→AP m n mf S U A C c w i→(j::w).Nodup →
   (∀a b,a<m→b<n→0≤XU U a b)→(∀a b,a<m→b<n→XU U a b≠0→mf a b=true)→(∀b∈j::w,∀a,a<m→XU U a b≤68719476736) →
  ∃ s U', f23r2n13 f tt c p q cs B ls xr S N ee ne A C (j : Int) U = some (.exit14 (S.set s (gI S s - c)) U') ∧ s < m ∧ c ≤ gI S s ∧ U'.length = 80 ∧
   (∀a,a<m→sN n (XU U' a)=sN n (XU U a)+(if a=s then c else 0))∧(∀b,b<n→sN m (fun a=>XU U' a b)=sN m (fun a=>XU U a b)+(if b=j then c else 0)) ∧
   (∀a b,a<m→b<n→0≤XU U' a b)∧(∀a b,a<m→b<n→XU U' a b≠0→mf a b=true)
 | _,0,_,_,_,_,h,_,_,_,_,_,_,_,_=>absurd h (Nat.not_lt_zero _)
 | [],f+1,i,j,U,hU,_,hj,hCj,hmf,hap,_,hnn,hsup,hbd=>by
  obtain ⟨h1,h2,h3⟩:=hap;have hx:=hnn i j h1 hj;have hx2:=hbd j List.mem_cons_self i h1;have hs:=hSb i h1;have e1:wr64 (gI U (i*8+j)+c)=gI U (i*8+j)+c:=wrIn (by show _≤XU U i j+c; omega) (by show XU U i j+c≤_; omega);have e2:wr64 (gI S i-c)=gI S i-c:=wrIn (by omega) (by omega);rw [f23r2n13,Qw (Qap (by omega)),Int.toNat_natCast,Nat.mul_one,Qau (by omega),bd_,hCj,Qw (Qap (by omega)),Int.toNat_natCast,Qau (by omega),bd_,Nat.mul_one,Qau (by omega),bd_,h2,decide_eq_true rfl,cond_true,at_gI (by omega),bd_,e1,e2];refine ⟨i,_,rfl,h1,h3,by rw [List.length_set]; exact hU,fun a ha=>?_,fun b hb=>?_,fun a b ha hb=>?_,fun a b ha hb=>?_⟩
  ·rw [row_set hU hn (by omega) hj _ (by omega)]
   by_cases e:a=i
   ·rw [if_pos e,if_pos e]; show _+(XU U i j+c-XU U i j)=_; omega
   ·rw [if_neg e,if_neg e]
  ·rw [col_set hU hm h1 (by omega) _ (by omega)]
   by_cases e:b=j
   ·rw [if_pos e,if_pos e]; show _+(XU U i j+c-XU U i j)=_; omega
   ·rw [if_neg e,if_neg e]
  ·rw [XU_set hU (by omega) (by omega) (by omega) (by omega)];have:=hnn a b ha hb
   split
   ·show 0≤XU U i j+c; omega
   ·exact this
  ·rw [XU_set hU (by omega) (by omega) (by omega) (by omega)]
   split
   ·rename_i e;intro _;rw [e.1,e.2]; exact hmf
   ·exact hsup a b ha hb
 | k::w,f+1,i,j,U,hU,hf,hj,hCj,hmf,hap,hnd,hnn,hsup,hbd=>by
  obtain ⟨h1,h2,h3,h4,i',h5,h6,h7⟩:=hap;have hx:=hnn i j h1 hj;have hx2:=hbd j List.mem_cons_self i h1;have hk2:=hbd k (List.mem_cons_of_mem _ List.mem_cons_self) i h1;have hnd1:=List.nodup_cons.1 hnd;have hnd2:=List.nodup_cons.1 hnd1.2;have hjk:k≠j:=fun e=>hnd1.1 (e ▸ List.mem_cons_self);have e1:wr64 (gI U (i*8+j)+c)=gI U (i*8+j)+c:=wrIn (by show _≤XU U i j+c; omega) (by show XU U i j+c≤_; omega);have hU1:(U.set (i*8+j) (gI U (i*8+j)+c)).length=80:=by rw [List.length_set]; exact hU
  have hk1:gI (U.set (i*8+j) (gI U (i*8+j)+c)) (i*8+k)=gI U (i*8+k):=by
   have:=XU_set hU (i:=i) (j:=j) (a:=i) (b:=k) (by omega) (by omega) (by omega) (by omega) (gI U (i*8+j)+c);rw [if_neg (fun h=>hjk h.2)] at this;exact this
  have e2:wr64 (gI U (i*8+k)-c)=gI U (i*8+k)-c:=wrIn (by omega) (by show XU U i k-c≤_; omega);rw [f23r2n13,Qw (Qap (by omega)),Int.toNat_natCast,Nat.mul_one,Qau (by omega),bd_,hCj,Qw (Qap (by omega)),Int.toNat_natCast,Qau (by omega),bd_,Nat.mul_one,Qau (by omega),bd_,h2,decide_eq_false (by omega),cond_false,Qw (Qap (by omega)),e1,Int.toNat_natCast,Nat.mul_one,Qau (by omega),bd_,hk1,e2];have hX2:∀a b,a<m→b<n→XU ((U.set (i*8+j) (gI U (i*8+j)+c)).set (i*8+k) (gI U (i*8+k)-c)) a b=if a=i∧b=k then XU U i k-c else if a=i∧b=j then XU U i j+c else XU U a b:=fun a b ha hb=>by
   rw [XU_set hU1 (by omega) (by omega) (by omega) (by omega),XU_set hU (by omega) (by omega) (by omega) (by omega)]
  have hXw:∀b∈w,∀a,a<m→b<n→XU ((U.set (i*8+j) (gI U (i*8+j)+c)).set (i*8+k) (gI U (i*8+k)-c)) a b=XU U a b:=fun b hb a ha hbn=>by
   rw [hX2 a b ha hbn,if_neg (fun (e:a=i∧b=k)=>hnd2.1 (e.2 ▸ hb)),if_neg (fun (e:a=i∧b=j)=>hnd1.1 (e.2 ▸ List.mem_cons_of_mem _ hb))]
  have hwn:=h7.lt8;obtain ⟨s,U',g1,g2,g3,g4,g5,g6,g7,g8⟩:=augr2_eq hS hm hn ee ne c hc hSb hA hC w f i' k (U:=(U.set (i*8+j) (gI U (i*8+j)+c)).set (i*8+k) (gI U (i*8+k)-c)) (by rw [List.length_set]; exact hU1) (by simpa using hf) h3 h5 h6 (h7.keep fun b hb a ha=>hXw b hb a ha (hwn b hb)) hnd1.2
   (fun a b ha hb=>by
    rw [hX2 a b ha hb];have:=hnn a b ha hb
    split
    ·show 0≤gI U (i*8+k)-c; omega
    ·split
     ·omega
     ·exact this)
   (fun a b ha hb=>by
    rw [hX2 a b ha hb]
    split
    ·rename_i e;intro _;rw [e.1,e.2];exact hsup i k h1 h3 (by show gI U (i*8+k)≠0; omega)
    ·split
     ·rename_i e;intro _;rw [e.1,e.2]; exact hmf
     ·exact hsup a b ha hb)
   (fun b hb a ha=>by
    rcases List.mem_cons.1 hb with e | hb
    ·subst e;rw [hX2 a b ha h3];have:=hbd b (List.mem_cons_of_mem _ List.mem_cons_self) a ha
     split
     ·omega
     ·rw [if_neg (fun e=>hjk e.2)]; exact this
    ·rw [hXw b hb a ha (hwn b hb)];exact hbd b (List.mem_cons_of_mem _ (List.mem_cons_of_mem _ hb)) a ha)
  refine ⟨s,U',g1,g2,g3,g4,fun a ha=>?_,fun b hb=>?_,g7,g8⟩
  ·rw [g5 a ha,row_set hU1 hn (by omega) h3 _ (by omega),row_set hU hn (by omega) hj _ (by omega)]
   by_cases e:a=i
   ·rw [if_pos e,if_pos e];have:XU (U.set (i*8+j) (gI U (i*8+j)+c)) i k=gI U (i*8+k):=hk1;rw [this];show _+(XU U i j+c-XU U i j)+_+_=_;omega
   ·rw [if_neg e,if_neg e]; omega
  ·rw [g6 b hb,col_set hU1 hm h1 (by omega) _ (by omega),col_set hU hm h1 (by omega) _ (by omega)];have hk3:XU (U.set (i*8+j) (gI U (i*8+j)+c)) i k=gI U (i*8+k):=hk1;rw [hk3]
   by_cases e:b=k
   ·have:b≠j:=fun e2=>hjk (e.symm.trans e2);rw [if_pos e,if_pos e,if_neg this,if_neg this]; omega
   ·rw [if_neg e,if_neg e]
    by_cases e2:b=j
    ·rw [if_pos e2,if_pos e2]; show _+(XU U i j+c-XU U i j)+_+_=_; omega
    ·rw [if_neg e2,if_neg e2]; omega
theorem mainr2_eq(hB:B.length=80)(hmf:∀a b,a<m→b<n→mf a b=gB B (a*8+b)):∀(f:Nat){S N U:List Int}{tt:Int},FS m n s0 d0 mf S N U tt→(549755813888-tt).toNat<f→∃v,f23r2n14 f p q cs B ls xr tt S N U=some (.ret v)∧IsMin m n s0 d0 mf v
 | 0,_,_,_,_,_,h=>absurd h (Nat.not_lt_zero _)
 | f+1,S,N,U,tt,hF,hf=>by
  have hm:=hF.m10;have hn:=hF.n8;have hU:=hF.ul;have hSl:=hF.sl;have hNl:=hF.nl;obtain ⟨A0,new,i1,i2,_,i4,i5,i6,i7⟩:=initr2_eq (N:=N) (U:=U) tt p q cs ls xr (B:=B) hSl hm (List.replicate 8 (-1)) 10 FUEL 0 (A:=List.replicate 10 0) (q0:=[]) (by omega) (Qad (by omega)) (by simp) (by simp);rw [List.nil_append] at i1;have i1':f23r2n4 FUEL tt p q cs B ls xr S N U (List.replicate 8 (-1)) 0 (List.replicate 10 0) []=some (.exit4 A0 (ints new)):=i1;have hA0:∀a,a<m→(gI A0 a≠-1↔0<gI S a):=fun a ha=>by
   rw [i4 a (Nat.zero_le _) (by omega)]
   by_cases h:0<gI S a
   ·rw [if_pos ⟨ha,h⟩]; simp [h]
   ·rw [if_neg (fun k=>h k.2)]; simp [h]
  have hb0:BS m n mf S N U 100 0 0 (ints new).length A0 (List.replicate 8 (-1)) (ints new):=by
   refine ⟨i2,by simp,by omega,⟨new,rfl,fun a ha=>⟨(i5 a ha).2.1,(hA0 a (i5 a ha).2.1).2 (i5 a ha).2.2⟩,fun a ha1 ha2=>.inl ?_⟩,fun a ha1 ha2=>(hA0 a ha1).2 ha2,fun k hk=>.inl (gI_rep 8 _ k (by omega)),fun k hk hk2=>?_,fun k hk hk2=>?_,fun a ha1 ha2=>?_,?_⟩
   ·refine Classical.byContradiction fun hno=>?_;have h2:=(hA0 a ha1).1 ha2;exact hno (i7 a (Nat.zero_le _) ha1 h2)
   ·rw [gI_rep 8 _ k (by omega)] at hk2; omega
   ·rw [gI_rep 8 _ k (by omega)] at hk2; omega
   ·have h2:=(hA0 a ha1).1 ha2;exact ⟨[],⟨ha1,by rw [i4 a (Nat.zero_le _) (by omega),if_pos ⟨ha1,h2⟩],by omega⟩,List.nodup_nil,fun _ h=>(by cases h)⟩
   ·rw [ints_len];exact nd_un A0 m new i6 fun a ha=>⟨(i5 a ha).2.1,(hA0 a (i5 a ha).2.1).2 (i5 a ha).2.2⟩
  have hnn:=hF.fl.nn;have hrow0:∀a,a<m→0≤sN n (XU U a):=fun a ha=>sN_nn fun b hb=>hnn a b ha hb;have hcol0:∀b,b<n→0≤sN m (fun a=>XU U a b):=fun b hb=>sN_nn fun a ha=>hnn a b ha hb;have e3:f23r2n3 tt p q cs B ls xr S N U (List.replicate 8 (-1))=some (.norm A0 (ints new)):=by
   unfold f23r2n3;rw [i1']; rfl
  rw [f23r2n14,callsr2_eq];simp only [Option.bind_some];rw [e3];simp only [Option.bind_some];rcases srchr2_eq (N:=N) (U:=U) tt p q cs ls xr (B:=B) hSl hNl hm hn hB hU hmf 18446744073709551615 (st:=0) (by have:=hb0.b; omega) hb0 with ⟨j,A',C',k1,hfd⟩|⟨st',A',C',Q',k1,hb⟩
  ·have k1':f23r2n9 FUEL tt p q cs B ls xr S N U 0 (ints new).length (-1) A0 (List.replicate 8 (-1)) (ints new)=_:=k1;obtain ⟨hj,hNj,hAl,hCl,i,w,hCj,hmij,hap,hnd⟩:=hfd;have hNv:=hF.nv j hj;have hdb:=hF.db j hj;have hc0:=hcol0 j hj;have hwl:w.length≤8:=nd_len 8 w (List.nodup_cons.1 hnd).2 fun x hx=>by have:=hap.lt8 x hx; omega
   rw [k1'];simp only [Option.bind_some];rw [decide_eq_false (by omega),cond_false,at_gI (by omega),bd_];obtain ⟨c,c1,c2,c3,c4⟩:=leastr2_eq (N:=N) tt p q cs ls xr (B:=B) hSl hm hn hU ((j:Nat):Int) hAl hCl w FUEL i j (gI N j) (Qad (by omega)) hj hCj hap (by omega);have e10:f23r2n10 tt ((j:Nat):Int) (gI N j) p q cs B ls xr S N U A' C'=some (.norm c):=by
    unfold f23r2n10;rw [c1]; rfl
   rw [e10];simp only [Option.bind_some];obtain ⟨s,U',g1,g2,g3,g4,g5,g6,g7,g8⟩:=augr2_eq (N:=N) tt p q cs ls xr (B:=B) hSl hm hn ((j:Nat):Int) (gI N j) c (by omega) (fun a ha=>by have:=hF.sv a ha; have:=hF.sb a ha; have:=hrow0 a ha; omega) hAl hCl w FUEL i j hU (Qad (by omega)) hj hCj hmij c4 hnd hnn hF.fl.may (fun b hb a ha=>by
    have hbn:b<n:=by
     rcases List.mem_cons.1 hb with rfl | hb
     ·exact hj
     ·exact hap.lt8 b hb
    have q1:=sN_ge (f:=XU U a) hbn fun b' hb'=>hnn a b' ha hb';have q2:=hF.fl.row a ha;have q3:=hF.sb a ha;omega)
   have e12:f23r2n12 tt ((j:Nat):Int) c p q cs B ls xr S N (gI N j) U A' C'=some (.norm (S.set s (gI S s-c)) U'):=by
    unfold f23r2n12;rw [g1]; rfl
   rw [e12];simp only [Option.bind_some,Int.toNat_natCast];have hsS:s<S.length:=by omega
   have hjN:j<N.length:=by omega
   have hfl':Flw m n s0 d0 mf (XU U'):=⟨g7,g8,fun a ha=>by
    rw [g5 a ha];have q2:=hF.fl.row a ha
    by_cases e:a=s
    ·subst e; rw [if_pos rfl]; have:=hF.sv a ha; omega
    ·rw [if_neg e]; omega,fun b hb=>by
    rw [g6 b hb];have q2:=hF.fl.col b hb
    by_cases e:b=j
    ·subst e; rw [if_pos rfl]; omega
    ·rw [if_neg e]; omega⟩
   have htot:Flo.tot m n (XU U')=tt+c:=by
    rw [hF.tv];unfold Flo.tot;rw [Qz (g:=fun a=>sN n (XU U a)+(if a=s then c else 0)) fun a ha=>g5 a ha,sN_add1 (fun a=>sN n (XU U a)),if_pos g2]
   have hle:Flo.tot m n (XU U')≤549755813888:=by
    have q1:=tot_le hfl';have q2:=sN_bd (f:=d0) (b:=68719476736) (n:=n) fun b hb=>(hF.db b hb).2;omega
   have htt0:0≤tt:=by
    rw [hF.tv];exact sN_nn hrow0
   have ew:wr64 (tt+c)=tt+c:=wrIn (by omega) (by omega);have ewN:wr64 (gI N j-c)=gI N j-c:=wrIn (by omega) (by omega);rw [ew,ewN];refine mainr2_eq hB hmf f ⟨hm,hn,by rw [List.length_set]; exact hSl,by rw [List.length_set]; exact hNl,g4,hfl',fun a ha=>?_,fun b hb=>?_,htot.symm,hF.sb,hF.db⟩ (by omega)
   ·rw [Qaj _ _ hsS,g5 a ha];have:=hF.sv a ha
    by_cases e:a=s
    ·subst e; rw [if_pos rfl,if_pos rfl]; omega
    ·rw [if_neg e,if_neg e]; omega
   ·rw [Qaj _ _ hjN,g6 b hb];have:=hF.nv b hb
    by_cases e:b=j
    ·subst e; rw [if_pos rfl,if_pos rfl]; omega
    ·rw [if_neg e,if_neg e]; omega
  ·have k1':f23r2n9 FUEL tt p q cs B ls xr S N U 0 (ints new).length (-1) A0 (List.replicate 8 (-1)) (ints new)=_:=k1;rw [k1'];simp only [Option.bind_some];rw [decide_eq_true (by omega),cond_true];refine ⟨tt,rfl,?_⟩;have hst:=hF.fl.stop (fun i=>decide (gI A' i≠-1)) (fun j=>decide (0≤gI C' j)) (fun a ha h=>by
     refine decide_eq_true (hb.a2 a ha ?_);have:=hF.sv a ha; omega) (fun a b ha hb' h1 h2=>by
     obtain ⟨q0,q1,q2,q3⟩:=hb.q;have hq0:q0=[]:=by
      have:=congrArg List.length q1;rw [List.length_drop,ints_len] at this;have:=hb.eq;exact List.eq_nil_of_length_eq_zero (by omega)
     rcases q3 a ha (of_decide_eq_true h1) with h | h
     ·rw [hq0] at h; cases h
     ·exact decide_eq_true (h b hb' (fun e=>by omega) h2)) (fun b hb' h=>by
     have h1:=hb.c2 b hb' (of_decide_eq_true h);have h2:=hF.nv b hb';have h3:=hF.fl.col b hb';omega) (fun a b ha hb' h1 h2=>decide_eq_true (hb.c3 b hb' (of_decide_eq_true h1) a ha h2))
   rw [hF.tv];exact hF.fl.min hst
end
theorem flowr2_eq{p q:List Int}{B:List Bool}(cs:List AC)(ls:List AA)(r:List Int)(hk2:p.length≤10)(hn:q.length≤8)(hB:B.length=80)(hp:∀i,i<p.length→0≤gI p i∧gI p i≤68719476736)(hq:∀j,j<q.length→0≤gI q j∧gI q j≤68719476736) :
  ∃v,f23r2 p q cs B ls r=some v∧IsMin p.length q.length (gI p) (gI q) (fun a b=>gB B (a*8+b)) v:=by
 obtain ⟨v,h1,h2⟩:=mainr2_eq (mf:=fun a b=>gB B (a*8+b)) p q cs ls r hB (fun _ _ _ _=>rfl) FUEL (FS.start (mf:=fun a b=>gB B (a*8+b)) (S:=p) hk2 hn rfl rfl (fun _ _=>rfl) (fun _ _=>rfl) hp hq) (by decide);refine ⟨v,?_,h2⟩;unfold f23r2 f23r2n0;rw [f45_id (by omega),bd_,f45_id (by omega),bd_,h1]; rfl
section
variable {m n:Nat} {mf:Nat→Nat→Bool} {s0 d0:Nat→Int} {B:List Bool} {S N U:List Int} (tt:Int) (p q:List Int) (cs:List AC) (ls:List AA)
theorem callsr3_eq:f23r3n1 tt p q cs B ls S N U=some (.norm (List.replicate 8 (-1))):=by
 unfold f23r3n1;have:f23r3n2 FUEL tt p q cs B ls S N U 0 (List.replicate 8 0)=some (.exit2 (List.replicate 8 (-1))):=by rfl
 rw [this]; rfl
theorem innerr3_eq(hS:S.length=m)(hm:m≤10)(hUl:U.length=80){j:Nat}(hj:j<8)(i ee:Int)(C:List Int):∀(r f k:Nat){st ln:Nat}{A Q:List Int}{q0:List Nat},k+r=m→r<f→A.length=10→st+ln=Q.length→Q.drop st=ints q0→ln+un A m≤10 →
  ∃ st' ln' A' Q' new, f23r3n7 f tt ee i (j : Int) N S p q cs B ls U C st ln (k : Int) A Q = some (.exit10 st' ln' A' Q') ∧ A'.length = 10 ∧ st' + ln' = Q'.length ∧ Q'.drop st' = ints (q0 ++ new) ∧ ln' + un A' m = ln + un A m ∧
   (∀a,a<m→gI A a≠-1→gI A' a=gI A a)∧(∀a,a<m→gI A a = -1→gI A' a = -1∨(gI A' a=(j:Int)∧0<gI U (a*8+j)∧a∈new))∧(∀a∈new,a<m∧gI A' a≠-1)∧(∀a,k≤a→a<m→0<gI U (a*8+j)→gI A' a≠-1)
 | _,0,_,_,_,_,_,_,_,h,_,_,_,_=>absurd h (Nat.not_lt_zero _)
 | 0,f+1,k,st,ln,A,Q,q0,hk,_,hA,hq,hQ,hb=>by
  rw [f23r3n7,decide_eq_false (by omega),cond_false];exact ⟨st,ln,A,Q,[],rfl,hA,hq,by rw [List.append_nil]; exact hQ,rfl,fun _ _ _=>rfl,fun _ _ h=>.inl h,fun _ h=>(by cases h),fun a h1 h2 _=>by omega⟩
 | r+1,f+1,k,st,ln,A,Q,q0,hk,hf,hA,hq,hQ,hb=>by
  have hkA:k<A.length:=by omega
  rw [f23r3n7,decide_eq_true (by omega),cond_true,Qw (Qap (by omega)),Int.toNat_natCast,Nat.mul_one,Qau hkA,bd_,wrSucc (by omega)]
  by_cases h1:gI A k = -1
  ·rw [decide_eq_true h1,cond_true,Qw (Qap hj),Int.toNat_natCast,Nat.mul_one,Qau (by omega),bd_]
   by_cases h2:0<gI U (k*8+j)
   ·rw [decide_eq_true h2,cond_true,Qw (Qao (by omega) (by omega)),Qw (decide_eq_true hq)];have hun:=un_set hkA h1 (v:=(j:Int)) (by omega) m;rw [decide_eq_true (by omega:k<m)] at hun;simp only [cond_true] at hun;have hqn:Q.drop st++[(k:Int)]=ints (q0++[k]):=by rw [hQ,ints_app]; rfl
    have hln:(Q.drop st++[(k:Int)]).length=ln+1:=by rw [List.length_append,List.length_drop]; simp; omega
    obtain ⟨st',ln',A',Q',new,g1,g2,g3,g4,g5,g6,g7,g8,g9⟩:=innerr3_eq hS hm hUl hj i ee C r f (k+1) (st:=0) (ln:=(Q.drop st++[(k:Int)]).length) (A:=A.set k (j:Int)) (Q:=Q.drop st++[(k:Int)]) (q0:=q0++[k]) (by omega) (by omega) (by rw [List.length_set]; exact hA) (by omega) (by rw [List.drop_zero]; exact hqn) (by omega);have hkv:gI A' k=(j:Int):=by
     rw [g6 k (by omega) (by rw [Qaj _ _ hkA,if_pos rfl]; omega),Qaj _ _ hkA,if_pos rfl]
    refine ⟨st',ln',A',Q',[k]++new,g1,g2,g3,by rw [g4,List.append_assoc],by omega,fun a ha hne=>?_,fun a ha he=>?_,fun a ha=>?_,fun a ha1 ha2 ha3=>?_⟩
    ·have hne2:a≠k:=fun e=>hne (e ▸ h1);have:=g6 a ha (by rw [Qaj _ _ hkA,if_neg hne2]; exact hne);rw [this,Qaj _ _ hkA,if_neg hne2]
    ·by_cases e:a=k
     ·subst e; exact .inr ⟨hkv,h2,by simp⟩
     ·rcases g7 a ha (by rw [Qaj _ _ hkA,if_neg e]; exact he) with h | ⟨h3,h4,h5⟩
      ·exact .inl h
      ·exact .inr ⟨h3,h4,List.mem_append_right _ h5⟩
    ·rcases List.mem_append.1 ha with ha | ha
     ·rw [List.mem_singleton] at ha;subst ha;exact ⟨by omega,by rw [hkv]; omega⟩
     ·exact g8 a ha
    ·by_cases e:a=k
     ·subst e; rw [hkv]; omega
     ·exact g9 a (by omega) ha2 ha3
   ·rw [decide_eq_false h2,cond_false];obtain ⟨st',ln',A',Q',new,g1,g2,g3,g4,g5,g6,g7,g8,g9⟩:=innerr3_eq hS hm hUl hj i ee C r f (k+1) (by omega) (by omega) hA hq hQ hb;refine ⟨st',ln',A',Q',new,g1,g2,g3,g4,g5,g6,g7,g8,fun a ha1 ha2 ha3=>?_⟩
    by_cases e:a=k
    ·subst e; exact absurd ha3 h2
    ·exact g9 a (by omega) ha2 ha3
  ·rw [decide_eq_false h1,cond_false];obtain ⟨st',ln',A',Q',new,g1,g2,g3,g4,g5,g6,g7,g8,g9⟩:=innerr3_eq hS hm hUl hj i ee C r f (k+1) (by omega) (by omega) hA hq hQ hb;refine ⟨st',ln',A',Q',new,g1,g2,g3,g4,g5,g6,g7,g8,fun a ha1 ha2 ha3=>?_⟩
   by_cases e:a=k
   ·subst e; rw [g6 a ha2 h1]; exact h1
   ·exact g9 a (by omega) ha2 ha3
theorem oner3_eq(hS:S.length=m)(hN:N.length=n)(hm:m≤10)(hn:n≤8)(hB:B.length=80)(hU:U.length=80)(hmf:∀a b,a<m→b<n→mf a b=gB B (a*8+b))(ee:Int){i j st ln:Nat}{A C Q:List Int}(hi:i<m)(hj:j<n)(hb:BS m n mf S N U i j st ln A C Q)(hAi:gI A i≠-1) :
  (f23r3n6 tt st ln ee (i:Int) N (j:Int) p q cs B ls S U A C Q=some .exit8∧Found m n mf S N U A (C.set (j*1) (i:Int)) j) ∨
  ∃st' ln' A' C' Q',f23r3n6 tt st ln ee (i:Int) N (j:Int) p q cs B ls S U A C Q=some (.norm st' ln' A' C' Q')∧BS m n mf S N U i (j+1) st' ln' A' C' Q'∧ln'+un A' m=ln+un A m∧gI A' i≠-1:=by
 obtain ⟨pp,hp1,hp2,hp3⟩:=hb.ap i hi hAi;have hcl:=hb.cl;unfold f23r3n6;rw [Qw (Qap (by omega)),Qw (Qap (by omega)),Int.toNat_natCast,Int.toNat_natCast,Nat.mul_one,gB_at (by omega),bd_,←hmf i j hi hj];cases hmij:mf i j with
 | false =>
  refine .inr ⟨st,ln,A,C,Q,rfl,{ hb with q:=?_ },rfl,hAi⟩;obtain ⟨q0,q1,q2,q3⟩:=hb.q;refine ⟨q0,q1,q2,fun a ha1 ha2=>(q3 a ha1 ha2).imp id fun h k hk1 hk2 hk3=>?_⟩;refine h k hk1 (fun e=>?_) hk3;have:=hk2 e;have:k≠j:=fun e2=>by rw [e,e2,hmij] at hk3; cases hk3
  omega
 | true =>
  rw [cond_true,Qau (by omega),bd_]
  by_cases hC:0≤gI C j
  ·rw [decide_eq_true hC,cond_true];refine .inr ⟨st,ln,A,C,Q,rfl,{ hb with q:=?_ },rfl,hAi⟩;obtain ⟨q0,q1,q2,q3⟩:=hb.q;refine ⟨q0,q1,q2,fun a ha1 ha2=>(q3 a ha1 ha2).imp id fun h k hk1 hk2 hk3=>?_⟩
   by_cases e:k=j
   ·subst e; exact hC
   ·exact h k hk1 (fun e2=>by have:=hk2 e2; omega) hk3
  ·have hCj:gI C j = -1:=(hb.cv j hj).elim id fun h=>absurd h hC;have hjp:j∉pp:=fun h=>hC (hp3 j h);have hset:∀k,gI (C.set j (i:Int)) k=if k=j then (i:Int) else gI C k:=fun k=>Qaj _ _ (by omega);rw [decide_eq_false hC,cond_false,at_gI (by omega),bd_]
   by_cases hNj:0<gI N j
   ·rw [decide_eq_true hNj,cond_true];refine .inl ⟨rfl,hj,hNj,hb.al,by rw [List.length_set]; exact hcl,i,pp,by rw [hset,if_pos rfl],hmij,?_,List.nodup_cons.2 ⟨hjp,hp2⟩⟩;exact hp1.mono (fun _ _ _=>rfl) fun k hk hk2=>by rw [hset,if_neg (fun e=>by rw [e] at hk2; exact hC hk2)]
   ·rw [decide_eq_false hNj,cond_false];obtain ⟨q0,q1,q2,q3⟩:=hb.q;obtain ⟨st',ln',A',Q',new,g1,g2,g3,g4,g5,g6,g7,g8,g9⟩:=innerr3_eq tt p q cs ls (B:=B) hS hm hU (j:=j) (by omega) (i:Int) ee C (N:=N) m FUEL 0 (by omega) (Qad (by omega)) hb.al hb.eq q1 (by have:=hb.b; omega);rw [show ((0:Nat):Int)=0 from rfl] at g1;rw [g1];have hA1:∀a,a<m→gI A a≠-1→gI A' a≠-1:=fun a ha h=>by rw [g6 a ha h]; exact h
    have hC1:∀k,0≤gI C k→0≤gI (C.set j (i:Int)) k:=fun k hk=>by
     rw [hset]
     by_cases e:k=j
     ·rw [if_pos e]; omega
     ·rw [if_neg e]; exact hk
    have hmono:∀{c:Int} {w:List Nat} {a:Nat},AP m n mf S U A C c w a→AP m n mf S U A' (C.set j (i:Int)) c w a:=fun h=>h.mono g6 fun k hk hk2=>by rw [hset,if_neg (fun e=>by rw [e] at hk2; exact hC hk2)]
    refine .inr ⟨st',ln',A',C.set j (i:Int),Q',rfl,⟨g2,by rw [List.length_set]; exact hcl,g3,⟨q0++new,g4,fun a ha=>?_,fun a ha1 ha2=>?_⟩,fun a ha1 ha2=>hA1 a ha1 (hb.a2 a ha1 ha2),fun k hk=>?_,fun k hk hk2=>?_,fun k hk hk2 a ha1 ha2=>?_,fun a ha1 ha2=>?_,by have:=hb.b; omega⟩,g5,hA1 i hi hAi⟩
    ·rcases List.mem_append.1 ha with ha | ha
     ·exact ⟨(q2 a ha).1,hA1 a (q2 a ha).1 (q2 a ha).2⟩
     ·exact g8 a ha
    ·by_cases hAa:gI A a = -1
     ·rcases g7 a ha1 hAa with h | ⟨_,_,h⟩
      ·exact absurd h ha2
      ·exact .inl (List.mem_append_right _ h)
     ·rcases q3 a ha1 hAa with h | h
      ·exact .inl (List.mem_append_left _ h)
      ·refine .inr fun k hk1 hk2 hk3=>?_
       by_cases e:k=j
       ·subst e; rw [hset,if_pos rfl]; omega
       ·exact hC1 k (h k hk1 (fun e2=>by have:=hk2 e2; omega) hk3)
    ·rw [hset]
     by_cases e:k=j
     ·rw [if_pos e]; exact .inr (by omega)
     ·rw [if_neg e]; exact hb.cv k hk
    ·rw [hset] at hk2
     by_cases e:k=j
     ·subst e; omega
     ·rw [if_neg e] at hk2; exact hb.c2 k hk hk2
    ·rw [hset] at hk2
     by_cases e:k=j
     ·subst e; exact g9 a (Nat.zero_le _) ha1 ha2
     ·rw [if_neg e] at hk2; exact hA1 a ha1 (hb.c3 k hk hk2 a ha1 ha2)
    ·by_cases hAa:gI A a = -1
     ·rcases g7 a ha1 hAa with h | ⟨h1,h2,_⟩
      ·exact absurd h ha2
      ·refine ⟨j::pp,⟨ha1,h1,hj,by omega,i,by rw [hset,if_pos rfl],hmij,hmono hp1⟩,List.nodup_cons.2 ⟨hjp,hp2⟩,fun k hk=>?_⟩;rcases List.mem_cons.1 hk with rfl | hk
       ·rw [hset,if_pos rfl]; omega
       ·exact hC1 k (hp3 k hk)
     ·obtain ⟨w,w1,w2,w3⟩:=hb.ap a ha1 hAa;exact ⟨w,hmono w1,w2,fun k hk=>hC1 k (w3 k hk)⟩
theorem scanr3_eq(hS:S.length=m)(hN:N.length=n)(hm:m≤10)(hn:n≤8)(hB:B.length=80)(hU:U.length=80)(hmf:∀a b,a<m→b<n→mf a b=gB B (a*8+b))(ee:Int){i:Nat}(hi:i<m):∀(w f j:Nat){st ln:Nat}{A C Q:List Int},j+w=n→w<f→BS m n mf S N U i j st ln A C Q→gI A i≠-1 →
  (∃j' st' ln' A' C' Q',f23r3n8 f tt ee (i:Int) N p q cs B ls S U st ln (j:Int) A C Q=some (.exit8 st' ln' ((j':Nat):Int) A' C' Q')∧Found m n mf S N U A' C' j') ∨
  ∃st' ln' A' C' Q',f23r3n8 f tt ee (i:Int) N p q cs B ls S U st ln (j:Int) A C Q=some (.exit8 st' ln' ee A' C' Q')∧BS m n mf S N U i n st' ln' A' C' Q'∧ln'+un A' m=ln+un A m
 | _,0,_,_,_,_,_,_,_,h,_,_=>absurd h (Nat.not_lt_zero _)
 | 0,f+1,j,st,ln,A,C,Q,hw,_,hb,_=>by
  have e:j=n:=by omega
  subst e;rw [f23r3n8,decide_eq_false (by omega),cond_false];exact .inr ⟨st,ln,A,C,Q,rfl,hb,rfl⟩
 | w+1,f+1,j,st,ln,A,C,Q,hw,hf,hb,hAi=>by
  rw [f23r3n8,decide_eq_true (by omega),cond_true];rcases oner3_eq tt p q cs ls hS hN hm hn hB hU hmf ee hi (by omega:j<n) hb hAi with ⟨h1,h2⟩|⟨st',ln',A',C',Q',h1,h2,h3,h4⟩
  ·rw [h1];simp only [Option.bind_some,Int.toNat_natCast];exact .inl ⟨j,st,ln,A,_,Q,rfl,h2⟩
  ·rw [h1];simp only [Option.bind_some];rw [wrSucc (by omega)];rcases scanr3_eq hS hN hm hn hB hU hmf ee hi w f (j+1) (by omega) (by omega) h2 h4 with ⟨j',st2,ln2,A2,C2,Q2,k1,k2⟩|⟨st2,ln2,A2,C2,Q2,k1,k2,k3⟩
   ·exact .inl ⟨j',st2,ln2,A2,C2,Q2,k1,k2⟩
   ·exact .inr ⟨st2,ln2,A2,C2,Q2,k1,k2,by omega⟩
theorem popr3_eq(hS:S.length=m)(hN:N.length=n)(hm:m≤10)(hn:n≤8)(hB:B.length=80)(hU:U.length=80)(hmf:∀a b,a<m→b<n→mf a b=gB B (a*8+b))(ee:Int){st ln:Nat}{A C Q:List Int}(hb:BS m n mf S N U 100 0 st ln A C Q)(hln:0<ln) :
  (∃j' st' ln' A' C' Q',f23r3n5 tt st ln ee p q cs B ls S N U A C Q=some (.norm st' ln' ((j':Nat):Int) A' C' Q')∧Found m n mf S N U A' C' j') ∨
  ∃st' ln' A' C' Q',f23r3n5 tt st ln ee p q cs B ls S N U A C Q=some (.norm st' ln' ee A' C' Q')∧BS m n mf S N U 100 0 st' ln' A' C' Q'∧ln'+un A' m+1=ln+un A m:=by
 have heq:=hb.eq;obtain ⟨q0,q1,q2,q3⟩:=hb.q;cases q0 with
 | nil=>have:=congrArg List.length q1; rw [List.length_drop] at this; simp [ints] at this; omega
 | cons i q0 =>
  have hlen:(ints (i::q0)).length=ln:=by rw [←q1,List.length_drop]; omega
  unfold f23r3n5;rw [Qw (decide_eq_true (by omega)),q1,List.take_of_length_le (by omega)];have e0:at? (ints (i::q0)) 0=some (i:Int):=rfl;rw [e0,bd_,Qw (b:=cutB 1 (ln:Int) ln) (by unfold cutB; exact decide_eq_true (by omega)),show Int.toNat 1=1 from rfl];have hi:=q2 i List.mem_cons_self;have hq2:Q.drop (st+1)=ints q0:=by rw [←List.drop_drop,q1]; rfl
  have hb2:BS m n mf S N U i 0 (st+1) (ln-1) A C Q:={ hb with
   eq:=by omega
   b:=by have:=hb.b; omega
   q:=⟨q0,hq2,fun a ha=>q2 a (List.mem_cons_of_mem _ ha),fun a ha1 ha2=>by
    by_cases e:a=i
    ·exact .inr fun k hk1 hk2 hk3=>absurd (hk2 e) (Nat.not_lt_zero _)
    ·rcases q3 a ha1 ha2 with h | h
     ·rcases List.mem_cons.1 h with h | h
      ·exact absurd h e
      ·exact .inl h
     ·exact .inr fun k hk1 hk2 hk3=>h k hk1 (fun e2=>by omega) hk3⟩ }
  rcases scanr3_eq tt p q cs ls hS hN hm hn hB hU hmf ee hi.1 n FUEL 0 (by omega) (Qad (by omega)) hb2 hi.2 with ⟨j',st2,ln2,A2,C2,Q2,k1,k2⟩|⟨st2,ln2,A2,C2,Q2,k1,k2,k3⟩
  ·rw [show ((0:Nat):Int)=0 from rfl] at k1;rw [k1]; exact .inl ⟨j',st2,ln2,A2,C2,Q2,rfl,k2⟩
  ·rw [show ((0:Nat):Int)=0 from rfl] at k1;rw [k1];refine .inr ⟨st2,ln2,A2,C2,Q2,rfl,{ k2 with q:=?_ },by omega⟩;obtain ⟨w0,w1,w2,w3⟩:=k2.q;exact ⟨w0,w1,w2,fun a ha1 ha2=>(w3 a ha1 ha2).imp id fun h k hk1 hk2 hk3=>h k hk1 (fun _=>hk1) hk3⟩
theorem srchr3_eq(hS:S.length=m)(hN:N.length=n)(hm:m≤10)(hn:n≤8)(hB:B.length=80)(hU:U.length=80)(hmf:∀a b,a<m→b<n→mf a b=gB B (a*8+b)):∀(f:Nat){st ln:Nat}{A C Q:List Int},ln+un A m<f→BS m n mf S N U 100 0 st ln A C Q →
  (∃j' A' C',f23r3n9 (f+1) tt p q cs B ls S N U st ln (-1) A C Q=some (.exit6 ((j':Nat):Int) A' C')∧Found m n mf S N U A' C' j') ∨
  ∃st' A' C' Q',f23r3n9 (f+1) tt p q cs B ls S N U st ln (-1) A C Q=some (.exit6 (-1) A' C')∧BS m n mf S N U 100 0 st' 0 A' C' Q'
 | 0,_,_,_,_,_,h,_=>absurd h (Nat.not_lt_zero _)
 | f+1,st,ln,A,C,Q,h,hb=>by
  rw [f23r3n9,decide_eq_true (by omega:(-1:Int)<0),cond_true]
  by_cases hln:0<ln
  ·rw [decide_eq_true (by omega:(0:Int)<(ln:Int)),cond_true];rcases popr3_eq tt p q cs ls hS hN hm hn hB hU hmf (-1) hb hln with ⟨j',st2,ln2,A2,C2,Q2,k1,k2⟩|⟨st2,ln2,A2,C2,Q2,k1,k2,k3⟩
   ·rw [k1];simp only [Option.bind_some];rw [f23r3n9,decide_eq_false (by omega),cond_false];exact .inl ⟨j',A2,C2,rfl,k2⟩
   ·rw [k1];simp only [Option.bind_some];exact srchr3_eq hS hN hm hn hB hU hmf f (by omega) k2
  ·have e:ln=0:=by omega
   subst e;rw [decide_eq_false (by omega),cond_false];exact .inr ⟨st,A,C,Q,rfl,hb⟩
theorem initr3_eq(hS:S.length=m)(hm:m≤10)(C:List Int):∀(r f i:Nat){A:List Int}{q0:List Nat},i+r=10→r<f→A.length=10→q0.length≤i →
  ∃A' new,f23r3n4 f tt p q cs B ls S N U C (i:Int) A (ints q0)=some (.exit4 A' (ints (q0++new)))∧A'.length=10∧(∀a,a<i→gI A' a=gI A a)∧(∀a,i≤a→a<10→gI A' a=if a<m∧0<gI S a then -2 else -1)∧(∀a∈new,i≤a∧a<m∧0<gI S a)∧new.Nodup∧∀a,i≤a→a<m→0<gI S a→a∈new
 | _,0,_,_,_,_,h,_,_=>absurd h (Nat.not_lt_zero _)
 | 0,f+1,i,A,q0,hi,_,hA,_=>by
  rw [f23r3n4,decide_eq_false (by omega),cond_false];exact ⟨A,[],by rw [List.append_nil],hA,fun _ _=>rfl,fun a h1 h2=>by omega,fun _ h=>(by cases h),List.nodup_nil,fun a h1 h2 _=>by omega⟩
 | r+1,f+1,i,A,q0,hi,hf,hA,hq=>by
  have hiA:i<A.length:=by omega
  have e1:gI (A.set i (-1))=fun a=>if a=i then (-1:Int) else gI A a:=funext fun a=>Qaj _ _ hiA;have hlS:(A.set i (-1)).length=10:=by rw [List.length_set]; exact hA
  rw [f23r3n4,decide_eq_true (by omega),cond_true,Qw (Qap (by omega)),Int.toNat_natCast,Nat.mul_one,Qw (decide_eq_true hiA),wrSucc (by omega)];have small:(¬(i<m∧0<gI S i))→∃A' new,f23r3n4 f tt p q cs B ls S N U C ((i+1:Nat):Int) (A.set i (-1)) (ints q0)=some (.exit4 A' (ints (q0++new)))∧A'.length=10∧(∀a,a<i→gI A' a=gI A a)∧(∀a,i≤a→a<10→gI A' a=if a<m∧0<gI S a then -2 else -1)∧(∀a∈new,i≤a∧a<m∧0<gI S a)∧new.Nodup∧∀a,i≤a→a<m→0<gI S a→a∈new:=fun hno=>by
   obtain ⟨A',new,g1,g2,g3,g4,g5,g6,g7⟩:=initr3_eq hS hm C r f (i+1) (A:=A.set i (-1)) (q0:=q0) (by omega) (by omega) hlS (by omega);refine ⟨A',new,g1,g2,fun a ha=>?_,fun a h1 h2=>?_,fun a ha=>⟨by have:=(g5 a ha).1; omega,(g5 a ha).2⟩,g6,fun a h1 h2 h3=>g7 a (by by_cases e:a=i; subst e; exact absurd ⟨h2,h3⟩ hno; omega) h2 h3⟩
   ·rw [g3 a (by omega),e1]; exact if_neg (by omega)
   ·by_cases e:a=i
    ·subst e; rw [g3 a (by omega),e1,if_neg hno]; exact if_pos rfl
    ·exact g4 a (by omega) h2
  by_cases him:i<m
  ·rw [decide_eq_true (by omega),cond_true,at_gI (by omega),bd_]
   by_cases hpos:0<gI S i
   ·have hl2:((A.set i (-1)).set i (-2)).length=10:=by rw [List.length_set]; exact hlS
    have e2:gI ((A.set i (-1)).set i (-2))=fun a=>if a=i then (-2:Int) else gI A a:=funext fun a=>by
     rw [Qaj _ _ (by omega),e1]
     by_cases e:a=i
     ·rw [if_pos e,if_pos e]
     ·rw [if_neg e,if_neg e]; exact if_neg e
    rw [decide_eq_true hpos,cond_true,Qw (decide_eq_true (by omega)),Qw (Qao (by rw [ints_len]; omega) (by omega))];have hqe:ints q0++[(i:Int)]=ints (q0++[i]):=by rw [ints_app]; rfl
    rw [hqe];obtain ⟨A',new,g1,g2,g3,g4,g5,g6,g7⟩:=initr3_eq hS hm C r f (i+1) (A:=(A.set i (-1)).set i (-2)) (q0:=q0++[i]) (by omega) (by omega) hl2 (by simp; omega);refine ⟨A',[i]++new,by rw [g1,List.append_assoc],g2,fun a ha=>?_,fun a h1 h2=>?_,fun a ha=>?_,?_,fun a h1 h2 h3=>?_⟩
    ·rw [g3 a (by omega),e2]; exact if_neg (by omega)
    ·by_cases e:a=i
     ·subst e; rw [g3 a (by omega),e2,if_pos ⟨him,hpos⟩]; exact if_pos rfl
     ·exact g4 a (by omega) h2
    ·rcases List.mem_append.1 ha with ha | ha
     ·rw [List.mem_singleton] at ha;subst ha; exact ⟨Nat.le_refl _,him,hpos⟩
     ·exact ⟨by have:=(g5 a ha).1; omega,(g5 a ha).2⟩
    ·exact List.nodup_cons.2 ⟨fun h=>by have:=(g5 i h).1; omega,g6⟩
    ·by_cases e:a=i
     ·subst e; exact List.mem_append_left _ (List.mem_singleton.2 rfl)
     ·exact List.mem_append_right _ (g7 a (by omega) h2 h3)
   ·rw [decide_eq_false hpos,cond_false];exact small (fun h=>hpos h.2)
  ·rw [decide_eq_false (by omega),cond_false];exact small (fun h=>him h.1)
theorem leastr3_eq(hS:S.length=m)(hm:m≤10)(hn:n≤8)(hU:U.length=80)(ee:Int){A C:List Int}(hA:A.length=10)(hC:C.length=8):∀(w:List Nat)(f i j:Nat)(v:Int),w.length<f→j<n→gI C j=(i:Int)→AP m n mf S U A C 1 w i→1≤v →
  ∃c,f23r3n11 f tt ee p q cs B ls S N U A C v (j:Int)=some (.exit12 c)∧1≤c∧c≤v∧AP m n mf S U A C c w i
 | _,0,_,_,_,h,_,_,_,_=>absurd h (Nat.not_lt_zero _)
 | [],f+1,i,j,v,_,hj,hCj,hap,hv=>by
  obtain ⟨h1,h2,h3⟩:=hap;have hmn:=mnI_le v (gI S i);rw [f23r3n11,Qw (Qap (by omega)),Int.toNat_natCast,Nat.mul_one,Qau (by omega),bd_,hCj,Qw (Qap (by omega)),Int.toNat_natCast,Nat.mul_one,Qau (by omega),bd_,h2,decide_eq_true rfl,cond_true,at_gI (by omega),bd_];exact ⟨mnI v (gI S i),rfl,by omega,by omega,h1,h2,by omega⟩
 | k::w,f+1,i,j,v,hf,hj,hCj,hap,hv=>by
  obtain ⟨h1,h2,h3,h4,i',h5,h6,h7⟩:=hap;have hmn:=mnI_le v (gI U (i*8+k));rw [f23r3n11,Qw (Qap (by omega)),Int.toNat_natCast,Nat.mul_one,Qau (by omega),bd_,hCj,Qw (Qap (by omega)),Int.toNat_natCast,Nat.mul_one,Qau (by omega),bd_,h2,decide_eq_false (by omega),cond_false,Qw (Qap (by omega)),Int.toNat_natCast,Nat.mul_one,Qau (by omega),bd_];obtain ⟨c,k1,k2,k3,k4⟩:=leastr3_eq hS hm hn hU ee hA hC w f i' k (mnI v (gI U (i*8+k))) (by simpa using hf) h3 h5 h7 (by omega);exact ⟨c,k1,k2,by omega,h1,h2,h3,by omega,i',h5,h6,k4⟩
theorem augr3_eq(hS:S.length=m)(hm:m≤10)(hn:n≤8)(ee ne c:Int)(hc:1≤c∧c≤68719476736)(hSb:∀i,i<m→gI S i≤68719476736){A C:List Int}(hA:A.length=10)(hC:C.length=8):∀(w:List Nat)(f i j:Nat){U:List Int},U.length=80→w.length<f→j<n→gI C j=(i:Int)→mf i j=true→AP m n mf S U A C c w i→(j::w).Nodup →
   (∀a b,a<m→b<n→0≤XU U a b)→(∀a b,a<m→b<n→XU U a b≠0→mf a b=true)→(∀b∈j::w,∀a,a<m→XU U a b≤68719476736) →
  ∃ s U', f23r3n13 f tt c p q cs B ls S N ee ne A C (j : Int) U = some (.exit14 (S.set s (gI S s - c)) U') ∧ s < m ∧ c ≤ gI S s ∧ U'.length = 80 ∧
   (∀a,a<m→sN n (XU U' a)=sN n (XU U a)+(if a=s then c else 0))∧(∀b,b<n→sN m (fun a=>XU U' a b)=sN m (fun a=>XU U a b)+(if b=j then c else 0)) ∧
   (∀a b,a<m→b<n→0≤XU U' a b)∧(∀a b,a<m→b<n→XU U' a b≠0→mf a b=true)
 | _,0,_,_,_,_,h,_,_,_,_,_,_,_,_=>absurd h (Nat.not_lt_zero _)
 | [],f+1,i,j,U,hU,_,hj,hCj,hmf,hap,_,hnn,hsup,hbd=>by
  obtain ⟨h1,h2,h3⟩:=hap;have hx:=hnn i j h1 hj;have hx2:=hbd j List.mem_cons_self i h1;have hs:=hSb i h1;have e1:wr64 (gI U (i*8+j)+c)=gI U (i*8+j)+c:=wrIn (by show _≤XU U i j+c; omega) (by show XU U i j+c≤_; omega);have e2:wr64 (gI S i-c)=gI S i-c:=wrIn (by omega) (by omega);rw [f23r3n13,Qw (Qap (by omega)),Int.toNat_natCast,Nat.mul_one,Qau (by omega),bd_,hCj,Qw (Qap (by omega)),Int.toNat_natCast,Qau (by omega),bd_,Nat.mul_one,Qau (by omega),bd_,h2,decide_eq_true rfl,cond_true,at_gI (by omega),bd_,e1,e2];refine ⟨i,_,rfl,h1,h3,by rw [List.length_set]; exact hU,fun a ha=>?_,fun b hb=>?_,fun a b ha hb=>?_,fun a b ha hb=>?_⟩
  ·rw [row_set hU hn (by omega) hj _ (by omega)]
   by_cases e:a=i
   ·rw [if_pos e,if_pos e]; show _+(XU U i j+c-XU U i j)=_; omega
   ·rw [if_neg e,if_neg e]
  ·rw [col_set hU hm h1 (by omega) _ (by omega)]
   by_cases e:b=j
   ·rw [if_pos e,if_pos e]; show _+(XU U i j+c-XU U i j)=_; omega
   ·rw [if_neg e,if_neg e]
  ·rw [XU_set hU (by omega) (by omega) (by omega) (by omega)];have:=hnn a b ha hb
   split
   ·show 0≤XU U i j+c; omega
   ·exact this
  ·rw [XU_set hU (by omega) (by omega) (by omega) (by omega)]
   split
   ·rename_i e;intro _;rw [e.1,e.2]; exact hmf
   ·exact hsup a b ha hb
 | k::w,f+1,i,j,U,hU,hf,hj,hCj,hmf,hap,hnd,hnn,hsup,hbd=>by
  obtain ⟨h1,h2,h3,h4,i',h5,h6,h7⟩:=hap;have hx:=hnn i j h1 hj;have hx2:=hbd j List.mem_cons_self i h1;have hk2:=hbd k (List.mem_cons_of_mem _ List.mem_cons_self) i h1;have hnd1:=List.nodup_cons.1 hnd;have hnd2:=List.nodup_cons.1 hnd1.2;have hjk:k≠j:=fun e=>hnd1.1 (e ▸ List.mem_cons_self);have e1:wr64 (gI U (i*8+j)+c)=gI U (i*8+j)+c:=wrIn (by show _≤XU U i j+c; omega) (by show XU U i j+c≤_; omega);have hU1:(U.set (i*8+j) (gI U (i*8+j)+c)).length=80:=by rw [List.length_set]; exact hU
  have hk1:gI (U.set (i*8+j) (gI U (i*8+j)+c)) (i*8+k)=gI U (i*8+k):=by
   have:=XU_set hU (i:=i) (j:=j) (a:=i) (b:=k) (by omega) (by omega) (by omega) (by omega) (gI U (i*8+j)+c);rw [if_neg (fun h=>hjk h.2)] at this;exact this
  have e2:wr64 (gI U (i*8+k)-c)=gI U (i*8+k)-c:=wrIn (by omega) (by show XU U i k-c≤_; omega);rw [f23r3n13,Qw (Qap (by omega)),Int.toNat_natCast,Nat.mul_one,Qau (by omega),bd_,hCj,Qw (Qap (by omega)),Int.toNat_natCast,Qau (by omega),bd_,Nat.mul_one,Qau (by omega),bd_,h2,decide_eq_false (by omega),cond_false,Qw (Qap (by omega)),e1,Int.toNat_natCast,Nat.mul_one,Qau (by omega),bd_,hk1,e2];have hX2:∀a b,a<m→b<n→XU ((U.set (i*8+j) (gI U (i*8+j)+c)).set (i*8+k) (gI U (i*8+k)-c)) a b=if a=i∧b=k then XU U i k-c else if a=i∧b=j then XU U i j+c else XU U a b:=fun a b ha hb=>by
   rw [XU_set hU1 (by omega) (by omega) (by omega) (by omega),XU_set hU (by omega) (by omega) (by omega) (by omega)]
  have hXw:∀b∈w,∀a,a<m→b<n→XU ((U.set (i*8+j) (gI U (i*8+j)+c)).set (i*8+k) (gI U (i*8+k)-c)) a b=XU U a b:=fun b hb a ha hbn=>by
   rw [hX2 a b ha hbn,if_neg (fun (e:a=i∧b=k)=>hnd2.1 (e.2 ▸ hb)),if_neg (fun (e:a=i∧b=j)=>hnd1.1 (e.2 ▸ List.mem_cons_of_mem _ hb))]
  have hwn:=h7.lt8;obtain ⟨s,U',g1,g2,g3,g4,g5,g6,g7,g8⟩:=augr3_eq hS hm hn ee ne c hc hSb hA hC w f i' k (U:=(U.set (i*8+j) (gI U (i*8+j)+c)).set (i*8+k) (gI U (i*8+k)-c)) (by rw [List.length_set]; exact hU1) (by simpa using hf) h3 h5 h6 (h7.keep fun b hb a ha=>hXw b hb a ha (hwn b hb)) hnd1.2
   (fun a b ha hb=>by
    rw [hX2 a b ha hb];have:=hnn a b ha hb
    split
    ·show 0≤gI U (i*8+k)-c; omega
    ·split
     ·omega
     ·exact this)
   (fun a b ha hb=>by
    rw [hX2 a b ha hb]
    split
    ·rename_i e;intro _;rw [e.1,e.2];exact hsup i k h1 h3 (by show gI U (i*8+k)≠0; omega)
    ·split
     ·rename_i e;intro _;rw [e.1,e.2]; exact hmf
     ·exact hsup a b ha hb)
   (fun b hb a ha=>by
    rcases List.mem_cons.1 hb with e | hb
    ·subst e;rw [hX2 a b ha h3];have:=hbd b (List.mem_cons_of_mem _ List.mem_cons_self) a ha
     split
     ·omega
     ·rw [if_neg (fun e=>hjk e.2)]; exact this
    ·rw [hXw b hb a ha (hwn b hb)];exact hbd b (List.mem_cons_of_mem _ (List.mem_cons_of_mem _ hb)) a ha)
  refine ⟨s,U',g1,g2,g3,g4,fun a ha=>?_,fun b hb=>?_,g7,g8⟩
  ·rw [g5 a ha,row_set hU1 hn (by omega) h3 _ (by omega),row_set hU hn (by omega) hj _ (by omega)]
   by_cases e:a=i
   ·rw [if_pos e,if_pos e];have:XU (U.set (i*8+j) (gI U (i*8+j)+c)) i k=gI U (i*8+k):=hk1;rw [this];show _+(XU U i j+c-XU U i j)+_+_=_;omega
   ·rw [if_neg e,if_neg e]; omega
  ·rw [g6 b hb,col_set hU1 hm h1 (by omega) _ (by omega),col_set hU hm h1 (by omega) _ (by omega)];have hk3:XU (U.set (i*8+j) (gI U (i*8+j)+c)) i k=gI U (i*8+k):=hk1;rw [hk3]
   by_cases e:b=k
   ·have:b≠j:=fun e2=>hjk (e.symm.trans e2);rw [if_pos e,if_pos e,if_neg this,if_neg this]; omega
   ·rw [if_neg e,if_neg e]
    by_cases e2:b=j
    ·rw [if_pos e2,if_pos e2]; show _+(XU U i j+c-XU U i j)+_+_=_; omega
    ·rw [if_neg e2,if_neg e2]; omega
theorem mainr3_eq(hB:B.length=80)(hmf:∀a b,a<m→b<n→mf a b=gB B (a*8+b)):∀(f:Nat){S N U:List Int}{tt:Int},FS m n s0 d0 mf S N U tt→(549755813888-tt).toNat<f→∃v,f23r3n14 f p q cs B ls tt S N U=some (.ret v)∧IsMin m n s0 d0 mf v
 | 0,_,_,_,_,_,h=>absurd h (Nat.not_lt_zero _)
 | f+1,S,N,U,tt,hF,hf=>by
  have hm:=hF.m10;have hn:=hF.n8;have hU:=hF.ul;have hSl:=hF.sl;have hNl:=hF.nl;obtain ⟨A0,new,i1,i2,_,i4,i5,i6,i7⟩:=initr3_eq (N:=N) (U:=U) tt p q cs ls (B:=B) hSl hm (List.replicate 8 (-1)) 10 FUEL 0 (A:=List.replicate 10 0) (q0:=[]) (by omega) (Qad (by omega)) (by simp) (by simp);rw [List.nil_append] at i1;have i1':f23r3n4 FUEL tt p q cs B ls S N U (List.replicate 8 (-1)) 0 (List.replicate 10 0) []=some (.exit4 A0 (ints new)):=i1;have hA0:∀a,a<m→(gI A0 a≠-1↔0<gI S a):=fun a ha=>by
   rw [i4 a (Nat.zero_le _) (by omega)]
   by_cases h:0<gI S a
   ·rw [if_pos ⟨ha,h⟩]; simp [h]
   ·rw [if_neg (fun k=>h k.2)]; simp [h]
  have hb0:BS m n mf S N U 100 0 0 (ints new).length A0 (List.replicate 8 (-1)) (ints new):=by
   refine ⟨i2,by simp,by omega,⟨new,rfl,fun a ha=>⟨(i5 a ha).2.1,(hA0 a (i5 a ha).2.1).2 (i5 a ha).2.2⟩,fun a ha1 ha2=>.inl ?_⟩,fun a ha1 ha2=>(hA0 a ha1).2 ha2,fun k hk=>.inl (gI_rep 8 _ k (by omega)),fun k hk hk2=>?_,fun k hk hk2=>?_,fun a ha1 ha2=>?_,?_⟩
   ·refine Classical.byContradiction fun hno=>?_;have h2:=(hA0 a ha1).1 ha2;exact hno (i7 a (Nat.zero_le _) ha1 h2)
   ·rw [gI_rep 8 _ k (by omega)] at hk2; omega
   ·rw [gI_rep 8 _ k (by omega)] at hk2; omega
   ·have h2:=(hA0 a ha1).1 ha2;exact ⟨[],⟨ha1,by rw [i4 a (Nat.zero_le _) (by omega),if_pos ⟨ha1,h2⟩],by omega⟩,List.nodup_nil,fun _ h=>(by cases h)⟩
   ·rw [ints_len];exact nd_un A0 m new i6 fun a ha=>⟨(i5 a ha).2.1,(hA0 a (i5 a ha).2.1).2 (i5 a ha).2.2⟩
  have hnn:=hF.fl.nn;have hrow0:∀a,a<m→0≤sN n (XU U a):=fun a ha=>sN_nn fun b hb=>hnn a b ha hb;have hcol0:∀b,b<n→0≤sN m (fun a=>XU U a b):=fun b hb=>sN_nn fun a ha=>hnn a b ha hb;have e3:f23r3n3 tt p q cs B ls S N U (List.replicate 8 (-1))=some (.norm A0 (ints new)):=by
   unfold f23r3n3;rw [i1']; rfl
  rw [f23r3n14,callsr3_eq];simp only [Option.bind_some];rw [e3];simp only [Option.bind_some];rcases srchr3_eq (N:=N) (U:=U) tt p q cs ls (B:=B) hSl hNl hm hn hB hU hmf 18446744073709551615 (st:=0) (by have:=hb0.b; omega) hb0 with ⟨j,A',C',k1,hfd⟩|⟨st',A',C',Q',k1,hb⟩
  ·have k1':f23r3n9 FUEL tt p q cs B ls S N U 0 (ints new).length (-1) A0 (List.replicate 8 (-1)) (ints new)=_:=k1;obtain ⟨hj,hNj,hAl,hCl,i,w,hCj,hmij,hap,hnd⟩:=hfd;have hNv:=hF.nv j hj;have hdb:=hF.db j hj;have hc0:=hcol0 j hj;have hwl:w.length≤8:=nd_len 8 w (List.nodup_cons.1 hnd).2 fun x hx=>by have:=hap.lt8 x hx; omega
   rw [k1'];simp only [Option.bind_some];rw [decide_eq_false (by omega),cond_false,at_gI (by omega),bd_];obtain ⟨c,c1,c2,c3,c4⟩:=leastr3_eq (N:=N) tt p q cs ls (B:=B) hSl hm hn hU ((j:Nat):Int) hAl hCl w FUEL i j (gI N j) (Qad (by omega)) hj hCj hap (by omega);have e10:f23r3n10 tt ((j:Nat):Int) (gI N j) p q cs B ls S N U A' C'=some (.norm c):=by
    unfold f23r3n10;rw [c1]; rfl
   rw [e10];simp only [Option.bind_some];obtain ⟨s,U',g1,g2,g3,g4,g5,g6,g7,g8⟩:=augr3_eq (N:=N) tt p q cs ls (B:=B) hSl hm hn ((j:Nat):Int) (gI N j) c (by omega) (fun a ha=>by have:=hF.sv a ha; have:=hF.sb a ha; have:=hrow0 a ha; omega) hAl hCl w FUEL i j hU (Qad (by omega)) hj hCj hmij c4 hnd hnn hF.fl.may (fun b hb a ha=>by
    have hbn:b<n:=by
     rcases List.mem_cons.1 hb with rfl | hb
     ·exact hj
     ·exact hap.lt8 b hb
    have q1:=sN_ge (f:=XU U a) hbn fun b' hb'=>hnn a b' ha hb';have q2:=hF.fl.row a ha;have q3:=hF.sb a ha;omega)
   have e12:f23r3n12 tt ((j:Nat):Int) c p q cs B ls S N (gI N j) U A' C'=some (.norm (S.set s (gI S s-c)) U'):=by
    unfold f23r3n12;rw [g1]; rfl
   rw [e12];simp only [Option.bind_some,Int.toNat_natCast];have hsS:s<S.length:=by omega
   have hjN:j<N.length:=by omega
   have hfl':Flw m n s0 d0 mf (XU U'):=⟨g7,g8,fun a ha=>by
    rw [g5 a ha];have q2:=hF.fl.row a ha
    by_cases e:a=s
    ·subst e; rw [if_pos rfl]; have:=hF.sv a ha; omega
    ·rw [if_neg e]; omega,fun b hb=>by
    rw [g6 b hb];have q2:=hF.fl.col b hb
    by_cases e:b=j
    ·subst e; rw [if_pos rfl]; omega
    ·rw [if_neg e]; omega⟩
   have htot:Flo.tot m n (XU U')=tt+c:=by
    rw [hF.tv];unfold Flo.tot;rw [Qz (g:=fun a=>sN n (XU U a)+(if a=s then c else 0)) fun a ha=>g5 a ha,sN_add1 (fun a=>sN n (XU U a)),if_pos g2]
   have hle:Flo.tot m n (XU U')≤549755813888:=by
    have q1:=tot_le hfl';have q2:=sN_bd (f:=d0) (b:=68719476736) (n:=n) fun b hb=>(hF.db b hb).2;omega
   have htt0:0≤tt:=by
    rw [hF.tv];exact sN_nn hrow0
   have ew:wr64 (tt+c)=tt+c:=wrIn (by omega) (by omega);have ewN:wr64 (gI N j-c)=gI N j-c:=wrIn (by omega) (by omega);rw [ew,ewN];refine mainr3_eq hB hmf f ⟨hm,hn,by rw [List.length_set]; exact hSl,by rw [List.length_set]; exact hNl,g4,hfl',fun a ha=>?_,fun b hb=>?_,htot.symm,hF.sb,hF.db⟩ (by omega)
   ·rw [Qaj _ _ hsS,g5 a ha];have:=hF.sv a ha
    by_cases e:a=s
    ·subst e; rw [if_pos rfl,if_pos rfl]; omega
    ·rw [if_neg e,if_neg e]; omega
   ·rw [Qaj _ _ hjN,g6 b hb];have:=hF.nv b hb
    by_cases e:b=j
    ·subst e; rw [if_pos rfl,if_pos rfl]; omega
    ·rw [if_neg e,if_neg e]; omega
  ·have k1':f23r3n9 FUEL tt p q cs B ls S N U 0 (ints new).length (-1) A0 (List.replicate 8 (-1)) (ints new)=_:=k1;rw [k1'];simp only [Option.bind_some];rw [decide_eq_true (by omega),cond_true];refine ⟨tt,rfl,?_⟩;have hst:=hF.fl.stop (fun i=>decide (gI A' i≠-1)) (fun j=>decide (0≤gI C' j)) (fun a ha h=>by
     refine decide_eq_true (hb.a2 a ha ?_);have:=hF.sv a ha; omega) (fun a b ha hb' h1 h2=>by
     obtain ⟨q0,q1,q2,q3⟩:=hb.q;have hq0:q0=[]:=by
      have:=congrArg List.length q1;rw [List.length_drop,ints_len] at this;have:=hb.eq;exact List.eq_nil_of_length_eq_zero (by omega)
     rcases q3 a ha (of_decide_eq_true h1) with h | h
     ·rw [hq0] at h; cases h
     ·exact decide_eq_true (h b hb' (fun e=>by omega) h2)) (fun b hb' h=>by
     have h1:=hb.c2 b hb' (of_decide_eq_true h);have h2:=hF.nv b hb';have h3:=hF.fl.col b hb';omega) (fun a b ha hb' h1 h2=>decide_eq_true (hb.c3 b hb' (of_decide_eq_true h1) a ha h2))
   rw [hF.tv];exact hF.fl.min hst
end
theorem flowr3_eq{p q:List Int}{B:List Bool}(cs:List AC)(ls:List AA)(hk2:p.length≤10)(hn:q.length≤8)(hB:B.length=80)(hp:∀i,i<p.length→0≤gI p i∧gI p i≤68719476736)(hq:∀j,j<q.length→0≤gI q j∧gI q j≤68719476736) :
  ∃v,f23r3 p q cs B ls=some v∧IsMin p.length q.length (gI p) (gI q) (fun a b=>gB B (a*8+b)) v:=by
 obtain ⟨v,h1,h2⟩:=mainr3_eq (mf:=fun a b=>gB B (a*8+b)) p q cs ls hB (fun _ _ _ _=>rfl) FUEL (FS.start (mf:=fun a b=>gB B (a*8+b)) (S:=p) hk2 hn rfl rfl (fun _ _=>rfl) (fun _ _=>rfl) hp hq) (by decide);refine ⟨v,?_,h2⟩;unfold f23r3 f23r3n0;rw [f45_id (by omega),bd_,f45_id (by omega),bd_,h1]; rfl

end Go.Proofs.Ytinabbgjignkbaa
namespace Go.Proofs.Ytinabbgjignkbaa
set_option linter.unusedVariables false
set_option linter.unusedSimpArgs false
open Go.RowKit Flo
def memN(l:List ByteArray)(s:ByteArray):Bool:=l.any fun x=>seq s x
theorem f54n2L_eq'(s:ByteArray)(bg:List ByteArray):∀(l:List ByteArray)(v:Int),0≤v→∃o,f54n2L bg s l v=some o∧(memN l s=true→∃w,0≤w∧o = .ret w)∧(memN l s=false→o = .exit0)
 | [],v,_=>⟨.exit0,rfl,fun h=>(by cases h),fun _=>rfl⟩
 | x::r,v,hv=>by
  obtain ⟨o,h1,h2,h3⟩:=f54n2L_eq' s bg r (v+1) (by omega);rw [f54n2L];unfold memN at h2 h3 ⊢;rw [List.any_cons];cases seq s x with
  | true=>exact ⟨.ret v,rfl,fun _=>⟨v,hv,rfl⟩,fun h=>by simp at h⟩
  | false=>exact ⟨o,h1,by simpa using h2,by simpa using h3⟩
theorem f44_eq(l:List ByteArray)(s:ByteArray)(hm:l.length≤1000000):f44 l s=some (memN l s):=by
 obtain ⟨o,h1,h2,h3⟩:=f54n2L_eq' s l l 0 (by omega);unfold f44 f44n0 f54 f54n0 f54n1;rw [f54n2_run l s (maxSmall hm),h1];cases h:memN l s with
 | true =>
  obtain ⟨w,hw,rfl⟩:=h2 h;simp only [Option.bind_some];rw [decide_eq_true hw]
 | false=>rw [h3 h]; rfl

def cC(a b:AA):Int:=cmpI a.Cost b.Cost
theorem cC_cmp:Cmp cC:=Cmp.int Qa.Cost
theorem f42_eq(a b:AA):f42 a b=some (cC a b):=by unfold f42 f42n0; rw [f43_eq]; rfl
abbrev ltC:AA→AA→Bool:=fun x y=>decide (cC x y<0)
theorem swo_C:SWo ltC:=cC_cmp.swo
def srt(l:List AA):List AA:=sortS ltC l
theorem f41_eq{l:List AA}(h:l.length≤19):f41r1 l=some (srt l):=by
 have hF:FUEL=18446744073709551615+1:=rfl;have e1:f52r1n1 FUEL (l.length:Int) 0 20 l=some (.exit0 0 l):=by
  rw [hF,f52r1n1,decide_eq_false (by omega),cond_false]
 have e2:f52r1n4 FUEL (l.length:Int) 20 (srt l)=some (.exit2 (srt l)):=by
  rw [hF,f52r1n4,decide_eq_false (by omega),cond_false]
 have e3:f67r1 0 (l.length:Int) l=some (srt l):=by
  have:=st_ins_ok f42_eq swo_C [] l [] (by simp; omega);simpa [srt] using this
 unfold f41r1 f41r1n0 f52r1 f52r1n0;rw [e1];simp only [Option.bind_some];rw [e3];simp only [Option.bind_some];rw [e2]; rfl
theorem Qbn(l:List AA):(srt l).Perm l:=(sortS_cl swo_C l).1
theorem Qbv(l:List AA):(srt l).length=l.length:=(Qbn l).length_eq
theorem srt_cost(l:List AA):(srt l).Pairwise fun a b=>a.Cost≤b.Cost:=by
 refine (sortS_sd swo_C l).imp fun {a b} h=>?_;have:=of_decide_eq_false h;unfold cC cmpI at this
 by_cases h1:b.Cost<a.Cost
 ·rw [decide_eq_true h1,cond_true] at this; exact absurd (by decide) this
 ·omega

theorem need_eq(ba:List AA)(bg:List AC):∀(l:List AC)(v:Int)(o:List Int),o.length+l.length≤10000→f22r1n2L bg ba l v o=some (.exit0 (o++l.map Qb.Need))
 | [],v,o,_=>by simp [f22r1n2L]
 | x::r,v,o,h=>by
  simp only [List.length_cons] at h;rw [f22r1n2L,Qw (Qao (by omega) (by omega)),need_eq ba bg r _ _ (by simp; omega)]
  simp
theorem gB_set{l:List Bool}{k:Nat}(v:Bool)(a:Nat)(hk:k<l.length):gB (l.set k v) a=if a=k then v else gB l a:=by
 unfold gB;rw [List.getD_eq_getElem?_getD,List.getD_eq_getElem?_getD,List.getElem?_set]
 by_cases e:k=a
 ·subst e; simp [hk]
 ·rw [if_neg e,if_neg (fun h=>e h.symm)]
theorem mark_eq(bg:List AC)(ba:List AA){i:Nat}(hi:i<10){x:AA}(hF:x.For.length≤1000)(a5 a6:List Int):∀(l:List AC)(j:Nat)(B:List Bool),j+l.length≤8→B.length=80 →
  ∃B',f22r1n5L bg (i:Int) ba x a5 a6 l (j:Int) B=some (.exit4 B')∧B'.length=80∧(∀k (h:k<l.length),gB B' (i*8+(j+k))=memN x.For l[k].Name)∧∀a,(a<i*8+j∨i*8+j+l.length≤a)→gB B' a=gB B a
 | [],j,B,_,hB=>⟨B,rfl,hB,fun k h=>absurd h (Nat.not_lt_zero _),fun _ _=>rfl⟩
 | y::r,j,B,h,hB=>by
  simp only [List.length_cons] at h;have hk:i*8+j<B.length:=by omega
  rw [f22r1n5L,f44_eq _ _ (by omega),bd_,Qw (Qap hi),Qw (Qap (by omega)),Int.toNat_natCast,Int.toNat_natCast,Nat.mul_one,Qw (decide_eq_true hk)];have e:((j:Int)+1)=((j+1:Nat):Int):=by omega
  rw [e];obtain ⟨B',h1,h2,h3,h4⟩:=mark_eq bg ba hi hF a5 a6 r (j+1) (B.set (i*8+j) (memN x.For y.Name)) (by omega) (by rw [List.length_set]; exact hB);refine ⟨B',h1,h2,fun k hk2=>?_,fun a ha=>?_⟩
  ·cases k with
   | zero =>
    rw [Nat.add_zero,h4 _ (.inl (by omega)),gB_set _ _ hk,if_pos rfl]; rfl
   | succ k =>
    have:=h3 k (by simpa using hk2);rw [show i*8+(j+(k+1))=i*8+(j+1+k) by omega,this]; rfl
  ·simp only [List.length_cons] at ha;rw [h4 a (by omega),gB_set _ _ hk,if_neg (by omega)]
theorem rows_eq(c:List AC)(hc:c.length≤8)(P:List AA)(hP:P.length≤10)(hF:∀x∈P,x.For.length≤1000)(nd:List Int):∀(r pre:List AA)(f:Nat)(B:List Bool)(o:List Int),P=pre++r→r.length<f→B.length=80→o.length=pre.length →
  ∃B',f22r1n6 f c P nd ((pre.length:Nat):Int) B o=some (.exit2 B' (o++r.map Qa.Amount))∧B'.length=80∧(∀i j (hi:i<P.length) (hj:j<c.length),pre.length≤i→gB B' (i*8+j)=memN P[i].For c[j].Name)∧∀a,a<pre.length*8→gB B' a=gB B a
 | _,_,0,_,_,_,h,_,_=>absurd h (Nat.not_lt_zero _)
 | [],pre,f+1,B,o,h,_,hB,ho=>by
  rw [List.append_nil] at h;subst h;rw [f22r1n6,decide_eq_false (by omega),cond_false];exact ⟨B,by simp,hB,fun i j hi hj h=>by omega,fun _ _=>rfl⟩
 | x::r,pre,f+1,B,o,h,hf,hB,ho=>by
  have hl:pre.length<P.length:=by rw [h]; simp
  have hx:P[pre.length]=x:=by
   have:P[pre.length]?=some x:=by rw [h]; simp
   rw [List.getElem?_eq_getElem hl] at this;exact Option.some.inj this
  have hxF:=hF x (by rw [h]; simp);obtain ⟨B1,m1,m2,m3,m4⟩:=mark_eq c P (i:=pre.length) (by omega) hxF o nd c 0 B (by omega) hB;rw [f22r1n6,decide_eq_true (by omega),cond_true];have e4:f22r1n4 c P ((pre.length:Nat):Int) B o nd=some (.norm B1 (o++[x.Amount])):=by
   unfold f22r1n4;rw [at_len h rfl,bd_,Qw (Qao (by omega) (by omega)),f22r1n5_run _ _ _ _ _ _ _ (maxSmall (by omega))];have m1':f22r1n5L c ((pre.length:Nat):Int) P x o nd c 0 B=_:=m1;rw [m1']; rfl
  rw [e4];simp only [Option.bind_some];rw [wrSucc (by omega)];obtain ⟨B',h1,h2,h3,h4⟩:=rows_eq c hc P hP hF nd r (pre++[x]) f B1 (o++[x.Amount]) (by rw [h]; simp) (by simpa using hf) m2 (by simp [ho]);rw [List.length_append] at h1 h3 h4;refine ⟨B',by rw [show pre.length+1=pre.length + [x].length by simp,h1]; simp,h2,fun i j hi hj hp=>?_,fun a ha=>?_⟩
  ·by_cases e:i=pre.length
   ·subst e;have:=h4 (pre.length*8+j) (by simp; omega);have m:=m3 j hj;rw [this];rw [Nat.zero_add] at m;rw [m,hx]
   ·exact h3 i j hi hj (by simp; omega)
  ·rw [h4 a (by simp; omega),m4 a (.inl (by omega))]
theorem posed_eq{l:List AA}{c:List AC}(h:OkL l c):∃B,f22r1 l c=some (B,srt l,(srt l).map Qa.Amount,c.map Qb.Need)∧B.length=80∧∀i j (hi:i<(srt l).length) (hj:j<c.length),gB B (i*8+j)=memN (srt l)[i].For c[j].Name:=by
 have hlen:=h.len;have hcl:=h.clen;have hsl:=Qbv l;have hF:∀x∈srt l,x.For.length≤1000:=fun x hx=>by have:=h.flen x ((Qbn l).mem_iff.1 hx); omega
 obtain ⟨B,b1,b2,b3,_⟩:=rows_eq c hcl (srt l) (by omega) hF (c.map Qb.Need) (srt l) [] FUEL (List.replicate 80 false) [] rfl (Qad (by omega)) (by simp) rfl;have b1':f22r1n6 FUEL c (srt l) (c.map Qb.Need) 0 (List.replicate 80 false) []=_:=b1;refine ⟨B,?_,b2,fun i j hi hj=>b3 i j hi hj (Nat.zero_le _)⟩;have e1:f40r1 l=some l:=by
  unfold f40r1 f40r1n0;cases l with
  | nil=>rfl
  | cons a r=>rw [Qw (Qao (by omega) (by omega))]; rfl
 have e2:f22r1n1 c (srt l)=some (.norm (c.map Qb.Need)):=by
  unfold f22r1n1;rw [f22r1n2_run _ _ _ (maxSmall (by omega)),need_eq _ _ c 0 [] (by simp; omega)]; rfl
 have e3:f22r1n3 c (srt l) (c.map Qb.Need)=some (.norm B ((srt l).map Qa.Amount)):=by
  unfold f22r1n3;rw [b1']; rfl
 unfold f22r1 f22r1n0;rw [e1,bd_,f41_eq (by omega),bd_,e2];simp only [Option.bind_some];rw [e3]; rfl
end Go.Proofs.Ytinabbgjignkbaa
namespace Go.Proofs.Ytinabbgjignkbaa
set_option linter.unusedVariables false
set_option linter.unusedSimpArgs false
open Go.RowKit Flo
def sL:List Int→Int
 | []=>0
 | x::r=>x+sL r
theorem sN_succ(f:Nat→Int):∀n:Nat,sN (n+1) f=f 0+sN n (fun i=>f (i+1))
 | 0=>by simp [sN]
 | n+1=>by rw [sN,sN_succ f n,sN]; omega
theorem sN_list:∀l:List Int,sN l.length (gI l)=sL l
 | []=>rfl
 | x::r=>by
  rw [List.length_cons,sN_succ,sL,←sN_list r];rfl
theorem sum_eq'(bg:List Int):∀(l:List Int)(v k:Int),f24r1n2L bg l (wr64 v) k=some (.exit0 (wr64 (v+sL l)))
 | [],v,k=>by simp [f24r1n2L,sL]
 | x::r,v,k=>by rw [f24r1n2L,wrL,sum_eq' bg r,sL,Int.add_assoc]
theorem f24_eq{l:List Int}(hl:l.length≤1000)(hb:∀j,j<l.length→0≤gI l j∧gI l j≤68719476736):f24r1 l=some (sN l.length (gI l)):=by
 have h1:0≤sN l.length (gI l):=sN_nn fun j hj=>(hb j hj).1;have h2:=sN_bd (f:=gI l) (b:=68719476736) (n:=l.length) fun j hj=>(hb j hj).2;have:=sum_eq' l l 0 0;rw [Int.zero_add,←sN_list,wrIn (n:=sN l.length (gI l)) (by omega) (by omega)] at this;have this':f24r1n2L l l 0 0=_:=this;unfold f24r1 f24r1n0 f24r1n1;rw [f24r1n2_run l 0 (maxSmall (by omega)),this']; rfl

theorem tch_congr{n:Nat}{may may':Nat→Nat→Bool}{T:Set_}{i:Nat}(h:∀j,j<n→may i j=may' i j):tch n may T i=tch n may' T i:=by
 cases h1:tch n may' T i with
 | true =>
  obtain ⟨j,a1,a2,a3⟩:=Qag.1 h1;exact Qag.2 ⟨j,a1,a2,by rw [h j a1]; exact a3⟩
 | false =>
  cases h2:tch n may T i with
  | false=>rfl
  | true =>
   obtain ⟨j,a1,a2,a3⟩:=Qag.1 h2;rw [Qag.2 ⟨j,a1,a2,by rw [←h j a1]; exact a3⟩] at h1; cases h1
theorem cut_congr{m n:Nat}{s s' d d':Nat→Int}{may may':Nat→Nat→Bool}(hs:∀i,i<m→s i=s' i)(hd:∀j,j<n→d j=d' j)(hm:∀i j,i<m→j<n→may i j=may' i j)(T:Set_):cut m n s d may T=cut m n s' d' may' T:=by
 unfold cut
 congr 1
 ·exact Qz fun j hj=>by rw [hd j hj]
 ·exact Qz fun i hi=>by rw [tch_congr fun j hj=>hm i j hi hj,hs i hi]
theorem Flo.IsMin.congr{m n:Nat}{s s' d d':Nat→Int}{may may':Nat→Nat→Bool}{v:Int}(h:IsMin m n s d may v)(hs:∀i,i<m→s i=s' i)(hd:∀j,j<n→d j=d' j)(hm:∀i j,i<m→j<n→may i j=may' i j):IsMin m n s' d' may' v:=by
 obtain ⟨⟨T,hT⟩,h2⟩:=h;exact ⟨⟨T,by rw [hT,cut_congr hs hd hm]⟩,fun U=>by rw [←cut_congr hs hd hm]; exact h2 U⟩
theorem Flo.HH.congr{m n:Nat}{s s' d d':Nat→Int}{may may':Nat→Nat→Bool}{R:Int}(h:HH m n s d may R)(hs:∀i,i<m→s i=s' i)(hd:∀j,j<n→d j=d' j)(hm:∀i j,i<m→j<n→may i j=may' i j):HH m n s' d' may' R :=
 ⟨fun i hi=>by rw [←hs i hi]; exact h.tn i hi,fun j hj=>by rw [←hd j hj]; exact h.dn j hj,by rw [←h.td]; exact (Qz hd).symm,by rw [←h.tt]; exact (Qz hs).symm,fun T=>by rw [←cut_congr hs hd hm]; exact h.ct T⟩
section
variable {m n:Nat} {B:List Bool} {S N:List Int} (P:List AA) (c:List AC)
theorem totals_eq(hS:S.length=m)(hN:N.length=n)(hm:m≤10)(hn:n≤8)(hB:B.length=80)(hs:∀i,i<m→0≤gI S i∧gI S i≤68719476736)(hd:∀j,j<n→0≤gI N j∧gI N j≤68719476736) :
  ∃F T,f11n1 c (B,P,S,N)=some (.norm (F m) T)∧Rch m n (gI S) (gI N) (fun a b=>gB B (a*8+b)) F∧T.length=m∧∀i,i<m→gI T i=F (i+1)-F i:=by
 have hex:∀k,k≤m→∃v,f23r1 k S N c B P=some v∧IsMin k n (gI S) (gI N) (fun a b=>gB B (a*8+b)) v:=fun k hk=>by
  obtain ⟨v,h1,h2⟩:=flowr1_eq (p:=S) (q:=N) (B:=B) k c P (by omega) (by omega) (by omega) hB (fun i hi=>hs i (by omega)) (fun j hj=>hd j (by omega));rw [hN] at h2;exact ⟨v,h1,h2⟩
 let F:Nat→Int:=fun k=>(f23r1 k S N c B P).getD 0
 have hF:∀k,k≤m→f23r1 k S N c B P=some (F k)∧IsMin k n (gI S) (gI N) (fun a b=>gB B (a*8+b)) (F k):=fun k hk=>by
  obtain ⟨v,h1,h2⟩:=hex k hk;have:F k=v:=by show (f23r1 k S N c B P).getD 0=v; rw [h1]; rfl
  rw [this]; exact ⟨h1,h2⟩
 have hR:Rch m n (gI S) (gI N) (fun a b=>gB B (a*8+b)) F:=fun k hk=>(hF k hk).2;have hF0:F 0=0:=hR.zero fun j hj=>(hd j hj).1;have hFb:∀k,k≤m→0≤F k∧F k≤68719476736*k:=fun k=>by
  induction k with
  | zero=>intro _; rw [hF0]; simp
  | succ k ih =>
   intro hk;have h1:=ih (by omega);have h2:=hR.step (fun a ha=>(hs a ha).1) (k:=k) hk;have h3:=hs k hk;rw [Int.natCast_add,Int.mul_add];simp only [Int.natCast_one,Int.mul_one];omega
 have loop:∀(r f i:Nat)(T:List Int),i+r=m→r<f→T.length=i→(∀a,a<i→gI T a=F (a+1)-F a)→∃T',f11n2 f (B,P,S,N) c (F i) (i:Int) T=some (.exit0 (F m) T')∧T'.length=m∧∀a,a<m→gI T' a=F (a+1)-F a:=fun r=>by
  induction r with
  | zero =>
   intro f i T hi hf hT hv;cases f with
   | zero=>exact absurd hf (Nat.not_lt_zero _)
   | succ f =>
    have e:i=m:=by omega
    subst e;rw [f11n2,decide_eq_false (by show ¬((i:Int)<(S.length:Int)); omega),cond_false];exact ⟨T,rfl,hT,hv⟩
  | succ r ih =>
   intro f i T hi hf hT hv;cases f with
   | zero=>exact absurd hf (Nat.not_lt_zero _)
   | succ f =>
    have hi1:=hFb (i+1) (by omega);have hi0:=hFb i (by omega);rw [f11n2,decide_eq_true (by show (i:Int)<(S.length:Int); omega),cond_true,wrSucc (by omega),Qw (by show cutB 0 ((i+1:Nat):Int) S.length=true; unfold cutB; exact decide_eq_true (by omega)),Int.toNat_natCast,Nat.sub_zero];dsimp only;rw [(hF (i+1) (by omega)).1,bd_,Qw (Qao (by omega) (by omega)),wrIn (n:=F (i+1)-F i) (by omega) (by omega)];exact ih f (i+1) (T++[F (i+1)-F i]) (by omega) (by omega) (by simp [hT]) fun a ha=>by
     unfold gI;rw [List.getD_eq_getElem?_getD]
     by_cases e:a=i
     ·subst e;rw [List.getElem?_append_right (by omega),hT,Nat.sub_self]; rfl
     ·rw [List.getElem?_append_left (by omega),←List.getD_eq_getElem?_getD];exact hv a (by omega)
 obtain ⟨T,h1,h2,h3⟩:=loop m FUEL 0 [] (by omega) (Qad (by omega)) rfl fun a ha=>absurd ha (Nat.not_lt_zero _);refine ⟨F,T,?_,hR,h2,h3⟩;unfold f11n1;rw [hF0] at h1;have h1':f11n2 FUEL (B,P,S,N) c 0 0 []=_:=h1;rw [h1']; rfl
end
abbrev Gv:=Nat×Nat×Int
def sumA(a:Nat):List Gv→Int
 | []=>0
 | g::r=>(if g.1=a then g.2.2 else 0)+sumA a r
def sumB(b:Nat):List Gv→Int
 | []=>0
 | g::r=>(if g.2.1=b then g.2.2 else 0)+sumB b r
theorem sumA_app(a:Nat)(u v:List Gv):sumA a (u++v)=sumA a u+sumA a v:=by
 induction u with
 | nil=>simp [sumA]
 | cons x r ih=>rw [List.cons_append,sumA,sumA,ih]; omega
theorem sumB_app(b:Nat)(u v:List Gv):sumB b (u++v)=sumB b u+sumB b v:=by
 induction u with
 | nil=>simp [sumB]
 | cons x r ih=>rw [List.cons_append,sumB,sumB,ih]; omega
abbrev lexG(g h:Gv):Prop:=g.1<h.1∨(g.1=h.1∧g.2.1<h.2.1)
def nmA(P:List AA)(a:Nat):ByteArray:=match P[a]? with | some x=>x.Name | none=>str_x
def nmC(c:List AC)(b:Nat):ByteArray:=match c[b]? with | some x=>x.Name | none=>str_x
def useG(P:List AA)(c:List AC)(g:Gv):AU:=⟨nmA P g.1,nmC c g.2.1,g.2.2⟩
structure GS (m n:Nat) (mf:Nat→Nat→Bool) (t0 d0:Nat→Int) (i j:Nat) (R:Int) (B:List Bool) (t d:List Int) (G:List Gv):Prop where
 Bl:B.length=80
 tl:t.length=m
 dl:d.length=n
 hh:HH m n (gI t) (gI d) (fun a b=>gB B (a*8+b)) R
 bm:∀a b,a<m→b<n→gB B (a*8+b)=(mf a b&&!(decide (a<i)||(decide (a=i)&&decide (b<j))))
 ga:∀a,a<m→t0 a=gI t a+sumA a G
 gb:∀b,b<n→d0 b=gI d b+sumB b G
 gm:∀g∈G,g.1<m∧g.2.1<n∧mf g.1 g.2.1=true∧0<g.2.2∧g.2.2≤68719476736∧(g.1<i∨(g.1=i∧g.2.1<j))
 gp:G.Pairwise lexG
 tb:∀a,a<m→gI t a≤68719476736
 db:∀b,b<n→gI d b≤68719476736
theorem set_self{l:List Int}{k:Nat}(h:k<l.length):l.set k (gI l k)=l:=by
 apply List.ext_getElem?
 intro a;rw [List.getElem?_set]
 by_cases e:k=a
 ·subst e; rw [if_pos rfl,if_pos h,Qau h]
 ·rw [if_neg e]
section
variable {m n:Nat} {mf:Nat→Nat→Bool} {t0 d0:Nat→Int} {P:List AA} {c:List AC} {S:List Int}
theorem give1{i j:Nat}{R:Int}{B:List Bool}{t d:List Int}{G:List Gv}(hm:m≤10)(hn:n≤8)(hi:i<m)(hj:j<n)(hs:GS m n mf t0 d0 i j R B t d G)(hmf:mf i j=true) :
  ∃ v, f23r2 (t.set i (gI t i - mnI (gI t i) (gI d j))) (d.set j (gI d j - mnI (gI t i) (gI d j))) c (B.set (i * 8 + j) false) P S = some v ∧
   IsMin m n (sub (gI t) i (mnI (gI t i) (gI d j))) (sub (gI d) j (mnI (gI t i) (gI d j))) (off (fun a b=>gB B (a*8+b)) i j) v ∧
   ∃x,x=mnI (gI t i) (gI d j)-(R-mnI (gI t i) (gI d j)-v)∧0≤x∧x≤mnI (gI t i) (gI d j) ∧
   GS m n mf t0 d0 i (j+1) (R-x) (B.set (i*8+j) false) (t.set i (gI t i-x)) (d.set j (gI d j-x)) (if 0<x then G++[(i,j,x)] else G):=by
 have htl:=hs.tl;have hdl:=hs.dl;have hBl:=hs.Bl;have hti:=hs.hh.tn i hi;have hdj:=hs.hh.dn j hj;have htb:=hs.tb i hi;have hdb:=hs.db j hj;have hmn:=mnI_le (gI t i) (gI d j);generalize hmo:mnI (gI t i) (gI d j)=most at *;have hit:i<t.length:=by omega
 have hjd:j<d.length:=by omega
 have hkB:i*8+j<B.length:=by omega
 have hmoff:∀a b,a<m→b<n→gB (B.set (i*8+j) false) (a*8+b)=off (fun a b=>gB B (a*8+b)) i j a b:=fun a b ha hb=>by
  rw [gB_set _ _ hkB];unfold off
  by_cases e:a=i∧b=j
  ·rw [if_pos (by rw [e.1,e.2]),e.1,e.2]; simp
  ·rw [if_neg (by omega)];have:(decide (a=i)&&decide (b=j))=false:=by
    rw [←Bool.decide_and]; exact decide_eq_false e
   rw [this]; simp
 have hset:∀(l:List Int)(k:Nat)(z:Int),k<l.length→∀a,gI (l.set k (gI l k-z)) a=sub (gI l) k z a:=fun l k z hk a=>by
  rw [Qaj _ _ hk];unfold sub
  by_cases e:a=k
  ·subst e; rw [if_pos rfl,decide_eq_true rfl]; rfl
  ·rw [if_neg e,decide_eq_false e]; simp
 obtain ⟨v,h1,h2⟩:=flowr2_eq (p:=t.set i (gI t i-most)) (q:=d.set j (gI d j-most)) (B:=B.set (i*8+j) false) c P S (by rw [List.length_set]; omega) (by rw [List.length_set]; omega) (by rw [List.length_set]; exact hBl)
  (fun a ha=>by
   rw [List.length_set] at ha;rw [Qaj _ _ hit];have:=hs.hh.tn a (by omega);have:=hs.tb a (by omega)
   by_cases e:a=i
   ·rw [if_pos e]; omega
   ·rw [if_neg e]; omega)
  (fun a ha=>by
   rw [List.length_set] at ha;rw [Qaj _ _ hjd];have:=hs.hh.dn a (by omega);have:=hs.db a (by omega)
   by_cases e:a=j
   ·rw [if_pos e]; omega
   ·rw [if_neg e]; omega)
 rw [List.length_set,List.length_set,htl,hdl] at h2;have hv:IsMin m n (sub (gI t) i most) (sub (gI d) j most) (off (fun a b=>gB B (a*8+b)) i j) v:=h2.congr (fun a ha=>hset t i most hit a) (fun b hb=>hset d j most hjd b) hmoff;have hgij:gB B (i*8+j)=true:=by
  rw [hs.bm i j hi hj,hmf,decide_eq_false (by omega:¬i<i),decide_eq_false (by omega:¬j<j)]; simp
 obtain ⟨g1,g2,g3⟩:=give_ok hs.hh hi hj hgij hmn.1 hmn.2.1 hmn.2.2 hv;refine ⟨v,h1,hv,_,rfl,g1,g2,?_⟩;generalize hx:most-(R-most-v)=x at *;refine ⟨by rw [List.length_set]; exact hBl,by rw [List.length_set]; exact htl,by rw [List.length_set]; exact hdl,g3.congr (fun a ha=>(hset t i x hit a).symm) (fun b hb=>(hset d j x hjd b).symm) (fun a b ha hb=>(hmoff a b ha hb).symm),fun a b ha hb=>?_,fun a ha=>?_,fun b hb=>?_,fun g hg=>?_,?_,fun a ha=>?_,fun b hb=>?_⟩
 ·rw [gB_set _ _ hkB]
  by_cases e:a=i∧b=j
  ·rw [if_pos (by rw [e.1,e.2]),e.1,e.2,decide_eq_true rfl,decide_eq_true (by omega:j<j+1)]; simp
  ·rw [if_neg (by omega),hs.bm a b ha hb]
   congr 1; congr 1; congr 1
   by_cases ea:a=i
   ·rw [decide_eq_true ea];have:b≠j:=fun eb=>e ⟨ea,eb⟩;simp only [Bool.true_and];rw [decide_eq_decide]; omega
   ·rw [decide_eq_false ea]; simp
 ·rw [Qaj _ _ hit];have h0:=hs.ga a ha;have key:sumA a (if 0<x then G++[(i,j,x)] else G)=sumA a G+(if a=i then x else 0):=by
   by_cases hx0:0<x
   ·rw [if_pos hx0,sumA_app];simp only [sumA]
    by_cases e:i=a
    ·rw [if_pos e,if_pos e.symm]; omega
    ·rw [if_neg e,if_neg fun h=>e h.symm]; omega
   ·rw [if_neg hx0]
    by_cases e:a=i
    ·rw [if_pos e]; omega
    ·rw [if_neg e]; omega
  rw [key]
  by_cases e:a=i
  ·subst e; rw [if_pos rfl,if_pos rfl]; omega
  ·rw [if_neg e,if_neg e]; omega
 ·rw [Qaj _ _ hjd];have h0:=hs.gb b hb;have key:sumB b (if 0<x then G++[(i,j,x)] else G)=sumB b G+(if b=j then x else 0):=by
   by_cases hx0:0<x
   ·rw [if_pos hx0,sumB_app];simp only [sumB]
    by_cases e:j=b
    ·rw [if_pos e,if_pos e.symm]; omega
    ·rw [if_neg e,if_neg fun h=>e h.symm]; omega
   ·rw [if_neg hx0]
    by_cases e:b=j
    ·rw [if_pos e]; omega
    ·rw [if_neg e]; omega
  rw [key]
  by_cases e:b=j
  ·subst e; rw [if_pos rfl,if_pos rfl]; omega
  ·rw [if_neg e,if_neg e]; omega
 ·have old:∀g∈G,g.1<m∧g.2.1<n∧mf g.1 g.2.1=true∧0<g.2.2∧g.2.2≤68719476736∧(g.1<i∨(g.1=i∧g.2.1<j+1)):=fun g hg=>by
   obtain ⟨a1,a2,a3,a4,a5,a6⟩:=hs.gm g hg;exact ⟨a1,a2,a3,a4,a5,by omega⟩
  by_cases hx0:0<x
  ·rw [if_pos hx0] at hg;rcases List.mem_append.1 hg with hg | hg
   ·exact old g hg
   ·rw [List.mem_singleton] at hg;subst hg;exact ⟨hi,hj,hmf,hx0,by show x≤_; omega,.inr ⟨rfl,by show j<j+1; omega⟩⟩
  ·rw [if_neg hx0] at hg; exact old g hg
 ·by_cases hx0:0<x
  ·rw [if_pos hx0];refine List.pairwise_append.2 ⟨hs.gp,List.pairwise_singleton _ _,fun g hg k hk=>?_⟩;rw [List.mem_singleton] at hk;subst hk;obtain ⟨_,_,_,_,_,a6⟩:=hs.gm g hg;exact a6
  ·rw [if_neg hx0]; exact hs.gp
 ·rw [Qaj _ _ hit];have:=hs.tb a ha
  by_cases e:a=i
  ·rw [if_pos e]; omega
  ·rw [if_neg e]; exact this
 ·rw [Qaj _ _ hjd];have:=hs.db b hb
  by_cases e:b=j
  ·rw [if_pos e]; omega
  ·rw [if_neg e]; exact this
end
end Go.Proofs.Ytinabbgjignkbaa
namespace Go.Proofs.Ytinabbgjignkbaa
set_option linter.unusedVariables false
set_option linter.unusedSimpArgs false
open Go.RowKit Flo
section
variable {m n:Nat} {mf:Nat→Nat→Bool} {t0 d0:Nat→Int} {P:List AA} {c:List AC} {S N:List Int} {B0:List Bool}
theorem nmA_at{a:Nat}(h:a<P.length):P[a].Name=nmA P a:=by unfold nmA; rw [List.getElem?_eq_getElem h]
theorem nmC_at{b:Nat}(h:b<c.length):c[b].Name=nmC c b:=by unfold nmC; rw [List.getElem?_eq_getElem h]
theorem give_eq{i j:Nat}{R x:Int}{B:List Bool}{t d:List Int}{G:List Gv}(hP:P.length=m)(hc:c.length=n)(hi:i<m)(hj:j<n)(ht:t.length=m)(hd:d.length=n)(hti:0≤gI t i∧gI t i≤68719476736)(hdj:0≤gI d j∧gI d j≤68719476736)(hx:0≤x∧x≤68719476736)(hG:G.length≤1000) :
  f25r2 (i:Int) (j:Int) x R t c B (G.map (useG P c)) P S d=some (t.set i (gI t i-x),d.set j (gI d j-x),(if 0<x then G++[(i,j,x)] else G).map (useG P c)):=by
 unfold f25r2 f25r2n0;rw [at_gI (by omega),bd_,at_gI (by omega),bd_,wrIn (n:=gI t i-x) (by omega) (by omega),wrIn (n:=gI d j-x) (by omega) (by omega),Int.toNat_natCast,Int.toNat_natCast]
 by_cases h:0<x
 ·rw [decide_eq_true h,cond_true,if_pos h,at_in (by omega:i<P.length),bd_,at_in (by omega:j<c.length),bd_,Qw (Qao (by rw [List.length_map]; omega) (by omega)),nmA_at,nmC_at];simp only [Option.bind_some,List.map_append,List.map_cons,List.map_nil];rfl
 ·rw [decide_eq_false h,cond_false,if_neg h]; rfl
theorem HH.rest_bd{R:Int}{t d:Nat→Int}{mm:Nat→Nat→Bool}(h:HH m n t d mm R)(hn:n≤8)(hd:∀b,b<n→d b≤68719476736):0≤R∧R≤549755813888:=by
 have h1:0≤sN n d:=sN_nn h.dn;have h2:=sN_bd (f:=d) (b:=68719476736) (n:=n) hd;have h3:=h.td;omega
theorem row_eq(hP:P.length=m)(hc:c.length=n)(hm:m≤10)(hn:n≤8){i:Nat}(hi:i<m)(T0 dl:List Int)(hdl:dl.length=n):∀(w f j:Nat){R:Int}{B:List Bool}{t d:List Int}{G:List Gv},j+w=n→w<f→GS m n mf t0 d0 i j R B t d G→G.length≤i*8+j →
  ∃R' B' t' d' G',f11n5 f (i:Int) T0 dl c (B0,P,S,N) (j:Int) R B t (G.map (useG P c)) d=some (.exit4 R' B' t' (G'.map (useG P c)) d')∧GS m n mf t0 d0 i n R' B' t' d' G'∧G'.length≤i*8+n
 | _,0,_,_,_,_,_,_,_,h,_,_=>absurd h (Nat.not_lt_zero _)
 | 0,f+1,j,R,B,t,d,G,hw,_,hs,hG=>by
  have e:j=n:=by omega
  subst e;rw [f11n5,decide_eq_false (by omega),cond_false];exact ⟨R,B,t,d,G,rfl,hs,hG⟩
 | w+1,f+1,j,R,B,t,d,G,hw,hf,hs,hG=>by
  have hj:j<n:=by omega
  have hBl:=hs.Bl;rw [f11n5,decide_eq_true (by omega),cond_true,Qw (Qap (by omega)),Qw (Qap (by omega)),Int.toNat_natCast,Int.toNat_natCast,Nat.mul_one,gB_at (by omega),bd_,wrSucc (by omega)];cases hmf:gB B (i*8+j) with
  | false =>
   rw [cond_false];have hmf2:mf i j=false:=by
    have:=hs.bm i j hi hj;rw [hmf,decide_eq_false (by omega:¬i<i),decide_eq_false (by omega:¬j<j)] at this;simpa using this.symm
   refine row_eq hP hc hm hn hi T0 dl hdl w f (j+1) (by omega) (by omega) { hs with bm:=fun a b ha hb=>?_,gm:=fun g hg=>?_ } (by omega)
   ·rw [hs.bm a b ha hb]
    by_cases e:a=i∧b=j
    ·rw [e.1,e.2,hmf2]; simp
    ·congr 1; congr 1; congr 1
     by_cases ea:a=i
     ·rw [decide_eq_true ea];have:b≠j:=fun eb=>e ⟨ea,eb⟩;simp only [Bool.true_and];rw [decide_eq_decide]; omega
     ·rw [decide_eq_false ea]; simp
   ·obtain ⟨a1,a2,a3,a4,a5,a6⟩:=hs.gm g hg;exact ⟨a1,a2,a3,a4,a5,by omega⟩
  | true =>
   have hmf2:mf i j=true:=by
    have:=hs.bm i j hi hj;rw [hmf,decide_eq_false (by omega:¬i<i),decide_eq_false (by omega:¬j<j)] at this;simpa using this.symm
   obtain ⟨v,h1,h2,x,hx,hx0,hx1,hs2⟩:=give1 (P:=P) (c:=c) (S:=S) hm hn hi hj hs hmf2;have hti:=hs.hh.tn i hi;have hdj:=hs.hh.dn j hj;have htb:=hs.tb i hi;have hdb:=hs.db j hj;have hmn:=mnI_le (gI t i) (gI d j);have hR:=HH.rest_bd hs.hh hn hs.db;have htl:=hs.tl;have hdl2:=hs.dl;rw [cond_true,at_gI (by omega),bd_,at_gI (by omega),bd_];dsimp only;generalize hmo:mnI (gI t i) (gI d j)=most at *;rw [wrIn (n:=gI t i-most) (by omega) (by omega),wrIn (n:=gI d j-most) (by omega) (by omega),h1,bd_,wrIn (n:=R-most) (by omega) (by omega),wrIn (n:=R-most-v) (by omega) (by omega),wrIn (n:=most-(R-most-v)) (by omega) (by omega),←hx,wrIn (n:=R-x) (by omega) (by omega)]
   rw [wrIn (n:=gI t i-most+most) (by omega) (by omega),wrIn (n:=gI d j-most+most) (by omega) (by omega),List.set_set,List.set_set,show gI t i-most+most=gI t i by omega,show gI d j-most+most=gI d j by omega,set_self (by omega:i<t.length),set_self (by omega:j<d.length)];rw [give_eq hP hc hi hj htl hdl2 ⟨hti,htb⟩ ⟨hdj,hdb⟩ ⟨hx0,by omega⟩ (by omega),bd_];refine row_eq hP hc hm hn hi T0 dl hdl w f (j+1) (by omega) (by omega) hs2 ?_
   by_cases hxp:0<x
   ·rw [if_pos hxp]; simp; omega
   ·rw [if_neg hxp]; omega
theorem all_eq(hP:P.length=m)(hc:c.length=n)(hm:m≤10)(hn:n≤8)(T0:List Int)(hT0:T0.length=m):∀(w f i:Nat){R:Int}{B:List Bool}{t d:List Int}{G:List Gv},i+w=m→w<f→GS m n mf t0 d0 i 0 R B t d G→G.length≤i*8 →
  ∃R' B' t' d' G',f11n6 f T0 c (B0,P,S,N) (i:Int) R B t (G.map (useG P c)) d=some (.exit2 (G'.map (useG P c)))∧GS m n mf t0 d0 m 0 R' B' t' d' G'∧G'.length≤m*8
 | _,0,_,_,_,_,_,_,_,h,_,_=>absurd h (Nat.not_lt_zero _)
 | 0,f+1,i,R,B,t,d,G,hw,_,hs,hG=>by
  have e:i=m:=by omega
  subst e;rw [f11n6,decide_eq_false (by omega),cond_false];exact ⟨R,B,t,d,G,rfl,hs,hG⟩
 | w+1,f+1,i,R,B,t,d,G,hw,hf,hs,hG=>by
  have hdl:=hs.dl;rw [f11n6,decide_eq_true (by omega),cond_true];obtain ⟨R',B',t',d',G',h1,h2,h3⟩:=row_eq (B0:=B0) (S:=S) (N:=N) hP hc hm hn (by omega:i<m) T0 d hdl n FUEL 0 (by omega) (Qad (by omega)) hs (by omega);have h1':f11n5 FUEL (i:Int) T0 d c (B0,P,S,N) 0 R B t (G.map (useG P c)) d=_:=h1;have e4:f11n4 T0 (i:Int) R c B t (G.map (useG P c)) (B0,P,S,N) d=some (.norm R' B' t' (G'.map (useG P c)) d'):=by
   unfold f11n4;rw [h1']; rfl
  rw [e4];simp only [Option.bind_some];rw [wrSucc (by omega)];refine all_eq hP hc hm hn T0 hT0 w f (i+1) (by omega) (by omega) { h2 with bm:=fun a b ha hb=>?_,gm:=fun g hg=>?_ } (by omega)
  ·rw [h2.bm a b ha hb]
   congr 1; congr 1
   rw [decide_eq_true hb,Bool.and_true,decide_eq_false (by omega:¬b<0),Bool.and_false,Bool.or_false,←Bool.decide_or,decide_eq_decide];omega
  ·obtain ⟨a1,a2,a3,a4,a5,a6⟩:=h2.gm g hg;exact ⟨a1,a2,a3,a4,a5,by omega⟩
end
def sP(l:List AA)(i:Nat):Int:=gI ((srt l).map Qa.Amount) i
def dC(c:List AC)(j:Nat):Int:=gI (c.map Qb.Need) j
def mP(l:List AA)(c:List AC)(i j:Nat):Bool:=match (srt l)[i]?,c[j]? with
 | some x,some y=>memN x.For y.Name
 | _,_=>false
theorem gI_map{α:Type}(f:α→Int){l:List α}{i:Nat}(h:i<l.length):gI (l.map f) i=f l[i]:=by
 unfold gI;rw [List.getD_eq_getElem?_getD,List.getElem?_map,List.getElem?_eq_getElem h]; rfl
theorem sP_bd{l:List AA}{c:List AC}(h:OkL l c):∀i,i<l.length→0≤sP l i∧sP l i≤68719476736:=fun i hi=>by
 have hi2:i<(srt l).length:=by rw [Qbv]; exact hi
 unfold sP;rw [gI_map _ hi2];exact h.am _ ((Qbn l).mem_iff.1 (List.getElem_mem hi2))
theorem dC_bd{l:List AA}{c:List AC}(h:OkL l c):∀j,j<c.length→1≤dC c j∧dC c j≤68719476736:=fun j hj=>by
 unfold dC;rw [gI_map _ hj];exact h.need _ (List.getElem_mem hj)
structure Cov (l:List AA) (c:List AC) (F:Nat→Int) (G:List Gv):Prop where
 gm:∀g∈G,g.1<l.length∧g.2.1<c.length∧mP l c g.1 g.2.1=true∧0<g.2.2∧g.2.2≤68719476736
 gp:G.Pairwise lexG
 ga:∀a,a<l.length→sumA a G=F (a+1)-F a
 gb:∀b,b<c.length→sumB b G=dC c b
 len:G.length≤80
def cU(a b:AU):Int:=cmpOr (cmpB a.Asset b.Asset) (cmpB a.Call b.Call)
theorem cU_cmp:Cmp cU:=(Cmp.str Qd.Asset).lex (Cmp.str Qd.Call)
theorem f27_eq(a b:AU):f27 a b=some (cU a b):=by
 unfold f27 f27n0;rw [f49_eq,f49_eq];simp only [Option.bind_some,f48_eq];rfl
theorem Flo.Rch.le{m n:Nat}{s d:Nat→Int}{may:Nat→Nat→Bool}{F:Nat→Int}(h:Rch m n s d may F){k:Nat}(hk:k≤m):F k≤sN n d:=by
 have:=(h k hk).2 (fun _=>false);unfold cut at this;have e:sN k (fun i=>bif tch n may (fun _=>false) i then s i else 0)=0:=Qar fun a _=>by
  cases q:tch n may (fun _=>false) a with
  | false=>rfl
  | true =>
   obtain ⟨b,_,hb,_⟩:=Qag.1 q;cases hb
 rw [e] at this;simp only [cond_false] at this;show _≤sN n (fun j=>d j);omega
theorem cover_eq{l:List AA}{c:List AC}(hck:checkB l c=true):∃F,Rch l.length c.length (sP l) (dC c) (mP l c) F ∧
  ((F l.length<sN c.length (dC c)∧f11 l c=some ([],50))∨(F l.length=sN c.length (dC c)∧∃G,Cov l c F G∧f11 l c=some (sortL cU (G.map (useG (srt l) c)),0))):=by
 have h:=checkB_ok hck;have hl:=h.len;have hcl:=h.clen;have hPl:=Qbv l;obtain ⟨B,p1,p2,p3⟩:=posed_eq h;have hB:∀a b,a<l.length→b<c.length→gB B (a*8+b)=mP l c a b:=fun a b ha hb=>by
  rw [p3 a b (by omega) hb];unfold mP;rw [List.getElem?_eq_getElem (by omega:a<(srt l).length),List.getElem?_eq_getElem hb]
 have hs:=sP_bd h;have hd:∀j,j<c.length→0≤dC c j∧dC c j≤68719476736:=fun j hj=>by have:=dC_bd h j hj; omega
 obtain ⟨F,T,t1,t2,t3,t4⟩:=totals_eq (m:=l.length) (n:=c.length) (B:=B) (S:=(srt l).map Qa.Amount) (N:=c.map Qb.Need) (srt l) c (by simp [hPl]) (by simp) hl hcl p2 hs hd;have hR:Rch l.length c.length (sP l) (dC c) (mP l c) F:=fun k hk=>(t2 k hk).congr (fun _ _=>rfl) (fun _ _=>rfl) (fun a b ha hb=>hB a b (by omega) hb);refine ⟨F,hR,?_⟩;have hle:=hR.le (Nat.le_refl _);have hsum:f24r1 (c.map Qb.Need)=some (sN c.length (dC c)):=by
  have:=f24_eq (l:=c.map Qb.Need) (by simp; omega) (fun j hj=>hd j (by simpa using hj));rw [List.length_map] at this;exact this
 unfold f11 f11n0;rw [f13_eq,hck,bd_,cond_true,decide_eq_true rfl,cond_true,p1,bd_,t1];simp only [Option.bind_some];rw [hsum];simp only [Option.bind_some]
 by_cases hlt:F l.length<sN c.length (dC c)
 ·rw [decide_eq_true hlt];exact .inl ⟨hlt,rfl⟩
 ·rw [decide_eq_false hlt,cond_false];have heq:F l.length=sN c.length (dC c):=by omega
  have hst:GS l.length c.length (mP l c) (fun a=>F (a+1)-F a) (dC c) 0 0 (sN c.length (dC c)) B T (c.map Qb.Need) []:=by
   refine ⟨p2,t3,by simp,(HH.start hR (fun a ha=>(hs a ha).1) (fun b hb=>(hd b hb).1) heq).congr (fun a ha=>(t4 a ha).symm) (fun _ _=>rfl) (fun a b ha hb=>(hB a b ha hb).symm),fun a b ha hb=>?_,fun a ha=>?_,fun b hb=>?_,fun g hg=>(by cases hg),List.Pairwise.nil,fun a ha=>?_,fun b hb=>(hd b hb).2⟩
   ·rw [hB a b ha hb,decide_eq_false (by omega:¬a<0),decide_eq_false (by omega:¬b<0)]; simp
   ·rw [t4 a ha]; simp [sumA]
   ·show dC c b=dC c b+0; omega
   ·rw [t4 a ha];have:=(hR.step (fun a ha=>(hs a ha).1) ha).2;have:=(hs a ha).2;omega
  obtain ⟨R',B',t',d',G',g1,g2,g3⟩:=all_eq (B0:=B) (S:=(srt l).map Qa.Amount) (N:=c.map Qb.Need) (P:=srt l) (c:=c) hPl rfl hl hcl T t3 l.length FUEL 0 (by omega) (Qad (by omega)) hst (by simp);have g1':f11n6 FUEL T c (B,srt l,(srt l).map Qa.Amount,c.map Qb.Need) 0 (sN c.length (dC c)) B T [] (c.map Qb.Need)=_:=g1;have hdone:=g2.hh.done fun a b ha hb=>by rw [g2.bm a b ha hb,decide_eq_true ha]; simp
  refine .inr ⟨heq,G',⟨fun g hg=>?_,g2.gp,fun a ha=>?_,fun b hb=>?_,by omega⟩,?_⟩
  ·obtain ⟨a1,a2,a3,a4,a5,_⟩:=g2.gm g hg;exact ⟨a1,a2,a3,a4,a5⟩
  ·have:=g2.ga a ha;rw [hdone.2.1 a ha] at this;omega
  ·have:=g2.gb b hb;rw [hdone.2.2 b hb] at this;omega
  ·have e3:f11n3 (sN c.length (dC c)) c (B,srt l,(srt l).map Qa.Amount,c.map Qb.Need) T=some (.norm (G'.map (useG (srt l) c))):=by
    unfold f11n3;rw [show f11n6 FUEL T c (B,srt l,(srt l).map Qa.Amount,c.map Qb.Need) 0 (sN c.length (dC c)) (B,srt l,(srt l).map Qa.Amount,c.map Qb.Need).1 T [] (B,srt l,(srt l).map Qa.Amount,c.map Qb.Need).2.2.2=_ from g1']; rfl
   rw [e3];simp only [Option.bind_some];rw [so26_27_val f27_eq cU_cmp.SWO (by rw [List.length_map]; omega)]; rfl
theorem cover_bad{l:List AA}{c:List AC}(hck:checkB l c=false):f11 l c=some ([],8):=by
 unfold f11 f11n0;rw [f13_eq,hck]; rfl
theorem reachS_eq{l:List AA}{c:List AC}(hck:checkB l c=true):∃v,f20 l c=some (v,0)∧IsMin l.length c.length (sP l) (dC c) (mP l c) v:=by
 have h:=checkB_ok hck;have hl:=h.len;have hcl:=h.clen;have hPl:=Qbv l;obtain ⟨B,p1,p2,p3⟩:=posed_eq h;have hs:=sP_bd h;have hd:∀j,j<c.length→0≤dC c j∧dC c j≤68719476736:=fun j hj=>by have:=dC_bd h j hj; omega
 obtain ⟨v,v1,v2⟩:=flowr3_eq (p:=(srt l).map Qa.Amount) (q:=c.map Qb.Need) (B:=B) c (srt l) (by simp; omega) (by simp; omega) p2 (fun i hi=>hs i (by rw [List.length_map] at hi; omega)) (fun j hj=>hd j (by simpa using hj));rw [List.length_map,List.length_map,hPl] at v2;refine ⟨v,?_,v2.congr (fun _ _=>rfl) (fun _ _=>rfl) fun a b ha hb=>?_⟩
 ·unfold f20 f20n0;rw [f13_eq,hck,bd_,cond_true,decide_eq_true rfl,cond_true,p1,bd_];dsimp only;rw [v1]; rfl
 ·rw [p3 a b (by omega) hb];unfold mP;rw [List.getElem?_eq_getElem (by omega:a<(srt l).length),List.getElem?_eq_getElem hb]
theorem reachS_bad{l:List AA}{c:List AC}(hck:checkB l c=false):f20 l c=some (0,8):=by
 unfold f20 f20n0;rw [f13_eq,hck]; rfl
end Go.Proofs.Ytinabbgjignkbaa
namespace Go.Proofs.Ytinabbgjignkbaa
set_option linter.unusedVariables false
set_option linter.unusedSimpArgs false
open Go.RowKit Flo
def sA(nm:ByteArray):List AU→Int
 | []=>0
 | x::r=>(bif seq x.Asset nm then x.Amount else 0)+sA nm r
def sC(nm:ByteArray):List AU→Int
 | []=>0
 | x::r=>(bif seq x.Call nm then x.Amount else 0)+sC nm r
theorem sA_perm{nm:ByteArray}{a b:List AU}(h:a.Perm b):sA nm a=sA nm b:=by
 induction h with
 | nil=>rfl
 | cons x _ ih=>rw [sA,sA,ih]
 | swap x y l=>simp only [sA]; omega
 | trans _ _ i1 i2=>exact i1.trans i2
theorem sC_perm{nm:ByteArray}{a b:List AU}(h:a.Perm b):sC nm a=sC nm b:=by
 induction h with
 | nil=>rfl
 | cons x _ ih=>rw [sC,sC,ih]
 | swap x y l=>simp only [sC]; omega
 | trans _ _ i1 i2=>exact i1.trans i2
theorem sA_bd{nm:ByteArray} : ∀{u:List AU},(∀x∈u,0≤x.Amount∧x.Amount≤68719476736)→0≤sA nm u∧sA nm u≤68719476736*u.length
 | [],_=>by simp [sA]
 | x::r,h=>by
  have h1:=sA_bd (nm:=nm) (u:=r) fun y hy=>h y (List.mem_cons_of_mem _ hy);have h2:=h x List.mem_cons_self;rw [sA,List.length_cons,Int.natCast_add,Int.mul_add];simp only [Int.natCast_one,Int.mul_one];cases seq x.Asset nm<;>simp only [cond_true,cond_false]<;>omega

def ordU:Option AU→AU→Bool
 | none,_=>true
 | some p,x=>bif seq p.Asset x.Asset then slt p.Call x.Call else slt p.Asset x.Asset
def isA(a:AA)(x:AU):Bool:=seq a.Name x.Asset&&a.For.any fun s=>seq s x.Call
def knowU(l:List AA)(c:List AC)(x:AU):Bool:=(l.any fun a=>isA a x)&&c.any fun y=>seq y.Name x.Call
def goodU(l:List AA)(c:List AC)(p:Option AU)(x:AU):Bool:=inB x.Amount 1 68719476736&&(ordU p x&&knowU l c x)
def okU(l:List AA)(c:List AC):Option AU→List AU→Bool
 | _,[]=>true
 | p,x::r=>goodU l c p x&&okU l c (some x) r
section
variable {l:List AA} {c:List AC} {u:List AU}
theorem okU_am:∀{u:List AU} {p:Option AU},okU l c p u=true→∀x∈u,1≤x.Amount∧x.Amount≤68719476736
 | x::r,p,h,y,hy=>by
  rw [okU,Bool.and_eq_true] at h;rcases List.mem_cons.1 hy with rfl | hy
  ·have:=h.1;unfold goodU at this;rw [Bool.and_eq_true] at this;exact inB_iff.1 this.1
  ·exact okU_am h.2 y hy

end
def coverB(l:List AA)(c:List AC)(u:List AU):Bool :=
 okU l c none u&&((l.all fun a=>decide (sA a.Name u≤a.Amount))&&((c.all fun y=>decide (sC y.Name u=y.Need))&&decide (u.length≤80)))
end Go.Proofs.Ytinabbgjignkbaa
namespace Go.Proofs.Ytinabbgjignkbaa
set_option linter.unusedVariables false
set_option linter.unusedSimpArgs false
open Go.RowKit Flo
theorem seq_sy(a b:ByteArray):seq a b=seq b a:=by
 cases h:seq b a with
 | true=>rw [seq_iff.1 h,Qbr]
 | false=>rw [seqF]; intro e; rw [e,Qbr] at h; cases h
theorem slt_ne{a b:ByteArray}(h:slt a b=true):a≠b:=sltNe h

theorem nm_pw{l:List AA}{c:List AC}(h:OkL l c):(srt l).Pairwise fun a b=>a.Name≠b.Name:=by
 have h1:l.Pairwise fun a b=>a.Name≠b.Name:=h.nd.imp fun {a b} k=>slt_ne k;exact ((Qbn l).pairwise_iff fun {a b} k e=>k e.symm).2 h1
theorem nmA_inj{l:List AA}{c:List AC}(h:OkL l c){a b:Nat}(ha:a<l.length)(hb:b<l.length)(e:nmA (srt l) a=nmA (srt l) b):a=b:=by
 have ha':a<(srt l).length:=by rw [Qbv]; exact ha
 have hb':b<(srt l).length:=by rw [Qbv]; exact hb
 rw [←nmA_at ha',←nmA_at hb'] at e;have hp:=List.pairwise_iff_getElem.1 (nm_pw h);rcases Nat.lt_trichotomy a b with k | k | k
 ·exact absurd e (hp a b ha' hb' k)
 ·exact k
 ·exact absurd e.symm (hp b a hb' ha' k)
theorem nmC_inj{l:List AA}{c:List AC}(h:OkL l c){a b:Nat}(ha:a<c.length)(hb:b<c.length)(e:nmC c a=nmC c b):a=b:=by
 rw [←nmC_at ha,←nmC_at hb] at e;have hp:=List.pairwise_iff_getElem.1 h.cnd;rcases Nat.lt_trichotomy a b with k | k | k
 ·exact absurd e (slt_ne (hp a b ha hb k))
 ·exact k
 ·exact absurd e.symm (slt_ne (hp b a hb ha k))
section
variable {l:List AA} {c:List AC} {F:Nat→Int} {G:List Gv}
theorem sA_use(h:OkL l c){a:Nat}(ha:a<l.length):∀{G:List Gv},(∀g∈G,g.1<l.length)→sA (nmA (srt l) a) (G.map (useG (srt l) c))=sumA a G
 | [],_=>rfl
 | g::r,hg=>by
  rw [List.map_cons,sA,sumA,sA_use h ha fun k hk=>hg k (List.mem_cons_of_mem _ hk)];have hg1:=hg g List.mem_cons_self;show (bif seq (nmA (srt l) g.1) (nmA (srt l) a) then g.2.2 else 0)+_=_
  by_cases e:g.1=a
  ·rw [e,Qbr,if_pos rfl]; rfl
  ·rw [seqF fun k=>e (nmA_inj h hg1 ha k),if_neg e]; rfl
theorem sC_use(h:OkL l c){b:Nat}(hb:b<c.length):∀{G:List Gv},(∀g∈G,g.2.1<c.length)→sC (nmC c b) (G.map (useG (srt l) c))=sumB b G
 | [],_=>rfl
 | g::r,hg=>by
  rw [List.map_cons,sC,sumB,sC_use h hb fun k hk=>hg k (List.mem_cons_of_mem _ hk)];have hg1:=hg g List.mem_cons_self;show (bif seq (nmC c g.2.1) (nmC c b) then g.2.2 else 0)+_=_
  by_cases e:g.2.1=b
  ·rw [e,Qbr,if_pos rfl]; rfl
  ·rw [seqF fun k=>e (nmC_inj h hg1 hb k),if_neg e]; rfl
theorem cU_zero{a b:AU} : cU a b=0↔a.Asset=b.Asset∧a.Call=b.Call:=by
 unfold cU;rw [cmpOr_zero,Qcd,Qcd]
noncomputable def Qbs(l:List AA)(c:List AC)(G:List Gv):List AU:=sortL cU (G.map (useG (srt l) c))
theorem ch_perm:(Qbs l c G).Perm (G.map (useG (srt l) c)):=sortL_perm cU_cmp.SWO _
theorem ch_mem{x:AU}(hx:x∈Qbs l c G):∃g∈G,x=useG (srt l) c g:=by
 obtain ⟨g,h1,h2⟩:=List.mem_map.1 (ch_perm.mem_iff.1 hx);exact ⟨g,h1,h2.symm⟩
theorem ch_sorted(h:OkL l c)(hG:Cov l c F G):(Qbs l c G).Pairwise fun x y=>cU x y<0:=by
 have hne:(G.map (useG (srt l) c)).Pairwise fun x y=>cU x y≠0:=by
  rw [List.pairwise_map];refine (List.Pairwise.and_mem.1 hG.gp).imp fun {g k} ⟨hg,hk,hgk⟩ e=>?_;obtain ⟨e1,e2⟩:=cU_zero.1 e;have hg':=hG.gm g hg;have hk':=hG.gm k hk;have i1:=nmA_inj h hg'.1 hk'.1 e1;have i2:=nmC_inj h hg'.2.1 hk'.2.1 e2;rcases hgk with q | ⟨_,q⟩<;>omega
 have hne':(Qbs l c G).Pairwise fun x y=>cU x y≠0:=(ch_perm.pairwise_iff fun {x y} k e=>k (by
  obtain ⟨e1,e2⟩:=cU_zero.1 e;exact cU_zero.2 ⟨e1.symm,e2.symm⟩)).2 hne
 have hs:=sortL_sorted cU_cmp.SWO (G.map (useG (srt l) c));refine (hs.and hne').imp fun {x y} ⟨k1,k2⟩=>?_;have k3:¬cU y x<0:=of_decide_eq_false k1;refine Classical.byContradiction fun k4=>k2 (cU_cmp.tot k4 k3)
theorem ordU_of{x y:AU}(h:cU x y<0):ordU (some x) y=true:=by
 unfold cU cmpOr at h;show (bif seq x.Asset y.Asset then slt x.Call y.Call else slt x.Asset y.Asset)=true
 by_cases e:cmpB x.Asset y.Asset=0
 ·rw [decide_eq_true e,cond_true] at h;rw [seq_iff.2 (Qcd.1 e),cond_true];exact cmpB_neg.1 h
 ·rw [decide_eq_false e,cond_false] at h;rw [seqF fun k=>e (Qcd.2 k),cond_false];exact cmpB_neg.1 h
theorem okU_of:∀{u:List AU} {p:Option AU},(∀x∈u,inB x.Amount 1 68719476736=true∧knowU l c x=true)→u.Pairwise (fun x y=>cU x y<0)→(∀q,p=some q→∀x∈u,cU q x<0)→okU l c p u=true
 | [],_,_,_,_=>rfl
 | x::r,p,hk,hs,hp=>by
  have hs':=List.pairwise_cons.1 hs;have hx:=hk x List.mem_cons_self;rw [okU,okU_of (fun y hy=>hk y (List.mem_cons_of_mem _ hy)) hs'.2 fun q hq y hy=>by
   obtain rfl:=Option.some.inj hq;exact hs'.1 y hy]
  have ho:ordU p x=true:=by
   cases p with
   | none=>rfl
   | some q=>exact ordU_of (hp q rfl x List.mem_cons_self)
  unfold goodU;rw [hx.1,hx.2,ho]; rfl
theorem use_know(h:OkL l c)(hG:Cov l c F G){g:Gv}(hg:g∈G):inB (useG (srt l) c g).Amount 1 68719476736=true∧knowU l c (useG (srt l) c g)=true:=by
 obtain ⟨g1,g2,g3,g4,g5⟩:=hG.gm g hg;have g1':g.1<(srt l).length:=by rw [Qbv]; exact g1
 refine ⟨inB_iff.2 ⟨by show 1≤g.2.2; omega,g5⟩,?_⟩;unfold mP at g3;rw [List.getElem?_eq_getElem g1',List.getElem?_eq_getElem g2] at g3;simp only at g3;unfold knowU;rw [Bool.and_eq_true]
 constructor
 ·refine List.any_eq_true.2 ⟨(srt l)[g.1],(Qbn l).mem_iff.1 (List.getElem_mem g1'),?_⟩;unfold isA;rw [Bool.and_eq_true];refine ⟨seq_iff.2 (nmA_at g1'),?_⟩;unfold memN at g3;obtain ⟨s,s1,s2⟩:=List.any_eq_true.1 g3;refine List.any_eq_true.2 ⟨s,s1,?_⟩;rw [seq_sy];show seq (nmC c g.2.1) s=true;rw [←nmC_at g2]; exact s2
 ·exact List.any_eq_true.2 ⟨c[g.2.1],List.getElem_mem g2,seq_iff.2 (nmC_at g2)⟩
theorem ch_cover(h:OkL l c)(hG:Cov l c F G)(hR:Rch l.length c.length (sP l) (dC c) (mP l c) F):coverB l c (Qbs l c G)=true:=by
 have hok:okU l c none (Qbs l c G)=true:=okU_of (fun x hx=>by
  obtain ⟨g,hg,rfl⟩:=ch_mem hx;exact use_know h hG hg) (ch_sorted h hG) (fun q hq=>by cases hq)
 have hs:=sP_bd h;unfold coverB;rw [hok,Bool.true_and,Bool.and_eq_true,Bool.and_eq_true];refine ⟨List.all_eq_true.2 fun a ha=>decide_eq_true ?_,List.all_eq_true.2 fun y hy=>decide_eq_true ?_,decide_eq_true ?_⟩
 ·obtain ⟨k,hk,rfl⟩:=List.getElem_of_mem ((Qbn l).mem_iff.2 ha);have hk':k<l.length:=by rw [←Qbv l]; exact hk
  rw [nmA_at hk,sA_perm ch_perm,sA_use h hk' fun g hg=>(hG.gm g hg).1,hG.ga k hk'];have:=(hR.step (fun a ha=>(hs a ha).1) hk').2;unfold sP at this;rw [gI_map _ hk] at this;exact this
 ·obtain ⟨b,hb,rfl⟩:=List.getElem_of_mem hy;rw [nmC_at hb,sC_perm ch_perm,sC_use h hb fun g hg=>(hG.gm g hg).2.1,hG.gb b hb];unfold dC;rw [gI_map _ hb]
 ·rw [ch_perm.length_eq,List.length_map]; exact hG.len
end

end Go.Proofs.Ytinabbgjignkbaa
namespace Go.Proofs.Ytinabbgjignkbaa
set_option linter.unusedVariables false
set_option linter.unusedSimpArgs false
open Go.RowKit Flo



end Go.Proofs.Ytinabbgjignkbaa
namespace Go.Proofs.Ytinabbgjignkbaa
set_option linter.unusedVariables false
set_option linter.unusedSimpArgs false
open Go.RowKit Flo
structure CovF (l:List AA) (c:List AC) (u:List AU):Prop where
 am:∀x∈u,1≤x.Amount∧x.Amount≤68719476736
 pw:u.Pairwise fun x y=>cU x y<0
 kn:∀x∈u,knowU l c x=true
 sa:∀a∈l,sA a.Name u≤a.Amount
 sc:∀y∈c,sC y.Name u=y.Need
 len:u.length≤80
theorem ordU_lt{x y:AU}(h:ordU (some x) y=true):cU x y<0:=by
 have h':(bif seq x.Asset y.Asset then slt x.Call y.Call else slt x.Asset y.Asset)=true:=h;unfold cU cmpOr;cases e:seq x.Asset y.Asset with
 | true =>
  rw [e,cond_true] at h';rw [decide_eq_true (Qcd.2 (seq_iff.1 e)),cond_true];exact cmpB_neg.2 h'
 | false =>
  rw [e,cond_false] at h';have hne:cmpB x.Asset y.Asset≠0:=fun k=>by rw [Qcd.1 k,Qbr] at e; cases e
  rw [decide_eq_false hne,cond_false];exact cmpB_neg.2 h'
theorem okU_pw{l:List AA}{c:List AC} : ∀{u:List AU} {p:Option AU},okU l c p u=true→u.Pairwise (fun x y=>cU x y<0)∧(∀q,p=some q→∀x∈u,cU q x<0)∧∀x∈u,knowU l c x=true
 | [],p,_=>⟨List.Pairwise.nil,fun _ _ x hx=>(by cases hx),fun x hx=>(by cases hx)⟩
 | x::r,p,h=>by
  rw [okU,Bool.and_eq_true] at h;obtain ⟨h1,h2⟩:=h;unfold goodU at h1;rw [Bool.and_eq_true,Bool.and_eq_true] at h1;obtain ⟨i1,i2,i3⟩:=okU_pw h2;refine ⟨List.pairwise_cons.2 ⟨i2 x rfl,i1⟩,fun q hq y hy=>?_,fun y hy=>?_⟩
  ·subst hq;have hqx:=ordU_lt h1.2.1;rcases List.mem_cons.1 hy with rfl | hy
   ·exact hqx
   ·exact cU_cmp.tr hqx (i2 x rfl y hy)
  ·rcases List.mem_cons.1 hy with rfl | hy
   ·exact h1.2.2
   ·exact i3 y hy
theorem covF{l:List AA}{c:List AC}{u:List AU}(h:coverB l c u=true):CovF l c u:=by
 unfold coverB at h;rw [Bool.and_eq_true,Bool.and_eq_true,Bool.and_eq_true] at h;obtain ⟨h1,h2,h3,h4⟩:=h;obtain ⟨i1,_,i3⟩:=okU_pw h1;exact ⟨okU_am h1,i1,i3,fun a ha=>of_decide_eq_true (List.all_eq_true.1 h2 a ha),fun y hy=>of_decide_eq_true (List.all_eq_true.1 h3 y hy),of_decide_eq_true h4⟩
section
variable {l:List AA} {c:List AC}
theorem know_idx(h:OkL l c){x:AU}(hk:knowU l c x=true):∃a b,a<l.length∧b<c.length∧x.Asset=nmA (srt l) a∧x.Call=nmC c b∧mP l c a b=true:=by
 unfold knowU at hk;rw [Bool.and_eq_true] at hk;obtain ⟨a,ha,ha2⟩:=List.any_eq_true.1 hk.1;obtain ⟨y,hy,hy2⟩:=List.any_eq_true.1 hk.2;unfold isA at ha2;rw [Bool.and_eq_true] at ha2;obtain ⟨s,s1,s2⟩:=List.any_eq_true.1 ha2.2;obtain ⟨i,hi,rfl⟩:=List.getElem_of_mem ((Qbn l).mem_iff.2 ha);obtain ⟨j,hj,rfl⟩:=List.getElem_of_mem hy;refine ⟨i,j,by rw [←Qbv l]; exact hi,hj,by rw [←nmA_at hi]; exact (seq_iff.1 ha2.1).symm,by rw [←nmC_at hj]; exact (seq_iff.1 hy2).symm,?_⟩;unfold mP;rw [List.getElem?_eq_getElem hi,List.getElem?_eq_getElem hj];exact List.any_eq_true.2 ⟨s,s1,by rw [seq_iff.1 hy2,seq_sy]; exact s2⟩
def tA:List AU→Int
 | []=>0
 | x::r=>x.Amount+tA r
def sAC(n1 n2:ByteArray):List AU→Int
 | []=>0
 | x::r=>(bif seq x.Asset n1&&seq x.Call n2 then x.Amount else 0)+sAC n1 n2 r
theorem sAC_nn(n1 n2:ByteArray):∀{u:List AU},(∀x∈u,0≤x.Amount)→0≤sAC n1 n2 u
 | [],_=>Int.le_refl _
 | x::r,h=>by
  have h1:=sAC_nn n1 n2 (u:=r) fun y hy=>h y (List.mem_cons_of_mem _ hy);have h2:=h x List.mem_cons_self;rw [sAC];cases seq x.Asset n1&&seq x.Call n2<;>simp only [cond_true,cond_false]<;>omega
theorem sAC_ne(n1 n2:ByteArray):∀{u:List AU},sAC n1 n2 u≠0→∃x∈u,x.Asset=n1∧x.Call=n2
 | [],h=>absurd rfl h
 | x::r,h=>by
  rw [sAC] at h;cases e:seq x.Asset n1&&seq x.Call n2 with
  | true =>
   rw [Bool.and_eq_true] at e;exact ⟨x,List.mem_cons_self,seq_iff.1 e.1,seq_iff.1 e.2⟩
  | false =>
   rw [e,cond_false,Int.zero_add] at h;obtain ⟨y,hy,h2⟩:=sAC_ne n1 n2 h;exact ⟨y,List.mem_cons_of_mem _ hy,h2⟩
theorem row_sA(h:OkL l c)(n1:ByteArray):∀{u:List AU},(∀x∈u,∃b,b<c.length∧x.Call=nmC c b)→sN c.length (fun b=>sAC n1 (nmC c b) u)=sA n1 u
 | [],_=>Qar fun _ _=>rfl
 | x::r,hk=>by
  obtain ⟨b,hb,e⟩:=hk x List.mem_cons_self;simp only [sAC,sA];rw [sN_add (fun b=>bif seq x.Asset n1&&seq x.Call (nmC c b) then x.Amount else 0),row_sA h n1 fun y hy=>hk y (List.mem_cons_of_mem _ hy)]
  congr 1
  rw [sN_one hb fun i hi hne=>by
   rw [e,seqF fun q=>hne (nmC_inj h hb hi q).symm,Bool.and_false]; rfl,e,Qbr,Bool.and_true]
theorem col_sC(h:OkL l c)(n2:ByteArray){k:Nat}(hk:k≤l.length):∀{u:List AU},(∀x∈u,0≤x.Amount)→sN k (fun a=>sAC (nmA (srt l) a) n2 u)≤sC n2 u
 | [],_=>Int.le_of_eq (Qar fun _ _=>rfl)
 | x::r,hp=>by
  have h1:=col_sC h n2 hk (u:=r) fun y hy=>hp y (List.mem_cons_of_mem _ hy);have hx:=hp x List.mem_cons_self;simp only [sAC,sC];rw [sN_add (fun a=>bif seq x.Asset (nmA (srt l) a)&&seq x.Call n2 then x.Amount else 0)];have:sN k (fun a=>bif seq x.Asset (nmA (srt l) a)&&seq x.Call n2 then x.Amount else 0)≤bif seq x.Call n2 then x.Amount else 0:=by
   by_cases hex:∃a,a<k∧x.Asset=nmA (srt l) a
   ·obtain ⟨a,ha,e⟩:=hex;rw [sN_one ha fun i hi hne=>by
     rw [e,seqF fun q=>hne (nmA_inj h (by omega) (by omega) q).symm,Bool.false_and]; rfl,e,Qbr,Bool.true_and]
    exact Int.le_refl _
   ·rw [Qar fun i hi=>by rw [seqF fun q=>hex ⟨i,hi,q⟩,Bool.false_and]; rfl];cases seq x.Call n2<;>simp only [cond_true,cond_false]<;>omega
  omega
theorem tot_sA(h:OkL l c):∀{u:List AU},(∀x∈u,∃a,a<l.length∧x.Asset=nmA (srt l) a)→sN l.length (fun a=>sA (nmA (srt l) a) u)=tA u
 | [],_=>Qar fun _ _=>rfl
 | x::r,hk=>by
  obtain ⟨a,ha,e⟩:=hk x List.mem_cons_self;simp only [sA,tA];rw [sN_add (fun a=>bif seq x.Asset (nmA (srt l) a) then x.Amount else 0),tot_sA h fun y hy=>hk y (List.mem_cons_of_mem _ hy)]
  congr 1
  rw [sN_one ha fun i hi hne=>by rw [e,seqF fun q=>hne (nmA_inj h ha hi q).symm]; rfl,e,Qbr,cond_true]
theorem tot_sC(h:OkL l c):∀{u:List AU},(∀x∈u,∃b,b<c.length∧x.Call=nmC c b)→sN c.length (fun b=>sC (nmC c b) u)=tA u
 | [],_=>Qar fun _ _=>rfl
 | x::r,hk=>by
  obtain ⟨b,hb,e⟩:=hk x List.mem_cons_self;simp only [sC,tA];rw [sN_add (fun b=>bif seq x.Call (nmC c b) then x.Amount else 0),tot_sC h fun y hy=>hk y (List.mem_cons_of_mem _ hy)]
  congr 1
  rw [sN_one hb fun i hi hne=>by rw [e,seqF fun q=>hne (nmC_inj h hb hi q).symm]; rfl,e,Qbr,cond_true]
theorem pre_le{F:Nat→Int}{u:List AU}(h:OkL l c)(hR:Rch l.length c.length (sP l) (dC c) (mP l c) F)(hc:CovF l c u){k:Nat}(hk:k≤l.length):sN k (fun a=>sA (nmA (srt l) a) u)≤F k:=by
 have hnn:∀x∈u,0≤x.Amount:=fun x hx=>by have:=hc.am x hx; omega
 have hcall:∀x∈u,∃b,b<c.length∧x.Call=nmC c b:=fun x hx=>by
  obtain ⟨_,b,_,hb,_,e,_⟩:=know_idx h (hc.kn x hx);exact ⟨b,hb,e⟩
 have hfl:Flw k c.length (sP l) (dC c) (mP l c) (fun a b=>sAC (nmA (srt l) a) (nmC c b) u):=by
  refine ⟨fun a b _ _=>sAC_nn _ _ hnn,fun a b ha hb hne=>?_,fun a ha=>?_,fun b hb=>?_⟩
  ·obtain ⟨x,hx,e1,e2⟩:=sAC_ne _ _ hne;obtain ⟨a',b',ha',hb',e3,e4,e5⟩:=know_idx h (hc.kn x hx);have i1:=nmA_inj h ha' (by omega) (e3.symm.trans e1);have i2:=nmC_inj h hb' hb (e4.symm.trans e2);rw [←i1,←i2]; exact e5
  ·rw [row_sA h _ hcall];have ha2:a<(srt l).length:=by rw [Qbv]; omega
   have:=hc.sa _ ((Qbn l).mem_iff.1 (List.getElem_mem ha2));rw [nmA_at ha2] at this;unfold sP;rw [gI_map _ ha2]; exact this
  ·refine Int.le_trans (col_sC h _ hk hnn) (Int.le_of_eq ?_);have:=hc.sc _ (List.getElem_mem hb);rw [nmC_at hb] at this;rw [this];unfold dC;rw [gI_map _ hb]
 obtain ⟨⟨T,hT⟩,_⟩:=hR k hk;have:=hfl.le_cut T;rw [←hT] at this;refine Int.le_trans (Int.le_of_eq ?_) this;unfold Flo.tot;exact Qz fun a _=>(row_sA h _ hcall).symm
theorem tot_need{u:List AU}(h:OkL l c)(hc:CovF l c u):tA u=sN c.length (dC c):=by
 rw [←tot_sC h fun x hx=>by
  obtain ⟨_,b,_,hb,_,e,_⟩:=know_idx h (hc.kn x hx);exact ⟨b,hb,e⟩]
 refine Qz fun b hb=>?_;have:=hc.sc _ (List.getElem_mem hb);rw [nmC_at hb] at this;rw [this];unfold dC;rw [gI_map _ hb]

def cP(l:List AA)(a:Nat):Int:=gI ((srt l).map Qa.Cost) a
def costOf(l:List AA)(nm:ByteArray):Int:=match l.find? fun a=>seq a.Name nm with
 | some a=>a.Cost
 | none=>0
def costU(l:List AA):List AU→Int
 | []=>0
 | x::r=>x.Amount*costOf l x.Asset+costU l r
theorem find_nm{l:List AA}(hp:l.Pairwise fun a b=>a.Name≠b.Name){a:AA}(ha:a∈l):l.find? (fun b=>seq b.Name a.Name)=some a:=by
 induction l with
 | nil=>cases ha
 | cons b r ih =>
  have hp':=List.pairwise_cons.1 hp;rw [List.find?_cons];rcases List.mem_cons.1 ha with rfl | ha
  ·rw [Qbr]
  ·rw [seqF (hp'.1 a ha)];exact ih hp'.2 ha
theorem nm_pw'(h:OkL l c):l.Pairwise fun a b=>a.Name≠b.Name:=h.nd.imp fun {a b} k=>slt_ne k
theorem costOf_P(h:OkL l c){a:Nat}(ha:a<l.length):costOf l (nmA (srt l) a)=cP l a:=by
 have ha2:a<(srt l).length:=by rw [Qbv]; exact ha
 unfold costOf cP;rw [←nmA_at ha2,find_nm (nm_pw' h) ((Qbn l).mem_iff.1 (List.getElem_mem ha2)),gI_map _ ha2]
theorem cP_bd(h:OkL l c){a:Nat}(ha:a<l.length):0≤cP l a∧cP l a≤1000:=by
 have ha2:a<(srt l).length:=by rw [Qbv]; exact ha
 unfold cP;rw [gI_map _ ha2];exact h.cost _ ((Qbn l).mem_iff.1 (List.getElem_mem ha2))
theorem cost_sum(h:OkL l c):∀{u:List AU},(∀x∈u,∃a,a<l.length∧x.Asset=nmA (srt l) a)→costU l u=sN l.length (fun a=>cP l a*sA (nmA (srt l) a) u)
 | [],_=>(Qar fun _ _=>by show _*(0:Int)=0; omega).symm
 | x::r,hk=>by
  obtain ⟨a,ha,e⟩:=hk x List.mem_cons_self;rw [costU,cost_sum h fun y hy=>hk y (List.mem_cons_of_mem _ hy)];simp only [sA,Int.mul_add];rw [sN_add (fun a=>cP l a*(bif seq x.Asset (nmA (srt l) a) then x.Amount else 0))]
  congr 1
  rw [sN_one ha fun i hi hne=>by rw [e,seqF fun q=>hne (nmA_inj h ha hi q).symm,cond_false,Int.mul_zero],e,Qbr,cond_true,costOf_P h ha,Int.mul_comm]
theorem abel(cst w t:Nat→Int):∀(m:Nat),(∀a,a+1<m→cst a≤cst (a+1))→(∀a,a<m→0≤cst a)→(∀k,k≤m→sN k w≤sN k t)→∀C,(∀a,a<m→cst a≤C)→C*(sN m w-sN m t)≤sN m (fun a=>cst a*w a)-sN m (fun a=>cst a*t a)
 | 0,_,_,_,C,_=>by simp [sN]
 | m+1,hc,h0,hle,C,hC=>by
  have hCm:=hC m (by omega);have hlem:=hle (m+1) (Nat.le_refl _);have ih:=abel cst w t m (fun a ha=>hc a (by omega)) (fun a ha=>h0 a (by omega)) (fun k hk=>hle k (by omega)) (cst m) (fun a ha=>by
   have mono:∀d a,a+d=m→cst a≤cst m:=fun d=>by
    induction d with
    | zero =>
     intro a e;have:a=m:=by omega
     subst this; exact Int.le_refl _
    | succ d ih =>
     intro a e;have:=hc a (by omega);have:=ih (a+1) (by omega);omega
   exact mono (m-a) a (by omega))
  rw [sN,sN,sN,sN] at *;have e3:C*(sN m w+w m-(sN m t+t m))≤cst m*(sN m w+w m-(sN m t+t m)):=Int.mul_le_mul_of_nonpos_right hCm (by omega);have e1:cst m*(sN m w+w m-(sN m t+t m))=cst m*(sN m w-sN m t)+(cst m*w m-cst m*t m):=by
   rw [←Int.mul_sub,←Int.mul_add]
   congr 1; omega
  omega
theorem cP_mono(h:OkL l c):∀a,a+1<l.length→cP l a≤cP l (a+1):=fun a ha=>by
 have ha1:a<(srt l).length:=by rw [Qbv]; omega
 have ha2:a+1<(srt l).length:=by rw [Qbv]; omega
 unfold cP;rw [gI_map _ ha1,gI_map _ ha2];exact List.pairwise_iff_getElem.1 (srt_cost l) a (a+1) ha1 ha2 (by omega)
theorem covF_as(h:OkL l c){u:List AU}(hc:CovF l c u):∀x∈u,∃a,a<l.length∧x.Asset=nmA (srt l) a:=fun x hx=>by
 obtain ⟨a,_,ha,_,e,_⟩:=know_idx h (hc.kn x hx);exact ⟨a,ha,e⟩
theorem least{F:Nat→Int}{G:List Gv}{u:List AU}(h:OkL l c)(hR:Rch l.length c.length (sP l) (dC c) (mP l c) F)(hG:Cov l c F G)(hc:CovF l c u):costU l (Qbs l c G)≤costU l u:=by
 have hs:=sP_bd h;have hch:=covF (ch_cover h hG hR);have hF0:F 0=0:=hR.zero fun j hj=>by have:=dC_bd h j hj; omega
 rw [cost_sum h (covF_as h hch),cost_sum h (covF_as h hc)];have e1:sN l.length (fun a=>cP l a*sA (nmA (srt l) a) (Qbs l c G))=sN l.length (fun a=>cP l a*(F (a+1)-F a)):=Qz fun a ha=>by
  rw [sA_perm ch_perm,sA_use h ha fun g hg=>(hG.gm g hg).1,hG.ga a ha]
 have ht:∀k,sN k (fun a=>F (a+1)-F a)=F k:=fun k=>by rw [sN_tel,hF0]; omega
 have hw:sN l.length (fun a=>sA (nmA (srt l) a) u)=F l.length:=by
  have a1:=tot_sA h (covF_as h hc);have a2:=tot_need h hc;have a3:=pre_le h hR hc (Nat.le_refl _);have a4:=hR.le (Nat.le_refl _);omega
 have:=abel (cP l) (fun a=>sA (nmA (srt l) a) u) (fun a=>F (a+1)-F a) l.length (cP_mono h) (fun a ha=>(cP_bd h ha).1) (fun k hk=>by rw [ht]; exact pre_le h hR hc hk) 1000 (fun a ha=>(cP_bd h ha).2);rw [hw,ht,Int.sub_self,Int.mul_zero] at this;rw [e1];omega

end
end Go.Proofs.Ytinabbgjignkbaa
namespace Go.Proofs.Ytinabbgjignkbaa
set_option linter.unusedVariables false
set_option linter.unusedSimpArgs false
open Go.RowKit Flo
def sAm(p:AA→Bool):List AA→Int
 | []=>0
 | x::r=>(bif p x then x.Amount else 0)+sAm p r
theorem sAm_app(p:AA→Bool)(a b:List AA):sAm p (a++b)=sAm p a+sAm p b:=by
 induction a with
 | nil=>simp [sAm]
 | cons x r ih=>rw [List.cons_append,sAm,sAm,ih]; omega
theorem sAm_perm(p:AA→Bool){a b:List AA}(h:a.Perm b):sAm p a=sAm p b:=by
 induction h with
 | nil=>rfl
 | cons x _ ih=>rw [sAm,sAm,ih]
 | swap x y l=>simp only [sAm]; omega
 | trans _ _ i1 i2=>exact i1.trans i2
theorem sAm_filter(p q:AA→Bool):∀l:List AA,sAm p (l.filter q)=sAm (fun x=>p x&&q x) l
 | []=>rfl
 | x::r=>by
  rw [List.filter_cons,sAm];cases hq:q x with
  | true=>rw [if_pos rfl,sAm,sAm_filter p q r,Bool.and_true]
  | false=>rw [if_neg (by simp),sAm_filter p q r,Bool.and_false]; simp
theorem sAm_congr{p q:AA→Bool} : ∀{l:List AA},(∀x∈l,p x=q x)→sAm p l=sAm q l
 | [],_=>rfl
 | x::r,h=>by rw [sAm,sAm,h x List.mem_cons_self,sAm_congr fun y hy=>h y (List.mem_cons_of_mem _ hy)]
theorem sAm_or{p q r:AA→Bool} : ∀{l:List AA},(∀x∈l,p x=(q x||r x)∧(q x&&r x)=false)→sAm p l=sAm q l+sAm r l
 | [],_=>rfl
 | x::s,h=>by
  have hx:=h x List.mem_cons_self;rw [sAm,sAm,sAm,sAm_or fun y hy=>h y (List.mem_cons_of_mem _ hy),hx.1];have h2:=hx.2
  revert h2
  cases q x<;>cases r x<;>intro h2<;>simp at h2 ⊢<;>omega
theorem sAm_zero{p:AA→Bool} : ∀{l:List AA},(∀x∈l,p x=false)→sAm p l=0
 | [],_=>rfl
 | x::r,h=>by rw [sAm,h x List.mem_cons_self,sAm_zero fun y hy=>h y (List.mem_cons_of_mem _ hy)]; rfl
theorem sAm_nn{p:AA→Bool} : ∀{l:List AA},(∀x∈l,0≤x.Amount)→0≤sAm p l
 | [],_=>Int.le_refl _
 | x::r,h=>by
  have h1:=sAm_nn (p:=p) (l:=r) fun y hy=>h y (List.mem_cons_of_mem _ hy);have h2:=h x List.mem_cons_self;rw [sAm];cases p x<;>simp only [cond_true,cond_false]<;>omega
theorem sAm_bd{p:AA→Bool} : ∀{l:List AA},(∀x∈l,0≤x.Amount∧x.Amount≤68719476736)→sAm p l≤68719476736*l.length
 | [],_=>by simp [sAm]
 | x::r,h=>by
  have h1:=sAm_bd (p:=p) (l:=r) fun y hy=>h y (List.mem_cons_of_mem _ hy);have h2:=h x List.mem_cons_self;rw [sAm,List.length_cons,Int.natCast_add,Int.mul_add];simp only [Int.natCast_one,Int.mul_one];cases p x<;>simp only [cond_true,cond_false]<;>omega

theorem eqCst{x y:AA} : eqv ltC x y=true↔x.Cost=y.Cost:=by
 rw [cC_cmp.eqv];unfold cC;exact cmpI_zero
theorem uniq_split{α:Type}{x:α} : ∀{a b c d:List α},a++x::b=c++x::d→x∉a→x∉c→a=c
 | [],_,[],_,_,_,_=>rfl
 | [],b,y::c,d,h,_,hc=>by
  have:=(List.cons.inj h).1;exact absurd (this ▸ List.mem_cons_self) hc
 | y::a,b,[],d,h,ha,_=>by
  have:=(List.cons.inj h).1;exact absurd (this ▸ List.mem_cons_self) ha
 | y::a,b,z::c,d,h,ha,hc=>by
  obtain ⟨e1,e2⟩:=List.cons.inj h;rw [e1,uniq_split e2 (fun k=>ha (List.mem_cons_of_mem _ k)) fun k=>hc (List.mem_cons_of_mem _ k)]
theorem stable_sum{l l1 l2 P1 P2:List AA}{x:AA}(p:AA→Bool)(hn:l.Pairwise fun a b=>a.Name≠b.Name)(hl:l=l1++x::l2)(hP:srt l=P1++x::P2) :
  sAm p P1=sAm (fun y=>p y&&decide (y.Cost<x.Cost)) l+sAm (fun y=>p y&&decide (y.Cost=x.Cost)) l1:=by
 have hperm:=Qbn l;have hpP:(srt l).Pairwise fun a b=>a.Name≠b.Name:=(hperm.pairwise_iff fun {a b} k e=>k e.symm).2 hn;have hc:=srt_cost l;rw [hP] at hc hpP;have hc':=List.pairwise_append.1 hc;have hc2:=List.pairwise_cons.1 hc'.2.1;have hn':=List.pairwise_append.1 (hl ▸ hn);have hpP':=List.pairwise_append.1 hpP;have h1:∀y∈P1,y.Cost≤x.Cost:=fun y hy=>hc'.2.2 y hy x List.mem_cons_self;have h2:∀y∈P2,x.Cost≤y.Cost:=hc2.1;have hx1:x∉l1:=fun k=>hn'.2.2 x k x List.mem_cons_self rfl;have hx2:x∉P1:=fun k=>hpP'.2.2 x k x List.mem_cons_self rfl
 -- those of the same cost come in the same order
 have hcl:=(sortS_cl swo_C l).2 x;have hsrt:sortS ltC l=srt l:=rfl;rw [hsrt,hP] at hcl;have hf:P1.filter (eqv ltC x)=l1.filter (eqv ltC x):=by
  have hexx:eqv ltC x x=true:=eqCst.2 rfl;rw [List.filter_append,List.filter_cons,if_pos hexx] at hcl;have hlf:l.filter (eqv ltC x)=l1.filter (eqv ltC x)++x::l2.filter (eqv ltC x):=by
   rw [hl,List.filter_append,List.filter_cons,if_pos hexx]
  rw [hlf] at hcl;exact uniq_split hcl (fun k=>hx2 (List.mem_filter.1 k).1) fun k=>hx1 (List.mem_filter.1 k).1
 have e1:sAm (fun y=>p y&&decide (y.Cost=x.Cost)) P1=sAm (fun y=>p y&&decide (y.Cost=x.Cost)) l1:=by
  have conv:∀l:List AA,sAm (fun y=>p y&&decide (y.Cost=x.Cost)) l=sAm p (l.filter (eqv ltC x)):=fun l=>by
   rw [sAm_filter];refine sAm_congr fun y _=>?_
   congr 1
   cases he:eqv ltC x y with
   | true=>exact decide_eq_true (eqCst.1 he).symm
   | false=>exact decide_eq_false fun k=>by rw [eqCst.2 k.symm] at he; cases he
  rw [conv,conv,hf]
 have e2:sAm (fun y=>p y&&decide (y.Cost<x.Cost)) l=sAm (fun y=>p y&&decide (y.Cost<x.Cost)) P1:=by
  rw [←sAm_perm _ hperm,hP,sAm_app,sAm,decide_eq_false (by omega:¬x.Cost<x.Cost),Bool.and_false,sAm_zero (l:=P2) fun y hy=>by
   have:=h2 y hy;rw [decide_eq_false (by omega),Bool.and_false]]
  simp
 rw [e2,←e1];refine sAm_or fun y hy=>?_;have:=h1 y hy
 by_cases e:y.Cost=x.Cost
 ·rw [decide_eq_true e,decide_eq_false (by omega)]; simp
 ·rw [decide_eq_false e,decide_eq_true (by omega)]; simp
section
variable {l:List AA} {call:AC}
def mayX(call:AC)(x:AA):Bool:=memN x.For call.Name
theorem tch1{may:Nat→Nat→Bool}{T:Nat→Bool}{i:Nat} : tch 1 may T i=(T 0&&may i 0):=by
 cases h:tch 1 may T i with
 | true =>
  obtain ⟨j,hj,h1,h2⟩:=Qag.1 h;have:j=0:=by omega
  subst this;rw [h1,h2]; rfl
 | false =>
  cases h1:T 0&&may i 0 with
  | false=>rfl
  | true =>
   rw [Bool.and_eq_true] at h1;rw [Qag.2 ⟨0,by omega,h1.1,h1.2⟩] at h; cases h
theorem min_one{k:Nat}{s d:Nat→Int}{may:Nat→Nat→Bool}{v:Int}(h:IsMin k 1 s d may v):v=mnI (sN k fun i=>bif may i 0 then s i else 0) (d 0):=by
 have hc:∀T:Nat→Bool,cut k 1 s d may T=bif T 0 then (sN k fun i=>bif may i 0 then s i else 0) else d 0:=fun T=>by
  unfold cut;have e1:sN 1 (fun j=>bif T j then 0 else d j)=bif T 0 then 0 else d 0:=by simp [sN]
  rw [e1];cases hT:T 0 with
  | true =>
   simp only [cond_true,Int.zero_add];exact Qz fun i _=>by rw [tch1,hT,Bool.true_and]
  | false =>
   simp only [cond_false];rw [Qar fun i _=>by rw [tch1,hT]; rfl];omega
 obtain ⟨⟨T,hT⟩,h2⟩:=h;have k1:=h2 (fun _=>true);have k2:=h2 (fun _=>false);rw [hc] at k1 k2 hT;simp only [cond_true,cond_false] at k1 k2;obtain ⟨m1,m2,m3⟩:=mnI_le (sN k fun i=>bif may i 0 then s i else 0) (d 0);cases hT0:T 0<;>rw [hT0] at hT<;>simp only [cond_true,cond_false] at hT<;>omega
theorem pre_sum{k:Nat}(hk:k≤l.length):sN k (fun i=>bif mP l [call] i 0 then sP l i else 0)=sAm (mayX call) ((srt l).take k):=by
 induction k with
 | zero=>rfl
 | succ k ih =>
  have hk':k<(srt l).length:=by rw [Qbv]; omega
  rw [sN,ih (by omega),List.take_succ_eq_append_getElem hk',sAm_app];have e1:mP l [call] k 0=mayX call (srt l)[k]:=by
   unfold mP;rw [List.getElem?_eq_getElem hk']; rfl
  have e2:sP l k=(srt l)[k].Amount:=by unfold sP; rw [gI_map _ hk']
  rw [e1,e2];simp [sAm]
end
end Go.Proofs.Ytinabbgjignkbaa
namespace Go.Proofs.Ytinabbgjignkbaa
set_option linter.unusedVariables false
set_option linter.unusedSimpArgs false
open Go.RowKit Flo
theorem mxI_ge(a b:Int):a≤mxI a b∧b≤mxI a b∧(mxI a b=a∨mxI a b=b):=by
 unfold mxI
 by_cases h:a<b
 ·rw [decide_eq_true h]; simp; omega
 ·rw [decide_eq_false h]; simp; omega
section
variable {l:List AA} {call:AC}
theorem f8n3_at(b2:Bool)(x21:List AU×Int)(x25:Int×Int){i:Nat}{x:AA}(hx:at? l (i:Int)=some x)(hF:x.For.length≤1000):∀(r:List ByteArray)(f k:Nat)(h:Int)(m:List AA),x.For.drop k=r→r.length<f→r.Pairwise (fun a b=>a≠b)→m.length≤1000 →
  f8n3 f l b2 x21 x25 (i:Int) call (wr64 h) (k:Int) m=some (.exit2 (wr64 (h+(bif memN r call.Name then x.Amount else 0))) (m++(bif memN r call.Name then [x] else [])))
 | _,0,_,_,_,_,h,_,_=>absurd h (Nat.not_lt_zero _)
 | [],f+1,k,h,m,hd,_,_,_=>by
  have:=Qbj hd;rw [f8n3,hx,bd_,decide_eq_false (by omega),cond_false];have e:memN [] call.Name=false:=rfl;rw [e,cond_false,cond_false,Int.add_zero,List.append_nil]
 | s::r,f+1,k,h,m,hd,hf,hp,hm=>by
  obtain ⟨h1,h2,h3⟩:=dropAt hd;have hp':=List.pairwise_cons.1 hp;have e:memN (s::r) call.Name=(seq call.Name s||memN r call.Name):=rfl;rw [f8n3,hx,bd_,decide_eq_true (by omega),cond_true,h1,bd_,e,seq_sy call.Name s,wrSucc (by omega)];cases hs:seq s call.Name with
  | true =>
   have hno:memN r call.Name=false:=by
    cases hr:memN r call.Name with
    | false=>rfl
    | true =>
     unfold memN at hr;obtain ⟨y,y1,y2⟩:=List.any_eq_true.1 hr;exact absurd ((seq_iff.1 hs).trans (seq_iff.1 y2)) (hp'.1 y y1)
   rw [cond_true,Qw (Qao (by omega) (by omega)),wrL,Bool.true_or,cond_true,cond_true]
   by_cases hm2:(m++[x]).length≤1000
   ·rw [f8n3_at b2 x21 x25 hx hF r f (k+1) _ _ h3 (by simpa using hf) hp'.2 hm2,hno,cond_false,cond_false,Int.add_zero,List.append_nil]
   ·have hrest:∀(r:List ByteArray)(f k:Nat),x.For.drop k=r→r.length<f→memN r call.Name=false→∀(h:Int)(m:List AA),f8n3 f l b2 x21 x25 (i:Int) call h (k:Int) m=some (.exit2 h m):=fun r=>by
     induction r with
     | nil =>
      intro f k hd hf _ h m;cases f with
      | zero=>exact absurd hf (Nat.not_lt_zero _)
      | succ f =>
       have:=Qbj hd;rw [f8n3,hx,bd_,decide_eq_false (by omega),cond_false]
     | cons s r ih =>
      intro f k hd hf hno h m;cases f with
      | zero=>exact absurd hf (Nat.not_lt_zero _)
      | succ f =>
       obtain ⟨h1,h2,h3⟩:=dropAt hd;have e:memN (s::r) call.Name=(seq call.Name s||memN r call.Name):=rfl;rw [e,Bool.or_eq_false_iff] at hno;rw [f8n3,hx,bd_,decide_eq_true (by omega),cond_true,h1,bd_,seq_sy s call.Name,hno.1,cond_false,wrSucc (by omega)];exact ih f (k+1) h3 (by simpa using hf) hno.2 h m
    exact hrest r f (k+1) h3 (by simpa using hf) hno _ _
  | false =>
   rw [cond_false,f8n3_at b2 x21 x25 hx hF r f (k+1) _ _ h3 (by simpa using hf) hp'.2 hm,Bool.false_or]
theorem f8n4_at(b2:Bool)(x21:List AU×Int)(x25:Int×Int)(hl:l.length≤1000)(hF:∀x∈l,x.For.length≤1000)(hnd:∀x∈l,x.For.Pairwise fun a b=>a≠b):∀(r:List AA)(f i:Nat)(h:Int)(m:List AA),l.drop i=r→r.length<f→m.length≤i →
  f8n4 f l b2 x21 x25 call (wr64 h) (i:Int) m=some (.exit0 (wr64 (h+sAm (mayX call) r)) (m++r.filter (mayX call)))
 | _,0,_,_,_,_,h,_=>absurd h (Nat.not_lt_zero _)
 | [],f+1,i,h,m,hd,_,_=>by
  have:=Qbj hd;rw [f8n4,decide_eq_false (by omega),cond_false];simp [sAm]
 | x::r,f+1,i,h,m,hd,hf,hm=>by
  obtain ⟨h1,h2,h3⟩:=dropAt hd;have hxm:x∈l:=List.mem_of_mem_drop (by rw [hd]; exact List.mem_cons_self);have e2:f8n2 l b2 x21 x25 (wr64 h) (i:Int) call m=some (.norm (wr64 (h+(bif mayX call x then x.Amount else 0))) (m++(bif mayX call x then [x] else []))):=by
   unfold f8n2;have:=f8n3_at (call:=call) b2 x21 x25 h1 (hF x hxm) x.For FUEL 0 h m List.drop_zero (Qad (by have:=hF x hxm; omega)) (hnd x hxm) (by omega);rw [show ((0:Nat):Int)=0 from rfl] at this;rw [this]; rfl
  rw [f8n4,decide_eq_true (by omega),cond_true,e2];simp only [Option.bind_some];rw [wrSucc (by omega),f8n4_at b2 x21 x25 hl hF hnd r f (i+1) _ _ h3 (by simpa using hf) (by cases mayX call x<;>simp<;>omega),sAm,List.filter_cons];cases mayX call x with
  | true=>simp [Int.add_assoc]
  | false=>simp

theorem f8n10L_eq'(b1:Bool)(x21:List AU×Int){may:List AA}{i:Nat}{x:AA}(hx:at? may (i:Int)=some x):∀(r:List AA)(v:Int)(k:Nat),f8n10L b1 x21 (i:Int) call may r (wr64 v) (k:Int)=some (.exit6 (wr64 (v+(sAm (fun y=>decide (y.Cost<x.Cost)) r+sAm (fun y=>decide (y.Cost=x.Cost)) (r.take (i-k))))))
 | [],v,k=>by simp [f8n10L,sAm]
 | y::r,v,k=>by
  have ih:=fun v'=>f8n10L_eq' b1 x21 hx r v' (k+1);have e:((k:Int)+1)=((k+1:Nat):Int):=by omega
  rw [f8n10L,hx,bd_,e,sAm]
  by_cases h1:y.Cost<x.Cost
  ·rw [decide_eq_true h1,cond_true,cond_true,wrL,ih]
   by_cases hk:k<i
   ·rw [show i-k=(i-(k+1))+1 by omega,List.take_succ_cons,sAm,decide_eq_false (by omega:¬y.Cost=x.Cost),cond_false]
    congr 3; omega
   ·rw [show i-k=0 by omega,show i-(k+1)=0 by omega,List.take_zero,List.take_zero]
    congr 3; omega
  ·rw [decide_eq_false h1,cond_false,cond_false]
   by_cases h2:y.Cost=x.Cost
   ·rw [decide_eq_true h2,cond_true]
    by_cases hk:k<i
    ·rw [decide_eq_true (by omega),cond_true,wrL,ih,show i-k=(i-(k+1))+1 by omega,List.take_succ_cons,sAm,decide_eq_true h2,cond_true]
     congr 3; omega
    ·rw [decide_eq_false (by omega),cond_false,ih,show i-k=0 by omega,show i-(k+1)=0 by omega,List.take_zero,List.take_zero]
     congr 3; omega
   ·rw [decide_eq_false h2,cond_false,ih]
    by_cases hk:k<i
    ·rw [show i-k=(i-(k+1))+1 by omega,List.take_succ_cons,sAm,decide_eq_false h2,cond_false]
     congr 3; omega
    ·rw [show i-k=0 by omega,show i-(k+1)=0 by omega,List.take_zero,List.take_zero]
     congr 3; omega
theorem f8n12L_eq'(b1:Bool)(x21:List AU×Int)(g4:Int){may:List AA}{i:Nat}{x:AA}(hx:at? may (i:Int)=some x):∀(r:List AU)(v k:Int),f8n12L b1 x21 (i:Int) g4 call may r (wr64 v) k=some (.exit8 (wr64 (v+sA x.Name r)))
 | [],v,k=>by simp [f8n12L,sA]
 | y::r,v,k=>by
  rw [f8n12L,hx,bd_,sA];cases seq y.Asset x.Name with
  | true=>rw [cond_true,wrL,f8n12L_eq' b1 x21 g4 hx r,cond_true,Int.add_assoc]
  | false=>rw [cond_false,f8n12L_eq' b1 x21 g4 hx r,cond_false,Int.zero_add]
end
theorem lawCheap(l:List Qa)(call:Qb)(hm:l.length≤maxLen∧∀x∈l,Qa.ok x)(_:Qb.ok call):f8 l call=some true:=by
 unfold f8 f8n0;have e9:f9=some true:=rfl;obtain ⟨b,hb,hb2⟩:=f10_eq l [call] [] hm.1;rw [e9,bd_,hb,bd_];cases b with
 | true=>rfl
 | false =>
  obtain ⟨hl,hc,_,hF⟩:=hb2 rfl;have hF':∀x∈l,x.For.length≤1000:=fun x hx=>by have:=hF x hx; omega
  rw [cond_false,cond_true,f12_eq (by omega) hF',bd_];cases hck:checkB l [call] with
  | false=>rw [cover_bad hck,bd_,reachS_bad hck]; rfl
  | true =>
   have h:=checkB_ok hck;have hnp:=nm_pw' h;obtain ⟨v,rv,mv⟩:=reachS_eq hck;obtain ⟨F,hR,hcov⟩:=cover_eq hck;have hd0:dC [call] 0=call.Need:=rfl;have hsum1:sN [call].length (dC [call])=call.Need:=by
    show sN 1 (dC [call])=_;rw [sN,sN,hd0]; omega
   have hF1:∀k,k≤l.length→F k=mnI (sAm (mayX call) ((srt l).take k)) call.Need:=fun k hk=>by
    have:=min_one (hR k hk);rw [pre_sum hk,hd0] at this;exact this
   have hall:sAm (mayX call) ((srt l).take l.length)=sAm (mayX call) l:=by
    rw [List.take_of_length_le (by rw [Qbv]; exact Nat.le_refl _),sAm_perm _ (Qbn l)]
   have hv:v=mnI (sAm (mayX call) l) call.Need:=by
    have:=min_one mv;rw [pre_sum (Nat.le_refl _),hd0,hall] at this;exact this
   have hFm:F l.length=mnI (sAm (mayX call) l) call.Need:=by rw [hF1 _ (Nat.le_refl _),hall]
   have hneed:=h.need call List.mem_cons_self;have hlen:=h.len;have hab:=sAm_bd (p:=mayX call) h.am;have ha0:=sAm_nn (p:=mayX call) (l:=l) fun x hx=>(h.am x hx).1;have hx11:∃u e,f11 l [call]=some (u,e)∧((e=0∧call.Need≤sAm (mayX call) l∧∃G,Cov l [call] F G∧u=Qbs l [call] G)∨(e=50∧¬call.Need≤sAm (mayX call) l)):=by
    obtain ⟨m1,m2,m3⟩:=mnI_le (sAm (mayX call) l) call.Need;rcases hcov with ⟨hlt,h11⟩|⟨heq,G,hG,h11⟩
    ·rw [hsum1,hFm] at hlt;exact ⟨_,_,h11,.inr ⟨rfl,by omega⟩⟩
    ·rw [hsum1,hFm] at heq;exact ⟨_,_,h11,.inl ⟨rfl,by omega,G,hG,rfl⟩⟩
   obtain ⟨u,e,h11,hcase⟩:=hx11;rw [h11,bd_,rv,bd_];dsimp only;rw [decide_eq_true rfl,cond_true];have e1:f8n1 l true (u,e) (v,0) call=some (.norm (sAm (mayX call) l) (l.filter (mayX call))):=by
    unfold f8n1;have:=f8n4_at (call:=call) true (u,e) (v,0) (by omega) hF' (fun x hx=>(h.fnd x hx).imp fun {a b} k=>slt_ne k) l FUEL 0 0 [] List.drop_zero (Qad (by omega)) (by simp);rw [show ((0:Nat):Int)=0 from rfl,Int.zero_add,wrIn (n:=sAm (mayX call) l) (by omega) (by omega),List.nil_append] at this;have this':f8n4 FUEL l true (u,e) (v,0) call 0 0 []=_:=this;rw [this']; rfl
   rw [e1];simp only [Option.bind_some];have e5:f8n5 true (u,e) (v,0) (sAm (mayX call) l) call (l.filter (mayX call))=some .norm:=by
    unfold f8n5 f8n6;dsimp only;rw [decide_eq_true hv,cond_true];rcases hcase with ⟨rfl,hle,_⟩|⟨rfl,hle⟩
    ·rw [decide_eq_true rfl,decide_eq_true hle]; rfl
    ·rw [decide_eq_false hle]; rfl
   rw [e5];simp only [Option.bind_some];rcases hcase with ⟨rfl,hle,G,hG,rfl⟩|⟨rfl,hle⟩
   ·rw [decide_eq_true rfl,cond_true];have hmf:∀x∈l.filter (mayX call),x∈l:=fun x hx=>(List.mem_filter.1 hx).1;have hmlen:(l.filter (mayX call)).length≤1000:=by
     have:=List.length_filter_le (mayX call) l;omega
    have hcl:=(covF (ch_cover h hG hR)).len;have ham:=(covF (ch_cover h hG hR)).am;have loop:∀(w f i:Nat),i+w=(l.filter (mayX call)).length→w<f→f8n13 f true (Qbs l [call] G,0) call (l.filter (mayX call)) (i:Int)=some .exit4:=fun w=>by
     induction w with
     | zero =>
      intro f i hi hf;cases f with
      | zero=>exact absurd hf (Nat.not_lt_zero _)
      | succ f=>rw [f8n13,decide_eq_false (by omega),cond_false]
     | succ w ih =>
      intro f i hi hf;cases f with
      | zero=>exact absurd hf (Nat.not_lt_zero _)
      | succ f =>
       have him:i<(l.filter (mayX call)).length:=by omega
       generalize hxe:(l.filter (mayX call))[i]=x;have hat:at? (l.filter (mayX call)) (i:Int)=some x:=by rw [at_in him,hxe]
       have hxl:x∈l:=hmf x (hxe ▸ List.getElem_mem him);have hxb:=h.am x hxl
       -- the list behind and ahead of it
       have hsp:l.filter (mayX call)=(l.filter (mayX call)).take i++x::(l.filter (mayX call)).drop (i+1):=by
        rw [←hxe,←List.drop_eq_getElem_cons him,List.take_append_drop]
       obtain ⟨l1,l3,el,ef1,ef2⟩:=List.filter_eq_append_iff.1 hsp;obtain ⟨l4,l5,el2,hno,hmx,_⟩:=List.filter_eq_cons_iff.1 ef2;have hl':l=(l1++l4)++x::l5:=by rw [el,el2,List.append_assoc]
       have hf4:(l1++l4).filter (mayX call)=(l.filter (mayX call)).take i:=by
        rw [List.filter_append,ef1,List.filter_eq_nil_iff.2 hno,List.append_nil]
       obtain ⟨a,ha,hax⟩:=List.getElem_of_mem ((Qbn l).mem_iff.2 hxl);have ha':a<l.length:=by rw [←Qbv l]; exact ha
       have hP:srt l=(srt l).take a++x::(srt l).drop (a+1):=by
        rw [←hax,←List.drop_eq_getElem_cons ha,List.take_append_drop]
       have hst:=stable_sum (mayX call) hnp hl' hP;have c1:sAm (fun y=>mayX call y&&decide (y.Cost<x.Cost)) l=sAm (fun y=>decide (y.Cost<x.Cost)) (l.filter (mayX call)):=by
        rw [sAm_filter];exact sAm_congr fun y _=>Bool.and_comm _ _
       have c2:sAm (fun y=>mayX call y&&decide (y.Cost=x.Cost)) (l1++l4)=sAm (fun y=>decide (y.Cost=x.Cost)) ((l.filter (mayX call)).take i):=by
        rw [←hf4,sAm_filter];exact sAm_congr fun y _=>Bool.and_comm _ _
       rw [c1,c2] at hst;have hPb:0≤sAm (mayX call) ((srt l).take a)∧sAm (mayX call) ((srt l).take a)≤687194767360:=by
        have hb2:∀y∈(srt l).take a,0≤y.Amount∧y.Amount≤68719476736:=fun y hy=>h.am y ((Qbn l).mem_iff.1 (List.mem_of_mem_take hy));have q1:=sAm_nn (p:=mayX call) fun y hy=>(hb2 y hy).1;have q2:=sAm_bd (p:=mayX call) hb2;rw [List.length_take] at q2;omega
       have e9':f8n9 true (Qbs l [call] G,0) (i:Int) call (l.filter (mayX call))=some (.norm (sAm (mayX call) ((srt l).take a))):=by
        unfold f8n9;have:=f8n10L_eq' (call:=call) true (Qbs l [call] G,0) hat (l.filter (mayX call)) 0 0;rw [Nat.sub_zero,Int.zero_add,←hst,wrIn (n:=sAm (mayX call) ((srt l).take a)) (by omega) (by omega)] at this;have this':f8n10L true (Qbs l [call] G,0) (i:Int) call (l.filter (mayX call)) (l.filter (mayX call)) 0 0=_:=this;rw [f8n10_run _ _ _ _ _ _ (maxSmall (by omega)),this']; rfl
       have hown:sA x.Name (Qbs l [call] G)=F (a+1)-F a:=by
        have:x.Name=nmA (srt l) a:=by rw [←nmA_at ha,hax]
        rw [this,sA_perm ch_perm,sA_use h ha' fun g hg=>(hG.gm g hg).1,hG.ga a ha']
       have hob:=sA_bd (nm:=x.Name) (u:=Qbs l [call] G) fun y hy=>by have:=ham y hy; omega
       have e11:f8n11 true (Qbs l [call] G,0) (i:Int) (sAm (mayX call) ((srt l).take a)) call (l.filter (mayX call))=some (.norm (F (a+1)-F a)):=by
        unfold f8n11;have:=f8n12L_eq' (call:=call) true (Qbs l [call] G,0) (sAm (mayX call) ((srt l).take a)) hat (Qbs l [call] G) 0 0;rw [Int.zero_add,wrIn (n:=sA x.Name (Qbs l [call] G)) (by omega) (by omega),hown] at this;have this':f8n12L true (Qbs l [call] G,0) (i:Int) (sAm (mayX call) ((srt l).take a)) call (l.filter (mayX call)) (Qbs l [call] G,(0:Int)).1 0 0=_:=this;rw [f8n12_run _ _ _ _ _ _ _ (maxSmall (by show (Qbs l [call] G).length≤_; omega)),this']; rfl
       have hnext:sAm (mayX call) ((srt l).take (a+1))=sAm (mayX call) ((srt l).take a)+x.Amount:=by
        rw [List.take_succ_eq_append_getElem ha,sAm_app,hax];simp [sAm,hmx]
       have e8:f8n8 true (Qbs l [call] G,0) (i:Int) call (l.filter (mayX call))=some .norm:=by
        unfold f8n8;rw [e9'];simp only [Option.bind_some];rw [e11];simp only [Option.bind_some];rw [hat,bd_,wrIn (n:=call.Need-sAm (mayX call) ((srt l).take a)) (by omega) (by omega)];have:F (a+1)-F a=mxI 0 (mnI x.Amount (call.Need-sAm (mayX call) ((srt l).take a))):=by
         rw [hF1 (a+1) ha',hF1 a (by omega),hnext];have q1:=mnI_le (sAm (mayX call) ((srt l).take a)+x.Amount) call.Need;have q2:=mnI_le (sAm (mayX call) ((srt l).take a)) call.Need;have q3:=mnI_le x.Amount (call.Need-sAm (mayX call) ((srt l).take a));have q4:=mxI_ge 0 (mnI x.Amount (call.Need-sAm (mayX call) ((srt l).take a)));omega
        rw [decide_eq_true this]; rfl
       rw [f8n13,decide_eq_true (by omega),cond_true,e8];simp only [Option.bind_some];rw [wrSucc (by omega)];exact ih f (i+1) (by omega) (by omega)
    have e7:f8n7 true (Qbs l [call] G,0) call (l.filter (mayX call))=some .norm:=by
     unfold f8n7;have:=loop _ FUEL 0 (by omega) (Qad (n:=(l.filter (mayX call)).length) (by omega));rw [show ((0:Nat):Int)=0 from rfl] at this;rw [this]; rfl
    rw [e7]; rfl
   ·rfl
end Go.Proofs.Ytinabbgjignkbaa
