/- Several texts in one. No condition. -/
import Derived.Test.YtinabbgjignkbaaOa
namespace Go.Proofs.Ytinabbgjignkbaa
namespace Flo
set_option linter.unusedVariables false
set_option linter.unusedSimpArgs false
def sN:Nat→(Nat→Int)→Int
 | 0,_=>0
 | n+1,f=>sN n f+f n
theorem Qaa{f g:Nat→Int} : ∀{n:Nat},(∀i,i<n→f i=g i)→sN n f=sN n g
 | 0,_=>rfl
 | n+1,h=>by rw [sN,sN,Qaa fun i hi=>h i (by omega),h n (by omega)]
theorem sN_add(f g:Nat→Int):∀n:Nat,sN n (fun i=>f i+g i)=sN n f+sN n g
 | 0=>rfl
 | n+1=>by rw [sN,sN,sN,sN_add f g n]; omega
theorem sN_sub(f g:Nat→Int):∀n:Nat,sN n (fun i=>f i-g i)=sN n f-sN n g
 | 0=>rfl
 | n+1=>by rw [sN,sN,sN,sN_sub f g n]; omega
theorem sN_le{f g:Nat→Int} : ∀{n:Nat},(∀i,i<n→f i≤g i)→sN n f≤sN n g
 | 0,_=>Int.le_refl _
 | n+1,h=>by
  have h1:=sN_le (n:=n) fun i hi=>h i (by omega);have h2:=h n (by omega);rw [sN,sN]; omega
theorem Qbr{f:Nat→Int} : ∀{n:Nat},(∀i,i<n→f i=0)→sN n f=0
 | 0,_=>rfl
 | n+1,h=>by rw [sN,Qbr fun i hi=>h i (by omega),h n (by omega)]; rfl
theorem sN_nn{f:Nat→Int}{n:Nat}(h:∀i,i<n→0≤f i):0≤sN n f:=by
 have:=sN_le (f:=fun _=>0) (g:=f) (n:=n) h
 rwa [Qbr fun _ _=>rfl] at this
theorem sN_swap(f:Nat→Nat→Int)(m:Nat):∀n:Nat,sN n (fun j=>sN m (fun i=>f i j))=sN m (fun i=>sN n (fun j=>f i j))
 | 0=>(Qbr (f:=fun _=>0) fun _ _=>rfl).symm
 | n+1=>by
  rw [sN,sN_swap f m n,←sN_add];rfl
theorem sN_one{f:Nat→Int}{n k:Nat}(hk:k<n)(h:∀i,i<n→i≠k→f i=0):sN n f=f k:=by
 induction n with
 | zero=>omega
 | succ n ih =>
  rw [sN]
  by_cases e:k=n
  ·subst e;rw [Qbr fun i hi=>h i (by omega) (by omega)]; omega
  ·rw [ih (by omega) fun i hi hne=>h i (by omega) hne,h n (by omega) (by omega)]; omega

abbrev Set_:=Nat→Bool
def tch(n:Nat)(may:Nat→Nat→Bool)(T:Set_):Nat→Bool
 := fun i=>(List.range n).any fun j=>T j&&may i j
theorem Qah{n:Nat}{may:Nat→Nat→Bool}{T:Set_}{i:Nat} : tch n may T i=true↔∃j,j<n∧T j=true∧may i j=true:=by
 unfold tch;rw [List.any_eq_true]
 constructor
 ·rintro ⟨j,hj,h⟩
  rw [Bool.and_eq_true] at h;exact ⟨j,List.mem_range.1 hj,h.1,h.2⟩
 ·rintro ⟨j,hj,h1,h2⟩
  exact ⟨j,List.mem_range.2 hj,by rw [h1,h2]; rfl⟩
def cut(m n:Nat)(s d:Nat→Int)(may:Nat→Nat→Bool)(T:Set_):Int :=
 sN n (fun j=>bif T j then 0 else d j)+sN m (fun i=>bif tch n may T i then s i else 0)
def IsMin(m n:Nat)(s d:Nat→Int)(may:Nat→Nat→Bool)(v:Int):Prop:=(∃T,v=cut m n s d may T)∧∀T,v≤cut m n s d may T

structure Flw (m n:Nat) (s d:Nat→Int) (may:Nat→Nat→Bool) (x:Nat→Nat→Int):Prop where
 nn:∀i j,i<m→j<n→0≤x i j
 may:∀i j,i<m→j<n→x i j≠0→may i j=true
 row:∀i,i<m→sN n (x i)≤s i
 col:∀j,j<n→sN m (fun i=>x i j)≤d j
def tot(m n:Nat)(x:Nat→Nat→Int):Int:=sN m fun i=>sN n (x i)
section
variable {m n:Nat} {s d:Nat→Int} {may:Nat→Nat→Bool} {x:Nat→Nat→Int}
theorem row_split(T:Set_)(i:Nat):sN n (x i)=sN n (fun j=>bif T j then x i j else 0)+sN n (fun j=>bif T j then 0 else x i j):=by
 rw [←sN_add];refine Qaa fun j _=>?_;cases T j<;>simp
theorem tot_split(T:Set_):tot m n x=sN m (fun i=>sN n (fun j=>bif T j then x i j else 0))+sN n (fun j=>bif T j then 0 else sN m (fun i=>x i j)):=by
 unfold tot;have e:sN n (fun j=>bif T j then 0 else sN m (fun i=>x i j))=sN m (fun i=>sN n (fun j=>bif T j then 0 else x i j)):=by
  rw [←sN_swap];refine Qaa fun j _=>?_;cases T j with
  | true=>exact (Qbr fun _ _=>rfl).symm
  | false=>rfl
 rw [e,←sN_add];exact Qaa fun i _=>row_split T i
theorem Flw.in_set(h:Flw m n s d may x)(T:Set_){i:Nat}(hi:i<m):sN n (fun j=>bif T j then x i j else 0)≤bif tch n may T i then s i else 0:=by
 cases ht:tch n may T i with
 | true =>
  refine Int.le_trans (sN_le fun j hj=>?_) (h.row i hi);have:=h.nn i j hi hj;cases T j with
  | true=>exact Int.le_refl _
  | false=>exact this
 | false =>
  refine Int.le_of_eq (Qbr fun j hj=>?_);cases hT:T j with
  | false=>rfl
  | true =>
   refine Classical.byContradiction fun hne=>?_;have:=Qah.2 ⟨j,hj,hT,h.may i j hi hj hne⟩;rw [ht] at this; cases this
theorem Flw.le_cut(h:Flw m n s d may x)(T:Set_):tot m n x≤cut m n s d may T:=by
 rw [tot_split T];unfold cut;have h1:sN m (fun i=>sN n (fun j=>bif T j then x i j else 0))≤sN m (fun i=>bif tch n may T i then s i else 0):=sN_le fun i hi=>h.in_set T hi;have h2:sN n (fun j=>bif T j then 0 else sN m (fun i=>x i j))≤sN n (fun j=>bif T j then 0 else d j):=sN_le fun j hj=>by
  cases T j with
  | true=>exact Int.le_refl _
  | false=>exact h.col j hj
 omega
theorem Flw.stop(h:Flw m n s d may x)(R C:Set_)(h1:∀i,i<m→sN n (x i)<s i→R i=true)(h2:∀i j,i<m→j<n→R i=true→may i j=true→C j=true)
  (h3:∀j,j<n→C j=true→sN m (fun i=>x i j)=d j) (h4:∀k j,k<m→j<n→C j=true→0<x k j→R k=true) :
  tot m n x=cut m n s d may (fun j=>!C j):=by
 rw [tot_split (fun j=>!C j)];unfold cut;have e1:sN n (fun j=>bif !C j then 0 else sN m (fun i=>x i j))=sN n (fun j=>bif !C j then 0 else d j):=Qaa fun j hj=>by
  cases hC:C j with
  | true=>exact h3 j hj hC
  | false=>rfl
 have e2:sN m (fun i=>sN n (fun j=>bif !C j then x i j else 0))=sN m (fun i=>bif tch n may (fun j=>!C j) i then s i else 0):=Qaa fun i hi=>by
  have hle:=h.in_set (fun j=>!C j) hi;cases ht:tch n may (fun j=>!C j) i with
  | false =>
   rw [ht] at hle;have h0:0≤sN n (fun j=>bif !C j then x i j else 0):=sN_nn fun j hj=>by
    have:=h.nn i j hi hj;cases C j with
    | true=>exact Int.le_refl _
    | false=>exact this
   have:(bif false then s i else 0)=0:=rfl;omega
  | true =>
   obtain ⟨j,hj,hT,hm⟩:=Qah.1 ht;have hC:C j=false:=by simpa using hT
   have hR:R i=false:=by
    cases hR:R i with
    | false=>rfl
    | true=>rw [h2 i j hi hj hR hm] at hC; cases hC
   have hs:sN n (x i)=s i:=by
    have h0:=h.row i hi;refine Classical.byContradiction fun hne=>?_;rw [h1 i hi (by omega)] at hR; cases hR
   show _=s i;rw [←hs];refine Qaa fun k hk=>?_;cases hCk:C k with
   | false=>rfl
   | true =>
    show 0=x i k;have h0:=h.nn i k hi hk;refine Classical.byContradiction fun hne=>?_;rw [h4 i k hi hk hCk (by omega)] at hR; cases hR
 dsimp only at e1 e2 ⊢;omega
theorem Flw.min(h:Flw m n s d may x){T:Set_}(e:tot m n x=cut m n s d may T):IsMin m n s d may (tot m n x):=⟨⟨T,e⟩,h.le_cut⟩
end
def pre(s:Nat→Int)(k:Nat):Nat→Int:=fun i=>bif decide (i<k) then s i else 0
section
variable {m n:Nat} {s d:Nat→Int} {may:Nat→Nat→Bool}
def cutA(m n:Nat)(s d:Nat→Int)(may:Nat→Nat→Bool)(A T:Set_):Int :=
 sN n (fun j=>bif T j then 0 else d j)+sN m (fun i=>bif A i&&tch n may T i then s i else 0)
theorem cut_pre{k:Nat}(hk:k≤m)(T:Set_):cut k n s d may T=cutA m n s d may (fun i=>decide (i<k)) T:=by
 unfold cut cutA
 congr 1
 induction m with
 | zero =>
  have:k=0:=by omega
  subst this; rfl
 | succ m ih =>
  by_cases e:k=m+1
  ·subst e;refine Qaa fun i hi=>?_;dsimp only;rw [decide_eq_true hi]; rfl
  ·rw [sN,ih (by omega)];dsimp only;rw [decide_eq_false (by omega)]
   simp
theorem cross(A B:Set_)(k:Nat)(hk:k<m)(hs:∀i,i<m→0≤s i)(hBA:∀i,i<m→B i=true→A i=true)(hAk:A k=false)(T U:Set_) :
  cutA m n s d may (fun i=>A i||decide (i=k)) (fun j=>T j&&U j)+cutA m n s d may B (fun j=>T j||U j)≤cutA m n s d may A T+cutA m n s d may (fun i=>B i||decide (i=k)) U:=by
 unfold cutA;have e1:sN n (fun j=>bif T j&&U j then 0 else d j)+sN n (fun j=>bif T j||U j then 0 else d j)=sN n (fun j=>bif T j then 0 else d j)+sN n (fun j=>bif U j then 0 else d j):=by
  rw [←sN_add,←sN_add];refine Qaa fun j _=>?_;cases T j<;>cases U j<;>simp
 have e2:sN m (fun i=>bif (A i||decide (i=k))&&tch n may (fun j=>T j&&U j) i then s i else 0)+sN m (fun i=>bif B i&&tch n may (fun j=>T j||U j) i then s i else 0)
   ≤ sN m (fun i=>bif A i&&tch n may T i then s i else 0)+sN m (fun i=>bif (B i||decide (i=k))&&tch n may U i then s i else 0):=by
  rw [←sN_add,←sN_add];refine sN_le fun i hi=>?_;have h0:=hs i hi;have hand:tch n may (fun j=>T j&&U j) i=true→tch n may T i=true∧tch n may U i=true:=fun h=>by
   obtain ⟨j,hj,h1,h2⟩:=Qah.1 h;rw [Bool.and_eq_true] at h1;exact ⟨Qah.2 ⟨j,hj,h1.1,h2⟩,Qah.2 ⟨j,hj,h1.2,h2⟩⟩
  have hor:tch n may (fun j=>T j||U j) i=true→tch n may T i=true∨tch n may U i=true:=fun h=>by
   obtain ⟨j,hj,h1,h2⟩:=Qah.1 h;rw [Bool.or_eq_true] at h1;rcases h1 with h1 | h1
   ·exact .inl (Qah.2 ⟨j,hj,h1,h2⟩)
   ·exact .inr (Qah.2 ⟨j,hj,h1,h2⟩)
  have hb:=hBA i hi
  by_cases e:i=k
  ·subst e;have hB:B i=false:=by
    cases hB:B i with
    | false=>rfl
    | true=>rw [hb hB] at hAk; cases hAk
   rw [hAk,hB,decide_eq_true rfl]
   revert hand
   cases tch n may (fun j=>T j&&U j) i<;>cases tch n may T i<;>cases tch n may U i<;>intro hand<;>simp at hand ⊢<;>omega
  ·rw [decide_eq_false e]
   revert hand hor hb
   cases tch n may (fun j=>T j&&U j) i<;>cases tch n may (fun j=>T j||U j) i<;>cases tch n may T i<;>cases tch n may U i<;>cases A i<;>cases B i<;>intro hand hor hb<;>simp at hand hor hb ⊢<;>omega
 dsimp only at e1 e2 ⊢;omega
def Rch(m n:Nat)(s d:Nat→Int)(may:Nat→Nat→Bool)(f:Nat→Int):Prop:=∀k,k≤m→IsMin k n s d may (f k)
theorem greedy(hs:∀i,i<m→0≤s i){f:Nat→Int}(hf:Rch m n s d may f)(hd:∀j,j<n→0≤d j)(A T:Set_):∀k,k≤m→sN k (fun i=>bif A i then f (i+1)-f i else 0)≤cutA m n s d may (fun i=>A i&&decide (i<k)) T:=by
 intro k
 induction k generalizing T with
 | zero =>
  intro _;unfold cutA;have h1:0≤sN n (fun j=>bif T j then 0 else d j):=sN_nn fun j hj=>by
   have:=hd j hj;cases T j with
   | true=>exact Int.le_refl _
   | false=>exact this
  have h2:sN m (fun i=>bif (A i&&decide (i<0))&&tch n may T i then s i else 0)=0:=Qbr fun i _=>by
   rw [decide_eq_false (by omega:¬i<0),Bool.and_false,Bool.false_and]; rfl
  rw [sN]; dsimp only at h2 ⊢; omega
 | succ k ih =>
  intro hk;rw [sN];cases hA:A k with
  | false =>
   have e:cutA m n s d may (fun i=>A i&&decide (i<k+1)) T=cutA m n s d may (fun i=>A i&&decide (i<k)) T:=by
    unfold cutA
    congr 1
    refine Qaa fun i _=>?_;dsimp only
    by_cases h:i=k
    ·subst h; rw [hA]; rfl
    ·have:decide (i<k+1)=decide (i<k):=by rw [decide_eq_decide]; omega
     rw [this]
   have:=ih T (by omega);rw [e];show _+0≤_;omega
  | true =>
   show _+(f (k+1)-f k)≤_;obtain ⟨⟨T1,hT1⟩,_⟩:=hf k (by omega);have h2:=(hf (k+1) hk).2 (fun j=>T1 j&&T j);rw [cut_pre (m:=m) hk] at h2;rw [cut_pre (m:=m) (by omega:k≤m)] at hT1;have h3:=ih (fun j=>T1 j||T j) (by omega);have h4:=cross (d:=d) (n:=n) (may:=may) (fun i=>decide (i<k)) (fun i=>A i&&decide (i<k)) k (by omega) hs (fun i _ h=>by rw [Bool.and_eq_true] at h; exact h.2) (decide_eq_false (by omega)) T1 T;have e1:(fun i=>decide (i<k)||decide (i=k))=fun i=>decide (i<k+1):=by
    funext i
    rw [←Bool.decide_or,decide_eq_decide]; omega
   have e2:(fun i=>(A i&&decide (i<k))||decide (i=k))=fun i=>A i&&decide (i<k+1):=by
    funext i
    by_cases h:i=k
    ·subst h;rw [hA,decide_eq_true rfl,decide_eq_true (by omega:i<i+1)]; simp
    ·have:decide (i<k+1)=decide (i<k):=by rw [decide_eq_decide]; omega
     rw [decide_eq_false h,this,Bool.or_false]
   rw [e1,e2] at h4;omega
end
def sub(f:Nat→Int)(k:Nat)(z:Int):Nat→Int:=fun a=>f a-(bif decide (a=k) then z else 0)
def off(may:Nat→Nat→Bool)(i j:Nat):Nat→Nat→Bool:=fun a b=>may a b&&!(decide (a=i)&&decide (b=j))
structure HH (m n:Nat) (t d:Nat→Int) (may:Nat→Nat→Bool) (rest:Int):Prop where
 tn:∀i,i<m→0≤t i
 dn:∀j,j<n→0≤d j
 td:sN n d=rest
 tt:sN m t=rest
 ct:∀T,rest≤cut m n t d may T
theorem sN_sub1(q:Nat→Bool)(f:Nat→Int)(k:Nat)(z:Int):∀m:Nat,sN m (fun a=>bif q a then sub f k z a else 0)=sN m (fun a=>bif q a then f a else 0)-(bif decide (k<m)&&q k then z else 0)
 | 0=>by simp [sN]
 | m+1=>by
  rw [sN,sN,sN_sub1 q f k z m];unfold sub
  by_cases e:m=k
  ·subst e;rw [decide_eq_true rfl,decide_eq_false (by omega:¬m<m),decide_eq_true (by omega:m<m+1)];cases q m<;>simp<;>omega
  ·have:decide (k<m+1)=decide (k<m):=by rw [decide_eq_decide]; omega
   rw [decide_eq_false e,this];cases q m<;>simp<;>omega
theorem sN_subA(f:Nat→Int)(k:Nat)(z:Int)(m:Nat)(hk:k<m):sN m (sub f k z)=sN m f-z:=by
 have:=sN_sub1 (fun _=>true) f k z m;simp only [cond_true,Bool.and_true] at this;rw [decide_eq_true hk] at this;exact this
section
variable {m n:Nat} {t d:Nat→Int} {may:Nat→Nat→Bool} {i j:Nat}
theorem tch_off{T:Set_}{a:Nat} : tch n (off may i j) T a=true→tch n may T a=true:=fun h=>by
 obtain ⟨b,h1,h2,h3⟩:=Qah.1 h;unfold off at h3;rw [Bool.and_eq_true] at h3;exact Qah.2 ⟨b,h1,h2,h3.1⟩
theorem tch_off_ne{T:Set_}{a:Nat}(h:a≠i):tch n (off may i j) T a=tch n may T a:=by
 have e:∀b,off may i j a b=may a b:=fun b=>by unfold off; rw [decide_eq_false h]; simp
 unfold tch;simp only [e]
theorem tch_off_i{T:Set_}(hj:T j=false):tch n (off may i j) T i=tch n may T i:=by
 cases h:tch n may T i with
 | false =>
  cases h2:tch n (off may i j) T i with
  | false=>rfl
  | true=>rw [tch_off h2] at h; cases h
 | true =>
  obtain ⟨b,h1,h2,h3⟩:=Qah.1 h;refine Qah.2 ⟨b,h1,h2,?_⟩;unfold off;have:b≠j:=fun e=>by rw [e,hj] at h2; cases h2
  rw [h3,decide_eq_false this]; simp
theorem cut_give(hi:i<m)(hj:j<n)(mm:Nat→Nat→Bool)(z:Int)(T:Set_):cut m n (sub t i z) (sub d j z) mm T=cut m n t d mm T-(bif T j then 0 else z)-(bif tch n mm T i then z else 0):=by
 unfold cut;have h1:=sN_sub1 (fun b=>!(T b)) d j z n;have h2:=sN_sub1 (fun a=>tch n mm T a) t i z m;rw [decide_eq_true hj,Bool.true_and] at h1;rw [decide_eq_true hi,Bool.true_and] at h2;have e1:sN n (fun b=>bif T b then 0 else sub d j z b)=sN n (fun b=>bif !(T b) then sub d j z b else 0):=Qaa fun b _=>by cases T b<;>rfl
 have e2:sN n (fun b=>bif T b then 0 else d b)=sN n (fun b=>bif !(T b) then d b else 0):=Qaa fun b _=>by cases T b<;>rfl
 rw [e1,e2]
 try dsimp only at h1 h2 ⊢
 rw [h1,h2];cases T j<;>simp<;>omega
theorem cut_off(hi:i<m)(T:Set_)(h:T j=false∨tch n (off may i j) T i=true):cut m n t d (off may i j) T=cut m n t d may T:=by
 unfold cut
 congr 1
 refine Qaa fun a _=>?_
 by_cases e:a=i
 ·subst e;rcases h with h | h
  ·rw [tch_off_i h]
  ·rw [h,tch_off h]
 ·rw [tch_off_ne e]
theorem sN_pick(q p:Nat→Bool)(f:Nat→Int)(k:Nat)(hk:k<m)(h:∀a,a≠k→q a=p a)(hq:q k=false)(hp:p k=true):sN m (fun a=>bif p a then f a else 0)=sN m (fun a=>bif q a then f a else 0)+f k:=by
 have e:sN m (fun a=>(bif p a then f a else 0)-(bif q a then f a else 0))=f k:=by
  rw [sN_one hk fun a _ hne=>by rw [h a hne]; omega,hq,hp]; simp
 rw [sN_sub] at e;omega
theorem cut_offC(hi:i<m)(T:Set_)(h:tch n (off may i j) T i=false)(hm:may i j=true)(hj:j<n)(hT:T j=true):cut m n t d may T=cut m n t d (off may i j) T+t i:=by
 unfold cut;have:=sN_pick (m:=m) (fun a=>tch n (off may i j) T a) (fun a=>tch n may T a) t i hi (fun a ha=>tch_off_ne ha) h (Qah.2 ⟨j,hj,hT,hm⟩)
 try dsimp only at this ⊢
 omega
theorem cut_mod(hs:∀a,a<m→0≤t a)(mm:Nat→Nat→Bool)(T U:Set_):cut m n t d mm (fun b=>T b||U b)+cut m n t d mm (fun b=>T b&&U b)≤cut m n t d mm T+cut m n t d mm U:=by
 unfold cut;have e1:sN n (fun b=>bif T b||U b then 0 else d b)+sN n (fun b=>bif T b&&U b then 0 else d b)=sN n (fun b=>bif T b then 0 else d b)+sN n (fun b=>bif U b then 0 else d b):=by
  rw [←sN_add,←sN_add];refine Qaa fun b _=>?_;cases T b<;>cases U b<;>simp
 have e2:sN m (fun a=>bif tch n mm (fun b=>T b||U b) a then t a else 0)+sN m (fun a=>bif tch n mm (fun b=>T b&&U b) a then t a else 0)≤sN m (fun a=>bif tch n mm T a then t a else 0)+sN m (fun a=>bif tch n mm U a then t a else 0):=by
  rw [←sN_add,←sN_add];refine sN_le fun a ha=>?_;have h0:=hs a ha;have hand:tch n mm (fun b=>T b&&U b) a=true→tch n mm T a=true∧tch n mm U a=true:=fun h=>by
   obtain ⟨b,hb,h1,h2⟩:=Qah.1 h;rw [Bool.and_eq_true] at h1;exact ⟨Qah.2 ⟨b,hb,h1.1,h2⟩,Qah.2 ⟨b,hb,h1.2,h2⟩⟩
  have hor:tch n mm (fun b=>T b||U b) a=true→tch n mm T a=true∨tch n mm U a=true:=fun h=>by
   obtain ⟨b,hb,h1,h2⟩:=Qah.1 h;rw [Bool.or_eq_true] at h1;rcases h1 with h1 | h1
   ·exact .inl (Qah.2 ⟨b,hb,h1,h2⟩)
   ·exact .inr (Qah.2 ⟨b,hb,h1,h2⟩)
  revert hand hor
  cases tch n mm (fun b=>T b&&U b) a<;>cases tch n mm (fun b=>T b||U b) a<;>cases tch n mm T a<;>cases tch n mm U a<;>intro hand hor<;>simp at hand hor ⊢<;>omega
 dsimp only at e1 e2 ⊢;omega
theorem give_ok{rest most v:Int}(h:HH m n t d may rest)(hi:i<m)(hj:j<n)(hm:may i j=true)(h1:most≤t i)(h2:most≤d j)(h3:most=t i∨most=d j)
  (hv:IsMin m n (sub t i most) (sub d j most) (off may i j) v) :
  0≤most-(rest-most-v)∧most-(rest-most-v)≤most∧HH m n (sub t i (most-(rest-most-v))) (sub d j (most-(rest-most-v))) (off may i j) (rest-(most-(rest-most-v))):=by
 have hm0:0≤most:=by
  have:=h.tn i hi;have:=h.dn j hj;omega
 have gB:∀T:Set_,(T j=false∨tch n (off may i j) T i=true)→rest≤cut m n t d (off may i j) T:=fun T hT=>by rw [cut_off hi T hT]; exact h.ct T
 have gC:∀T:Set_,T j=true→tch n (off may i j) T i=false→rest-most≤cut m n t d (off may i j) T:=fun T hT hc=>by
  have a1:=h.ct T;rw [cut_offC hi T hc hm hj hT] at a1;have a2:=gB (fun b=>T b&&!(decide (b=j))) (.inl (by simp));have a3:cut m n t d (off may i j) (fun b=>T b&&!(decide (b=j)))≤cut m n t d (off may i j) T+d j:=by
   unfold cut;have e1:=sN_pick (m:=n) (fun b=>!(T b)) (fun b=>!(T b&&!(decide (b=j)))) d j hj (fun b hb=>by rw [decide_eq_false hb]; simp) (by rw [hT]; rfl) (by simp);have e2:sN m (fun a=>bif tch n (off may i j) (fun b=>T b&&!(decide (b=j))) a then t a else 0)≤sN m (fun a=>bif tch n (off may i j) T a then t a else 0):=sN_le fun a ha=>by
    have h0:=h.tn a ha;have:tch n (off may i j) (fun b=>T b&&!(decide (b=j))) a=true→tch n (off may i j) T a=true:=fun k=>by
     obtain ⟨b,hb,k1,k2⟩:=Qah.1 k;rw [Bool.and_eq_true] at k1;exact Qah.2 ⟨b,hb,k1.1,k2⟩
    revert this
    cases tch n (off may i j) (fun b=>T b&&!(decide (b=j))) a<;>cases tch n (off may i j) T a<;>intro this<;>simp at this ⊢<;>omega
   have e3:sN n (fun b=>bif T b&&!(decide (b=j)) then 0 else d b)=sN n (fun b=>bif !(T b&&!(decide (b=j))) then d b else 0):=Qaa fun b _=>by cases T b&&!(decide (b=j))<;>rfl
   have e4:sN n (fun b=>bif T b then 0 else d b)=sN n (fun b=>bif !(T b) then d b else 0):=Qaa fun b _=>by cases T b<;>rfl
   dsimp only at e1 e2 e3 e4 ⊢;omega
  omega
 have hle:∀T:Set_,v≤cut m n t d (off may i j) T-(bif T j then 0 else most)-(bif tch n (off may i j) T i then most else 0):=fun T=>by
  have:=hv.2 T;rw [cut_give hi hj] at this;exact this
 have hemp:v≤rest-most:=by
  have k1:=hle (fun _=>false);have k2:tch n (off may i j) (fun _=>false) i=false:=by
   cases k:tch n (off may i j) (fun _=>false) i with
   | false=>rfl
   | true =>
    obtain ⟨b,_,hb,_⟩:=Qah.1 k;cases hb
  have k3:cut m n t d (off may i j) (fun _=>false)=rest:=by
   rw [cut_off hi _ (.inl rfl)];unfold cut;have:sN m (fun a=>bif tch n may (fun _=>false) a then t a else 0)=0:=Qbr fun a _=>by
    cases k:tch n may (fun _=>false) a with
    | false=>rfl
    | true =>
     obtain ⟨b,_,hb,_⟩:=Qah.1 k;cases hb
   rw [this];have:=h.td;simp only [cond_false];show sN n d+0=rest;omega
  rw [k2,k3] at k1;simp only [cond_false] at k1;omega
 obtain ⟨⟨U,hU⟩,_⟩:=hv;rw [cut_give hi hj] at hU;have hx0:0≤most-(rest-most-v):=by
  cases hUj:U j with
  | false =>
   cases hUi:tch n (off may i j) U i with
   | true=>have:=gB U (.inl hUj); rw [hUj,hUi] at hU; simp at hU; omega
   | false=>have:=gB U (.inl hUj); rw [hUj,hUi] at hU; simp at hU; omega
  | true =>
   cases hUi:tch n (off may i j) U i with
   | true=>have:=gB U (.inr hUi); rw [hUj,hUi] at hU; simp at hU; omega
   | false=>have:=gC U hUj hUi; rw [hUj,hUi] at hU; simp at hU; omega
 refine ⟨hx0,by omega,⟨fun a ha=>?_,fun b hb=>?_,?_,?_,fun T=>?_⟩⟩
 ·have:=h.tn a ha;unfold sub
  by_cases e:a=i
  ·subst e; rw [decide_eq_true rfl]; simp; omega
  ·rw [decide_eq_false e]; simpa using this
 ·have:=h.dn b hb;unfold sub
  by_cases e:b=j
  ·subst e; rw [decide_eq_true rfl]; simp; omega
  ·rw [decide_eq_false e]; simpa using this
 ·rw [sN_subA d j _ n hj,h.td]
 ·rw [sN_subA t i _ m hi,h.tt]
 ·rw [cut_give hi hj];cases hTj:T j with
  | false =>
   cases hTi:tch n (off may i j) T i with
   | true =>
    have k1:=hle T;rw [hTj,hTi] at k1;simp only [cond_true,cond_false] at k1 ⊢;omega
   | false =>
    have k1:=gB T (.inl hTj);simp only [cond_true,cond_false];omega
  | true =>
   cases hTi:tch n (off may i j) T i with
   | true =>
    have k1:=gB T (.inr hTi);simp only [cond_true,cond_false];omega
   | false =>
    have k1:=gC T hTj hTi;simp only [cond_true,cond_false]
    -- either nothing is lacking, or the least cut is crossed with this one
    by_cases hl:rest-most-v=0
    ·omega
    ·have hUA:U j=false∧tch n (off may i j) U i=true:=by
      cases hUj:U j with
      | false =>
       cases hUi:tch n (off may i j) U i with
       | true=>exact ⟨rfl,rfl⟩
       | false=>have:=gB U (.inl hUj); rw [hUj,hUi] at hU; simp at hU; omega
      | true =>
       cases hUi:tch n (off may i j) U i with
       | true=>have:=gB U (.inr hUi); rw [hUj,hUi] at hU; simp at hU; omega
       | false=>have:=gC U hUj hUi; rw [hUj,hUi] at hU; simp at hU; omega
     have c1:=cut_mod (n:=n) (d:=d) h.tn (off may i j) T U;have c2:=gB (fun b=>T b||U b) (.inr (by
      obtain ⟨b,q1,q2,q3⟩:=Qah.1 hUA.2;exact Qah.2 ⟨b,q1,by rw [q2,Bool.or_true],q3⟩))
     have c3:=gB (fun b=>T b&&U b) (.inl (by rw [hUA.1,Bool.and_false]));rw [hUA.1,hUA.2] at hU;simp only [cond_true,cond_false] at hU;omega
theorem HH.done{rest:Int}(h:HH m n t d may rest)(hm:∀a b,a<m→b<n→may a b=false):rest=0∧(∀a,a<m→t a=0)∧∀b,b<n→d b=0:=by
 have h1:=h.ct (fun _=>true);have e1:cut m n t d may (fun _=>true)=0:=by
  unfold cut;have q1:sN n (fun b=>bif (fun _:Nat=>true) b then 0 else d b)=0:=Qbr fun _ _=>rfl;have q2:sN m (fun a=>bif tch n may (fun _=>true) a then t a else 0)=0:=Qbr fun a ha=>by
   cases k:tch n may (fun _=>true) a with
   | false=>rfl
   | true =>
    obtain ⟨b,hb,_,hb2⟩:=Qah.1 k;rw [hm a b ha hb] at hb2; cases hb2
  rw [q1,q2]; rfl
 have h2:0≤rest:=by rw [←h.td]; exact sN_nn h.dn
 have h3:rest=0:=by omega
 have zero:∀{k:Nat} {f:Nat→Int},(∀a,a<k→0≤f a)→sN k f=0→∀a,a<k→f a=0:=fun {k}=>by
  induction k with
  | zero=>intro f _ _ a ha; omega
  | succ k ih =>
   intro f hf h0 a ha;rw [sN] at h0;have q1:0≤sN k f:=sN_nn fun b hb=>hf b (by omega);have q2:=hf k (by omega)
   by_cases e:a=k
   ·subst e; omega
   ·exact ih (fun b hb=>hf b (by omega)) (by omega) a (by omega)
 exact ⟨h3,zero h.tn (by rw [h.tt]; exact h3),zero h.dn (by rw [h.td]; exact h3)⟩
theorem Rch.zero{s f:Nat→Int}(hf:Rch m n s d may f)(hd:∀b,b<n→0≤d b):f 0=0:=by
 obtain ⟨⟨T,hT⟩,h2⟩:=hf 0 (Nat.zero_le _);have k1:=h2 (fun _=>true);unfold cut at hT k1;rw [sN] at hT k1;have q:0≤sN n (fun b=>bif T b then 0 else d b):=sN_nn fun b hb=>by
  have:=hd b hb;cases T b with
  | true=>exact Int.le_refl _
  | false=>exact this
 have q2:sN n (fun b=>bif (fun _=>true) b then 0 else d b)=0:=Qbr fun _ _=>rfl;dsimp only at hT q q2 k1;omega
theorem Rch.step{s f:Nat→Int}(hf:Rch m n s d may f)(hs:∀a,a<m→0≤s a){k:Nat}(hk:k<m):0≤f (k+1)-f k∧f (k+1)-f k≤s k:=by
 obtain ⟨⟨T,hT⟩,h2⟩:=hf k (by omega);obtain ⟨⟨U,hU⟩,h4⟩:=hf (k+1) hk;have a1:=h2 U;have a2:=h4 T;have h0:=hs k hk;unfold cut at hT hU a1 a2;rw [sN] at hU a2
 constructor
 ·have:0≤(bif tch n may U k then s k else 0):=by cases tch n may U k<;>simp<;>omega
  omega
 ·have:(bif tch n may T k then s k else 0)≤s k:=by cases tch n may T k<;>simp<;>omega
  omega
theorem sN_tel(f:Nat→Int):∀k:Nat,sN k (fun a=>f (a+1)-f a)=f k-f 0
 | 0=>by simp [sN]
 | k+1=>by rw [sN,sN_tel f k]; omega
theorem HH.start{s f:Nat→Int}(hf:Rch m n s d may f)(hs:∀a,a<m→0≤s a)(hd:∀b,b<n→0≤d b)(hr:f m=sN n d):HH m n (fun a=>f (a+1)-f a) d may (sN n d) where
 tn a ha:=(hf.step hs ha).1
 dn:=hd
 td:=rfl
 tt:=by rw [sN_tel,hf.zero hd,hr]; omega
 ct T:=by
  have h1:=greedy hs hf hd (fun a=>!(tch n may T a)) T m (Nat.le_refl _);have e1:cutA m n s d may (fun a=>!(tch n may T a)&&decide (a<m)) T=sN n (fun b=>bif T b then 0 else d b):=by
   unfold cutA;rw [Qbr (n:=m) (f:=fun a=>bif (!(tch n may T a)&&decide (a<m))&&tch n may T a then s a else 0) fun a _=>by cases tch n may T a<;>simp];omega
  rw [e1] at h1;have e2:sN m (fun a=>f (a+1)-f a)=sN m (fun a=>bif !(tch n may T a) then f (a+1)-f a else 0)+sN m (fun a=>bif tch n may T a then f (a+1)-f a else 0):=by
   rw [←sN_add];refine Qaa fun a _=>?_;cases tch n may T a<;>simp
  have e3:sN m (fun a=>f (a+1)-f a)=sN n d:=by rw [sN_tel,hf.zero hd,hr]; omega
  unfold cut;dsimp only at h1 e2 ⊢;omega
end
end Flo
end Go.Proofs.Ytinabbgjignkbaa
namespace Go.Proofs.Ytinabbgjignkbaa
set_option linter.unusedVariables false
set_option linter.unusedSimpArgs false
open Go.RowKit Flo
def gI(l:List Int)(k:Nat):Int:=l.getD k 0
def gB(l:List Bool)(k:Nat):Bool:=l.getD k false
theorem Qcc{l:List Int}{k:Nat}(h:k<l.length):l[k]?=some (gI l k):=by
 unfold gI; rw [List.getD_eq_getElem?_getD,List.getElem?_eq_getElem h]; rfl
theorem gB_at{l:List Bool}{k:Nat}(h:k<l.length):l[k]?=some (gB l k):=by
 unfold gB; rw [List.getD_eq_getElem?_getD,List.getElem?_eq_getElem h]; rfl
theorem Qan{l:List Int}{k:Nat}(v:Int)(a:Nat)(hk:k<l.length):gI (l.set k v) a=if a=k then v else gI l a:=by
 unfold gI;rw [List.getD_eq_getElem?_getD,List.getD_eq_getElem?_getD,List.getElem?_set]
 by_cases e:k=a
 ·subst e; simp [hk]
 ·rw [if_neg e,if_neg (fun h=>e h.symm)]
theorem at_gI{l:List Int}{k:Nat}(h:k<l.length):at? l (k:Int)=some (gI l k):=by rw [Qbv,Qcc h]
theorem Qbq{k m:Nat}(h:k<m):idxB (k:Int) m=true:=decide_eq_true (by omega)
def ints(c:List Nat):List Int:=c.map (fun (n:Nat)=>(n:Int))
theorem ints_app(a b:List Nat):ints (a++b)=ints a++ints b:=List.map_append ..
theorem ints_len(c:List Nat):(ints c).length=c.length:=by unfold ints; rw [List.length_map]
theorem nd_len:∀(n:Nat)(l:List Nat),l.Nodup→(∀x∈l,x<n)→l.length≤n
 | 0,[],_,_=>Nat.le_refl _
 | 0,x::r,_,h=>absurd (h x List.mem_cons_self) (Nat.not_lt_zero _)
 | n+1,l,hn,h=>by
  have ih:=nd_len n (l.filter fun x=>decide (x≠n)) (hn.sublist List.filter_sublist) fun x hx=>by
   obtain ⟨h1,h2⟩:=List.mem_filter.1 hx;have:=h x h1;have:=of_decide_eq_true h2;omega
  have one:∀l:List Nat,l.Nodup→l.length≤(l.filter fun x=>decide (x≠n)).length+1:=fun l hl=>by
   induction l with
   | nil=>simp
   | cons x r ihr =>
    have hx:=List.nodup_cons.1 hl;rw [List.filter_cons]
    by_cases e:x=n
    ·subst e;have:r.filter (fun y=>decide (y≠x))=r:=List.filter_eq_self.2 fun y hy=>decide_eq_true (fun e=>hx.1 (e ▸ hy));rw [decide_eq_false (by simp),this]; simp
    ·rw [decide_eq_true e];have:=ihr hx.2;simp only [if_true,List.length_cons]; omega
  have:=one l hn;omega

abbrev XU(U:List Int):Nat→Nat→Int:=fun i j=>gI U (i*8+j)
theorem XU_set{U:List Int}(hU:U.length=80){i j a b:Nat}(hi:i<10)(hj:j<8)(ha:a<10)(hb:b<8)(v:Int):XU (U.set (i*8+j) v) a b=if a=i∧b=j then v else XU U a b:=by
 show gI (U.set (i*8+j) v) (a*8+b)=_;rw [Qan v _ (by omega)]
 by_cases e:a=i∧b=j
 ·rw [if_pos e,if_pos (by rw [e.1,e.2])]
 ·rw [if_neg e,if_neg (by omega)]
structure FS (m n:Nat) (s0 d0:Nat→Int) (mf:Nat→Nat→Bool) (S N U:List Int) (tt:Int):Prop where
 m10:m≤10
 n8:n≤8
 sl:S.length=m
 nl:N.length=n
 ul:U.length=80
 fl:Flw m n s0 d0 mf (XU U)
 sv:∀i,i<m→gI S i=s0 i-sN n (XU U i)
 nv:∀j,j<n→gI N j=d0 j-sN m (fun i=>XU U i j)
 tv:tt=Flo.tot m n (XU U)
 sb:∀i,i<m→0≤s0 i∧s0 i≤68719476736
 db:∀j,j<n→0≤d0 j∧d0 j≤68719476736
def AP(m n:Nat)(mf:Nat→Nat→Bool)(S U A C:List Int)(c:Int):List Nat→Nat→Prop
 | [],i=>i<m∧gI A i = -2∧c≤gI S i
 | j::p,i=>i<m∧gI A i=(j:Int)∧j<n∧c≤gI U (i*8+j)∧∃i':Nat,gI C j=(i':Int)∧mf i' j=true∧AP m n mf S U A C c p i'
theorem AP.lt8{m n:Nat}{mf:Nat→Nat→Bool}{S U A C:List Int}{c:Int} : ∀{p:List Nat} {i:Nat},AP m n mf S U A C c p i→∀j∈p,j<n
 | j::p,i,h,k,hk=>by
  obtain ⟨_,_,h3,_,i',_,_,h6⟩:=h;rcases List.mem_cons.1 hk with rfl | hk
  ·exact h3
  ·exact h6.lt8 k hk
theorem AP.mono{m n:Nat}{mf:Nat→Nat→Bool}{S U A C A' C':List Int}{c:Int}(hA:∀i,i<m→gI A i≠-1→gI A' i=gI A i)(hC:∀j,j<n→0≤gI C j→gI C' j=gI C j):∀{p:List Nat} {i:Nat},AP m n mf S U A C c p i→AP m n mf S U A' C' c p i
 | [],i,h=>⟨h.1,by rw [hA i h.1 (by rw [h.2.1]; decide),h.2.1],h.2.2⟩
 | j::p,i,h=>by
  obtain ⟨h1,h2,h3,h4,i',h5,h6,h7⟩:=h;exact ⟨h1,by rw [hA i h1 (by rw [h2]; omega),h2],h3,h4,i',by rw [hC j h3 (by rw [h5]; omega),h5],h6,h7.mono hA hC⟩
def un(A:List Int):Nat→Nat
 | 0=>0
 | k+1=>un A k+(bif decide (gI A k = -1) then 1 else 0)
theorem un_set{A:List Int}{k:Nat}{v:Int}(hk:k<A.length)(h:gI A k = -1)(hv:v≠-1):∀m,un (A.set k v) m+(bif decide (k<m) then 1 else 0)=un A m
 | 0=>by simp [un]
 | m+1=>by
  have ih:=un_set hk h hv m;rw [un,un,Qan v m hk]
  by_cases e:m=k
  ·subst e;rw [decide_eq_false (by omega:¬m<m)] at ih;rw [if_pos rfl,decide_eq_false hv,decide_eq_true (by omega:m<m+1),decide_eq_true h];simp at ih ⊢; omega
  ·rw [if_neg e];have:decide (k<m+1)=decide (k<m):=by rw [decide_eq_decide]; omega
   rw [this]; omega
structure BS (m n:Nat) (mf:Nat→Nat→Bool) (S N U:List Int) (ic jc st ln:Nat) (A C Q:List Int):Prop where
 al:A.length=10
 cl:C.length=8
 eq:st+ln=Q.length
 q:∃q:List Nat,Q.drop st=ints q∧(∀i∈q,i<m∧gI A i≠-1)∧∀i,i<m→gI A i≠-1→i∈q∨∀j,j<n→(i=ic→j<jc)→mf i j=true→0≤gI C j
 a2:∀i,i<m→0<gI S i→gI A i≠-1
 cv:∀j,j<n→gI C j = -1∨0≤gI C j
 c2:∀j,j<n→0≤gI C j→gI N j≤0
 c3:∀j,j<n→0≤gI C j→∀k,k<m→0<gI U (k*8+j)→gI A k≠-1
 ap:∀i,i<m→gI A i≠-1→∃p,AP m n mf S U A C 1 p i∧p.Nodup∧∀j∈p,0≤gI C j
 b:ln+un A m≤m
def Found(m n:Nat)(mf:Nat→Nat→Bool)(S N U A C:List Int)(j:Nat):Prop :=
 j<n∧0<gI N j∧A.length=10∧C.length=8∧∃i p,gI C j=((i:Nat):Int)∧mf i j=true∧AP m n mf S U A C 1 p i∧(j::p).Nodup
theorem sN_add1(f:Nat→Int)(k:Nat)(z:Int):∀m:Nat,sN m (fun a=>f a+(if a=k then z else 0))=sN m f+(if k<m then z else 0)
 | 0=>by simp [sN]
 | m+1=>by
  rw [sN,sN,sN_add1 f k z m]
  by_cases e:m=k
  ·subst e; simp; omega
  ·rw [if_neg e]
   by_cases h:k<m
   ·rw [if_pos h,if_pos (by omega)]; omega
   ·rw [if_neg h,if_neg (by omega)]; omega
section
variable {m n:Nat} {U:List Int} {i j:Nat}
theorem row_set(hU:U.length=80)(hn:n≤8)(hi:i<10)(hj:j<n)(v:Int){a:Nat}(ha:a<10):sN n (XU (U.set (i*8+j) v) a)=sN n (XU U a)+(if a=i then v-XU U i j else 0):=by
 by_cases e:a=i
 ·subst e;rw [if_pos rfl];have h1:sN n (XU (U.set (a*8+j) v) a)=sN n (fun b=>XU U a b+(if b=j then v-XU U a j else 0)):=Qaa fun b hb=>by
   rw [XU_set hU hi (by omega) hi (by omega)]
   by_cases e2:b=j
   ·subst e2; rw [if_pos ⟨rfl,rfl⟩,if_pos rfl]; omega
   ·rw [if_neg (fun h=>e2 h.2),if_neg e2]; omega
  rw [h1,sN_add1,if_pos hj]
 ·rw [if_neg e];have h1:sN n (XU (U.set (i*8+j) v) a)=sN n (XU U a):=Qaa fun b hb=>by
   rw [XU_set hU hi (by omega) ha (by omega),if_neg (fun h=>e h.1)]
  rw [h1]; omega
theorem col_set(hU:U.length=80)(hm:m≤10)(hi:i<m)(hj:j<8)(v:Int){b:Nat}(hb:b<8):sN m (fun a=>XU (U.set (i*8+j) v) a b)=sN m (fun a=>XU U a b)+(if b=j then v-XU U i j else 0):=by
 by_cases e:b=j
 ·subst e;rw [if_pos rfl];have h1:sN m (fun a=>XU (U.set (i*8+b) v) a b)=sN m (fun a=>XU U a b+(if a=i then v-XU U i b else 0)):=Qaa fun a ha=>by
   rw [XU_set hU (by omega) hj (by omega) hj]
   by_cases e2:a=i
   ·subst e2; rw [if_pos ⟨rfl,rfl⟩,if_pos rfl]; omega
   ·rw [if_neg (fun h=>e2 h.1),if_neg e2]; omega
  rw [h1,sN_add1 (fun a=>XU U a b),if_pos hi]
 ·rw [if_neg e];have h1:sN m (fun a=>XU (U.set (i*8+j) v) a b)=sN m (fun a=>XU U a b):=Qaa fun a ha=>by
   rw [XU_set hU (by omega) hj (by omega) hb,if_neg (fun h=>e h.2)]
  rw [h1]; omega
end
theorem AP.keep{m n:Nat}{mf:Nat→Nat→Bool}{S U U' A C:List Int}{c:Int} : ∀{p:List Nat} {i:Nat},(∀j∈p,∀a,a<m→gI U' (a*8+j)=gI U (a*8+j))→AP m n mf S U A C c p i→AP m n mf S U' A C c p i
 | [],i,_,h=>h
 | j::p,i,hU,h=>by
  obtain ⟨h1,h2,h3,h4,i',h5,h6,h7⟩:=h;exact ⟨h1,h2,h3,by rw [hU j List.mem_cons_self i h1]; exact h4,i',h5,h6,h7.keep fun k hk=>hU k (List.mem_cons_of_mem _ hk)⟩
theorem nd_one(n:Nat):∀l:List Nat,l.Nodup→l.length≤(l.filter fun x=>decide (x≠n)).length+1
 | [],_=>by simp
 | x::r,hl=>by
  have hx:=List.nodup_cons.1 hl;rw [List.filter_cons]
  by_cases e:x=n
  ·subst e;have:r.filter (fun y=>decide (y≠x))=r:=List.filter_eq_self.2 fun y hy=>decide_eq_true (fun e=>hx.1 (e ▸ hy));rw [decide_eq_false (by simp),this]; simp
  ·rw [decide_eq_true e];have:=nd_one n r hx.2;simp only [if_true,List.length_cons]; omega
theorem nd_un(A:List Int):∀(m:Nat)(q:List Nat),q.Nodup→(∀a∈q,a<m∧gI A a≠-1)→q.length+un A m≤m
 | 0,[],_,_=>by simp [un]
 | 0,x::r,_,h=>absurd (h x List.mem_cons_self).1 (Nat.not_lt_zero _)
 | m+1,q,hn,h=>by
  rw [un]
  by_cases e:gI A m = -1
  ·rw [decide_eq_true e];have:=nd_un A m q hn fun a ha=>by
    have:=h a ha;have:a≠m:=fun e2=>this.2 (e2 ▸ e);exact ⟨by omega,(h a ha).2⟩
   simp; omega
  ·rw [decide_eq_false e];have:=nd_un A m (q.filter fun x=>decide (x≠m)) (hn.sublist List.filter_sublist) fun a ha=>by
    obtain ⟨h1,h2⟩:=List.mem_filter.1 ha;have:=of_decide_eq_true h2;exact ⟨by have:=(h a h1).1; omega,(h a h1).2⟩
   have:=nd_one m q hn
   simp; omega
theorem gI_rep(k:Nat)(v:Int)(a:Nat)(h:a<k):gI (List.replicate k v) a=v:=by
 unfold gI;rw [List.getD_eq_getElem?_getD,List.getElem?_replicate,if_pos h]; rfl
theorem sN_bd{f:Nat→Int}{b:Int} : ∀{n:Nat},(∀j,j<n→f j≤b)→sN n f≤b*n
 | 0,_=>by simp [sN]
 | n+1,h=>by
  have h1:=sN_bd (n:=n) fun j hj=>h j (by omega);have h2:=h n (by omega);rw [sN,Int.natCast_add,Int.mul_add];simp only [Int.natCast_one,Int.mul_one];omega
theorem sN_ge{f:Nat→Int}{k:Nat} : ∀{n:Nat},k<n→(∀i,i<n→0≤f i)→f k≤sN n f
 | n+1,hk,h=>by
  rw [sN];have h1:0≤sN n f:=sN_nn fun i hi=>h i (by omega);have h2:=h n (by omega)
  by_cases e:k=n
  ·subst e; omega
  ·have:=sN_ge (n:=n) (by omega:k<n) fun i hi=>h i (by omega);omega
theorem tot_le{m n:Nat}{s d:Nat→Int}{mf:Nat→Nat→Bool}{x:Nat→Nat→Int}(h:Flw m n s d mf x):Flo.tot m n x≤sN n d:=by
 have:=h.le_cut (fun _=>false);unfold cut at this;have e:sN m (fun i=>bif tch n mf (fun _=>false) i then s i else 0)=0:=Qbr fun a _=>by
  cases k:tch n mf (fun _=>false) a with
  | false=>rfl
  | true =>
   obtain ⟨b,_,hb,_⟩:=Qah.1 k;cases hb
 rw [e] at this;simp only [cond_false] at this;show _≤sN n (fun j=>d j);omega
theorem FS.start{m n:Nat}{mf:Nat→Nat→Bool}{S N:List Int}{s0 d0:Nat→Int}(hm:m≤10)(hn:n≤8)(hS:S.length=m)(hN:N.length=n)(hs:∀i,i<m→gI S i=s0 i)(hd:∀j,j<n→gI N j=d0 j)(sb:∀i,i<m→0≤s0 i∧s0 i≤68719476736)(db:∀j,j<n→0≤d0 j∧d0 j≤68719476736):FS m n s0 d0 mf S N (List.replicate 80 0) 0:=by
 have hx:∀a b,a<m→b<n→XU (List.replicate 80 0) a b=0:=fun a b ha hb=>gI_rep 80 0 _ (by omega);have hr:∀a,a<m→sN n (XU (List.replicate 80 0) a)=0:=fun a ha=>Qbr fun b hb=>hx a b ha hb;have hc:∀b,b<n→sN m (fun a=>XU (List.replicate 80 0) a b)=0:=fun b hb=>Qbr fun a ha=>hx a b ha hb;exact ⟨hm,hn,hS,hN,by simp,⟨fun a b ha hb=>by rw [hx a b ha hb]; exact Int.le_refl _,fun a b ha hb h=>absurd (hx a b ha hb) h,fun a ha=>by rw [hr a ha]; exact (sb a ha).1,fun b hb=>by rw [hc b hb]; exact (db b hb).1⟩,fun a ha=>by rw [hr a ha,hs a ha]; omega,fun b hb=>by rw [hc b hb,hd b hb]; omega,(Qbr fun a ha=>hr a ha).symm,sb,db⟩
theorem f45_id{l:List Int}(h:l.length≤1000):f45r2 l=some l:=by
 unfold f45r2 f45r2n0;cases l with
 | nil=>rfl
 | cons a r=>rw [Qaf (Qbd (by omega) (by omega))]; rfl
theorem f45_pre{l:List Int}{k:Nat}(hk:k≤l.length)(h:k≤1000):f45r1 k l=some (l.take k):=by
 unfold f45r1 f45r1n0;rw [Qaf (decide_eq_true (by omega)),List.drop_zero];cases he:l.take k with
 | nil=>rfl
 | cons a r =>
  have:=congrArg List.length he;rw [List.length_take] at this;rw [Qaf (Qbd (by omega) (by omega))]; rfl
theorem gI_take{l:List Int}{k a:Nat}(h:a<k):gI (l.take k) a=gI l a:=by
 unfold gI;rw [List.getD_eq_getElem?_getD,List.getD_eq_getElem?_getD,List.getElem?_take,if_pos h]
theorem mnI_le(a b:Int):mnI a b≤a∧mnI a b≤b∧(mnI a b=a∨mnI a b=b):=by
 unfold mnI
 by_cases h:b<a
 ·rw [decide_eq_true h]; simp; omega
 ·rw [decide_eq_false h]; simp; omega
section
variable {m n:Nat} {mf:Nat→Nat→Bool} {s0 d0:Nat→Int} {B:List Bool} {S N U:List Int} (tt:Int) (p q:List Int) (cs:List AC) (ls:List AA)
theorem callsr1_eq:f23r1n1 tt p q cs B ls S N U=some (.norm (List.replicate 8 (-1))):=by
 unfold f23r1n1;have:f23r1n2 FUEL tt p q cs B ls S N U 0 (List.replicate 8 0)=some (.exit2 (List.replicate 8 (-1))):=by rfl
 rw [this]; rfl
theorem innerr1_eq(hS:S.length=m)(hm:m≤10)(hUl:U.length=80){j:Nat}(hj:j<8)(i ee:Int)(C:List Int):∀(r f k:Nat){st ln:Nat}{A Q:List Int}{q0:List Nat},k+r=m→r<f→A.length=10→st+ln=Q.length→Q.drop st=ints q0→ln+un A m≤10 →
  ∃ st' ln' A' Q' new, f23r1n7 f tt ee i (j : Int) N S p q cs B ls U C st ln (k : Int) A Q = some (.exit10 st' ln' A' Q') ∧ A'.length = 10 ∧ st' + ln' = Q'.length ∧ Q'.drop st' = ints (q0 ++ new) ∧ ln' + un A' m = ln + un A m ∧
   (∀a,a<m→gI A a≠-1→gI A' a=gI A a)∧(∀a,a<m→gI A a = -1→gI A' a = -1∨(gI A' a=(j:Int)∧0<gI U (a*8+j)∧a∈new))∧(∀a∈new,a<m∧gI A' a≠-1)∧(∀a,k≤a→a<m→0<gI U (a*8+j)→gI A' a≠-1)
 | _,0,_,_,_,_,_,_,_,h,_,_,_,_=>absurd h (Nat.not_lt_zero _)
 | 0,f+1,k,st,ln,A,Q,q0,hk,_,hA,hq,hQ,hb=>by
  rw [f23r1n7,decide_eq_false (by omega),cond_false];exact ⟨st,ln,A,Q,[],rfl,hA,hq,by rw [List.append_nil]; exact hQ,rfl,fun _ _ _=>rfl,fun _ _ h=>.inl h,fun _ h=>(by cases h),fun a h1 h2 _=>by omega⟩
 | r+1,f+1,k,st,ln,A,Q,q0,hk,hf,hA,hq,hQ,hb=>by
  have hkA:k<A.length:=by omega
  rw [f23r1n7,decide_eq_true (by omega),cond_true,Qaf (Qbq (by omega)),Int.toNat_natCast,Nat.mul_one,Qcc hkA,bd_,Qcd (by omega)]
  by_cases h1:gI A k = -1
  ·rw [decide_eq_true h1,cond_true,Qaf (Qbq hj),Int.toNat_natCast,Nat.mul_one,Qcc (by omega),bd_]
   by_cases h2:0<gI U (k*8+j)
   ·rw [decide_eq_true h2,cond_true,Qaf (Qbd (by omega) (by omega)),Qaf (decide_eq_true hq)];have hun:=un_set hkA h1 (v:=(j:Int)) (by omega) m;rw [decide_eq_true (by omega:k<m)] at hun;simp only [cond_true] at hun;have hqn:Q.drop st++[(k:Int)]=ints (q0++[k]):=by rw [hQ,ints_app]; rfl
    have hln:(Q.drop st++[(k:Int)]).length=ln+1:=by rw [List.length_append,List.length_drop]; simp; omega
    obtain ⟨st',ln',A',Q',new,g1,g2,g3,g4,g5,g6,g7,g8,g9⟩:=innerr1_eq hS hm hUl hj i ee C r f (k+1) (st:=0) (ln:=(Q.drop st++[(k:Int)]).length) (A:=A.set k (j:Int)) (Q:=Q.drop st++[(k:Int)]) (q0:=q0++[k]) (by omega) (by omega) (by rw [List.length_set]; exact hA) (by omega) (by rw [List.drop_zero]; exact hqn) (by omega);have hkv:gI A' k=(j:Int):=by
     rw [g6 k (by omega) (by rw [Qan _ _ hkA,if_pos rfl]; omega),Qan _ _ hkA,if_pos rfl]
    refine ⟨st',ln',A',Q',[k]++new,g1,g2,g3,by rw [g4,List.append_assoc],by omega,fun a ha hne=>?_,fun a ha he=>?_,fun a ha=>?_,fun a ha1 ha2 ha3=>?_⟩
    ·have hne2:a≠k:=fun e=>hne (e ▸ h1);have:=g6 a ha (by rw [Qan _ _ hkA,if_neg hne2]; exact hne);rw [this,Qan _ _ hkA,if_neg hne2]
    ·by_cases e:a=k
     ·subst e; exact .inr ⟨hkv,h2,by simp⟩
     ·rcases g7 a ha (by rw [Qan _ _ hkA,if_neg e]; exact he) with h | ⟨h3,h4,h5⟩
      ·exact .inl h
      ·exact .inr ⟨h3,h4,List.mem_append_right _ h5⟩
    ·rcases List.mem_append.1 ha with ha | ha
     ·rw [List.mem_singleton] at ha;subst ha;exact ⟨by omega,by rw [hkv]; omega⟩
     ·exact g8 a ha
    ·by_cases e:a=k
     ·subst e; rw [hkv]; omega
     ·exact g9 a (by omega) ha2 ha3
   ·rw [decide_eq_false h2,cond_false];obtain ⟨st',ln',A',Q',new,g1,g2,g3,g4,g5,g6,g7,g8,g9⟩:=innerr1_eq hS hm hUl hj i ee C r f (k+1) (by omega) (by omega) hA hq hQ hb;refine ⟨st',ln',A',Q',new,g1,g2,g3,g4,g5,g6,g7,g8,fun a ha1 ha2 ha3=>?_⟩
    by_cases e:a=k
    ·subst e; exact absurd ha3 h2
    ·exact g9 a (by omega) ha2 ha3
  ·rw [decide_eq_false h1,cond_false];obtain ⟨st',ln',A',Q',new,g1,g2,g3,g4,g5,g6,g7,g8,g9⟩:=innerr1_eq hS hm hUl hj i ee C r f (k+1) (by omega) (by omega) hA hq hQ hb;refine ⟨st',ln',A',Q',new,g1,g2,g3,g4,g5,g6,g7,g8,fun a ha1 ha2 ha3=>?_⟩
   by_cases e:a=k
   ·subst e; rw [g6 a ha2 h1]; exact h1
   ·exact g9 a (by omega) ha2 ha3
theorem oner1_eq(hS:S.length=m)(hN:N.length=n)(hm:m≤10)(hn:n≤8)(hB:B.length=80)(hU:U.length=80)(hmf:∀a b,a<m→b<n→mf a b=gB B (a*8+b))(ee:Int){i j st ln:Nat}{A C Q:List Int}(hi:i<m)(hj:j<n)(hb:BS m n mf S N U i j st ln A C Q)(hAi:gI A i≠-1) :
  (f23r1n6 tt st ln ee (i:Int) N (j:Int) p q cs B ls S U A C Q=some .exit8∧Found m n mf S N U A (C.set (j*1) (i:Int)) j) ∨
  ∃st' ln' A' C' Q',f23r1n6 tt st ln ee (i:Int) N (j:Int) p q cs B ls S U A C Q=some (.norm st' ln' A' C' Q')∧BS m n mf S N U i (j+1) st' ln' A' C' Q'∧ln'+un A' m=ln+un A m∧gI A' i≠-1:=by
 obtain ⟨pp,hp1,hp2,hp3⟩:=hb.ap i hi hAi;have hcl:=hb.cl;unfold f23r1n6;rw [Qaf (Qbq (by omega)),Qaf (Qbq (by omega)),Int.toNat_natCast,Int.toNat_natCast,Nat.mul_one,gB_at (by omega),bd_,←hmf i j hi hj];cases hmij:mf i j with
 | false =>
  refine .inr ⟨st,ln,A,C,Q,rfl,{ hb with q:=?_ },rfl,hAi⟩;obtain ⟨q0,q1,q2,q3⟩:=hb.q;refine ⟨q0,q1,q2,fun a ha1 ha2=>(q3 a ha1 ha2).imp id fun h k hk1 hk2 hk3=>?_⟩;refine h k hk1 (fun e=>?_) hk3;have:=hk2 e;have:k≠j:=fun e2=>by rw [e,e2,hmij] at hk3; cases hk3
  omega
 | true =>
  rw [cond_true,Qcc (by omega),bd_]
  by_cases hC:0≤gI C j
  ·rw [decide_eq_true hC,cond_true];refine .inr ⟨st,ln,A,C,Q,rfl,{ hb with q:=?_ },rfl,hAi⟩;obtain ⟨q0,q1,q2,q3⟩:=hb.q;refine ⟨q0,q1,q2,fun a ha1 ha2=>(q3 a ha1 ha2).imp id fun h k hk1 hk2 hk3=>?_⟩
   by_cases e:k=j
   ·subst e; exact hC
   ·exact h k hk1 (fun e2=>by have:=hk2 e2; omega) hk3
  ·have hCj:gI C j = -1:=(hb.cv j hj).elim id fun h=>absurd h hC;have hjp:j∉pp:=fun h=>hC (hp3 j h);have hset:∀k,gI (C.set j (i:Int)) k=if k=j then (i:Int) else gI C k:=fun k=>Qan _ _ (by omega);rw [decide_eq_false hC,cond_false,at_gI (by omega),bd_]
   by_cases hNj:0<gI N j
   ·rw [decide_eq_true hNj,cond_true];refine .inl ⟨rfl,hj,hNj,hb.al,by rw [List.length_set]; exact hcl,i,pp,by rw [hset,if_pos rfl],hmij,?_,List.nodup_cons.2 ⟨hjp,hp2⟩⟩;exact hp1.mono (fun _ _ _=>rfl) fun k hk hk2=>by rw [hset,if_neg (fun e=>by rw [e] at hk2; exact hC hk2)]
   ·rw [decide_eq_false hNj,cond_false];obtain ⟨q0,q1,q2,q3⟩:=hb.q;obtain ⟨st',ln',A',Q',new,g1,g2,g3,g4,g5,g6,g7,g8,g9⟩:=innerr1_eq tt p q cs ls (B:=B) hS hm hU (j:=j) (by omega) (i:Int) ee C (N:=N) m FUEL 0 (by omega) (Qz (by omega)) hb.al hb.eq q1 (by have:=hb.b; omega);rw [show ((0:Nat):Int)=0 from rfl] at g1;rw [g1];have hA1:∀a,a<m→gI A a≠-1→gI A' a≠-1:=fun a ha h=>by rw [g6 a ha h]; exact h
    have hC1:∀k,0≤gI C k→0≤gI (C.set j (i:Int)) k:=fun k hk=>by
     rw [hset]
     by_cases e:k=j
     ·rw [if_pos e]; omega
     ·rw [if_neg e]; exact hk
    have hmono:∀{c:Int} {w:List Nat} {a:Nat},AP m n mf S U A C c w a→AP m n mf S U A' (C.set j (i:Int)) c w a:=fun h=>h.mono g6 fun k hk hk2=>by rw [hset,if_neg (fun e=>by rw [e] at hk2; exact hC hk2)]
    refine .inr ⟨st',ln',A',C.set j (i:Int),Q',rfl,⟨g2,by rw [List.length_set]; exact hcl,g3,⟨q0++new,g4,fun a ha=>?_,fun a ha1 ha2=>?_⟩,fun a ha1 ha2=>hA1 a ha1 (hb.a2 a ha1 ha2),fun k hk=>?_,fun k hk hk2=>?_,fun k hk hk2 a ha1 ha2=>?_,fun a ha1 ha2=>?_,by have:=hb.b; omega⟩,g5,hA1 i hi hAi⟩
    ·rcases List.mem_append.1 ha with ha | ha
     ·exact ⟨(q2 a ha).1,hA1 a (q2 a ha).1 (q2 a ha).2⟩
     ·exact g8 a ha
    ·by_cases hAa:gI A a = -1
     ·rcases g7 a ha1 hAa with h | ⟨_,_,h⟩
      ·exact absurd h ha2
      ·exact .inl (List.mem_append_right _ h)
     ·rcases q3 a ha1 hAa with h | h
      ·exact .inl (List.mem_append_left _ h)
      ·refine .inr fun k hk1 hk2 hk3=>?_
       by_cases e:k=j
       ·subst e; rw [hset,if_pos rfl]; omega
       ·exact hC1 k (h k hk1 (fun e2=>by have:=hk2 e2; omega) hk3)
    ·rw [hset]
     by_cases e:k=j
     ·rw [if_pos e]; exact .inr (by omega)
     ·rw [if_neg e]; exact hb.cv k hk
    ·rw [hset] at hk2
     by_cases e:k=j
     ·subst e; omega
     ·rw [if_neg e] at hk2; exact hb.c2 k hk hk2
    ·rw [hset] at hk2
     by_cases e:k=j
     ·subst e; exact g9 a (Nat.zero_le _) ha1 ha2
     ·rw [if_neg e] at hk2; exact hA1 a ha1 (hb.c3 k hk hk2 a ha1 ha2)
    ·by_cases hAa:gI A a = -1
     ·rcases g7 a ha1 hAa with h | ⟨h1,h2,_⟩
      ·exact absurd h ha2
      ·refine ⟨j::pp,⟨ha1,h1,hj,by omega,i,by rw [hset,if_pos rfl],hmij,hmono hp1⟩,List.nodup_cons.2 ⟨hjp,hp2⟩,fun k hk=>?_⟩;rcases List.mem_cons.1 hk with rfl | hk
       ·rw [hset,if_pos rfl]; omega
       ·exact hC1 k (hp3 k hk)
     ·obtain ⟨w,w1,w2,w3⟩:=hb.ap a ha1 hAa;exact ⟨w,hmono w1,w2,fun k hk=>hC1 k (w3 k hk)⟩
theorem scanr1_eq(hS:S.length=m)(hN:N.length=n)(hm:m≤10)(hn:n≤8)(hB:B.length=80)(hU:U.length=80)(hmf:∀a b,a<m→b<n→mf a b=gB B (a*8+b))(ee:Int){i:Nat}(hi:i<m):∀(w f j:Nat){st ln:Nat}{A C Q:List Int},j+w=n→w<f→BS m n mf S N U i j st ln A C Q→gI A i≠-1 →
  (∃j' st' ln' A' C' Q',f23r1n8 f tt ee (i:Int) N p q cs B ls S U st ln (j:Int) A C Q=some (.exit8 st' ln' ((j':Nat):Int) A' C' Q')∧Found m n mf S N U A' C' j') ∨
  ∃st' ln' A' C' Q',f23r1n8 f tt ee (i:Int) N p q cs B ls S U st ln (j:Int) A C Q=some (.exit8 st' ln' ee A' C' Q')∧BS m n mf S N U i n st' ln' A' C' Q'∧ln'+un A' m=ln+un A m
 | _,0,_,_,_,_,_,_,_,h,_,_=>absurd h (Nat.not_lt_zero _)
 | 0,f+1,j,st,ln,A,C,Q,hw,_,hb,_=>by
  have e:j=n:=by omega
  subst e;rw [f23r1n8,decide_eq_false (by omega),cond_false];exact .inr ⟨st,ln,A,C,Q,rfl,hb,rfl⟩
 | w+1,f+1,j,st,ln,A,C,Q,hw,hf,hb,hAi=>by
  rw [f23r1n8,decide_eq_true (by omega),cond_true];rcases oner1_eq tt p q cs ls hS hN hm hn hB hU hmf ee hi (by omega:j<n) hb hAi with ⟨h1,h2⟩|⟨st',ln',A',C',Q',h1,h2,h3,h4⟩
  ·rw [h1];simp only [Option.bind_some,Int.toNat_natCast];exact .inl ⟨j,st,ln,A,_,Q,rfl,h2⟩
  ·rw [h1];simp only [Option.bind_some];rw [Qcd (by omega)];rcases scanr1_eq hS hN hm hn hB hU hmf ee hi w f (j+1) (by omega) (by omega) h2 h4 with ⟨j',st2,ln2,A2,C2,Q2,k1,k2⟩|⟨st2,ln2,A2,C2,Q2,k1,k2,k3⟩
   ·exact .inl ⟨j',st2,ln2,A2,C2,Q2,k1,k2⟩
   ·exact .inr ⟨st2,ln2,A2,C2,Q2,k1,k2,by omega⟩
theorem popr1_eq(hS:S.length=m)(hN:N.length=n)(hm:m≤10)(hn:n≤8)(hB:B.length=80)(hU:U.length=80)(hmf:∀a b,a<m→b<n→mf a b=gB B (a*8+b))(ee:Int){st ln:Nat}{A C Q:List Int}(hb:BS m n mf S N U 100 0 st ln A C Q)(hln:0<ln) :
  (∃j' st' ln' A' C' Q',f23r1n5 tt st ln ee p q cs B ls S N U A C Q=some (.norm st' ln' ((j':Nat):Int) A' C' Q')∧Found m n mf S N U A' C' j') ∨
  ∃st' ln' A' C' Q',f23r1n5 tt st ln ee p q cs B ls S N U A C Q=some (.norm st' ln' ee A' C' Q')∧BS m n mf S N U 100 0 st' ln' A' C' Q'∧ln'+un A' m+1=ln+un A m:=by
 have heq:=hb.eq;obtain ⟨q0,q1,q2,q3⟩:=hb.q;cases q0 with
 | nil=>have:=congrArg List.length q1; rw [List.length_drop] at this; simp [ints] at this; omega
 | cons i q0 =>
  have hlen:(ints (i::q0)).length=ln:=by rw [←q1,List.length_drop]; omega
  unfold f23r1n5;rw [Qaf (decide_eq_true (by omega)),q1,List.take_of_length_le (by omega)];have e0:at? (ints (i::q0)) 0=some (i:Int):=rfl;rw [e0,bd_,Qaf (b:=cutB 1 (ln:Int) ln) (by unfold cutB; exact decide_eq_true (by omega)),show Int.toNat 1=1 from rfl];have hi:=q2 i List.mem_cons_self;have hq2:Q.drop (st+1)=ints q0:=by rw [←List.drop_drop,q1]; rfl
  have hb2:BS m n mf S N U i 0 (st+1) (ln-1) A C Q:={ hb with
   eq:=by omega
   b:=by have:=hb.b; omega
   q:=⟨q0,hq2,fun a ha=>q2 a (List.mem_cons_of_mem _ ha),fun a ha1 ha2=>by
    by_cases e:a=i
    ·exact .inr fun k hk1 hk2 hk3=>absurd (hk2 e) (Nat.not_lt_zero _)
    ·rcases q3 a ha1 ha2 with h | h
     ·rcases List.mem_cons.1 h with h | h
      ·exact absurd h e
      ·exact .inl h
     ·exact .inr fun k hk1 hk2 hk3=>h k hk1 (fun e2=>by omega) hk3⟩ }
  rcases scanr1_eq tt p q cs ls hS hN hm hn hB hU hmf ee hi.1 n FUEL 0 (by omega) (Qz (by omega)) hb2 hi.2 with ⟨j',st2,ln2,A2,C2,Q2,k1,k2⟩|⟨st2,ln2,A2,C2,Q2,k1,k2,k3⟩
  ·rw [show ((0:Nat):Int)=0 from rfl] at k1;rw [k1]; exact .inl ⟨j',st2,ln2,A2,C2,Q2,rfl,k2⟩
  ·rw [show ((0:Nat):Int)=0 from rfl] at k1;rw [k1];refine .inr ⟨st2,ln2,A2,C2,Q2,rfl,{ k2 with q:=?_ },by omega⟩;obtain ⟨w0,w1,w2,w3⟩:=k2.q;exact ⟨w0,w1,w2,fun a ha1 ha2=>(w3 a ha1 ha2).imp id fun h k hk1 hk2 hk3=>h k hk1 (fun _=>hk1) hk3⟩
theorem srchr1_eq(hS:S.length=m)(hN:N.length=n)(hm:m≤10)(hn:n≤8)(hB:B.length=80)(hU:U.length=80)(hmf:∀a b,a<m→b<n→mf a b=gB B (a*8+b)):∀(f:Nat){st ln:Nat}{A C Q:List Int},ln+un A m<f→BS m n mf S N U 100 0 st ln A C Q →
  (∃j' A' C',f23r1n9 (f+1) tt p q cs B ls S N U st ln (-1) A C Q=some (.exit6 ((j':Nat):Int) A' C')∧Found m n mf S N U A' C' j') ∨
  ∃st' A' C' Q',f23r1n9 (f+1) tt p q cs B ls S N U st ln (-1) A C Q=some (.exit6 (-1) A' C')∧BS m n mf S N U 100 0 st' 0 A' C' Q'
 | 0,_,_,_,_,_,h,_=>absurd h (Nat.not_lt_zero _)
 | f+1,st,ln,A,C,Q,h,hb=>by
  rw [f23r1n9,decide_eq_true (by omega:(-1:Int)<0),cond_true]
  by_cases hln:0<ln
  ·rw [decide_eq_true (by omega:(0:Int)<(ln:Int)),cond_true];rcases popr1_eq tt p q cs ls hS hN hm hn hB hU hmf (-1) hb hln with ⟨j',st2,ln2,A2,C2,Q2,k1,k2⟩|⟨st2,ln2,A2,C2,Q2,k1,k2,k3⟩
   ·rw [k1];simp only [Option.bind_some];rw [f23r1n9,decide_eq_false (by omega),cond_false];exact .inl ⟨j',A2,C2,rfl,k2⟩
   ·rw [k1];simp only [Option.bind_some];exact srchr1_eq hS hN hm hn hB hU hmf f (by omega) k2
  ·have e:ln=0:=by omega
   subst e;rw [decide_eq_false (by omega),cond_false];exact .inr ⟨st,A,C,Q,rfl,hb⟩
theorem initr1_eq(hS:S.length=m)(hm:m≤10)(C:List Int):∀(r f i:Nat){A:List Int}{q0:List Nat},i+r=10→r<f→A.length=10→q0.length≤i →
  ∃A' new,f23r1n4 f tt p q cs B ls S N U C (i:Int) A (ints q0)=some (.exit4 A' (ints (q0++new)))∧A'.length=10∧(∀a,a<i→gI A' a=gI A a)∧(∀a,i≤a→a<10→gI A' a=if a<m∧0<gI S a then -2 else -1)∧(∀a∈new,i≤a∧a<m∧0<gI S a)∧new.Nodup∧∀a,i≤a→a<m→0<gI S a→a∈new
 | _,0,_,_,_,_,h,_,_=>absurd h (Nat.not_lt_zero _)
 | 0,f+1,i,A,q0,hi,_,hA,_=>by
  rw [f23r1n4,decide_eq_false (by omega),cond_false];exact ⟨A,[],by rw [List.append_nil],hA,fun _ _=>rfl,fun a h1 h2=>by omega,fun _ h=>(by cases h),List.nodup_nil,fun a h1 h2 _=>by omega⟩
 | r+1,f+1,i,A,q0,hi,hf,hA,hq=>by
  have hiA:i<A.length:=by omega
  have e1:gI (A.set i (-1))=fun a=>if a=i then (-1:Int) else gI A a:=funext fun a=>Qan _ _ hiA;have hlS:(A.set i (-1)).length=10:=by rw [List.length_set]; exact hA
  rw [f23r1n4,decide_eq_true (by omega),cond_true,Qaf (Qbq (by omega)),Int.toNat_natCast,Nat.mul_one,Qaf (decide_eq_true hiA),Qcd (by omega)];have small:(¬(i<m∧0<gI S i))→∃A' new,f23r1n4 f tt p q cs B ls S N U C ((i+1:Nat):Int) (A.set i (-1)) (ints q0)=some (.exit4 A' (ints (q0++new)))∧A'.length=10∧(∀a,a<i→gI A' a=gI A a)∧(∀a,i≤a→a<10→gI A' a=if a<m∧0<gI S a then -2 else -1)∧(∀a∈new,i≤a∧a<m∧0<gI S a)∧new.Nodup∧∀a,i≤a→a<m→0<gI S a→a∈new:=fun hno=>by
   obtain ⟨A',new,g1,g2,g3,g4,g5,g6,g7⟩:=initr1_eq hS hm C r f (i+1) (A:=A.set i (-1)) (q0:=q0) (by omega) (by omega) hlS (by omega);refine ⟨A',new,g1,g2,fun a ha=>?_,fun a h1 h2=>?_,fun a ha=>⟨by have:=(g5 a ha).1; omega,(g5 a ha).2⟩,g6,fun a h1 h2 h3=>g7 a (by by_cases e:a=i; subst e; exact absurd ⟨h2,h3⟩ hno; omega) h2 h3⟩
   ·rw [g3 a (by omega),e1]; exact if_neg (by omega)
   ·by_cases e:a=i
    ·subst e; rw [g3 a (by omega),e1,if_neg hno]; exact if_pos rfl
    ·exact g4 a (by omega) h2
  by_cases him:i<m
  ·rw [decide_eq_true (by omega),cond_true,at_gI (by omega),bd_]
   by_cases hpos:0<gI S i
   ·have hl2:((A.set i (-1)).set i (-2)).length=10:=by rw [List.length_set]; exact hlS
    have e2:gI ((A.set i (-1)).set i (-2))=fun a=>if a=i then (-2:Int) else gI A a:=funext fun a=>by
     rw [Qan _ _ (by omega),e1]
     by_cases e:a=i
     ·rw [if_pos e,if_pos e]
     ·rw [if_neg e,if_neg e]; exact if_neg e
    rw [decide_eq_true hpos,cond_true,Qaf (decide_eq_true (by omega)),Qaf (Qbd (by rw [ints_len]; omega) (by omega))];have hqe:ints q0++[(i:Int)]=ints (q0++[i]):=by rw [ints_app]; rfl
    rw [hqe];obtain ⟨A',new,g1,g2,g3,g4,g5,g6,g7⟩:=initr1_eq hS hm C r f (i+1) (A:=(A.set i (-1)).set i (-2)) (q0:=q0++[i]) (by omega) (by omega) hl2 (by simp; omega);refine ⟨A',[i]++new,by rw [g1,List.append_assoc],g2,fun a ha=>?_,fun a h1 h2=>?_,fun a ha=>?_,?_,fun a h1 h2 h3=>?_⟩
    ·rw [g3 a (by omega),e2]; exact if_neg (by omega)
    ·by_cases e:a=i
     ·subst e; rw [g3 a (by omega),e2,if_pos ⟨him,hpos⟩]; exact if_pos rfl
     ·exact g4 a (by omega) h2
    ·rcases List.mem_append.1 ha with ha | ha
     ·rw [List.mem_singleton] at ha;subst ha; exact ⟨Nat.le_refl _,him,hpos⟩
     ·exact ⟨by have:=(g5 a ha).1; omega,(g5 a ha).2⟩
    ·exact List.nodup_cons.2 ⟨fun h=>by have:=(g5 i h).1; omega,g6⟩
    ·by_cases e:a=i
     ·subst e; exact List.mem_append_left _ (List.mem_singleton.2 rfl)
     ·exact List.mem_append_right _ (g7 a (by omega) h2 h3)
   ·rw [decide_eq_false hpos,cond_false];exact small (fun h=>hpos h.2)
  ·rw [decide_eq_false (by omega),cond_false];exact small (fun h=>him h.1)
theorem leastr1_eq(hS:S.length=m)(hm:m≤10)(hn:n≤8)(hU:U.length=80)(ee:Int){A C:List Int}(hA:A.length=10)(hC:C.length=8):∀(w:List Nat)(f i j:Nat)(v:Int),w.length<f→j<n→gI C j=(i:Int)→AP m n mf S U A C 1 w i→1≤v →
  ∃c,f23r1n11 f tt ee p q cs B ls S N U A C v (j:Int)=some (.exit12 c)∧1≤c∧c≤v∧AP m n mf S U A C c w i
 | _,0,_,_,_,h,_,_,_,_=>absurd h (Nat.not_lt_zero _)
 | [],f+1,i,j,v,_,hj,hCj,hap,hv=>by
  obtain ⟨h1,h2,h3⟩:=hap;have hmn:=mnI_le v (gI S i);rw [f23r1n11,Qaf (Qbq (by omega)),Int.toNat_natCast,Nat.mul_one,Qcc (by omega),bd_,hCj,Qaf (Qbq (by omega)),Int.toNat_natCast,Nat.mul_one,Qcc (by omega),bd_,h2,decide_eq_true rfl,cond_true,at_gI (by omega),bd_];exact ⟨mnI v (gI S i),rfl,by omega,by omega,h1,h2,by omega⟩
 | k::w,f+1,i,j,v,hf,hj,hCj,hap,hv=>by
  obtain ⟨h1,h2,h3,h4,i',h5,h6,h7⟩:=hap;have hmn:=mnI_le v (gI U (i*8+k));rw [f23r1n11,Qaf (Qbq (by omega)),Int.toNat_natCast,Nat.mul_one,Qcc (by omega),bd_,hCj,Qaf (Qbq (by omega)),Int.toNat_natCast,Nat.mul_one,Qcc (by omega),bd_,h2,decide_eq_false (by omega),cond_false,Qaf (Qbq (by omega)),Int.toNat_natCast,Nat.mul_one,Qcc (by omega),bd_];obtain ⟨c,k1,k2,k3,k4⟩:=leastr1_eq hS hm hn hU ee hA hC w f i' k (mnI v (gI U (i*8+k))) (by simpa using hf) h3 h5 h7 (by omega);exact ⟨c,k1,k2,by omega,h1,h2,h3,by omega,i',h5,h6,k4⟩
theorem augr1_eq(hS:S.length=m)(hm:m≤10)(hn:n≤8)(ee ne c:Int)(hc:1≤c∧c≤68719476736)(hSb:∀i,i<m→gI S i≤68719476736){A C:List Int}(hA:A.length=10)(hC:C.length=8):∀(w:List Nat)(f i j:Nat){U:List Int},U.length=80→w.length<f→j<n→gI C j=(i:Int)→mf i j=true→AP m n mf S U A C c w i→(j::w).Nodup →
   (∀a b,a<m→b<n→0≤XU U a b)→(∀a b,a<m→b<n→XU U a b≠0→mf a b=true)→(∀b∈j::w,∀a,a<m→XU U a b≤68719476736) →
  ∃ s U', f23r1n13 f tt c p q cs B ls S N ee ne A C (j : Int) U = some (.exit14 (S.set s (gI S s - c)) U') ∧ s < m ∧ c ≤ gI S s ∧ U'.length = 80 ∧
   (∀a,a<m→sN n (XU U' a)=sN n (XU U a)+(if a=s then c else 0))∧(∀b,b<n→sN m (fun a=>XU U' a b)=sN m (fun a=>XU U a b)+(if b=j then c else 0)) ∧
   (∀a b,a<m→b<n→0≤XU U' a b)∧(∀a b,a<m→b<n→XU U' a b≠0→mf a b=true)
 | _,0,_,_,_,_,h,_,_,_,_,_,_,_,_=>absurd h (Nat.not_lt_zero _)
 | [],f+1,i,j,U,hU,_,hj,hCj,hmf,hap,_,hnn,hsup,hbd=>by
  obtain ⟨h1,h2,h3⟩:=hap;have hx:=hnn i j h1 hj;have hx2:=hbd j List.mem_cons_self i h1;have hs:=hSb i h1;have e1:wr64 (gI U (i*8+j)+c)=gI U (i*8+j)+c:=wrIn (by show _≤XU U i j+c; omega) (by show XU U i j+c≤_; omega);have e2:wr64 (gI S i-c)=gI S i-c:=wrIn (by omega) (by omega);rw [f23r1n13,Qaf (Qbq (by omega)),Int.toNat_natCast,Nat.mul_one,Qcc (by omega),bd_,hCj,Qaf (Qbq (by omega)),Int.toNat_natCast,Qcc (by omega),bd_,Nat.mul_one,Qcc (by omega),bd_,h2,decide_eq_true rfl,cond_true,at_gI (by omega),bd_,e1,e2];refine ⟨i,_,rfl,h1,h3,by rw [List.length_set]; exact hU,fun a ha=>?_,fun b hb=>?_,fun a b ha hb=>?_,fun a b ha hb=>?_⟩
  ·rw [row_set hU hn (by omega) hj _ (by omega)]
   by_cases e:a=i
   ·rw [if_pos e,if_pos e]; show _+(XU U i j+c-XU U i j)=_; omega
   ·rw [if_neg e,if_neg e]
  ·rw [col_set hU hm h1 (by omega) _ (by omega)]
   by_cases e:b=j
   ·rw [if_pos e,if_pos e]; show _+(XU U i j+c-XU U i j)=_; omega
   ·rw [if_neg e,if_neg e]
  ·rw [XU_set hU (by omega) (by omega) (by omega) (by omega)];have:=hnn a b ha hb
   split
   ·show 0≤XU U i j+c; omega
   ·exact this
  ·rw [XU_set hU (by omega) (by omega) (by omega) (by omega)]
   split
   ·rename_i e;intro _;rw [e.1,e.2]; exact hmf
   ·exact hsup a b ha hb
 | k::w,f+1,i,j,U,hU,hf,hj,hCj,hmf,hap,hnd,hnn,hsup,hbd=>by
  obtain ⟨h1,h2,h3,h4,i',h5,h6,h7⟩:=hap;have hx:=hnn i j h1 hj;have hx2:=hbd j List.mem_cons_self i h1;have hk2:=hbd k (List.mem_cons_of_mem _ List.mem_cons_self) i h1;have hnd1:=List.nodup_cons.1 hnd;have hnd2:=List.nodup_cons.1 hnd1.2;have hjk:k≠j:=fun e=>hnd1.1 (e ▸ List.mem_cons_self);have e1:wr64 (gI U (i*8+j)+c)=gI U (i*8+j)+c:=wrIn (by show _≤XU U i j+c; omega) (by show XU U i j+c≤_; omega);have hU1:(U.set (i*8+j) (gI U (i*8+j)+c)).length=80:=by rw [List.length_set]; exact hU
  have hk1:gI (U.set (i*8+j) (gI U (i*8+j)+c)) (i*8+k)=gI U (i*8+k):=by
   have:=XU_set hU (i:=i) (j:=j) (a:=i) (b:=k) (by omega) (by omega) (by omega) (by omega) (gI U (i*8+j)+c);rw [if_neg (fun h=>hjk h.2)] at this;exact this
  have e2:wr64 (gI U (i*8+k)-c)=gI U (i*8+k)-c:=wrIn (by omega) (by show XU U i k-c≤_; omega);rw [f23r1n13,Qaf (Qbq (by omega)),Int.toNat_natCast,Nat.mul_one,Qcc (by omega),bd_,hCj,Qaf (Qbq (by omega)),Int.toNat_natCast,Qcc (by omega),bd_,Nat.mul_one,Qcc (by omega),bd_,h2,decide_eq_false (by omega),cond_false,Qaf (Qbq (by omega)),e1,Int.toNat_natCast,Nat.mul_one,Qcc (by omega),bd_,hk1,e2];have hX2:∀a b,a<m→b<n→XU ((U.set (i*8+j) (gI U (i*8+j)+c)).set (i*8+k) (gI U (i*8+k)-c)) a b=if a=i∧b=k then XU U i k-c else if a=i∧b=j then XU U i j+c else XU U a b:=fun a b ha hb=>by
   rw [XU_set hU1 (by omega) (by omega) (by omega) (by omega),XU_set hU (by omega) (by omega) (by omega) (by omega)]
  have hXw:∀b∈w,∀a,a<m→b<n→XU ((U.set (i*8+j) (gI U (i*8+j)+c)).set (i*8+k) (gI U (i*8+k)-c)) a b=XU U a b:=fun b hb a ha hbn=>by
   rw [hX2 a b ha hbn,if_neg (fun (e:a=i∧b=k)=>hnd2.1 (e.2 ▸ hb)),if_neg (fun (e:a=i∧b=j)=>hnd1.1 (e.2 ▸ List.mem_cons_of_mem _ hb))]
  have hwn:=h7.lt8;obtain ⟨s,U',g1,g2,g3,g4,g5,g6,g7,g8⟩:=augr1_eq hS hm hn ee ne c hc hSb hA hC w f i' k (U:=(U.set (i*8+j) (gI U (i*8+j)+c)).set (i*8+k) (gI U (i*8+k)-c)) (by rw [List.length_set]; exact hU1) (by simpa using hf) h3 h5 h6 (h7.keep fun b hb a ha=>hXw b hb a ha (hwn b hb)) hnd1.2
   (fun a b ha hb=>by
    rw [hX2 a b ha hb];have:=hnn a b ha hb
    split
    ·show 0≤gI U (i*8+k)-c; omega
    ·split
     ·omega
     ·exact this)
   (fun a b ha hb=>by
    rw [hX2 a b ha hb]
    split
    ·rename_i e;intro _;rw [e.1,e.2];exact hsup i k h1 h3 (by show gI U (i*8+k)≠0; omega)
    ·split
     ·rename_i e;intro _;rw [e.1,e.2]; exact hmf
     ·exact hsup a b ha hb)
   (fun b hb a ha=>by
    rcases List.mem_cons.1 hb with e | hb
    ·subst e;rw [hX2 a b ha h3];have:=hbd b (List.mem_cons_of_mem _ List.mem_cons_self) a ha
     split
     ·omega
     ·rw [if_neg (fun e=>hjk e.2)]; exact this
    ·rw [hXw b hb a ha (hwn b hb)];exact hbd b (List.mem_cons_of_mem _ (List.mem_cons_of_mem _ hb)) a ha)
  refine ⟨s,U',g1,g2,g3,g4,fun a ha=>?_,fun b hb=>?_,g7,g8⟩
  ·rw [g5 a ha,row_set hU1 hn (by omega) h3 _ (by omega),row_set hU hn (by omega) hj _ (by omega)]
   by_cases e:a=i
   ·rw [if_pos e,if_pos e];have:XU (U.set (i*8+j) (gI U (i*8+j)+c)) i k=gI U (i*8+k):=hk1;rw [this];show _+(XU U i j+c-XU U i j)+_+_=_;omega
   ·rw [if_neg e,if_neg e]; omega
  ·rw [g6 b hb,col_set hU1 hm h1 (by omega) _ (by omega),col_set hU hm h1 (by omega) _ (by omega)];have hk3:XU (U.set (i*8+j) (gI U (i*8+j)+c)) i k=gI U (i*8+k):=hk1;rw [hk3]
   by_cases e:b=k
   ·have:b≠j:=fun e2=>hjk (e.symm.trans e2);rw [if_pos e,if_pos e,if_neg this,if_neg this]; omega
   ·rw [if_neg e,if_neg e]
    by_cases e2:b=j
    ·rw [if_pos e2,if_pos e2]; show _+(XU U i j+c-XU U i j)+_+_=_; omega
    ·rw [if_neg e2,if_neg e2]; omega
theorem mainr1_eq(hB:B.length=80)(hmf:∀a b,a<m→b<n→mf a b=gB B (a*8+b)):∀(f:Nat){S N U:List Int}{tt:Int},FS m n s0 d0 mf S N U tt→(549755813888-tt).toNat<f→∃v,f23r1n14 f p q cs B ls tt S N U=some (.ret v)∧IsMin m n s0 d0 mf v
 | 0,_,_,_,_,_,h=>absurd h (Nat.not_lt_zero _)
 | f+1,S,N,U,tt,hF,hf=>by
  have hm:=hF.m10;have hn:=hF.n8;have hU:=hF.ul;have hSl:=hF.sl;have hNl:=hF.nl;obtain ⟨A0,new,i1,i2,_,i4,i5,i6,i7⟩:=initr1_eq (N:=N) (U:=U) tt p q cs ls (B:=B) hSl hm (List.replicate 8 (-1)) 10 FUEL 0 (A:=List.replicate 10 0) (q0:=[]) (by omega) (Qz (by omega)) (by simp) (by simp);rw [List.nil_append] at i1;have i1':f23r1n4 FUEL tt p q cs B ls S N U (List.replicate 8 (-1)) 0 (List.replicate 10 0) []=some (.exit4 A0 (ints new)):=i1;have hA0:∀a,a<m→(gI A0 a≠-1↔0<gI S a):=fun a ha=>by
   rw [i4 a (Nat.zero_le _) (by omega)]
   by_cases h:0<gI S a
   ·rw [if_pos ⟨ha,h⟩]; simp [h]
   ·rw [if_neg (fun k=>h k.2)]; simp [h]
  have hb0:BS m n mf S N U 100 0 0 (ints new).length A0 (List.replicate 8 (-1)) (ints new):=by
   refine ⟨i2,by simp,by omega,⟨new,rfl,fun a ha=>⟨(i5 a ha).2.1,(hA0 a (i5 a ha).2.1).2 (i5 a ha).2.2⟩,fun a ha1 ha2=>.inl ?_⟩,fun a ha1 ha2=>(hA0 a ha1).2 ha2,fun k hk=>.inl (gI_rep 8 _ k (by omega)),fun k hk hk2=>?_,fun k hk hk2=>?_,fun a ha1 ha2=>?_,?_⟩
   ·refine Classical.byContradiction fun hno=>?_;have h2:=(hA0 a ha1).1 ha2;exact hno (i7 a (Nat.zero_le _) ha1 h2)
   ·rw [gI_rep 8 _ k (by omega)] at hk2; omega
   ·rw [gI_rep 8 _ k (by omega)] at hk2; omega
   ·have h2:=(hA0 a ha1).1 ha2;exact ⟨[],⟨ha1,by rw [i4 a (Nat.zero_le _) (by omega),if_pos ⟨ha1,h2⟩],by omega⟩,List.nodup_nil,fun _ h=>(by cases h)⟩
   ·rw [ints_len];exact nd_un A0 m new i6 fun a ha=>⟨(i5 a ha).2.1,(hA0 a (i5 a ha).2.1).2 (i5 a ha).2.2⟩
  have hnn:=hF.fl.nn;have hrow0:∀a,a<m→0≤sN n (XU U a):=fun a ha=>sN_nn fun b hb=>hnn a b ha hb;have hcol0:∀b,b<n→0≤sN m (fun a=>XU U a b):=fun b hb=>sN_nn fun a ha=>hnn a b ha hb;have e3:f23r1n3 tt p q cs B ls S N U (List.replicate 8 (-1))=some (.norm A0 (ints new)):=by
   unfold f23r1n3;rw [i1']; rfl
  rw [f23r1n14,callsr1_eq];simp only [Option.bind_some];rw [e3];simp only [Option.bind_some];rcases srchr1_eq (N:=N) (U:=U) tt p q cs ls (B:=B) hSl hNl hm hn hB hU hmf 18446744073709551615 (st:=0) (by have:=hb0.b; omega) hb0 with ⟨j,A',C',k1,hfd⟩|⟨st',A',C',Q',k1,hb⟩
  ·have k1':f23r1n9 FUEL tt p q cs B ls S N U 0 (ints new).length (-1) A0 (List.replicate 8 (-1)) (ints new)=_:=k1;obtain ⟨hj,hNj,hAl,hCl,i,w,hCj,hmij,hap,hnd⟩:=hfd;have hNv:=hF.nv j hj;have hdb:=hF.db j hj;have hc0:=hcol0 j hj;have hwl:w.length≤8:=nd_len 8 w (List.nodup_cons.1 hnd).2 fun x hx=>by have:=hap.lt8 x hx; omega
   rw [k1'];simp only [Option.bind_some];rw [decide_eq_false (by omega),cond_false,at_gI (by omega),bd_];obtain ⟨c,c1,c2,c3,c4⟩:=leastr1_eq (N:=N) tt p q cs ls (B:=B) hSl hm hn hU ((j:Nat):Int) hAl hCl w FUEL i j (gI N j) (Qz (by omega)) hj hCj hap (by omega);have e10:f23r1n10 tt ((j:Nat):Int) (gI N j) p q cs B ls S N U A' C'=some (.norm c):=by
    unfold f23r1n10;rw [c1]; rfl
   rw [e10];simp only [Option.bind_some];obtain ⟨s,U',g1,g2,g3,g4,g5,g6,g7,g8⟩:=augr1_eq (N:=N) tt p q cs ls (B:=B) hSl hm hn ((j:Nat):Int) (gI N j) c (by omega) (fun a ha=>by have:=hF.sv a ha; have:=hF.sb a ha; have:=hrow0 a ha; omega) hAl hCl w FUEL i j hU (Qz (by omega)) hj hCj hmij c4 hnd hnn hF.fl.may (fun b hb a ha=>by
    have hbn:b<n:=by
     rcases List.mem_cons.1 hb with rfl | hb
     ·exact hj
     ·exact hap.lt8 b hb
    have q1:=sN_ge (f:=XU U a) hbn fun b' hb'=>hnn a b' ha hb';have q2:=hF.fl.row a ha;have q3:=hF.sb a ha;omega)
   have e12:f23r1n12 tt ((j:Nat):Int) c p q cs B ls S N (gI N j) U A' C'=some (.norm (S.set s (gI S s-c)) U'):=by
    unfold f23r1n12;rw [g1]; rfl
   rw [e12];simp only [Option.bind_some,Int.toNat_natCast];have hsS:s<S.length:=by omega
   have hjN:j<N.length:=by omega
   have hfl':Flw m n s0 d0 mf (XU U'):=⟨g7,g8,fun a ha=>by
    rw [g5 a ha];have q2:=hF.fl.row a ha
    by_cases e:a=s
    ·subst e; rw [if_pos rfl]; have:=hF.sv a ha; omega
    ·rw [if_neg e]; omega,fun b hb=>by
    rw [g6 b hb];have q2:=hF.fl.col b hb
    by_cases e:b=j
    ·subst e; rw [if_pos rfl]; omega
    ·rw [if_neg e]; omega⟩
   have htot:Flo.tot m n (XU U')=tt+c:=by
    rw [hF.tv];unfold Flo.tot;rw [Qaa (g:=fun a=>sN n (XU U a)+(if a=s then c else 0)) fun a ha=>g5 a ha,sN_add1 (fun a=>sN n (XU U a)),if_pos g2]
   have hle:Flo.tot m n (XU U')≤549755813888:=by
    have q1:=tot_le hfl';have q2:=sN_bd (f:=d0) (b:=68719476736) (n:=n) fun b hb=>(hF.db b hb).2;omega
   have htt0:0≤tt:=by
    rw [hF.tv];exact sN_nn hrow0
   have ew:wr64 (tt+c)=tt+c:=wrIn (by omega) (by omega);have ewN:wr64 (gI N j-c)=gI N j-c:=wrIn (by omega) (by omega);rw [ew,ewN];refine mainr1_eq hB hmf f ⟨hm,hn,by rw [List.length_set]; exact hSl,by rw [List.length_set]; exact hNl,g4,hfl',fun a ha=>?_,fun b hb=>?_,htot.symm,hF.sb,hF.db⟩ (by omega)
   ·rw [Qan _ _ hsS,g5 a ha];have:=hF.sv a ha
    by_cases e:a=s
    ·subst e; rw [if_pos rfl,if_pos rfl]; omega
    ·rw [if_neg e,if_neg e]; omega
   ·rw [Qan _ _ hjN,g6 b hb];have:=hF.nv b hb
    by_cases e:b=j
    ·subst e; rw [if_pos rfl,if_pos rfl]; omega
    ·rw [if_neg e,if_neg e]; omega
  ·have k1':f23r1n9 FUEL tt p q cs B ls S N U 0 (ints new).length (-1) A0 (List.replicate 8 (-1)) (ints new)=_:=k1;rw [k1'];simp only [Option.bind_some];rw [decide_eq_true (by omega),cond_true];refine ⟨tt,rfl,?_⟩;have hst:=hF.fl.stop (fun i=>decide (gI A' i≠-1)) (fun j=>decide (0≤gI C' j)) (fun a ha h=>by
     refine decide_eq_true (hb.a2 a ha ?_);have:=hF.sv a ha; omega) (fun a b ha hb' h1 h2=>by
     obtain ⟨q0,q1,q2,q3⟩:=hb.q;have hq0:q0=[]:=by
      have:=congrArg List.length q1;rw [List.length_drop,ints_len] at this;have:=hb.eq;exact List.eq_nil_of_length_eq_zero (by omega)
     rcases q3 a ha (of_decide_eq_true h1) with h | h
     ·rw [hq0] at h; cases h
     ·exact decide_eq_true (h b hb' (fun e=>by omega) h2)) (fun b hb' h=>by
     have h1:=hb.c2 b hb' (of_decide_eq_true h);have h2:=hF.nv b hb';have h3:=hF.fl.col b hb';omega) (fun a b ha hb' h1 h2=>decide_eq_true (hb.c3 b hb' (of_decide_eq_true h1) a ha h2))
   rw [hF.tv];exact hF.fl.min hst
end
theorem flowr1_eq{p q:List Int}{B:List Bool}(k:Nat)(cs:List AC)(ls:List AA)(hk:k≤p.length)(hk2:k≤10)(hn:q.length≤8)(hB:B.length=80)(hp:∀i,i<k→0≤gI p i∧gI p i≤68719476736)(hq:∀j,j<q.length→0≤gI q j∧gI q j≤68719476736) :
  ∃v,f23r1 k p q cs B ls=some v∧IsMin k q.length (gI p) (gI q) (fun a b=>gB B (a*8+b)) v:=by
 obtain ⟨v,h1,h2⟩:=mainr1_eq (mf:=fun a b=>gB B (a*8+b)) p q cs ls hB (fun _ _ _ _=>rfl) FUEL (FS.start (mf:=fun a b=>gB B (a*8+b)) (S:=p.take k) hk2 hn (by rw [List.length_take]; omega) rfl (fun i hi=>gI_take hi) (fun _ _=>rfl) hp hq) (by decide);refine ⟨v,?_,h2⟩;unfold f23r1 f23r1n0;rw [f45_pre hk (by omega),bd_,f45_id (by omega),bd_,h1]; rfl
section
variable {m n:Nat} {mf:Nat→Nat→Bool} {s0 d0:Nat→Int} {B:List Bool} {S N U:List Int} (tt:Int) (p q:List Int) (cs:List AC) (ls:List AA) (xr:List Int)
theorem callsr2_eq:f23r2n1 tt p q cs B ls xr S N U=some (.norm (List.replicate 8 (-1))):=by
 unfold f23r2n1;have:f23r2n2 FUEL tt p q cs B ls xr S N U 0 (List.replicate 8 0)=some (.exit2 (List.replicate 8 (-1))):=by rfl
 rw [this]; rfl
theorem innerr2_eq(hS:S.length=m)(hm:m≤10)(hUl:U.length=80){j:Nat}(hj:j<8)(i ee:Int)(C:List Int):∀(r f k:Nat){st ln:Nat}{A Q:List Int}{q0:List Nat},k+r=m→r<f→A.length=10→st+ln=Q.length→Q.drop st=ints q0→ln+un A m≤10 →
  ∃ st' ln' A' Q' new, f23r2n7 f tt ee i (j : Int) N S p q cs B ls xr U C st ln (k : Int) A Q = some (.exit10 st' ln' A' Q') ∧ A'.length = 10 ∧ st' + ln' = Q'.length ∧ Q'.drop st' = ints (q0 ++ new) ∧ ln' + un A' m = ln + un A m ∧
   (∀a,a<m→gI A a≠-1→gI A' a=gI A a)∧(∀a,a<m→gI A a = -1→gI A' a = -1∨(gI A' a=(j:Int)∧0<gI U (a*8+j)∧a∈new))∧(∀a∈new,a<m∧gI A' a≠-1)∧(∀a,k≤a→a<m→0<gI U (a*8+j)→gI A' a≠-1)
 | _,0,_,_,_,_,_,_,_,h,_,_,_,_=>absurd h (Nat.not_lt_zero _)
 | 0,f+1,k,st,ln,A,Q,q0,hk,_,hA,hq,hQ,hb=>by
  rw [f23r2n7,decide_eq_false (by omega),cond_false];exact ⟨st,ln,A,Q,[],rfl,hA,hq,by rw [List.append_nil]; exact hQ,rfl,fun _ _ _=>rfl,fun _ _ h=>.inl h,fun _ h=>(by cases h),fun a h1 h2 _=>by omega⟩
 | r+1,f+1,k,st,ln,A,Q,q0,hk,hf,hA,hq,hQ,hb=>by
  have hkA:k<A.length:=by omega
  rw [f23r2n7,decide_eq_true (by omega),cond_true,Qaf (Qbq (by omega)),Int.toNat_natCast,Nat.mul_one,Qcc hkA,bd_,Qcd (by omega)]
  by_cases h1:gI A k = -1
  ·rw [decide_eq_true h1,cond_true,Qaf (Qbq hj),Int.toNat_natCast,Nat.mul_one,Qcc (by omega),bd_]
   by_cases h2:0<gI U (k*8+j)
   ·rw [decide_eq_true h2,cond_true,Qaf (Qbd (by omega) (by omega)),Qaf (decide_eq_true hq)];have hun:=un_set hkA h1 (v:=(j:Int)) (by omega) m;rw [decide_eq_true (by omega:k<m)] at hun;simp only [cond_true] at hun;have hqn:Q.drop st++[(k:Int)]=ints (q0++[k]):=by rw [hQ,ints_app]; rfl
    have hln:(Q.drop st++[(k:Int)]).length=ln+1:=by rw [List.length_append,List.length_drop]; simp; omega
    obtain ⟨st',ln',A',Q',new,g1,g2,g3,g4,g5,g6,g7,g8,g9⟩:=innerr2_eq hS hm hUl hj i ee C r f (k+1) (st:=0) (ln:=(Q.drop st++[(k:Int)]).length) (A:=A.set k (j:Int)) (Q:=Q.drop st++[(k:Int)]) (q0:=q0++[k]) (by omega) (by omega) (by rw [List.length_set]; exact hA) (by omega) (by rw [List.drop_zero]; exact hqn) (by omega);have hkv:gI A' k=(j:Int):=by
     rw [g6 k (by omega) (by rw [Qan _ _ hkA,if_pos rfl]; omega),Qan _ _ hkA,if_pos rfl]
    refine ⟨st',ln',A',Q',[k]++new,g1,g2,g3,by rw [g4,List.append_assoc],by omega,fun a ha hne=>?_,fun a ha he=>?_,fun a ha=>?_,fun a ha1 ha2 ha3=>?_⟩
    ·have hne2:a≠k:=fun e=>hne (e ▸ h1);have:=g6 a ha (by rw [Qan _ _ hkA,if_neg hne2]; exact hne);rw [this,Qan _ _ hkA,if_neg hne2]
    ·by_cases e:a=k
     ·subst e; exact .inr ⟨hkv,h2,by simp⟩
     ·rcases g7 a ha (by rw [Qan _ _ hkA,if_neg e]; exact he) with h | ⟨h3,h4,h5⟩
      ·exact .inl h
      ·exact .inr ⟨h3,h4,List.mem_append_right _ h5⟩
    ·rcases List.mem_append.1 ha with ha | ha
     ·rw [List.mem_singleton] at ha;subst ha;exact ⟨by omega,by rw [hkv]; omega⟩
     ·exact g8 a ha
    ·by_cases e:a=k
     ·subst e; rw [hkv]; omega
     ·exact g9 a (by omega) ha2 ha3
   ·rw [decide_eq_false h2,cond_false];obtain ⟨st',ln',A',Q',new,g1,g2,g3,g4,g5,g6,g7,g8,g9⟩:=innerr2_eq hS hm hUl hj i ee C r f (k+1) (by omega) (by omega) hA hq hQ hb;refine ⟨st',ln',A',Q',new,g1,g2,g3,g4,g5,g6,g7,g8,fun a ha1 ha2 ha3=>?_⟩
    by_cases e:a=k
    ·subst e; exact absurd ha3 h2
    ·exact g9 a (by omega) ha2 ha3
  ·rw [decide_eq_false h1,cond_false];obtain ⟨st',ln',A',Q',new,g1,g2,g3,g4,g5,g6,g7,g8,g9⟩:=innerr2_eq hS hm hUl hj i ee C r f (k+1) (by omega) (by omega) hA hq hQ hb;refine ⟨st',ln',A',Q',new,g1,g2,g3,g4,g5,g6,g7,g8,fun a ha1 ha2 ha3=>?_⟩
   by_cases e:a=k
   ·subst e; rw [g6 a ha2 h1]; exact h1
   ·exact g9 a (by omega) ha2 ha3
theorem oner2_eq(hS:S.length=m)(hN:N.length=n)(hm:m≤10)(hn:n≤8)(hB:B.length=80)(hU:U.length=80)(hmf:∀a b,a<m→b<n→mf a b=gB B (a*8+b))(ee:Int){i j st ln:Nat}{A C Q:List Int}(hi:i<m)(hj:j<n)(hb:BS m n mf S N U i j st ln A C Q)(hAi:gI A i≠-1) :
  (f23r2n6 tt st ln ee (i:Int) N (j:Int) p q cs B ls xr S U A C Q=some .exit8∧Found m n mf S N U A (C.set (j*1) (i:Int)) j) ∨
  ∃st' ln' A' C' Q',f23r2n6 tt st ln ee (i:Int) N (j:Int) p q cs B ls xr S U A C Q=some (.norm st' ln' A' C' Q')∧BS m n mf S N U i (j+1) st' ln' A' C' Q'∧ln'+un A' m=ln+un A m∧gI A' i≠-1:=by
 obtain ⟨pp,hp1,hp2,hp3⟩:=hb.ap i hi hAi;have hcl:=hb.cl;unfold f23r2n6;rw [Qaf (Qbq (by omega)),Qaf (Qbq (by omega)),Int.toNat_natCast,Int.toNat_natCast,Nat.mul_one,gB_at (by omega),bd_,←hmf i j hi hj];cases hmij:mf i j with
 | false =>
  refine .inr ⟨st,ln,A,C,Q,rfl,{ hb with q:=?_ },rfl,hAi⟩;obtain ⟨q0,q1,q2,q3⟩:=hb.q;refine ⟨q0,q1,q2,fun a ha1 ha2=>(q3 a ha1 ha2).imp id fun h k hk1 hk2 hk3=>?_⟩;refine h k hk1 (fun e=>?_) hk3;have:=hk2 e;have:k≠j:=fun e2=>by rw [e,e2,hmij] at hk3; cases hk3
  omega
 | true =>
  rw [cond_true,Qcc (by omega),bd_]
  by_cases hC:0≤gI C j
  ·rw [decide_eq_true hC,cond_true];refine .inr ⟨st,ln,A,C,Q,rfl,{ hb with q:=?_ },rfl,hAi⟩;obtain ⟨q0,q1,q2,q3⟩:=hb.q;refine ⟨q0,q1,q2,fun a ha1 ha2=>(q3 a ha1 ha2).imp id fun h k hk1 hk2 hk3=>?_⟩
   by_cases e:k=j
   ·subst e; exact hC
   ·exact h k hk1 (fun e2=>by have:=hk2 e2; omega) hk3
  ·have hCj:gI C j = -1:=(hb.cv j hj).elim id fun h=>absurd h hC;have hjp:j∉pp:=fun h=>hC (hp3 j h);have hset:∀k,gI (C.set j (i:Int)) k=if k=j then (i:Int) else gI C k:=fun k=>Qan _ _ (by omega);rw [decide_eq_false hC,cond_false,at_gI (by omega),bd_]
   by_cases hNj:0<gI N j
   ·rw [decide_eq_true hNj,cond_true];refine .inl ⟨rfl,hj,hNj,hb.al,by rw [List.length_set]; exact hcl,i,pp,by rw [hset,if_pos rfl],hmij,?_,List.nodup_cons.2 ⟨hjp,hp2⟩⟩;exact hp1.mono (fun _ _ _=>rfl) fun k hk hk2=>by rw [hset,if_neg (fun e=>by rw [e] at hk2; exact hC hk2)]
   ·rw [decide_eq_false hNj,cond_false];obtain ⟨q0,q1,q2,q3⟩:=hb.q;obtain ⟨st',ln',A',Q',new,g1,g2,g3,g4,g5,g6,g7,g8,g9⟩:=innerr2_eq tt p q cs ls xr (B:=B) hS hm hU (j:=j) (by omega) (i:Int) ee C (N:=N) m FUEL 0 (by omega) (Qz (by omega)) hb.al hb.eq q1 (by have:=hb.b; omega);rw [show ((0:Nat):Int)=0 from rfl] at g1;rw [g1];have hA1:∀a,a<m→gI A a≠-1→gI A' a≠-1:=fun a ha h=>by rw [g6 a ha h]; exact h
    have hC1:∀k,0≤gI C k→0≤gI (C.set j (i:Int)) k:=fun k hk=>by
     rw [hset]
     by_cases e:k=j
     ·rw [if_pos e]; omega
     ·rw [if_neg e]; exact hk
    have hmono:∀{c:Int} {w:List Nat} {a:Nat},AP m n mf S U A C c w a→AP m n mf S U A' (C.set j (i:Int)) c w a:=fun h=>h.mono g6 fun k hk hk2=>by rw [hset,if_neg (fun e=>by rw [e] at hk2; exact hC hk2)]
    refine .inr ⟨st',ln',A',C.set j (i:Int),Q',rfl,⟨g2,by rw [List.length_set]; exact hcl,g3,⟨q0++new,g4,fun a ha=>?_,fun a ha1 ha2=>?_⟩,fun a ha1 ha2=>hA1 a ha1 (hb.a2 a ha1 ha2),fun k hk=>?_,fun k hk hk2=>?_,fun k hk hk2 a ha1 ha2=>?_,fun a ha1 ha2=>?_,by have:=hb.b; omega⟩,g5,hA1 i hi hAi⟩
    ·rcases List.mem_append.1 ha with ha | ha
     ·exact ⟨(q2 a ha).1,hA1 a (q2 a ha).1 (q2 a ha).2⟩
     ·exact g8 a ha
    ·by_cases hAa:gI A a = -1
     ·rcases g7 a ha1 hAa with h | ⟨_,_,h⟩
      ·exact absurd h ha2
      ·exact .inl (List.mem_append_right _ h)
     ·rcases q3 a ha1 hAa with h | h
      ·exact .inl (List.mem_append_left _ h)
      ·refine .inr fun k hk1 hk2 hk3=>?_
       by_cases e:k=j
       ·subst e; rw [hset,if_pos rfl]; omega
       ·exact hC1 k (h k hk1 (fun e2=>by have:=hk2 e2; omega) hk3)
    ·rw [hset]
     by_cases e:k=j
     ·rw [if_pos e]; exact .inr (by omega)
     ·rw [if_neg e]; exact hb.cv k hk
    ·rw [hset] at hk2
     by_cases e:k=j
     ·subst e; omega
     ·rw [if_neg e] at hk2; exact hb.c2 k hk hk2
    ·rw [hset] at hk2
     by_cases e:k=j
     ·subst e; exact g9 a (Nat.zero_le _) ha1 ha2
     ·rw [if_neg e] at hk2; exact hA1 a ha1 (hb.c3 k hk hk2 a ha1 ha2)
    ·by_cases hAa:gI A a = -1
     ·rcases g7 a ha1 hAa with h | ⟨h1,h2,_⟩
      ·exact absurd h ha2
      ·refine ⟨j::pp,⟨ha1,h1,hj,by omega,i,by rw [hset,if_pos rfl],hmij,hmono hp1⟩,List.nodup_cons.2 ⟨hjp,hp2⟩,fun k hk=>?_⟩;rcases List.mem_cons.1 hk with rfl | hk
       ·rw [hset,if_pos rfl]; omega
       ·exact hC1 k (hp3 k hk)
     ·obtain ⟨w,w1,w2,w3⟩:=hb.ap a ha1 hAa;exact ⟨w,hmono w1,w2,fun k hk=>hC1 k (w3 k hk)⟩
theorem scanr2_eq(hS:S.length=m)(hN:N.length=n)(hm:m≤10)(hn:n≤8)(hB:B.length=80)(hU:U.length=80)(hmf:∀a b,a<m→b<n→mf a b=gB B (a*8+b))(ee:Int){i:Nat}(hi:i<m):∀(w f j:Nat){st ln:Nat}{A C Q:List Int},j+w=n→w<f→BS m n mf S N U i j st ln A C Q→gI A i≠-1 →
  (∃j' st' ln' A' C' Q',f23r2n8 f tt ee (i:Int) N p q cs B ls xr S U st ln (j:Int) A C Q=some (.exit8 st' ln' ((j':Nat):Int) A' C' Q')∧Found m n mf S N U A' C' j') ∨
  ∃st' ln' A' C' Q',f23r2n8 f tt ee (i:Int) N p q cs B ls xr S U st ln (j:Int) A C Q=some (.exit8 st' ln' ee A' C' Q')∧BS m n mf S N U i n st' ln' A' C' Q'∧ln'+un A' m=ln+un A m
 | _,0,_,_,_,_,_,_,_,h,_,_=>absurd h (Nat.not_lt_zero _)
 | 0,f+1,j,st,ln,A,C,Q,hw,_,hb,_=>by
  have e:j=n:=by omega
  subst e;rw [f23r2n8,decide_eq_false (by omega),cond_false];exact .inr ⟨st,ln,A,C,Q,rfl,hb,rfl⟩
 | w+1,f+1,j,st,ln,A,C,Q,hw,hf,hb,hAi=>by
  rw [f23r2n8,decide_eq_true (by omega),cond_true];rcases oner2_eq tt p q cs ls xr hS hN hm hn hB hU hmf ee hi (by omega:j<n) hb hAi with ⟨h1,h2⟩|⟨st',ln',A',C',Q',h1,h2,h3,h4⟩
  ·rw [h1];simp only [Option.bind_some,Int.toNat_natCast];exact .inl ⟨j,st,ln,A,_,Q,rfl,h2⟩
  ·rw [h1];simp only [Option.bind_some];rw [Qcd (by omega)];rcases scanr2_eq hS hN hm hn hB hU hmf ee hi w f (j+1) (by omega) (by omega) h2 h4 with ⟨j',st2,ln2,A2,C2,Q2,k1,k2⟩|⟨st2,ln2,A2,C2,Q2,k1,k2,k3⟩
   ·exact .inl ⟨j',st2,ln2,A2,C2,Q2,k1,k2⟩
   ·exact .inr ⟨st2,ln2,A2,C2,Q2,k1,k2,by omega⟩
theorem popr2_eq(hS:S.length=m)(hN:N.length=n)(hm:m≤10)(hn:n≤8)(hB:B.length=80)(hU:U.length=80)(hmf:∀a b,a<m→b<n→mf a b=gB B (a*8+b))(ee:Int){st ln:Nat}{A C Q:List Int}(hb:BS m n mf S N U 100 0 st ln A C Q)(hln:0<ln) :
  (∃j' st' ln' A' C' Q',f23r2n5 tt st ln ee p q cs B ls xr S N U A C Q=some (.norm st' ln' ((j':Nat):Int) A' C' Q')∧Found m n mf S N U A' C' j') ∨
  ∃st' ln' A' C' Q',f23r2n5 tt st ln ee p q cs B ls xr S N U A C Q=some (.norm st' ln' ee A' C' Q')∧BS m n mf S N U 100 0 st' ln' A' C' Q'∧ln'+un A' m+1=ln+un A m:=by
 have heq:=hb.eq;obtain ⟨q0,q1,q2,q3⟩:=hb.q;cases q0 with
 | nil=>have:=congrArg List.length q1; rw [List.length_drop] at this; simp [ints] at this; omega
 | cons i q0 =>
  have hlen:(ints (i::q0)).length=ln:=by rw [←q1,List.length_drop]; omega
  unfold f23r2n5;rw [Qaf (decide_eq_true (by omega)),q1,List.take_of_length_le (by omega)];have e0:at? (ints (i::q0)) 0=some (i:Int):=rfl;rw [e0,bd_,Qaf (b:=cutB 1 (ln:Int) ln) (by unfold cutB; exact decide_eq_true (by omega)),show Int.toNat 1=1 from rfl];have hi:=q2 i List.mem_cons_self;have hq2:Q.drop (st+1)=ints q0:=by rw [←List.drop_drop,q1]; rfl
  have hb2:BS m n mf S N U i 0 (st+1) (ln-1) A C Q:={ hb with
   eq:=by omega
   b:=by have:=hb.b; omega
   q:=⟨q0,hq2,fun a ha=>q2 a (List.mem_cons_of_mem _ ha),fun a ha1 ha2=>by
    by_cases e:a=i
    ·exact .inr fun k hk1 hk2 hk3=>absurd (hk2 e) (Nat.not_lt_zero _)
    ·rcases q3 a ha1 ha2 with h | h
     ·rcases List.mem_cons.1 h with h | h
      ·exact absurd h e
      ·exact .inl h
     ·exact .inr fun k hk1 hk2 hk3=>h k hk1 (fun e2=>by omega) hk3⟩ }
  rcases scanr2_eq tt p q cs ls xr hS hN hm hn hB hU hmf ee hi.1 n FUEL 0 (by omega) (Qz (by omega)) hb2 hi.2 with ⟨j',st2,ln2,A2,C2,Q2,k1,k2⟩|⟨st2,ln2,A2,C2,Q2,k1,k2,k3⟩
  ·rw [show ((0:Nat):Int)=0 from rfl] at k1;rw [k1]; exact .inl ⟨j',st2,ln2,A2,C2,Q2,rfl,k2⟩
  ·rw [show ((0:Nat):Int)=0 from rfl] at k1;rw [k1];refine .inr ⟨st2,ln2,A2,C2,Q2,rfl,{ k2 with q:=?_ },by omega⟩;obtain ⟨w0,w1,w2,w3⟩:=k2.q;exact ⟨w0,w1,w2,fun a ha1 ha2=>(w3 a ha1 ha2).imp id fun h k hk1 hk2 hk3=>h k hk1 (fun _=>hk1) hk3⟩
theorem srchr2_eq(hS:S.length=m)(hN:N.length=n)(hm:m≤10)(hn:n≤8)(hB:B.length=80)(hU:U.length=80)(hmf:∀a b,a<m→b<n→mf a b=gB B (a*8+b)):∀(f:Nat){st ln:Nat}{A C Q:List Int},ln+un A m<f→BS m n mf S N U 100 0 st ln A C Q →
  (∃j' A' C',f23r2n9 (f+1) tt p q cs B ls xr S N U st ln (-1) A C Q=some (.exit6 ((j':Nat):Int) A' C')∧Found m n mf S N U A' C' j') ∨
  ∃st' A' C' Q',f23r2n9 (f+1) tt p q cs B ls xr S N U st ln (-1) A C Q=some (.exit6 (-1) A' C')∧BS m n mf S N U 100 0 st' 0 A' C' Q'
 | 0,_,_,_,_,_,h,_=>absurd h (Nat.not_lt_zero _)
 | f+1,st,ln,A,C,Q,h,hb=>by
  rw [f23r2n9,decide_eq_true (by omega:(-1:Int)<0),cond_true]
  by_cases hln:0<ln
  ·rw [decide_eq_true (by omega:(0:Int)<(ln:Int)),cond_true];rcases popr2_eq tt p q cs ls xr hS hN hm hn hB hU hmf (-1) hb hln with ⟨j',st2,ln2,A2,C2,Q2,k1,k2⟩|⟨st2,ln2,A2,C2,Q2,k1,k2,k3⟩
   ·rw [k1];simp only [Option.bind_some];rw [f23r2n9,decide_eq_false (by omega),cond_false];exact .inl ⟨j',A2,C2,rfl,k2⟩
   ·rw [k1];simp only [Option.bind_some];exact srchr2_eq hS hN hm hn hB hU hmf f (by omega) k2
  ·have e:ln=0:=by omega
   subst e;rw [decide_eq_false (by omega),cond_false];exact .inr ⟨st,A,C,Q,rfl,hb⟩
theorem initr2_eq(hS:S.length=m)(hm:m≤10)(C:List Int):∀(r f i:Nat){A:List Int}{q0:List Nat},i+r=10→r<f→A.length=10→q0.length≤i →
  ∃A' new,f23r2n4 f tt p q cs B ls xr S N U C (i:Int) A (ints q0)=some (.exit4 A' (ints (q0++new)))∧A'.length=10∧(∀a,a<i→gI A' a=gI A a)∧(∀a,i≤a→a<10→gI A' a=if a<m∧0<gI S a then -2 else -1)∧(∀a∈new,i≤a∧a<m∧0<gI S a)∧new.Nodup∧∀a,i≤a→a<m→0<gI S a→a∈new
 | _,0,_,_,_,_,h,_,_=>absurd h (Nat.not_lt_zero _)
 | 0,f+1,i,A,q0,hi,_,hA,_=>by
  rw [f23r2n4,decide_eq_false (by omega),cond_false];exact ⟨A,[],by rw [List.append_nil],hA,fun _ _=>rfl,fun a h1 h2=>by omega,fun _ h=>(by cases h),List.nodup_nil,fun a h1 h2 _=>by omega⟩
 | r+1,f+1,i,A,q0,hi,hf,hA,hq=>by
  have hiA:i<A.length:=by omega
  have e1:gI (A.set i (-1))=fun a=>if a=i then (-1:Int) else gI A a:=funext fun a=>Qan _ _ hiA;have hlS:(A.set i (-1)).length=10:=by rw [List.length_set]; exact hA
  rw [f23r2n4,decide_eq_true (by omega),cond_true,Qaf (Qbq (by omega)),Int.toNat_natCast,Nat.mul_one,Qaf (decide_eq_true hiA),Qcd (by omega)];have small:(¬(i<m∧0<gI S i))→∃A' new,f23r2n4 f tt p q cs B ls xr S N U C ((i+1:Nat):Int) (A.set i (-1)) (ints q0)=some (.exit4 A' (ints (q0++new)))∧A'.length=10∧(∀a,a<i→gI A' a=gI A a)∧(∀a,i≤a→a<10→gI A' a=if a<m∧0<gI S a then -2 else -1)∧(∀a∈new,i≤a∧a<m∧0<gI S a)∧new.Nodup∧∀a,i≤a→a<m→0<gI S a→a∈new:=fun hno=>by
   obtain ⟨A',new,g1,g2,g3,g4,g5,g6,g7⟩:=initr2_eq hS hm C r f (i+1) (A:=A.set i (-1)) (q0:=q0) (by omega) (by omega) hlS (by omega);refine ⟨A',new,g1,g2,fun a ha=>?_,fun a h1 h2=>?_,fun a ha=>⟨by have:=(g5 a ha).1; omega,(g5 a ha).2⟩,g6,fun a h1 h2 h3=>g7 a (by by_cases e:a=i; subst e; exact absurd ⟨h2,h3⟩ hno; omega) h2 h3⟩
   ·rw [g3 a (by omega),e1]; exact if_neg (by omega)
   ·by_cases e:a=i
    ·subst e; rw [g3 a (by omega),e1,if_neg hno]; exact if_pos rfl
    ·exact g4 a (by omega) h2
  by_cases him:i<m
  ·rw [decide_eq_true (by omega),cond_true,at_gI (by omega),bd_]
   by_cases hpos:0<gI S i
   ·have hl2:((A.set i (-1)).set i (-2)).length=10:=by rw [List.length_set]; exact hlS
    have e2:gI ((A.set i (-1)).set i (-2))=fun a=>if a=i then (-2:Int) else gI A a:=funext fun a=>by
     rw [Qan _ _ (by omega),e1]
     by_cases e:a=i
     ·rw [if_pos e,if_pos e]
     ·rw [if_neg e,if_neg e]; exact if_neg e
    rw [decide_eq_true hpos,cond_true,Qaf (decide_eq_true (by omega)),Qaf (Qbd (by rw [ints_len]; omega) (by omega))];have hqe:ints q0++[(i:Int)]=ints (q0++[i]):=by rw [ints_app]; rfl
    rw [hqe];obtain ⟨A',new,g1,g2,g3,g4,g5,g6,g7⟩:=initr2_eq hS hm C r f (i+1) (A:=(A.set i (-1)).set i (-2)) (q0:=q0++[i]) (by omega) (by omega) hl2 (by simp; omega);refine ⟨A',[i]++new,by rw [g1,List.append_assoc],g2,fun a ha=>?_,fun a h1 h2=>?_,fun a ha=>?_,?_,fun a h1 h2 h3=>?_⟩
    ·rw [g3 a (by omega),e2]; exact if_neg (by omega)
    ·by_cases e:a=i
     ·subst e; rw [g3 a (by omega),e2,if_pos ⟨him,hpos⟩]; exact if_pos rfl
     ·exact g4 a (by omega) h2
    ·rcases List.mem_append.1 ha with ha | ha
     ·rw [List.mem_singleton] at ha;subst ha; exact ⟨Nat.le_refl _,him,hpos⟩
     ·exact ⟨by have:=(g5 a ha).1; omega,(g5 a ha).2⟩
    ·exact List.nodup_cons.2 ⟨fun h=>by have:=(g5 i h).1; omega,g6⟩
    ·by_cases e:a=i
     ·subst e; exact List.mem_append_left _ (List.mem_singleton.2 rfl)
     ·exact List.mem_append_right _ (g7 a (by omega) h2 h3)
   ·rw [decide_eq_false hpos,cond_false];exact small (fun h=>hpos h.2)
  ·rw [decide_eq_false (by omega),cond_false];exact small (fun h=>him h.1)
theorem leastr2_eq(hS:S.length=m)(hm:m≤10)(hn:n≤8)(hU:U.length=80)(ee:Int){A C:List Int}(hA:A.length=10)(hC:C.length=8):∀(w:List Nat)(f i j:Nat)(v:Int),w.length<f→j<n→gI C j=(i:Int)→AP m n mf S U A C 1 w i→1≤v →
  ∃c,f23r2n11 f tt ee p q cs B ls xr S N U A C v (j:Int)=some (.exit12 c)∧1≤c∧c≤v∧AP m n mf S U A C c w i
 | _,0,_,_,_,h,_,_,_,_=>absurd h (Nat.not_lt_zero _)
 | [],f+1,i,j,v,_,hj,hCj,hap,hv=>by
  obtain ⟨h1,h2,h3⟩:=hap;have hmn:=mnI_le v (gI S i);rw [f23r2n11,Qaf (Qbq (by omega)),Int.toNat_natCast,Nat.mul_one,Qcc (by omega),bd_,hCj,Qaf (Qbq (by omega)),Int.toNat_natCast,Nat.mul_one,Qcc (by omega),bd_,h2,decide_eq_true rfl,cond_true,at_gI (by omega),bd_];exact ⟨mnI v (gI S i),rfl,by omega,by omega,h1,h2,by omega⟩
 | k::w,f+1,i,j,v,hf,hj,hCj,hap,hv=>by
  obtain ⟨h1,h2,h3,h4,i',h5,h6,h7⟩:=hap;have hmn:=mnI_le v (gI U (i*8+k));rw [f23r2n11,Qaf (Qbq (by omega)),Int.toNat_natCast,Nat.mul_one,Qcc (by omega),bd_,hCj,Qaf (Qbq (by omega)),Int.toNat_natCast,Nat.mul_one,Qcc (by omega),bd_,h2,decide_eq_false (by omega),cond_false,Qaf (Qbq (by omega)),Int.toNat_natCast,Nat.mul_one,Qcc (by omega),bd_];obtain ⟨c,k1,k2,k3,k4⟩:=leastr2_eq hS hm hn hU ee hA hC w f i' k (mnI v (gI U (i*8+k))) (by simpa using hf) h3 h5 h7 (by omega);exact ⟨c,k1,k2,by omega,h1,h2,h3,by omega,i',h5,h6,k4⟩
theorem augr2_eq(hS:S.length=m)(hm:m≤10)(hn:n≤8)(ee ne c:Int)(hc:1≤c∧c≤68719476736)(hSb:∀i,i<m→gI S i≤68719476736){A C:List Int}(hA:A.length=10)(hC:C.length=8):∀(w:List Nat)(f i j:Nat){U:List Int},U.length=80→w.length<f→j<n→gI C j=(i:Int)→mf i j=true→AP m n mf S U A C c w i→(j::w).Nodup →
   (∀a b,a<m→b<n→0≤XU U a b)→(∀a b,a<m→b<n→XU U a b≠0→mf a b=true)→(∀b∈j::w,∀a,a<m→XU U a b≤68719476736) →
  ∃ s U', f23r2n13 f tt c p q cs B ls xr S N ee ne A C (j : Int) U = some (.exit14 (S.set s (gI S s - c)) U') ∧ s < m ∧ c ≤ gI S s ∧ U'.length = 80 ∧
   (∀a,a<m→sN n (XU U' a)=sN n (XU U a)+(if a=s then c else 0))∧(∀b,b<n→sN m (fun a=>XU U' a b)=sN m (fun a=>XU U a b)+(if b=j then c else 0)) ∧
   (∀a b,a<m→b<n→0≤XU U' a b)∧(∀a b,a<m→b<n→XU U' a b≠0→mf a b=true)
 | _,0,_,_,_,_,h,_,_,_,_,_,_,_,_=>absurd h (Nat.not_lt_zero _)
 | [],f+1,i,j,U,hU,_,hj,hCj,hmf,hap,_,hnn,hsup,hbd=>by
  obtain ⟨h1,h2,h3⟩:=hap;have hx:=hnn i j h1 hj;have hx2:=hbd j List.mem_cons_self i h1;have hs:=hSb i h1;have e1:wr64 (gI U (i*8+j)+c)=gI U (i*8+j)+c:=wrIn (by show _≤XU U i j+c; omega) (by show XU U i j+c≤_; omega);have e2:wr64 (gI S i-c)=gI S i-c:=wrIn (by omega) (by omega);rw [f23r2n13,Qaf (Qbq (by omega)),Int.toNat_natCast,Nat.mul_one,Qcc (by omega),bd_,hCj,Qaf (Qbq (by omega)),Int.toNat_natCast,Qcc (by omega),bd_,Nat.mul_one,Qcc (by omega),bd_,h2,decide_eq_true rfl,cond_true,at_gI (by omega),bd_,e1,e2];refine ⟨i,_,rfl,h1,h3,by rw [List.length_set]; exact hU,fun a ha=>?_,fun b hb=>?_,fun a b ha hb=>?_,fun a b ha hb=>?_⟩
  ·rw [row_set hU hn (by omega) hj _ (by omega)]
   by_cases e:a=i
   ·rw [if_pos e,if_pos e]; show _+(XU U i j+c-XU U i j)=_; omega
   ·rw [if_neg e,if_neg e]
  ·rw [col_set hU hm h1 (by omega) _ (by omega)]
   by_cases e:b=j
   ·rw [if_pos e,if_pos e]; show _+(XU U i j+c-XU U i j)=_; omega
   ·rw [if_neg e,if_neg e]
  ·rw [XU_set hU (by omega) (by omega) (by omega) (by omega)];have:=hnn a b ha hb
   split
   ·show 0≤XU U i j+c; omega
   ·exact this
  ·rw [XU_set hU (by omega) (by omega) (by omega) (by omega)]
   split
   ·rename_i e;intro _;rw [e.1,e.2]; exact hmf
   ·exact hsup a b ha hb
 | k::w,f+1,i,j,U,hU,hf,hj,hCj,hmf,hap,hnd,hnn,hsup,hbd=>by
  obtain ⟨h1,h2,h3,h4,i',h5,h6,h7⟩:=hap;have hx:=hnn i j h1 hj;have hx2:=hbd j List.mem_cons_self i h1;have hk2:=hbd k (List.mem_cons_of_mem _ List.mem_cons_self) i h1;have hnd1:=List.nodup_cons.1 hnd;have hnd2:=List.nodup_cons.1 hnd1.2;have hjk:k≠j:=fun e=>hnd1.1 (e ▸ List.mem_cons_self);have e1:wr64 (gI U (i*8+j)+c)=gI U (i*8+j)+c:=wrIn (by show _≤XU U i j+c; omega) (by show XU U i j+c≤_; omega);have hU1:(U.set (i*8+j) (gI U (i*8+j)+c)).length=80:=by rw [List.length_set]; exact hU
  have hk1:gI (U.set (i*8+j) (gI U (i*8+j)+c)) (i*8+k)=gI U (i*8+k):=by
   have:=XU_set hU (i:=i) (j:=j) (a:=i) (b:=k) (by omega) (by omega) (by omega) (by omega) (gI U (i*8+j)+c);rw [if_neg (fun h=>hjk h.2)] at this;exact this
  have e2:wr64 (gI U (i*8+k)-c)=gI U (i*8+k)-c:=wrIn (by omega) (by show XU U i k-c≤_; omega);rw [f23r2n13,Qaf (Qbq (by omega)),Int.toNat_natCast,Nat.mul_one,Qcc (by omega),bd_,hCj,Qaf (Qbq (by omega)),Int.toNat_natCast,Qcc (by omega),bd_,Nat.mul_one,Qcc (by omega),bd_,h2,decide_eq_false (by omega),cond_false,Qaf (Qbq (by omega)),e1,Int.toNat_natCast,Nat.mul_one,Qcc (by omega),bd_,hk1,e2];have hX2:∀a b,a<m→b<n→XU ((U.set (i*8+j) (gI U (i*8+j)+c)).set (i*8+k) (gI U (i*8+k)-c)) a b=if a=i∧b=k then XU U i k-c else if a=i∧b=j then XU U i j+c else XU U a b:=fun a b ha hb=>by
   rw [XU_set hU1 (by omega) (by omega) (by omega) (by omega),XU_set hU (by omega) (by omega) (by omega) (by omega)]
  have hXw:∀b∈w,∀a,a<m→b<n→XU ((U.set (i*8+j) (gI U (i*8+j)+c)).set (i*8+k) (gI U (i*8+k)-c)) a b=XU U a b:=fun b hb a ha hbn=>by
   rw [hX2 a b ha hbn,if_neg (fun (e:a=i∧b=k)=>hnd2.1 (e.2 ▸ hb)),if_neg (fun (e:a=i∧b=j)=>hnd1.1 (e.2 ▸ List.mem_cons_of_mem _ hb))]
  have hwn:=h7.lt8;obtain ⟨s,U',g1,g2,g3,g4,g5,g6,g7,g8⟩:=augr2_eq hS hm hn ee ne c hc hSb hA hC w f i' k (U:=(U.set (i*8+j) (gI U (i*8+j)+c)).set (i*8+k) (gI U (i*8+k)-c)) (by rw [List.length_set]; exact hU1) (by simpa using hf) h3 h5 h6 (h7.keep fun b hb a ha=>hXw b hb a ha (hwn b hb)) hnd1.2
   (fun a b ha hb=>by
    rw [hX2 a b ha hb];have:=hnn a b ha hb
    split
    ·show 0≤gI U (i*8+k)-c; omega
    ·split
     ·omega
     ·exact this)
   (fun a b ha hb=>by
    rw [hX2 a b ha hb]
    split
    ·rename_i e;intro _;rw [e.1,e.2];exact hsup i k h1 h3 (by show gI U (i*8+k)≠0; omega)
    ·split
     ·rename_i e;intro _;rw [e.1,e.2]; exact hmf
     ·exact hsup a b ha hb)
   (fun b hb a ha=>by
    rcases List.mem_cons.1 hb with e | hb
    ·subst e;rw [hX2 a b ha h3];have:=hbd b (List.mem_cons_of_mem _ List.mem_cons_self) a ha
     split
     ·omega
     ·rw [if_neg (fun e=>hjk e.2)]; exact this
    ·rw [hXw b hb a ha (hwn b hb)];exact hbd b (List.mem_cons_of_mem _ (List.mem_cons_of_mem _ hb)) a ha)
  refine ⟨s,U',g1,g2,g3,g4,fun a ha=>?_,fun b hb=>?_,g7,g8⟩
  ·rw [g5 a ha,row_set hU1 hn (by omega) h3 _ (by omega),row_set hU hn (by omega) hj _ (by omega)]
   by_cases e:a=i
   ·rw [if_pos e,if_pos e];have:XU (U.set (i*8+j) (gI U (i*8+j)+c)) i k=gI U (i*8+k):=hk1;rw [this];show _+(XU U i j+c-XU U i j)+_+_=_;omega
   ·rw [if_neg e,if_neg e]; omega
  ·rw [g6 b hb,col_set hU1 hm h1 (by omega) _ (by omega),col_set hU hm h1 (by omega) _ (by omega)];have hk3:XU (U.set (i*8+j) (gI U (i*8+j)+c)) i k=gI U (i*8+k):=hk1;rw [hk3]
   by_cases e:b=k
   ·have:b≠j:=fun e2=>hjk (e.symm.trans e2);rw [if_pos e,if_pos e,if_neg this,if_neg this]; omega
   ·rw [if_neg e,if_neg e]
    by_cases e2:b=j
    ·rw [if_pos e2,if_pos e2]; show _+(XU U i j+c-XU U i j)+_+_=_; omega
    ·rw [if_neg e2,if_neg e2]; omega
theorem mainr2_eq(hB:B.length=80)(hmf:∀a b,a<m→b<n→mf a b=gB B (a*8+b)):∀(f:Nat){S N U:List Int}{tt:Int},FS m n s0 d0 mf S N U tt→(549755813888-tt).toNat<f→∃v,f23r2n14 f p q cs B ls xr tt S N U=some (.ret v)∧IsMin m n s0 d0 mf v
 | 0,_,_,_,_,_,h=>absurd h (Nat.not_lt_zero _)
 | f+1,S,N,U,tt,hF,hf=>by
  have hm:=hF.m10;have hn:=hF.n8;have hU:=hF.ul;have hSl:=hF.sl;have hNl:=hF.nl;obtain ⟨A0,new,i1,i2,_,i4,i5,i6,i7⟩:=initr2_eq (N:=N) (U:=U) tt p q cs ls xr (B:=B) hSl hm (List.replicate 8 (-1)) 10 FUEL 0 (A:=List.replicate 10 0) (q0:=[]) (by omega) (Qz (by omega)) (by simp) (by simp);rw [List.nil_append] at i1;have i1':f23r2n4 FUEL tt p q cs B ls xr S N U (List.replicate 8 (-1)) 0 (List.replicate 10 0) []=some (.exit4 A0 (ints new)):=i1;have hA0:∀a,a<m→(gI A0 a≠-1↔0<gI S a):=fun a ha=>by
   rw [i4 a (Nat.zero_le _) (by omega)]
   by_cases h:0<gI S a
   ·rw [if_pos ⟨ha,h⟩]; simp [h]
   ·rw [if_neg (fun k=>h k.2)]; simp [h]
  have hb0:BS m n mf S N U 100 0 0 (ints new).length A0 (List.replicate 8 (-1)) (ints new):=by
   refine ⟨i2,by simp,by omega,⟨new,rfl,fun a ha=>⟨(i5 a ha).2.1,(hA0 a (i5 a ha).2.1).2 (i5 a ha).2.2⟩,fun a ha1 ha2=>.inl ?_⟩,fun a ha1 ha2=>(hA0 a ha1).2 ha2,fun k hk=>.inl (gI_rep 8 _ k (by omega)),fun k hk hk2=>?_,fun k hk hk2=>?_,fun a ha1 ha2=>?_,?_⟩
   ·refine Classical.byContradiction fun hno=>?_;have h2:=(hA0 a ha1).1 ha2;exact hno (i7 a (Nat.zero_le _) ha1 h2)
   ·rw [gI_rep 8 _ k (by omega)] at hk2; omega
   ·rw [gI_rep 8 _ k (by omega)] at hk2; omega
   ·have h2:=(hA0 a ha1).1 ha2;exact ⟨[],⟨ha1,by rw [i4 a (Nat.zero_le _) (by omega),if_pos ⟨ha1,h2⟩],by omega⟩,List.nodup_nil,fun _ h=>(by cases h)⟩
   ·rw [ints_len];exact nd_un A0 m new i6 fun a ha=>⟨(i5 a ha).2.1,(hA0 a (i5 a ha).2.1).2 (i5 a ha).2.2⟩
  have hnn:=hF.fl.nn;have hrow0:∀a,a<m→0≤sN n (XU U a):=fun a ha=>sN_nn fun b hb=>hnn a b ha hb;have hcol0:∀b,b<n→0≤sN m (fun a=>XU U a b):=fun b hb=>sN_nn fun a ha=>hnn a b ha hb;have e3:f23r2n3 tt p q cs B ls xr S N U (List.replicate 8 (-1))=some (.norm A0 (ints new)):=by
   unfold f23r2n3;rw [i1']; rfl
  rw [f23r2n14,callsr2_eq];simp only [Option.bind_some];rw [e3];simp only [Option.bind_some];rcases srchr2_eq (N:=N) (U:=U) tt p q cs ls xr (B:=B) hSl hNl hm hn hB hU hmf 18446744073709551615 (st:=0) (by have:=hb0.b; omega) hb0 with ⟨j,A',C',k1,hfd⟩|⟨st',A',C',Q',k1,hb⟩
  ·have k1':f23r2n9 FUEL tt p q cs B ls xr S N U 0 (ints new).length (-1) A0 (List.replicate 8 (-1)) (ints new)=_:=k1;obtain ⟨hj,hNj,hAl,hCl,i,w,hCj,hmij,hap,hnd⟩:=hfd;have hNv:=hF.nv j hj;have hdb:=hF.db j hj;have hc0:=hcol0 j hj;have hwl:w.length≤8:=nd_len 8 w (List.nodup_cons.1 hnd).2 fun x hx=>by have:=hap.lt8 x hx; omega
   rw [k1'];simp only [Option.bind_some];rw [decide_eq_false (by omega),cond_false,at_gI (by omega),bd_];obtain ⟨c,c1,c2,c3,c4⟩:=leastr2_eq (N:=N) tt p q cs ls xr (B:=B) hSl hm hn hU ((j:Nat):Int) hAl hCl w FUEL i j (gI N j) (Qz (by omega)) hj hCj hap (by omega);have e10:f23r2n10 tt ((j:Nat):Int) (gI N j) p q cs B ls xr S N U A' C'=some (.norm c):=by
    unfold f23r2n10;rw [c1]; rfl
   rw [e10];simp only [Option.bind_some];obtain ⟨s,U',g1,g2,g3,g4,g5,g6,g7,g8⟩:=augr2_eq (N:=N) tt p q cs ls xr (B:=B) hSl hm hn ((j:Nat):Int) (gI N j) c (by omega) (fun a ha=>by have:=hF.sv a ha; have:=hF.sb a ha; have:=hrow0 a ha; omega) hAl hCl w FUEL i j hU (Qz (by omega)) hj hCj hmij c4 hnd hnn hF.fl.may (fun b hb a ha=>by
    have hbn:b<n:=by
     rcases List.mem_cons.1 hb with rfl | hb
     ·exact hj
     ·exact hap.lt8 b hb
    have q1:=sN_ge (f:=XU U a) hbn fun b' hb'=>hnn a b' ha hb';have q2:=hF.fl.row a ha;have q3:=hF.sb a ha;omega)
   have e12:f23r2n12 tt ((j:Nat):Int) c p q cs B ls xr S N (gI N j) U A' C'=some (.norm (S.set s (gI S s-c)) U'):=by
    unfold f23r2n12;rw [g1]; rfl
   rw [e12];simp only [Option.bind_some,Int.toNat_natCast];have hsS:s<S.length:=by omega
   have hjN:j<N.length:=by omega
   have hfl':Flw m n s0 d0 mf (XU U'):=⟨g7,g8,fun a ha=>by
    rw [g5 a ha];have q2:=hF.fl.row a ha
    by_cases e:a=s
    ·subst e; rw [if_pos rfl]; have:=hF.sv a ha; omega
    ·rw [if_neg e]; omega,fun b hb=>by
    rw [g6 b hb];have q2:=hF.fl.col b hb
    by_cases e:b=j
    ·subst e; rw [if_pos rfl]; omega
    ·rw [if_neg e]; omega⟩
   have htot:Flo.tot m n (XU U')=tt+c:=by
    rw [hF.tv];unfold Flo.tot;rw [Qaa (g:=fun a=>sN n (XU U a)+(if a=s then c else 0)) fun a ha=>g5 a ha,sN_add1 (fun a=>sN n (XU U a)),if_pos g2]
   have hle:Flo.tot m n (XU U')≤549755813888:=by
    have q1:=tot_le hfl';have q2:=sN_bd (f:=d0) (b:=68719476736) (n:=n) fun b hb=>(hF.db b hb).2;omega
   have htt0:0≤tt:=by
    rw [hF.tv];exact sN_nn hrow0
   have ew:wr64 (tt+c)=tt+c:=wrIn (by omega) (by omega);have ewN:wr64 (gI N j-c)=gI N j-c:=wrIn (by omega) (by omega);rw [ew,ewN];refine mainr2_eq hB hmf f ⟨hm,hn,by rw [List.length_set]; exact hSl,by rw [List.length_set]; exact hNl,g4,hfl',fun a ha=>?_,fun b hb=>?_,htot.symm,hF.sb,hF.db⟩ (by omega)
   ·rw [Qan _ _ hsS,g5 a ha];have:=hF.sv a ha
    by_cases e:a=s
    ·subst e; rw [if_pos rfl,if_pos rfl]; omega
    ·rw [if_neg e,if_neg e]; omega
   ·rw [Qan _ _ hjN,g6 b hb];have:=hF.nv b hb
    by_cases e:b=j
    ·subst e; rw [if_pos rfl,if_pos rfl]; omega
    ·rw [if_neg e,if_neg e]; omega
  ·have k1':f23r2n9 FUEL tt p q cs B ls xr S N U 0 (ints new).length (-1) A0 (List.replicate 8 (-1)) (ints new)=_:=k1;rw [k1'];simp only [Option.bind_some];rw [decide_eq_true (by omega),cond_true];refine ⟨tt,rfl,?_⟩;have hst:=hF.fl.stop (fun i=>decide (gI A' i≠-1)) (fun j=>decide (0≤gI C' j)) (fun a ha h=>by
     refine decide_eq_true (hb.a2 a ha ?_);have:=hF.sv a ha; omega) (fun a b ha hb' h1 h2=>by
     obtain ⟨q0,q1,q2,q3⟩:=hb.q;have hq0:q0=[]:=by
      have:=congrArg List.length q1;rw [List.length_drop,ints_len] at this;have:=hb.eq;exact List.eq_nil_of_length_eq_zero (by omega)
     rcases q3 a ha (of_decide_eq_true h1) with h | h
     ·rw [hq0] at h; cases h
     ·exact decide_eq_true (h b hb' (fun e=>by omega) h2)) (fun b hb' h=>by
     have h1:=hb.c2 b hb' (of_decide_eq_true h);have h2:=hF.nv b hb';have h3:=hF.fl.col b hb';omega) (fun a b ha hb' h1 h2=>decide_eq_true (hb.c3 b hb' (of_decide_eq_true h1) a ha h2))
   rw [hF.tv];exact hF.fl.min hst
end
theorem flowr2_eq{p q:List Int}{B:List Bool}(cs:List AC)(ls:List AA)(r:List Int)(hk2:p.length≤10)(hn:q.length≤8)(hB:B.length=80)(hp:∀i,i<p.length→0≤gI p i∧gI p i≤68719476736)(hq:∀j,j<q.length→0≤gI q j∧gI q j≤68719476736) :
  ∃v,f23r2 p q cs B ls r=some v∧IsMin p.length q.length (gI p) (gI q) (fun a b=>gB B (a*8+b)) v:=by
 obtain ⟨v,h1,h2⟩:=mainr2_eq (mf:=fun a b=>gB B (a*8+b)) p q cs ls r hB (fun _ _ _ _=>rfl) FUEL (FS.start (mf:=fun a b=>gB B (a*8+b)) (S:=p) hk2 hn rfl rfl (fun _ _=>rfl) (fun _ _=>rfl) hp hq) (by decide);refine ⟨v,?_,h2⟩;unfold f23r2 f23r2n0;rw [f45_id (by omega),bd_,f45_id (by omega),bd_,h1]; rfl


end Go.Proofs.Ytinabbgjignkbaa
namespace Go.Proofs.Ytinabbgjignkbaa
set_option linter.unusedVariables false
set_option linter.unusedSimpArgs false
open Go.RowKit Flo
def memN(l:List ByteArray)(s:ByteArray):Bool:=l.any fun x=>seq s x
theorem f54n2L_eq'(s:ByteArray)(bg:List ByteArray):∀(l:List ByteArray)(v:Int),0≤v→∃o,f54n2L bg s l v=some o∧(memN l s=true→∃w,0≤w∧o = .ret w)∧(memN l s=false→o = .exit0)
 | [],v,_=>⟨.exit0,rfl,fun h=>(by cases h),fun _=>rfl⟩
 | x::r,v,hv=>by
  obtain ⟨o,h1,h2,h3⟩:=f54n2L_eq' s bg r (v+1) (by omega);rw [f54n2L];unfold memN at h2 h3 ⊢;rw [List.any_cons];cases seq s x with
  | true=>exact ⟨.ret v,rfl,fun _=>⟨v,hv,rfl⟩,fun h=>by simp at h⟩
  | false=>exact ⟨o,h1,by simpa using h2,by simpa using h3⟩
theorem f44_eq(l:List ByteArray)(s:ByteArray)(hm:l.length≤1000000):f44 l s=some (memN l s):=by
 obtain ⟨o,h1,h2,h3⟩:=f54n2L_eq' s l l 0 (by omega);unfold f44 f44n0 f54 f54n0 f54n1;rw [f54n2_run l s (Qaq hm),h1];cases h:memN l s with
 | true =>
  obtain ⟨w,hw,rfl⟩:=h2 h;simp only [Option.bind_some];rw [decide_eq_true hw]
 | false=>rw [h3 h]; rfl

def cC(a b:AA):Int:=cmpI a.Cost b.Cost
theorem cC_cmp:Cmp cC:=Cmp.int Qa.Cost
theorem f42_eq(a b:AA):f42 a b=some (cC a b):=by unfold f42 f42n0; rw [f43_eq]; rfl
abbrev ltC:AA→AA→Bool:=fun x y=>decide (cC x y<0)
theorem swo_C:SWo ltC:=cC_cmp.swo
def srt(l:List AA):List AA:=sortS ltC l
theorem f41_eq{l:List AA}(h:l.length≤19):f41r1 l=some (srt l):=by
 have hF:FUEL=18446744073709551615+1:=rfl;have e1:f52r1n1 FUEL (l.length:Int) 0 20 l=some (.exit0 0 l):=by
  rw [hF,f52r1n1,decide_eq_false (by omega),cond_false]
 have e2:f52r1n4 FUEL (l.length:Int) 20 (srt l)=some (.exit2 (srt l)):=by
  rw [hF,f52r1n4,decide_eq_false (by omega),cond_false]
 have e3:f67r1 0 (l.length:Int) l=some (srt l):=by
  have:=st_ins_ok f42_eq swo_C [] l [] (by simp; omega);simpa [srt] using this
 unfold f41r1 f41r1n0 f52r1 f52r1n0;rw [e1];simp only [Option.bind_some];rw [e3];simp only [Option.bind_some];rw [e2]; rfl
theorem srt_perm(l:List AA):(srt l).Perm l:=(sortS_cl swo_C l).1
theorem srt_len(l:List AA):(srt l).length=l.length:=(srt_perm l).length_eq

theorem need_eq(ba:List AA)(bg:List AC):∀(l:List AC)(v:Int)(o:List Int),o.length+l.length≤10000→f22r1n2L bg ba l v o=some (.exit0 (o++l.map Qb.Need))
 | [],v,o,_=>by simp [f22r1n2L]
 | x::r,v,o,h=>by
  simp only [List.length_cons] at h;rw [f22r1n2L,Qaf (Qbd (by omega) (by omega)),need_eq ba bg r _ _ (by simp; omega)]
  simp
theorem gB_set{l:List Bool}{k:Nat}(v:Bool)(a:Nat)(hk:k<l.length):gB (l.set k v) a=if a=k then v else gB l a:=by
 unfold gB;rw [List.getD_eq_getElem?_getD,List.getD_eq_getElem?_getD,List.getElem?_set]
 by_cases e:k=a
 ·subst e; simp [hk]
 ·rw [if_neg e,if_neg (fun h=>e h.symm)]
theorem mark_eq(bg:List AC)(ba:List AA){i:Nat}(hi:i<10){x:AA}(hF:x.For.length≤1000)(a5 a6:List Int):∀(l:List AC)(j:Nat)(B:List Bool),j+l.length≤8→B.length=80 →
  ∃B',f22r1n5L bg (i:Int) ba x a5 a6 l (j:Int) B=some (.exit4 B')∧B'.length=80∧(∀k (h:k<l.length),gB B' (i*8+(j+k))=memN x.For l[k].Name)∧∀a,(a<i*8+j∨i*8+j+l.length≤a)→gB B' a=gB B a
 | [],j,B,_,hB=>⟨B,rfl,hB,fun k h=>absurd h (Nat.not_lt_zero _),fun _ _=>rfl⟩
 | y::r,j,B,h,hB=>by
  simp only [List.length_cons] at h;have hk:i*8+j<B.length:=by omega
  rw [f22r1n5L,f44_eq _ _ (by omega),bd_,Qaf (Qbq hi),Qaf (Qbq (by omega)),Int.toNat_natCast,Int.toNat_natCast,Nat.mul_one,Qaf (decide_eq_true hk)];have e:((j:Int)+1)=((j+1:Nat):Int):=by omega
  rw [e];obtain ⟨B',h1,h2,h3,h4⟩:=mark_eq bg ba hi hF a5 a6 r (j+1) (B.set (i*8+j) (memN x.For y.Name)) (by omega) (by rw [List.length_set]; exact hB);refine ⟨B',h1,h2,fun k hk2=>?_,fun a ha=>?_⟩
  ·cases k with
   | zero =>
    rw [Nat.add_zero,h4 _ (.inl (by omega)),gB_set _ _ hk,if_pos rfl]; rfl
   | succ k =>
    have:=h3 k (by simpa using hk2);rw [show i*8+(j+(k+1))=i*8+(j+1+k) by omega,this]; rfl
  ·simp only [List.length_cons] at ha;rw [h4 a (by omega),gB_set _ _ hk,if_neg (by omega)]
theorem rows_eq(c:List AC)(hc:c.length≤8)(P:List AA)(hP:P.length≤10)(hF:∀x∈P,x.For.length≤1000)(nd:List Int):∀(r pre:List AA)(f:Nat)(B:List Bool)(o:List Int),P=pre++r→r.length<f→B.length=80→o.length=pre.length →
  ∃B',f22r1n6 f c P nd ((pre.length:Nat):Int) B o=some (.exit2 B' (o++r.map Qa.Amount))∧B'.length=80∧(∀i j (hi:i<P.length) (hj:j<c.length),pre.length≤i→gB B' (i*8+j)=memN P[i].For c[j].Name)∧∀a,a<pre.length*8→gB B' a=gB B a
 | _,_,0,_,_,_,h,_,_=>absurd h (Nat.not_lt_zero _)
 | [],pre,f+1,B,o,h,_,hB,ho=>by
  rw [List.append_nil] at h;subst h;rw [f22r1n6,decide_eq_false (by omega),cond_false];exact ⟨B,by simp,hB,fun i j hi hj h=>by omega,fun _ _=>rfl⟩
 | x::r,pre,f+1,B,o,h,hf,hB,ho=>by
  have hl:pre.length<P.length:=by rw [h]; simp
  have hx:P[pre.length]=x:=by
   have:P[pre.length]?=some x:=by rw [h]; simp
   rw [List.getElem?_eq_getElem hl] at this;exact Option.some.inj this
  have hxF:=hF x (by rw [h]; simp);obtain ⟨B1,m1,m2,m3,m4⟩:=mark_eq c P (i:=pre.length) (by omega) hxF o nd c 0 B (by omega) hB;rw [f22r1n6,decide_eq_true (by omega),cond_true];have e4:f22r1n4 c P ((pre.length:Nat):Int) B o nd=some (.norm B1 (o++[x.Amount])):=by
   unfold f22r1n4;rw [at_len h rfl,bd_,Qaf (Qbd (by omega) (by omega)),f22r1n5_run _ _ _ _ _ _ _ (Qaq (by omega))];have m1':f22r1n5L c ((pre.length:Nat):Int) P x o nd c 0 B=_:=m1;rw [m1']; rfl
  rw [e4];simp only [Option.bind_some];rw [Qcd (by omega)];obtain ⟨B',h1,h2,h3,h4⟩:=rows_eq c hc P hP hF nd r (pre++[x]) f B1 (o++[x.Amount]) (by rw [h]; simp) (by simpa using hf) m2 (by simp [ho]);rw [List.length_append] at h1 h3 h4;refine ⟨B',by rw [show pre.length+1=pre.length + [x].length by simp,h1]; simp,h2,fun i j hi hj hp=>?_,fun a ha=>?_⟩
  ·by_cases e:i=pre.length
   ·subst e;have:=h4 (pre.length*8+j) (by simp; omega);have m:=m3 j hj;rw [this];rw [Nat.zero_add] at m;rw [m,hx]
   ·exact h3 i j hi hj (by simp; omega)
  ·rw [h4 a (by simp; omega),m4 a (.inl (by omega))]
theorem posed_eq{l:List AA}{c:List AC}(h:OkL l c):∃B,f22r1 l c=some (B,srt l,(srt l).map Qa.Amount,c.map Qb.Need)∧B.length=80∧∀i j (hi:i<(srt l).length) (hj:j<c.length),gB B (i*8+j)=memN (srt l)[i].For c[j].Name:=by
 have hlen:=h.len;have hcl:=h.clen;have hsl:=srt_len l;have hF:∀x∈srt l,x.For.length≤1000:=fun x hx=>by have:=h.flen x ((srt_perm l).mem_iff.1 hx); omega
 obtain ⟨B,b1,b2,b3,_⟩:=rows_eq c hcl (srt l) (by omega) hF (c.map Qb.Need) (srt l) [] FUEL (List.replicate 80 false) [] rfl (Qz (by omega)) (by simp) rfl;have b1':f22r1n6 FUEL c (srt l) (c.map Qb.Need) 0 (List.replicate 80 false) []=_:=b1;refine ⟨B,?_,b2,fun i j hi hj=>b3 i j hi hj (Nat.zero_le _)⟩;have e1:f40r1 l=some l:=by
  unfold f40r1 f40r1n0;cases l with
  | nil=>rfl
  | cons a r=>rw [Qaf (Qbd (by omega) (by omega))]; rfl
 have e2:f22r1n1 c (srt l)=some (.norm (c.map Qb.Need)):=by
  unfold f22r1n1;rw [f22r1n2_run _ _ _ (Qaq (by omega)),need_eq _ _ c 0 [] (by simp; omega)]; rfl
 have e3:f22r1n3 c (srt l) (c.map Qb.Need)=some (.norm B ((srt l).map Qa.Amount)):=by
  unfold f22r1n3;rw [b1']; rfl
 unfold f22r1 f22r1n0;rw [e1,bd_,f41_eq (by omega),bd_,e2];simp only [Option.bind_some];rw [e3]; rfl
end Go.Proofs.Ytinabbgjignkbaa
namespace Go.Proofs.Ytinabbgjignkbaa
set_option linter.unusedVariables false
set_option linter.unusedSimpArgs false
open Go.RowKit Flo
def sL:List Int→Int
 | []=>0
 | x::r=>x+sL r
theorem sN_succ(f:Nat→Int):∀n:Nat,sN (n+1) f=f 0+sN n (fun i=>f (i+1))
 | 0=>by simp [sN]
 | n+1=>by rw [sN,sN_succ f n,sN]; omega
theorem sN_list:∀l:List Int,sN l.length (gI l)=sL l
 | []=>rfl
 | x::r=>by
  rw [List.length_cons,sN_succ,sL,←sN_list r];rfl
theorem sum_eq'(bg:List Int):∀(l:List Int)(v k:Int),f24r1n2L bg l (wr64 v) k=some (.exit0 (wr64 (v+sL l)))
 | [],v,k=>by simp [f24r1n2L,sL]
 | x::r,v,k=>by rw [f24r1n2L,wrL,sum_eq' bg r,sL,Int.add_assoc]
theorem f24_eq{l:List Int}(hl:l.length≤1000)(hb:∀j,j<l.length→0≤gI l j∧gI l j≤68719476736):f24r1 l=some (sN l.length (gI l)):=by
 have h1:0≤sN l.length (gI l):=sN_nn fun j hj=>(hb j hj).1;have h2:=sN_bd (f:=gI l) (b:=68719476736) (n:=l.length) fun j hj=>(hb j hj).2;have:=sum_eq' l l 0 0;rw [Int.zero_add,←sN_list,wrIn (n:=sN l.length (gI l)) (by omega) (by omega)] at this;have this':f24r1n2L l l 0 0=_:=this;unfold f24r1 f24r1n0 f24r1n1;rw [f24r1n2_run l 0 (Qaq (by omega)),this']; rfl

theorem tch_congr{n:Nat}{may may':Nat→Nat→Bool}{T:Set_}{i:Nat}(h:∀j,j<n→may i j=may' i j):tch n may T i=tch n may' T i:=by
 cases h1:tch n may' T i with
 | true =>
  obtain ⟨j,a1,a2,a3⟩:=Qah.1 h1;exact Qah.2 ⟨j,a1,a2,by rw [h j a1]; exact a3⟩
 | false =>
  cases h2:tch n may T i with
  | false=>rfl
  | true =>
   obtain ⟨j,a1,a2,a3⟩:=Qah.1 h2;rw [Qah.2 ⟨j,a1,a2,by rw [←h j a1]; exact a3⟩] at h1; cases h1
theorem cut_congr{m n:Nat}{s s' d d':Nat→Int}{may may':Nat→Nat→Bool}(hs:∀i,i<m→s i=s' i)(hd:∀j,j<n→d j=d' j)(hm:∀i j,i<m→j<n→may i j=may' i j)(T:Set_):cut m n s d may T=cut m n s' d' may' T:=by
 unfold cut
 congr 1
 ·exact Qaa fun j hj=>by rw [hd j hj]
 ·exact Qaa fun i hi=>by rw [tch_congr fun j hj=>hm i j hi hj,hs i hi]
theorem Flo.IsMin.congr{m n:Nat}{s s' d d':Nat→Int}{may may':Nat→Nat→Bool}{v:Int}(h:IsMin m n s d may v)(hs:∀i,i<m→s i=s' i)(hd:∀j,j<n→d j=d' j)(hm:∀i j,i<m→j<n→may i j=may' i j):IsMin m n s' d' may' v:=by
 obtain ⟨⟨T,hT⟩,h2⟩:=h;exact ⟨⟨T,by rw [hT,cut_congr hs hd hm]⟩,fun U=>by rw [←cut_congr hs hd hm]; exact h2 U⟩
theorem Flo.HH.congr{m n:Nat}{s s' d d':Nat→Int}{may may':Nat→Nat→Bool}{R:Int}(h:HH m n s d may R)(hs:∀i,i<m→s i=s' i)(hd:∀j,j<n→d j=d' j)(hm:∀i j,i<m→j<n→may i j=may' i j):HH m n s' d' may' R :=
 ⟨fun i hi=>by rw [←hs i hi]; exact h.tn i hi,fun j hj=>by rw [←hd j hj]; exact h.dn j hj,by rw [←h.td]; exact (Qaa hd).symm,by rw [←h.tt]; exact (Qaa hs).symm,fun T=>by rw [←cut_congr hs hd hm]; exact h.ct T⟩
section
variable {m n:Nat} {B:List Bool} {S N:List Int} (P:List AA) (c:List AC)
theorem totals_eq(hS:S.length=m)(hN:N.length=n)(hm:m≤10)(hn:n≤8)(hB:B.length=80)(hs:∀i,i<m→0≤gI S i∧gI S i≤68719476736)(hd:∀j,j<n→0≤gI N j∧gI N j≤68719476736) :
  ∃F T,f11n1 c (B,P,S,N)=some (.norm (F m) T)∧Rch m n (gI S) (gI N) (fun a b=>gB B (a*8+b)) F∧T.length=m∧∀i,i<m→gI T i=F (i+1)-F i:=by
 have hex:∀k,k≤m→∃v,f23r1 k S N c B P=some v∧IsMin k n (gI S) (gI N) (fun a b=>gB B (a*8+b)) v:=fun k hk=>by
  obtain ⟨v,h1,h2⟩:=flowr1_eq (p:=S) (q:=N) (B:=B) k c P (by omega) (by omega) (by omega) hB (fun i hi=>hs i (by omega)) (fun j hj=>hd j (by omega));rw [hN] at h2;exact ⟨v,h1,h2⟩
 let F:Nat→Int:=fun k=>(f23r1 k S N c B P).getD 0
 have hF:∀k,k≤m→f23r1 k S N c B P=some (F k)∧IsMin k n (gI S) (gI N) (fun a b=>gB B (a*8+b)) (F k):=fun k hk=>by
  obtain ⟨v,h1,h2⟩:=hex k hk;have:F k=v:=by show (f23r1 k S N c B P).getD 0=v; rw [h1]; rfl
  rw [this]; exact ⟨h1,h2⟩
 have hR:Rch m n (gI S) (gI N) (fun a b=>gB B (a*8+b)) F:=fun k hk=>(hF k hk).2;have hF0:F 0=0:=hR.zero fun j hj=>(hd j hj).1;have hFb:∀k,k≤m→0≤F k∧F k≤68719476736*k:=fun k=>by
  induction k with
  | zero=>intro _; rw [hF0]; simp
  | succ k ih =>
   intro hk;have h1:=ih (by omega);have h2:=hR.step (fun a ha=>(hs a ha).1) (k:=k) hk;have h3:=hs k hk;rw [Int.natCast_add,Int.mul_add];simp only [Int.natCast_one,Int.mul_one];omega
 have loop:∀(r f i:Nat)(T:List Int),i+r=m→r<f→T.length=i→(∀a,a<i→gI T a=F (a+1)-F a)→∃T',f11n2 f (B,P,S,N) c (F i) (i:Int) T=some (.exit0 (F m) T')∧T'.length=m∧∀a,a<m→gI T' a=F (a+1)-F a:=fun r=>by
  induction r with
  | zero =>
   intro f i T hi hf hT hv;cases f with
   | zero=>exact absurd hf (Nat.not_lt_zero _)
   | succ f =>
    have e:i=m:=by omega
    subst e;rw [f11n2,decide_eq_false (by show ¬((i:Int)<(S.length:Int)); omega),cond_false];exact ⟨T,rfl,hT,hv⟩
  | succ r ih =>
   intro f i T hi hf hT hv;cases f with
   | zero=>exact absurd hf (Nat.not_lt_zero _)
   | succ f =>
    have hi1:=hFb (i+1) (by omega);have hi0:=hFb i (by omega);rw [f11n2,decide_eq_true (by show (i:Int)<(S.length:Int); omega),cond_true,Qcd (by omega),Qaf (by show cutB 0 ((i+1:Nat):Int) S.length=true; unfold cutB; exact decide_eq_true (by omega)),Int.toNat_natCast,Nat.sub_zero];dsimp only;rw [(hF (i+1) (by omega)).1,bd_,Qaf (Qbd (by omega) (by omega)),wrIn (n:=F (i+1)-F i) (by omega) (by omega)];exact ih f (i+1) (T++[F (i+1)-F i]) (by omega) (by omega) (by simp [hT]) fun a ha=>by
     unfold gI;rw [List.getD_eq_getElem?_getD]
     by_cases e:a=i
     ·subst e;rw [List.getElem?_append_right (by omega),hT,Nat.sub_self]; rfl
     ·rw [List.getElem?_append_left (by omega),←List.getD_eq_getElem?_getD];exact hv a (by omega)
 obtain ⟨T,h1,h2,h3⟩:=loop m FUEL 0 [] (by omega) (Qz (by omega)) rfl fun a ha=>absurd ha (Nat.not_lt_zero _);refine ⟨F,T,?_,hR,h2,h3⟩;unfold f11n1;rw [hF0] at h1;have h1':f11n2 FUEL (B,P,S,N) c 0 0 []=_:=h1;rw [h1']; rfl
end
abbrev Gv:=Nat×Nat×Int
def sumA(a:Nat):List Gv→Int
 | []=>0
 | g::r=>(if g.1=a then g.2.2 else 0)+sumA a r
def sumB(b:Nat):List Gv→Int
 | []=>0
 | g::r=>(if g.2.1=b then g.2.2 else 0)+sumB b r
theorem sumA_app(a:Nat)(u v:List Gv):sumA a (u++v)=sumA a u+sumA a v:=by
 induction u with
 | nil=>simp [sumA]
 | cons x r ih=>rw [List.cons_append,sumA,sumA,ih]; omega
theorem sumB_app(b:Nat)(u v:List Gv):sumB b (u++v)=sumB b u+sumB b v:=by
 induction u with
 | nil=>simp [sumB]
 | cons x r ih=>rw [List.cons_append,sumB,sumB,ih]; omega
abbrev lexG(g h:Gv):Prop:=g.1<h.1∨(g.1=h.1∧g.2.1<h.2.1)
def nmA(P:List AA)(a:Nat):ByteArray:=match P[a]? with | some x=>x.Name | none=>str_x
def nmC(c:List AC)(b:Nat):ByteArray:=match c[b]? with | some x=>x.Name | none=>str_x
def useG(P:List AA)(c:List AC)(g:Gv):AU:=⟨nmA P g.1,nmC c g.2.1,g.2.2⟩
structure GS (m n:Nat) (mf:Nat→Nat→Bool) (t0 d0:Nat→Int) (i j:Nat) (R:Int) (B:List Bool) (t d:List Int) (G:List Gv):Prop where
 Bl:B.length=80
 tl:t.length=m
 dl:d.length=n
 hh:HH m n (gI t) (gI d) (fun a b=>gB B (a*8+b)) R
 bm:∀a b,a<m→b<n→gB B (a*8+b)=(mf a b&&!(decide (a<i)||(decide (a=i)&&decide (b<j))))
 ga:∀a,a<m→t0 a=gI t a+sumA a G
 gb:∀b,b<n→d0 b=gI d b+sumB b G
 gm:∀g∈G,g.1<m∧g.2.1<n∧mf g.1 g.2.1=true∧0<g.2.2∧g.2.2≤68719476736∧(g.1<i∨(g.1=i∧g.2.1<j))
 gp:G.Pairwise lexG
 tb:∀a,a<m→gI t a≤68719476736
 db:∀b,b<n→gI d b≤68719476736
theorem set_self{l:List Int}{k:Nat}(h:k<l.length):l.set k (gI l k)=l:=by
 apply List.ext_getElem?
 intro a;rw [List.getElem?_set]
 by_cases e:k=a
 ·subst e; rw [if_pos rfl,if_pos h,Qcc h]
 ·rw [if_neg e]
section
variable {m n:Nat} {mf:Nat→Nat→Bool} {t0 d0:Nat→Int} {P:List AA} {c:List AC} {S:List Int}
theorem give1{i j:Nat}{R:Int}{B:List Bool}{t d:List Int}{G:List Gv}(hm:m≤10)(hn:n≤8)(hi:i<m)(hj:j<n)(hs:GS m n mf t0 d0 i j R B t d G)(hmf:mf i j=true) :
  ∃ v, f23r2 (t.set i (gI t i - mnI (gI t i) (gI d j))) (d.set j (gI d j - mnI (gI t i) (gI d j))) c (B.set (i * 8 + j) false) P S = some v ∧
   IsMin m n (sub (gI t) i (mnI (gI t i) (gI d j))) (sub (gI d) j (mnI (gI t i) (gI d j))) (off (fun a b=>gB B (a*8+b)) i j) v ∧
   ∃x,x=mnI (gI t i) (gI d j)-(R-mnI (gI t i) (gI d j)-v)∧0≤x∧x≤mnI (gI t i) (gI d j) ∧
   GS m n mf t0 d0 i (j+1) (R-x) (B.set (i*8+j) false) (t.set i (gI t i-x)) (d.set j (gI d j-x)) (if 0<x then G++[(i,j,x)] else G):=by
 have htl:=hs.tl;have hdl:=hs.dl;have hBl:=hs.Bl;have hti:=hs.hh.tn i hi;have hdj:=hs.hh.dn j hj;have htb:=hs.tb i hi;have hdb:=hs.db j hj;have hmn:=mnI_le (gI t i) (gI d j);generalize hmo:mnI (gI t i) (gI d j)=most at *;have hit:i<t.length:=by omega
 have hjd:j<d.length:=by omega
 have hkB:i*8+j<B.length:=by omega
 have hmoff:∀a b,a<m→b<n→gB (B.set (i*8+j) false) (a*8+b)=off (fun a b=>gB B (a*8+b)) i j a b:=fun a b ha hb=>by
  rw [gB_set _ _ hkB];unfold off
  by_cases e:a=i∧b=j
  ·rw [if_pos (by rw [e.1,e.2]),e.1,e.2]; simp
  ·rw [if_neg (by omega)];have:(decide (a=i)&&decide (b=j))=false:=by
    rw [←Bool.decide_and]; exact decide_eq_false e
   rw [this]; simp
 have hset:∀(l:List Int)(k:Nat)(z:Int),k<l.length→∀a,gI (l.set k (gI l k-z)) a=sub (gI l) k z a:=fun l k z hk a=>by
  rw [Qan _ _ hk];unfold sub
  by_cases e:a=k
  ·subst e; rw [if_pos rfl,decide_eq_true rfl]; rfl
  ·rw [if_neg e,decide_eq_false e]; simp
 obtain ⟨v,h1,h2⟩:=flowr2_eq (p:=t.set i (gI t i-most)) (q:=d.set j (gI d j-most)) (B:=B.set (i*8+j) false) c P S (by rw [List.length_set]; omega) (by rw [List.length_set]; omega) (by rw [List.length_set]; exact hBl)
  (fun a ha=>by
   rw [List.length_set] at ha;rw [Qan _ _ hit];have:=hs.hh.tn a (by omega);have:=hs.tb a (by omega)
   by_cases e:a=i
   ·rw [if_pos e]; omega
   ·rw [if_neg e]; omega)
  (fun a ha=>by
   rw [List.length_set] at ha;rw [Qan _ _ hjd];have:=hs.hh.dn a (by omega);have:=hs.db a (by omega)
   by_cases e:a=j
   ·rw [if_pos e]; omega
   ·rw [if_neg e]; omega)
 rw [List.length_set,List.length_set,htl,hdl] at h2;have hv:IsMin m n (sub (gI t) i most) (sub (gI d) j most) (off (fun a b=>gB B (a*8+b)) i j) v:=h2.congr (fun a ha=>hset t i most hit a) (fun b hb=>hset d j most hjd b) hmoff;have hgij:gB B (i*8+j)=true:=by
  rw [hs.bm i j hi hj,hmf,decide_eq_false (by omega:¬i<i),decide_eq_false (by omega:¬j<j)]; simp
 obtain ⟨g1,g2,g3⟩:=give_ok hs.hh hi hj hgij hmn.1 hmn.2.1 hmn.2.2 hv;refine ⟨v,h1,hv,_,rfl,g1,g2,?_⟩;generalize hx:most-(R-most-v)=x at *;refine ⟨by rw [List.length_set]; exact hBl,by rw [List.length_set]; exact htl,by rw [List.length_set]; exact hdl,g3.congr (fun a ha=>(hset t i x hit a).symm) (fun b hb=>(hset d j x hjd b).symm) (fun a b ha hb=>(hmoff a b ha hb).symm),fun a b ha hb=>?_,fun a ha=>?_,fun b hb=>?_,fun g hg=>?_,?_,fun a ha=>?_,fun b hb=>?_⟩
 ·rw [gB_set _ _ hkB]
  by_cases e:a=i∧b=j
  ·rw [if_pos (by rw [e.1,e.2]),e.1,e.2,decide_eq_true rfl,decide_eq_true (by omega:j<j+1)]; simp
  ·rw [if_neg (by omega),hs.bm a b ha hb]
   congr 1; congr 1; congr 1
   by_cases ea:a=i
   ·rw [decide_eq_true ea];have:b≠j:=fun eb=>e ⟨ea,eb⟩;simp only [Bool.true_and];rw [decide_eq_decide]; omega
   ·rw [decide_eq_false ea]; simp
 ·rw [Qan _ _ hit];have h0:=hs.ga a ha;have key:sumA a (if 0<x then G++[(i,j,x)] else G)=sumA a G+(if a=i then x else 0):=by
   by_cases hx0:0<x
   ·rw [if_pos hx0,sumA_app];simp only [sumA]
    by_cases e:i=a
    ·rw [if_pos e,if_pos e.symm]; omega
    ·rw [if_neg e,if_neg fun h=>e h.symm]; omega
   ·rw [if_neg hx0]
    by_cases e:a=i
    ·rw [if_pos e]; omega
    ·rw [if_neg e]; omega
  rw [key]
  by_cases e:a=i
  ·subst e; rw [if_pos rfl,if_pos rfl]; omega
  ·rw [if_neg e,if_neg e]; omega
 ·rw [Qan _ _ hjd];have h0:=hs.gb b hb;have key:sumB b (if 0<x then G++[(i,j,x)] else G)=sumB b G+(if b=j then x else 0):=by
   by_cases hx0:0<x
   ·rw [if_pos hx0,sumB_app];simp only [sumB]
    by_cases e:j=b
    ·rw [if_pos e,if_pos e.symm]; omega
    ·rw [if_neg e,if_neg fun h=>e h.symm]; omega
   ·rw [if_neg hx0]
    by_cases e:b=j
    ·rw [if_pos e]; omega
    ·rw [if_neg e]; omega
  rw [key]
  by_cases e:b=j
  ·subst e; rw [if_pos rfl,if_pos rfl]; omega
  ·rw [if_neg e,if_neg e]; omega
 ·have old:∀g∈G,g.1<m∧g.2.1<n∧mf g.1 g.2.1=true∧0<g.2.2∧g.2.2≤68719476736∧(g.1<i∨(g.1=i∧g.2.1<j+1)):=fun g hg=>by
   obtain ⟨a1,a2,a3,a4,a5,a6⟩:=hs.gm g hg;exact ⟨a1,a2,a3,a4,a5,by omega⟩
  by_cases hx0:0<x
  ·rw [if_pos hx0] at hg;rcases List.mem_append.1 hg with hg | hg
   ·exact old g hg
   ·rw [List.mem_singleton] at hg;subst hg;exact ⟨hi,hj,hmf,hx0,by show x≤_; omega,.inr ⟨rfl,by show j<j+1; omega⟩⟩
  ·rw [if_neg hx0] at hg; exact old g hg
 ·by_cases hx0:0<x
  ·rw [if_pos hx0];refine List.pairwise_append.2 ⟨hs.gp,List.pairwise_singleton _ _,fun g hg k hk=>?_⟩;rw [List.mem_singleton] at hk;subst hk;obtain ⟨_,_,_,_,_,a6⟩:=hs.gm g hg;exact a6
  ·rw [if_neg hx0]; exact hs.gp
 ·rw [Qan _ _ hit];have:=hs.tb a ha
  by_cases e:a=i
  ·rw [if_pos e]; omega
  ·rw [if_neg e]; exact this
 ·rw [Qan _ _ hjd];have:=hs.db b hb
  by_cases e:b=j
  ·rw [if_pos e]; omega
  ·rw [if_neg e]; exact this
end
end Go.Proofs.Ytinabbgjignkbaa
namespace Go.Proofs.Ytinabbgjignkbaa
set_option linter.unusedVariables false
set_option linter.unusedSimpArgs false
open Go.RowKit Flo
section
variable {m n:Nat} {mf:Nat→Nat→Bool} {t0 d0:Nat→Int} {P:List AA} {c:List AC} {S N:List Int} {B0:List Bool}
theorem nmA_at{a:Nat}(h:a<P.length):P[a].Name=nmA P a:=by unfold nmA; rw [List.getElem?_eq_getElem h]
theorem nmC_at{b:Nat}(h:b<c.length):c[b].Name=nmC c b:=by unfold nmC; rw [List.getElem?_eq_getElem h]
theorem give_eq{i j:Nat}{R x:Int}{B:List Bool}{t d:List Int}{G:List Gv}(hP:P.length=m)(hc:c.length=n)(hi:i<m)(hj:j<n)(ht:t.length=m)(hd:d.length=n)(hti:0≤gI t i∧gI t i≤68719476736)(hdj:0≤gI d j∧gI d j≤68719476736)(hx:0≤x∧x≤68719476736)(hG:G.length≤1000) :
  f25r2 (i:Int) (j:Int) x R t c B (G.map (useG P c)) P S d=some (t.set i (gI t i-x),d.set j (gI d j-x),(if 0<x then G++[(i,j,x)] else G).map (useG P c)):=by
 unfold f25r2 f25r2n0;rw [at_gI (by omega),bd_,at_gI (by omega),bd_,wrIn (n:=gI t i-x) (by omega) (by omega),wrIn (n:=gI d j-x) (by omega) (by omega),Int.toNat_natCast,Int.toNat_natCast]
 by_cases h:0<x
 ·rw [decide_eq_true h,cond_true,if_pos h,at_in (by omega:i<P.length),bd_,at_in (by omega:j<c.length),bd_,Qaf (Qbd (by rw [List.length_map]; omega) (by omega)),nmA_at,nmC_at];simp only [Option.bind_some,List.map_append,List.map_cons,List.map_nil];rfl
 ·rw [decide_eq_false h,cond_false,if_neg h]; rfl
theorem HH.rest_bd{R:Int}{t d:Nat→Int}{mm:Nat→Nat→Bool}(h:HH m n t d mm R)(hn:n≤8)(hd:∀b,b<n→d b≤68719476736):0≤R∧R≤549755813888:=by
 have h1:0≤sN n d:=sN_nn h.dn;have h2:=sN_bd (f:=d) (b:=68719476736) (n:=n) hd;have h3:=h.td;omega
theorem row_eq(hP:P.length=m)(hc:c.length=n)(hm:m≤10)(hn:n≤8){i:Nat}(hi:i<m)(T0 dl:List Int)(hdl:dl.length=n):∀(w f j:Nat){R:Int}{B:List Bool}{t d:List Int}{G:List Gv},j+w=n→w<f→GS m n mf t0 d0 i j R B t d G→G.length≤i*8+j →
  ∃R' B' t' d' G',f11n5 f (i:Int) T0 dl c (B0,P,S,N) (j:Int) R B t (G.map (useG P c)) d=some (.exit4 R' B' t' (G'.map (useG P c)) d')∧GS m n mf t0 d0 i n R' B' t' d' G'∧G'.length≤i*8+n
 | _,0,_,_,_,_,_,_,_,h,_,_=>absurd h (Nat.not_lt_zero _)
 | 0,f+1,j,R,B,t,d,G,hw,_,hs,hG=>by
  have e:j=n:=by omega
  subst e;rw [f11n5,decide_eq_false (by omega),cond_false];exact ⟨R,B,t,d,G,rfl,hs,hG⟩
 | w+1,f+1,j,R,B,t,d,G,hw,hf,hs,hG=>by
  have hj:j<n:=by omega
  have hBl:=hs.Bl;rw [f11n5,decide_eq_true (by omega),cond_true,Qaf (Qbq (by omega)),Qaf (Qbq (by omega)),Int.toNat_natCast,Int.toNat_natCast,Nat.mul_one,gB_at (by omega),bd_,Qcd (by omega)];cases hmf:gB B (i*8+j) with
  | false =>
   rw [cond_false];have hmf2:mf i j=false:=by
    have:=hs.bm i j hi hj;rw [hmf,decide_eq_false (by omega:¬i<i),decide_eq_false (by omega:¬j<j)] at this;simpa using this.symm
   refine row_eq hP hc hm hn hi T0 dl hdl w f (j+1) (by omega) (by omega) { hs with bm:=fun a b ha hb=>?_,gm:=fun g hg=>?_ } (by omega)
   ·rw [hs.bm a b ha hb]
    by_cases e:a=i∧b=j
    ·rw [e.1,e.2,hmf2]; simp
    ·congr 1; congr 1; congr 1
     by_cases ea:a=i
     ·rw [decide_eq_true ea];have:b≠j:=fun eb=>e ⟨ea,eb⟩;simp only [Bool.true_and];rw [decide_eq_decide]; omega
     ·rw [decide_eq_false ea]; simp
   ·obtain ⟨a1,a2,a3,a4,a5,a6⟩:=hs.gm g hg;exact ⟨a1,a2,a3,a4,a5,by omega⟩
  | true =>
   have hmf2:mf i j=true:=by
    have:=hs.bm i j hi hj;rw [hmf,decide_eq_false (by omega:¬i<i),decide_eq_false (by omega:¬j<j)] at this;simpa using this.symm
   obtain ⟨v,h1,h2,x,hx,hx0,hx1,hs2⟩:=give1 (P:=P) (c:=c) (S:=S) hm hn hi hj hs hmf2;have hti:=hs.hh.tn i hi;have hdj:=hs.hh.dn j hj;have htb:=hs.tb i hi;have hdb:=hs.db j hj;have hmn:=mnI_le (gI t i) (gI d j);have hR:=HH.rest_bd hs.hh hn hs.db;have htl:=hs.tl;have hdl2:=hs.dl;rw [cond_true,at_gI (by omega),bd_,at_gI (by omega),bd_];dsimp only;generalize hmo:mnI (gI t i) (gI d j)=most at *;rw [wrIn (n:=gI t i-most) (by omega) (by omega),wrIn (n:=gI d j-most) (by omega) (by omega),h1,bd_,wrIn (n:=R-most) (by omega) (by omega),wrIn (n:=R-most-v) (by omega) (by omega),wrIn (n:=most-(R-most-v)) (by omega) (by omega),←hx,wrIn (n:=R-x) (by omega) (by omega)]
   rw [wrIn (n:=gI t i-most+most) (by omega) (by omega),wrIn (n:=gI d j-most+most) (by omega) (by omega),List.set_set,List.set_set,show gI t i-most+most=gI t i by omega,show gI d j-most+most=gI d j by omega,set_self (by omega:i<t.length),set_self (by omega:j<d.length)];rw [give_eq hP hc hi hj htl hdl2 ⟨hti,htb⟩ ⟨hdj,hdb⟩ ⟨hx0,by omega⟩ (by omega),bd_];refine row_eq hP hc hm hn hi T0 dl hdl w f (j+1) (by omega) (by omega) hs2 ?_
   by_cases hxp:0<x
   ·rw [if_pos hxp]; simp; omega
   ·rw [if_neg hxp]; omega
theorem all_eq(hP:P.length=m)(hc:c.length=n)(hm:m≤10)(hn:n≤8)(T0:List Int)(hT0:T0.length=m):∀(w f i:Nat){R:Int}{B:List Bool}{t d:List Int}{G:List Gv},i+w=m→w<f→GS m n mf t0 d0 i 0 R B t d G→G.length≤i*8 →
  ∃R' B' t' d' G',f11n6 f T0 c (B0,P,S,N) (i:Int) R B t (G.map (useG P c)) d=some (.exit2 (G'.map (useG P c)))∧GS m n mf t0 d0 m 0 R' B' t' d' G'∧G'.length≤m*8
 | _,0,_,_,_,_,_,_,_,h,_,_=>absurd h (Nat.not_lt_zero _)
 | 0,f+1,i,R,B,t,d,G,hw,_,hs,hG=>by
  have e:i=m:=by omega
  subst e;rw [f11n6,decide_eq_false (by omega),cond_false];exact ⟨R,B,t,d,G,rfl,hs,hG⟩
 | w+1,f+1,i,R,B,t,d,G,hw,hf,hs,hG=>by
  have hdl:=hs.dl;rw [f11n6,decide_eq_true (by omega),cond_true];obtain ⟨R',B',t',d',G',h1,h2,h3⟩:=row_eq (B0:=B0) (S:=S) (N:=N) hP hc hm hn (by omega:i<m) T0 d hdl n FUEL 0 (by omega) (Qz (by omega)) hs (by omega);have h1':f11n5 FUEL (i:Int) T0 d c (B0,P,S,N) 0 R B t (G.map (useG P c)) d=_:=h1;have e4:f11n4 T0 (i:Int) R c B t (G.map (useG P c)) (B0,P,S,N) d=some (.norm R' B' t' (G'.map (useG P c)) d'):=by
   unfold f11n4;rw [h1']; rfl
  rw [e4];simp only [Option.bind_some];rw [Qcd (by omega)];refine all_eq hP hc hm hn T0 hT0 w f (i+1) (by omega) (by omega) { h2 with bm:=fun a b ha hb=>?_,gm:=fun g hg=>?_ } (by omega)
  ·rw [h2.bm a b ha hb]
   congr 1; congr 1
   rw [decide_eq_true hb,Bool.and_true,decide_eq_false (by omega:¬b<0),Bool.and_false,Bool.or_false,←Bool.decide_or,decide_eq_decide];omega
  ·obtain ⟨a1,a2,a3,a4,a5,a6⟩:=h2.gm g hg;exact ⟨a1,a2,a3,a4,a5,by omega⟩
end
def sP(l:List AA)(i:Nat):Int:=gI ((srt l).map Qa.Amount) i
def dC(c:List AC)(j:Nat):Int:=gI (c.map Qb.Need) j
def mP(l:List AA)(c:List AC)(i j:Nat):Bool:=match (srt l)[i]?,c[j]? with
 | some x,some y=>memN x.For y.Name
 | _,_=>false
theorem gI_map{α:Type}(f:α→Int){l:List α}{i:Nat}(h:i<l.length):gI (l.map f) i=f l[i]:=by
 unfold gI;rw [List.getD_eq_getElem?_getD,List.getElem?_map,List.getElem?_eq_getElem h]; rfl
theorem sP_bd{l:List AA}{c:List AC}(h:OkL l c):∀i,i<l.length→0≤sP l i∧sP l i≤68719476736:=fun i hi=>by
 have hi2:i<(srt l).length:=by rw [srt_len]; exact hi
 unfold sP;rw [gI_map _ hi2];exact h.am _ ((srt_perm l).mem_iff.1 (List.getElem_mem hi2))
theorem dC_bd{l:List AA}{c:List AC}(h:OkL l c):∀j,j<c.length→1≤dC c j∧dC c j≤68719476736:=fun j hj=>by
 unfold dC;rw [gI_map _ hj];exact h.need _ (List.getElem_mem hj)
structure Cov (l:List AA) (c:List AC) (F:Nat→Int) (G:List Gv):Prop where
 gm:∀g∈G,g.1<l.length∧g.2.1<c.length∧mP l c g.1 g.2.1=true∧0<g.2.2∧g.2.2≤68719476736
 gp:G.Pairwise lexG
 ga:∀a,a<l.length→sumA a G=F (a+1)-F a
 gb:∀b,b<c.length→sumB b G=dC c b
 len:G.length≤80
def cU(a b:AU):Int:=cmpOr (cmpB a.Asset b.Asset) (cmpB a.Call b.Call)
theorem cU_cmp:Cmp cU:=(Cmp.str Qc.Asset).lex (Cmp.str Qc.Call)
theorem f27_eq(a b:AU):f27 a b=some (cU a b):=by
 unfold f27 f27n0;rw [f49_eq,f49_eq];simp only [Option.bind_some,f48_eq];rfl
theorem Flo.Rch.le{m n:Nat}{s d:Nat→Int}{may:Nat→Nat→Bool}{F:Nat→Int}(h:Rch m n s d may F){k:Nat}(hk:k≤m):F k≤sN n d:=by
 have:=(h k hk).2 (fun _=>false);unfold cut at this;have e:sN k (fun i=>bif tch n may (fun _=>false) i then s i else 0)=0:=Qbr fun a _=>by
  cases q:tch n may (fun _=>false) a with
  | false=>rfl
  | true =>
   obtain ⟨b,_,hb,_⟩:=Qah.1 q;cases hb
 rw [e] at this;simp only [cond_false] at this;show _≤sN n (fun j=>d j);omega
theorem cover_eq{l:List AA}{c:List AC}(hck:checkB l c=true):∃F,Rch l.length c.length (sP l) (dC c) (mP l c) F ∧
  ((F l.length<sN c.length (dC c)∧f11 l c=some ([],50))∨(F l.length=sN c.length (dC c)∧∃G,Cov l c F G∧f11 l c=some (sortL cU (G.map (useG (srt l) c)),0))):=by
 have h:=checkB_ok hck;have hl:=h.len;have hcl:=h.clen;have hPl:=srt_len l;obtain ⟨B,p1,p2,p3⟩:=posed_eq h;have hB:∀a b,a<l.length→b<c.length→gB B (a*8+b)=mP l c a b:=fun a b ha hb=>by
  rw [p3 a b (by omega) hb];unfold mP;rw [List.getElem?_eq_getElem (by omega:a<(srt l).length),List.getElem?_eq_getElem hb]
 have hs:=sP_bd h;have hd:∀j,j<c.length→0≤dC c j∧dC c j≤68719476736:=fun j hj=>by have:=dC_bd h j hj; omega
 obtain ⟨F,T,t1,t2,t3,t4⟩:=totals_eq (m:=l.length) (n:=c.length) (B:=B) (S:=(srt l).map Qa.Amount) (N:=c.map Qb.Need) (srt l) c (by simp [hPl]) (by simp) hl hcl p2 hs hd;have hR:Rch l.length c.length (sP l) (dC c) (mP l c) F:=fun k hk=>(t2 k hk).congr (fun _ _=>rfl) (fun _ _=>rfl) (fun a b ha hb=>hB a b (by omega) hb);refine ⟨F,hR,?_⟩;have hle:=hR.le (Nat.le_refl _);have hsum:f24r1 (c.map Qb.Need)=some (sN c.length (dC c)):=by
  have:=f24_eq (l:=c.map Qb.Need) (by simp; omega) (fun j hj=>hd j (by simpa using hj));rw [List.length_map] at this;exact this
 unfold f11 f11n0;rw [f13_eq,hck,bd_,cond_true,decide_eq_true rfl,cond_true,p1,bd_,t1];simp only [Option.bind_some];rw [hsum];simp only [Option.bind_some]
 by_cases hlt:F l.length<sN c.length (dC c)
 ·rw [decide_eq_true hlt];exact .inl ⟨hlt,rfl⟩
 ·rw [decide_eq_false hlt,cond_false];have heq:F l.length=sN c.length (dC c):=by omega
  have hst:GS l.length c.length (mP l c) (fun a=>F (a+1)-F a) (dC c) 0 0 (sN c.length (dC c)) B T (c.map Qb.Need) []:=by
   refine ⟨p2,t3,by simp,(HH.start hR (fun a ha=>(hs a ha).1) (fun b hb=>(hd b hb).1) heq).congr (fun a ha=>(t4 a ha).symm) (fun _ _=>rfl) (fun a b ha hb=>(hB a b ha hb).symm),fun a b ha hb=>?_,fun a ha=>?_,fun b hb=>?_,fun g hg=>(by cases hg),List.Pairwise.nil,fun a ha=>?_,fun b hb=>(hd b hb).2⟩
   ·rw [hB a b ha hb,decide_eq_false (by omega:¬a<0),decide_eq_false (by omega:¬b<0)]; simp
   ·rw [t4 a ha]; simp [sumA]
   ·show dC c b=dC c b+0; omega
   ·rw [t4 a ha];have:=(hR.step (fun a ha=>(hs a ha).1) ha).2;have:=(hs a ha).2;omega
  obtain ⟨R',B',t',d',G',g1,g2,g3⟩:=all_eq (B0:=B) (S:=(srt l).map Qa.Amount) (N:=c.map Qb.Need) (P:=srt l) (c:=c) hPl rfl hl hcl T t3 l.length FUEL 0 (by omega) (Qz (by omega)) hst (by simp);have g1':f11n6 FUEL T c (B,srt l,(srt l).map Qa.Amount,c.map Qb.Need) 0 (sN c.length (dC c)) B T [] (c.map Qb.Need)=_:=g1;have hdone:=g2.hh.done fun a b ha hb=>by rw [g2.bm a b ha hb,decide_eq_true ha]; simp
  refine .inr ⟨heq,G',⟨fun g hg=>?_,g2.gp,fun a ha=>?_,fun b hb=>?_,by omega⟩,?_⟩
  ·obtain ⟨a1,a2,a3,a4,a5,_⟩:=g2.gm g hg;exact ⟨a1,a2,a3,a4,a5⟩
  ·have:=g2.ga a ha;rw [hdone.2.1 a ha] at this;omega
  ·have:=g2.gb b hb;rw [hdone.2.2 b hb] at this;omega
  ·have e3:f11n3 (sN c.length (dC c)) c (B,srt l,(srt l).map Qa.Amount,c.map Qb.Need) T=some (.norm (G'.map (useG (srt l) c))):=by
    unfold f11n3;rw [show f11n6 FUEL T c (B,srt l,(srt l).map Qa.Amount,c.map Qb.Need) 0 (sN c.length (dC c)) (B,srt l,(srt l).map Qa.Amount,c.map Qb.Need).1 T [] (B,srt l,(srt l).map Qa.Amount,c.map Qb.Need).2.2.2=_ from g1']; rfl
   rw [e3];simp only [Option.bind_some];rw [so26_27_val f27_eq cU_cmp.SWO (by rw [List.length_map]; omega)]; rfl
theorem cover_bad{l:List AA}{c:List AC}(hck:checkB l c=false):f11 l c=some ([],8):=by
 unfold f11 f11n0;rw [f13_eq,hck]; rfl
end Go.Proofs.Ytinabbgjignkbaa
namespace Go.Proofs.Ytinabbgjignkbaa
set_option linter.unusedVariables false
set_option linter.unusedSimpArgs false
open Go.RowKit Flo
def sA(nm:ByteArray):List AU→Int
 | []=>0
 | x::r=>(bif seq x.Asset nm then x.Amount else 0)+sA nm r
def sC(nm:ByteArray):List AU→Int
 | []=>0
 | x::r=>(bif seq x.Call nm then x.Amount else 0)+sC nm r
theorem sA_perm{nm:ByteArray}{a b:List AU}(h:a.Perm b):sA nm a=sA nm b:=by
 induction h with
 | nil=>rfl
 | cons x _ ih=>rw [sA,sA,ih]
 | swap x y l=>simp only [sA]; omega
 | trans _ _ i1 i2=>exact i1.trans i2
theorem sC_perm{nm:ByteArray}{a b:List AU}(h:a.Perm b):sC nm a=sC nm b:=by
 induction h with
 | nil=>rfl
 | cons x _ ih=>rw [sC,sC,ih]
 | swap x y l=>simp only [sC]; omega
 | trans _ _ i1 i2=>exact i1.trans i2
theorem sA_bd{nm:ByteArray} : ∀{u:List AU},(∀x∈u,0≤x.Amount∧x.Amount≤68719476736)→0≤sA nm u∧sA nm u≤68719476736*u.length
 | [],_=>by simp [sA]
 | x::r,h=>by
  have h1:=sA_bd (nm:=nm) (u:=r) fun y hy=>h y (List.mem_cons_of_mem _ hy);have h2:=h x List.mem_cons_self;rw [sA,List.length_cons,Int.natCast_add,Int.mul_add];simp only [Int.natCast_one,Int.mul_one];cases seq x.Asset nm<;>simp only [cond_true,cond_false]<;>omega
theorem sC_bd{nm:ByteArray} : ∀{u:List AU},(∀x∈u,0≤x.Amount∧x.Amount≤68719476736)→0≤sC nm u∧sC nm u≤68719476736*u.length
 | [],_=>by simp [sC]
 | x::r,h=>by
  have h1:=sC_bd (nm:=nm) (u:=r) fun y hy=>h y (List.mem_cons_of_mem _ hy);have h2:=h x List.mem_cons_self;rw [sC,List.length_cons,Int.natCast_add,Int.mul_add];simp only [Int.natCast_one,Int.mul_one];cases seq x.Call nm<;>simp only [cond_true,cond_false]<;>omega

def ordU:Option AU→AU→Bool
 | none,_=>true
 | some p,x=>bif seq p.Asset x.Asset then slt p.Call x.Call else slt p.Asset x.Asset
def isA(a:AA)(x:AU):Bool:=seq a.Name x.Asset&&a.For.any fun s=>seq s x.Call
def knowU(l:List AA)(c:List AC)(x:AU):Bool:=(l.any fun a=>isA a x)&&c.any fun y=>seq y.Name x.Call
def goodU(l:List AA)(c:List AC)(p:Option AU)(x:AU):Bool:=inB x.Amount 1 68719476736&&(ordU p x&&knowU l c x)
def okU(l:List AA)(c:List AC):Option AU→List AU→Bool
 | _,[]=>true
 | p,x::r=>goodU l c p x&&okU l c (some x) r
section
variable {l:List AA} {c:List AC} {u:List AU}
theorem f15n4_eq{pre r:List AU}{x:AU}(h:u=pre++x::r)(hl:u.length≤1000):f15n4 l c u ((pre.length:Nat):Int)=some (.norm (!(inB x.Amount 1 68719476736&&ordU pre.getLast? x))):=by
 unfold f15n4 inB;rw [at_len h rfl,bd_]
 by_cases h1:x.Amount<1
 ·rw [decide_eq_true h1,decide_eq_false (by omega:¬1≤x.Amount)]; rfl
 ·rw [decide_eq_false h1,decide_eq_true (by omega:1≤x.Amount),cond_false]
  by_cases h2:68719476736<x.Amount
  ·rw [decide_eq_true h2,decide_eq_false (by omega:¬x.Amount≤68719476736)]; rfl
  ·rw [decide_eq_false h2,decide_eq_true (by omega:x.Amount≤68719476736),cond_false];rcases List.eq_nil_or_concat pre with rfl | ⟨q,y,rfl⟩
   ·simp only [List.length_nil,Int.natCast_zero,List.getLast?_nil,ordU];rw [decide_eq_false (by omega:¬(0:Int)<0)]; rfl
   ·rw [List.concat_eq_append] at h ⊢;have hq:q.length+1≤1000:=by rw [h] at hl; simp at hl; omega
    rw [decide_eq_true (by simp:(0:Int)<(((q++[y]).length:Nat):Int)),cond_true,show wr64 ((((q++[y]).length:Nat):Int)-1)=((q.length:Nat):Int) by rw [wrIn (by simp<;>omega) (by simp<;>omega)]; simp,at_len (k:=q.length) (a:=q) (x:=y) (b:=x::r) (by rw [h]; simp) rfl,bd_,List.getLast?_concat,ordU];cases slt y.Asset x.Asset<;>cases seq y.Asset x.Asset<;>cases slt y.Call x.Call<;>rfl
theorem f15n7_at{k i:Nat}{x:AU}{a:AA}(hx:at? u (k:Int)=some x)(ha:at? l (i:Int)=some a)(hF:a.For.length≤1000):∀(r:List ByteArray)(f v:Nat)(b:Bool),a.For.drop v=r→r.length<f→f15n7 f l c u (k:Int) (i:Int) b (v:Int)=some (.exit4 (b||(seq a.Name x.Asset&&r.any fun s=>seq s x.Call)))
 | _,0,_,_,_,h=>absurd h (Nat.not_lt_zero _)
 | [],f+1,v,b,hd,_=>by
  have:=Qai hd;rw [f15n7,ha,bd_,decide_eq_false (by omega),cond_false]; simp
 | s::r,f+1,v,b,hd,hf=>by
  obtain ⟨h1,h2,h3⟩:=dropAt hd;have ih:=fun b'=>f15n7_at hx ha hF r f (v+1) b' h3 (by simpa using hf);rw [f15n7,ha,bd_,decide_eq_true (by omega),cond_true,hx,bd_,Qcd (by omega)];cases hs:seq a.Name x.Asset with
  | false=>simp
  | true =>
   rw [cond_true,List.any_cons];rw [hs] at ih;cases b with
   | true=>rw [cond_true,ih]; simp
   | false=>rw [cond_false,h1,bd_,ih]; simp
theorem f15n8_at{k:Nat}{x:AU}(hx:at? u (k:Int)=some x)(hl:l.length≤1000)(hF:∀a∈l,a.For.length≤1000):∀(r:List AA)(f i:Nat)(b:Bool),l.drop i=r→r.length<f→f15n8 f l c u (k:Int) b (i:Int)=some (.exit2 (b||r.any fun a=>isA a x))
 | _,0,_,_,_,h=>absurd h (Nat.not_lt_zero _)
 | [],f+1,i,b,hd,_=>by
  have:=Qai hd;rw [f15n8,decide_eq_false (by omega),cond_false]; simp
 | a::r,f+1,i,b,hd,hf=>by
  obtain ⟨h1,h2,h3⟩:=dropAt hd;have haF:a.For.length≤1000:=hF a (List.mem_of_mem_drop (by rw [hd]; exact List.mem_cons_self));have e6:f15n6 l c u (k:Int) b (i:Int)=some (.norm (b||isA a x)):=by
   unfold f15n6;have:=f15n7_at (c:=c) hx h1 haF a.For FUEL 0 b List.drop_zero (Qz (by omega));rw [show ((0:Nat):Int)=0 from rfl] at this;rw [this]; rfl
  rw [f15n8,decide_eq_true (by omega),cond_true,e6];simp only [Option.bind_some];rw [Qcd (by omega),f15n8_at hx hl hF r f (i+1) _ h3 (by simpa using hf),List.any_cons,Bool.or_assoc]
theorem f15n10L_eq'{k:Nat}{x:AU}(hx:at? u (k:Int)=some x)(b5:Bool):∀(r:List AC)(b:Bool)(v:Int),f15n10L l c u (k:Int) b5 r b v=some (.exit6 (b||r.any fun y=>seq y.Name x.Call))
 | [],b,v=>by simp [f15n10L]
 | y::r,b,v=>by
  have ih:=fun b'=>f15n10L_eq' hx b5 r b' (v+1);rw [f15n10L,List.any_cons];cases b with
  | true=>rw [cond_true,ih]; simp
  | false=>rw [cond_false,hx,bd_,ih]; simp
theorem f15n2_eq{pre r:List AU}{x:AU}(h:u=pre++x::r)(hu:u.length≤1000)(hl:l.length≤1000)(hF:∀a∈l,a.For.length≤1000)(hc:c.length≤1000):f15n2 l c u ((pre.length:Nat):Int)=some (bif goodU l c pre.getLast? x then .norm else .ret):=by
 have hx:at? u ((pre.length:Nat):Int)=some x:=at_len h rfl;have e3:f15n3 l c u ((pre.length:Nat):Int)=some (bif inB x.Amount 1 68719476736&&ordU pre.getLast? x then .norm else .ret):=by
  unfold f15n3;rw [f15n4_eq h hu];cases inB x.Amount 1 68719476736&&ordU pre.getLast? x<;>rfl
 unfold f15n2 goodU;rw [e3,←Bool.and_assoc];cases inB x.Amount 1 68719476736&&ordU pre.getLast? x with
 | false=>rfl
 | true =>
  simp only [cond_true,Option.bind_some,Bool.true_and];have e5:f15n5 l c u ((pre.length:Nat):Int)=some (.norm (l.any fun a=>isA a x)):=by
   unfold f15n5;have:=f15n8_at (c:=c) hx hl hF l FUEL 0 false List.drop_zero (Qz (by omega));rw [show ((0:Nat):Int)=0 from rfl] at this;rw [this]; rfl
  rw [e5];simp only [Option.bind_some];have e9:f15n9 l c u ((pre.length:Nat):Int) (l.any fun a=>isA a x)=some (.norm (c.any fun y=>seq y.Name x.Call)):=by
   unfold f15n9;rw [f15n10_run _ _ _ _ _ _ (Qaq (by omega)),f15n10L_eq' hx]; rfl
  rw [e9];unfold knowU f15n11;cases (l.any fun a=>isA a x)<;>cases (c.any fun y=>seq y.Name x.Call)<;>rfl
theorem f15n12_at(hu:u.length≤1000)(hl:l.length≤1000)(hF:∀a∈l,a.For.length≤1000)(hc:c.length≤1000):∀(r pre:List AU)(f:Nat),u=pre++r→r.length<f→f15n12 f l c u ((pre.length:Nat):Int)=some (bif okU l c pre.getLast? r then .exit0 else .ret)
 | _,_,0,_,h=>absurd h (Nat.not_lt_zero _)
 | [],pre,f+1,h,_=>by rw [f15n12,decide_eq_false (by rw [h]; simp),cond_false]; rfl
 | x::r,pre,f+1,h,hf=>by
  have hp:pre.length<u.length:=by rw [h]; simp
  have ih:=f15n12_at hu hl hF hc r (pre++[x]) f (by rw [h]; simp) (by simpa using hf);rw [List.length_append,List.getLast?_concat] at ih;rw [f15n12,decide_eq_true (by omega),cond_true,f15n2_eq h hu hl hF hc,okU];cases goodU l c pre.getLast? x with
  | false=>rfl
  | true =>
   simp only [cond_true,Option.bind_some,Bool.true_and];rw [Qcd (by omega)];exact ih
theorem f15n1_eq(hu:u.length≤1000)(hl:l.length≤1000)(hF:∀a∈l,a.For.length≤1000)(hc:c.length≤1000):f15n1 l c u=some (bif okU l c none u then .norm else .ret):=by
 unfold f15n1;have:=f15n12_at hu hl hF hc u [] FUEL rfl (Qz (by omega));rw [show ((([]:List AU).length:Nat):Int)=0 from rfl,List.getLast?_nil] at this;rw [this];cases okU l c none u<;>rfl
theorem okU_am:∀{u:List AU} {p:Option AU},okU l c p u=true→∀x∈u,1≤x.Amount∧x.Amount≤68719476736
 | x::r,p,h,y,hy=>by
  rw [okU,Bool.and_eq_true] at h;rcases List.mem_cons.1 hy with rfl | hy
  ·have:=h.1;unfold goodU at this;rw [Bool.and_eq_true] at this;exact inB_iff.1 this.1
  ·exact okU_am h.2 y hy

theorem f15n16L_eq'{i:Nat}{a:AA}(ha:at? l (i:Int)=some a):∀(r:List AU)(v k:Int),f15n16L l c u (i:Int) r (wr64 v) k=some (.exit10 (wr64 (v+sA a.Name r)))
 | [],v,k=>by simp [f15n16L,sA]
 | x::r,v,k=>by
  rw [f15n16L,ha,bd_,sA];cases seq x.Asset a.Name with
  | true=>rw [cond_true,wrL,f15n16L_eq' ha r,cond_true,Int.add_assoc]
  | false=>rw [cond_false,f15n16L_eq' ha r,cond_false,Int.zero_add]
theorem f15n21L_eq'{i:Nat}{a:AC}(ha:at? c (i:Int)=some a):∀(r:List AU)(v k:Int),f15n21L c u (i:Int) r (wr64 v) k=some (.exit14 (wr64 (v+sC a.Name r)))
 | [],v,k=>by simp [f15n21L,sC]
 | x::r,v,k=>by
  rw [f15n21L,ha,bd_,sC];cases seq x.Call a.Name with
  | true=>rw [cond_true,wrL,f15n21L_eq' ha r,cond_true,Int.add_assoc]
  | false=>rw [cond_false,f15n21L_eq' ha r,cond_false,Int.zero_add]
theorem f15n17_at(hu:u.length≤1000)(hl:l.length≤1000)(ham:∀x∈u,1≤x.Amount∧x.Amount≤68719476736):∀(r:List AA)(f i:Nat),l.drop i=r→r.length<f→f15n17 f l c u (i:Int)=some (bif r.all fun a=>decide (sA a.Name u≤a.Amount) then .exit8 else .ret)
 | _,0,_,_,h=>absurd h (Nat.not_lt_zero _)
 | [],f+1,i,hd,_=>by
  have:=Qai hd;rw [f15n17,decide_eq_false (by omega),cond_false]; rfl
 | a::r,f+1,i,hd,hf=>by
  obtain ⟨h1,h2,h3⟩:=dropAt hd;have hb:=sA_bd (nm:=a.Name) (u:=u) fun x hx=>by have:=ham x hx; omega
  have e14:f15n14 l c u (i:Int)=some (bif decide (sA a.Name u≤a.Amount) then .norm else .ret):=by
   have e15:f15n15 l c u (i:Int)=some (.norm (sA a.Name u)):=by
    unfold f15n15;have:=f15n16L_eq' (c:=c) (u:=u) h1 u 0 0;rw [Int.zero_add,wrIn (n:=sA a.Name u) (by omega) (by omega)] at this;have this':f15n16L l c u (i:Int) u 0 0=_:=this;rw [f15n16_run _ _ _ _ _ (Qaq (by omega)),this']; rfl
   unfold f15n14;rw [e15];simp only [Option.bind_some];rw [h1,bd_]
   by_cases h:sA a.Name u≤a.Amount
   ·rw [decide_eq_false (by omega),decide_eq_true h]; rfl
   ·rw [decide_eq_true (by omega),decide_eq_false h]; rfl
  rw [f15n17,decide_eq_true (by omega),cond_true,e14,List.all_cons];cases decide (sA a.Name u≤a.Amount) with
  | false=>rfl
  | true =>
   simp only [cond_true,Option.bind_some,Bool.true_and];rw [Qcd (by omega)];exact f15n17_at hu hl ham r f (i+1) h3 (by simpa using hf)
theorem f15n22_at(hu:u.length≤1000)(hl:c.length≤1000)(ham:∀x∈u,1≤x.Amount∧x.Amount≤68719476736):∀(r:List AC)(f i:Nat),c.drop i=r→r.length<f→f15n22 f c u (i:Int)=some (bif r.all fun a=>decide (sC a.Name u=a.Need) then .exit12 else .ret)
 | _,0,_,_,h=>absurd h (Nat.not_lt_zero _)
 | [],f+1,i,hd,_=>by
  have:=Qai hd;rw [f15n22,decide_eq_false (by omega),cond_false]; rfl
 | a::r,f+1,i,hd,hf=>by
  obtain ⟨h1,h2,h3⟩:=dropAt hd;have hb:=sC_bd (nm:=a.Name) (u:=u) fun x hx=>by have:=ham x hx; omega
  have e14:f15n19 c u (i:Int)=some (bif decide (sC a.Name u=a.Need) then .norm else .ret):=by
   have e15:f15n20 c u (i:Int)=some (.norm (sC a.Name u)):=by
    unfold f15n20;have:=f15n21L_eq' (u:=u) h1 u 0 0;rw [Int.zero_add,wrIn (n:=sC a.Name u) (by omega) (by omega)] at this;have this':f15n21L c u (i:Int) u 0 0=_:=this;rw [f15n21_run _ _ _ _ (Qaq (by omega)),this']; rfl
   unfold f15n19;rw [e15];simp only [Option.bind_some];rw [h1,bd_];cases decide (sC a.Name u=a.Need)<;>rfl
  rw [f15n22,decide_eq_true (by omega),cond_true,e14,List.all_cons];cases decide (sC a.Name u=a.Need) with
  | false=>rfl
  | true =>
   simp only [cond_true,Option.bind_some,Bool.true_and];rw [Qcd (by omega)];exact f15n22_at hu hl ham r f (i+1) h3 (by simpa using hf)
end
def coverB(l:List AA)(c:List AC)(u:List AU):Bool :=
 okU l c none u&&((l.all fun a=>decide (sA a.Name u≤a.Amount))&&((c.all fun y=>decide (sC y.Name u=y.Need))&&decide (u.length≤80)))
theorem f15_eq{l:List AA}{c:List AC}{u:List AU}(hu:u.length≤1000)(hl:l.length≤1000)(hF:∀a∈l,a.For.length≤1000)(hc:c.length≤1000):f15 l c u=some (coverB l c u):=by
 unfold f15 f15n0 coverB;rw [f15n1_eq hu hl hF hc];cases hok:okU l c none u with
 | false=>rfl
 | true =>
  have ham:=okU_am hok;simp only [cond_true,Option.bind_some,Bool.true_and];have e13:f15n13 l c u=some (bif l.all fun a=>decide (sA a.Name u≤a.Amount) then .norm else .ret):=by
   unfold f15n13;have:=f15n17_at (c:=c) hu hl ham l FUEL 0 List.drop_zero (Qz (by omega));rw [show ((0:Nat):Int)=0 from rfl] at this;rw [this];cases l.all fun a=>decide (sA a.Name u≤a.Amount)<;>rfl
  have e18:f15n18 c u=some (bif c.all fun a=>decide (sC a.Name u=a.Need) then .norm else .ret):=by
   unfold f15n18;have:=f15n22_at hu hc ham c FUEL 0 List.drop_zero (Qz (by omega));rw [show ((0:Nat):Int)=0 from rfl] at this;rw [this];cases c.all fun a=>decide (sC a.Name u=a.Need)<;>rfl
  rw [e13];cases l.all fun a=>decide (sA a.Name u≤a.Amount) with
  | false=>rfl
  | true =>
   simp only [cond_true,Option.bind_some,Bool.true_and];rw [e18];cases c.all fun a=>decide (sC a.Name u=a.Need) with
   | false=>rfl
   | true =>
    simp only [cond_true,Option.bind_some,Bool.true_and]
    congr 1
    rw [decide_eq_decide]; omega
end Go.Proofs.Ytinabbgjignkbaa
namespace Go.Proofs.Ytinabbgjignkbaa
set_option linter.unusedVariables false
set_option linter.unusedSimpArgs false
open Go.RowKit Flo
theorem seq_sy(a b:ByteArray):seq a b=seq b a:=by
 cases h:seq b a with
 | true=>rw [seq_iff.1 h,seq_refl]
 | false=>rw [seqF]; intro e; rw [e,seq_refl] at h; cases h
theorem slt_ne{a b:ByteArray}(h:slt a b=true):a≠b:=sltNe h

theorem nm_pw{l:List AA}{c:List AC}(h:OkL l c):(srt l).Pairwise fun a b=>a.Name≠b.Name:=by
 have h1:l.Pairwise fun a b=>a.Name≠b.Name:=h.nd.imp fun {a b} k=>slt_ne k;exact ((srt_perm l).pairwise_iff fun {a b} k e=>k e.symm).2 h1
theorem nmA_inj{l:List AA}{c:List AC}(h:OkL l c){a b:Nat}(ha:a<l.length)(hb:b<l.length)(e:nmA (srt l) a=nmA (srt l) b):a=b:=by
 have ha':a<(srt l).length:=by rw [srt_len]; exact ha
 have hb':b<(srt l).length:=by rw [srt_len]; exact hb
 rw [←nmA_at ha',←nmA_at hb'] at e;have hp:=List.pairwise_iff_getElem.1 (nm_pw h);rcases Nat.lt_trichotomy a b with k | k | k
 ·exact absurd e (hp a b ha' hb' k)
 ·exact k
 ·exact absurd e.symm (hp b a hb' ha' k)
theorem nmC_inj{l:List AA}{c:List AC}(h:OkL l c){a b:Nat}(ha:a<c.length)(hb:b<c.length)(e:nmC c a=nmC c b):a=b:=by
 rw [←nmC_at ha,←nmC_at hb] at e;have hp:=List.pairwise_iff_getElem.1 h.cnd;rcases Nat.lt_trichotomy a b with k | k | k
 ·exact absurd e (slt_ne (hp a b ha hb k))
 ·exact k
 ·exact absurd e.symm (slt_ne (hp b a hb ha k))
section
variable {l:List AA} {c:List AC} {F:Nat→Int} {G:List Gv}
theorem sA_use(h:OkL l c){a:Nat}(ha:a<l.length):∀{G:List Gv},(∀g∈G,g.1<l.length)→sA (nmA (srt l) a) (G.map (useG (srt l) c))=sumA a G
 | [],_=>rfl
 | g::r,hg=>by
  rw [List.map_cons,sA,sumA,sA_use h ha fun k hk=>hg k (List.mem_cons_of_mem _ hk)];have hg1:=hg g List.mem_cons_self;show (bif seq (nmA (srt l) g.1) (nmA (srt l) a) then g.2.2 else 0)+_=_
  by_cases e:g.1=a
  ·rw [e,seq_refl,if_pos rfl]; rfl
  ·rw [seqF fun k=>e (nmA_inj h hg1 ha k),if_neg e]; rfl
theorem sC_use(h:OkL l c){b:Nat}(hb:b<c.length):∀{G:List Gv},(∀g∈G,g.2.1<c.length)→sC (nmC c b) (G.map (useG (srt l) c))=sumB b G
 | [],_=>rfl
 | g::r,hg=>by
  rw [List.map_cons,sC,sumB,sC_use h hb fun k hk=>hg k (List.mem_cons_of_mem _ hk)];have hg1:=hg g List.mem_cons_self;show (bif seq (nmC c g.2.1) (nmC c b) then g.2.2 else 0)+_=_
  by_cases e:g.2.1=b
  ·rw [e,seq_refl,if_pos rfl]; rfl
  ·rw [seqF fun k=>e (nmC_inj h hg1 hb k),if_neg e]; rfl
theorem cU_zero{a b:AU} : cU a b=0↔a.Asset=b.Asset∧a.Call=b.Call:=by
 unfold cU;rw [cmpOr_zero,cmpB_zero,cmpB_zero]
noncomputable def chosen(l:List AA)(c:List AC)(G:List Gv):List AU:=sortL cU (G.map (useG (srt l) c))
theorem ch_perm:(chosen l c G).Perm (G.map (useG (srt l) c)):=sortL_perm cU_cmp.SWO _
theorem ch_mem{x:AU}(hx:x∈chosen l c G):∃g∈G,x=useG (srt l) c g:=by
 obtain ⟨g,h1,h2⟩:=List.mem_map.1 (ch_perm.mem_iff.1 hx);exact ⟨g,h1,h2.symm⟩
theorem ch_sorted(h:OkL l c)(hG:Cov l c F G):(chosen l c G).Pairwise fun x y=>cU x y<0:=by
 have hne:(G.map (useG (srt l) c)).Pairwise fun x y=>cU x y≠0:=by
  rw [List.pairwise_map];refine (List.Pairwise.and_mem.1 hG.gp).imp fun {g k} ⟨hg,hk,hgk⟩ e=>?_;obtain ⟨e1,e2⟩:=cU_zero.1 e;have hg':=hG.gm g hg;have hk':=hG.gm k hk;have i1:=nmA_inj h hg'.1 hk'.1 e1;have i2:=nmC_inj h hg'.2.1 hk'.2.1 e2;rcases hgk with q | ⟨_,q⟩<;>omega
 have hne':(chosen l c G).Pairwise fun x y=>cU x y≠0:=(ch_perm.pairwise_iff fun {x y} k e=>k (by
  obtain ⟨e1,e2⟩:=cU_zero.1 e;exact cU_zero.2 ⟨e1.symm,e2.symm⟩)).2 hne
 have hs:=sortL_sorted cU_cmp.SWO (G.map (useG (srt l) c));refine (hs.and hne').imp fun {x y} ⟨k1,k2⟩=>?_;have k3:¬cU y x<0:=of_decide_eq_false k1;refine Classical.byContradiction fun k4=>k2 (cU_cmp.tot k4 k3)
theorem ordU_of{x y:AU}(h:cU x y<0):ordU (some x) y=true:=by
 unfold cU cmpOr at h;show (bif seq x.Asset y.Asset then slt x.Call y.Call else slt x.Asset y.Asset)=true
 by_cases e:cmpB x.Asset y.Asset=0
 ·rw [decide_eq_true e,cond_true] at h;rw [seq_iff.2 (cmpB_zero.1 e),cond_true];exact cmpB_neg.1 h
 ·rw [decide_eq_false e,cond_false] at h;rw [seqF fun k=>e (cmpB_zero.2 k),cond_false];exact cmpB_neg.1 h
theorem okU_of:∀{u:List AU} {p:Option AU},(∀x∈u,inB x.Amount 1 68719476736=true∧knowU l c x=true)→u.Pairwise (fun x y=>cU x y<0)→(∀q,p=some q→∀x∈u,cU q x<0)→okU l c p u=true
 | [],_,_,_,_=>rfl
 | x::r,p,hk,hs,hp=>by
  have hs':=List.pairwise_cons.1 hs;have hx:=hk x List.mem_cons_self;rw [okU,okU_of (fun y hy=>hk y (List.mem_cons_of_mem _ hy)) hs'.2 fun q hq y hy=>by
   obtain rfl:=Option.some.inj hq;exact hs'.1 y hy]
  have ho:ordU p x=true:=by
   cases p with
   | none=>rfl
   | some q=>exact ordU_of (hp q rfl x List.mem_cons_self)
  unfold goodU;rw [hx.1,hx.2,ho]; rfl
theorem use_know(h:OkL l c)(hG:Cov l c F G){g:Gv}(hg:g∈G):inB (useG (srt l) c g).Amount 1 68719476736=true∧knowU l c (useG (srt l) c g)=true:=by
 obtain ⟨g1,g2,g3,g4,g5⟩:=hG.gm g hg;have g1':g.1<(srt l).length:=by rw [srt_len]; exact g1
 refine ⟨inB_iff.2 ⟨by show 1≤g.2.2; omega,g5⟩,?_⟩;unfold mP at g3;rw [List.getElem?_eq_getElem g1',List.getElem?_eq_getElem g2] at g3;simp only at g3;unfold knowU;rw [Bool.and_eq_true]
 constructor
 ·refine List.any_eq_true.2 ⟨(srt l)[g.1],(srt_perm l).mem_iff.1 (List.getElem_mem g1'),?_⟩;unfold isA;rw [Bool.and_eq_true];refine ⟨seq_iff.2 (nmA_at g1'),?_⟩;unfold memN at g3;obtain ⟨s,s1,s2⟩:=List.any_eq_true.1 g3;refine List.any_eq_true.2 ⟨s,s1,?_⟩;rw [seq_sy];show seq (nmC c g.2.1) s=true;rw [←nmC_at g2]; exact s2
 ·exact List.any_eq_true.2 ⟨c[g.2.1],List.getElem_mem g2,seq_iff.2 (nmC_at g2)⟩
theorem ch_cover(h:OkL l c)(hG:Cov l c F G)(hR:Rch l.length c.length (sP l) (dC c) (mP l c) F):coverB l c (chosen l c G)=true:=by
 have hok:okU l c none (chosen l c G)=true:=okU_of (fun x hx=>by
  obtain ⟨g,hg,rfl⟩:=ch_mem hx;exact use_know h hG hg) (ch_sorted h hG) (fun q hq=>by cases hq)
 have hs:=sP_bd h;unfold coverB;rw [hok,Bool.true_and,Bool.and_eq_true,Bool.and_eq_true];refine ⟨List.all_eq_true.2 fun a ha=>decide_eq_true ?_,List.all_eq_true.2 fun y hy=>decide_eq_true ?_,decide_eq_true ?_⟩
 ·obtain ⟨k,hk,rfl⟩:=List.getElem_of_mem ((srt_perm l).mem_iff.2 ha);have hk':k<l.length:=by rw [←srt_len l]; exact hk
  rw [nmA_at hk,sA_perm ch_perm,sA_use h hk' fun g hg=>(hG.gm g hg).1,hG.ga k hk'];have:=(hR.step (fun a ha=>(hs a ha).1) hk').2;unfold sP at this;rw [gI_map _ hk] at this;exact this
 ·obtain ⟨b,hb,rfl⟩:=List.getElem_of_mem hy;rw [nmC_at hb,sC_perm ch_perm,sC_use h hb fun g hg=>(hG.gm g hg).2.1,hG.gb b hb];unfold dC;rw [gI_map _ hb]
 ·rw [ch_perm.length_eq,List.length_map]; exact hG.len
end
theorem f31n2_at{u:List AU}(hu:u.length≤1000):∀(r pre:List AU)(f:Nat),u=pre++r→r.length<f→(∀x∈u,inB x.Amount 1 68719476736=true)→u.Pairwise (fun x y=>cU x y<0)→f31n2 f u ((pre.length:Nat):Int)=some .exit0
 | _,_,0,_,h,_,_=>absurd h (Nat.not_lt_zero _)
 | [],pre,f+1,h,_,_,_=>by rw [f31n2,decide_eq_false (by rw [h]; simp),cond_false]
 | x::r,pre,f+1,h,hf,ha,hs=>by
  have hp:pre.length<u.length:=by rw [h]; simp
  have ih:=f31n2_at hu r (pre++[x]) f (by rw [h]; simp) (by simpa using hf) ha hs;rw [List.length_append] at ih;have hx:=ha x (by rw [h]; simp);rw [f31n2,decide_eq_true (by omega),cond_true,at_len h rfl,bd_,f29_eq,hx,bd_,cond_true];rcases List.eq_nil_or_concat pre with rfl | ⟨q,y,rfl⟩
  ·simp only [List.length_nil,Int.natCast_zero];rw [decide_eq_false (by omega:¬(0:Int)<0),cond_false,show wr64 ((0:Int)+1)=1 from rfl];simpa using ih
  ·rw [List.concat_eq_append] at h hp ih ⊢;have hq:q.length+1<1000:=by simp at hp; omega
   have hyx:cU y x<0:=by
    rw [h] at hs;have:=(List.pairwise_append.1 hs).2.2 y (by simp) x List.mem_cons_self;exact this
   rw [decide_eq_true (by simp:(0:Int)<(((q++[y]).length:Nat):Int)),cond_true,show wr64 ((((q++[y]).length:Nat):Int)-1)=((q.length:Nat):Int) by rw [wrIn (by simp<;>omega) (by simp<;>omega)]; simp,at_len (k:=q.length) (a:=q) (x:=y) (b:=x::r) (by rw [h]; simp) rfl,bd_,f27_eq,bd_,decide_eq_false (by omega),cond_false,Qcd (by simp; omega)];exact ih
theorem f31_eq{u:List AU}(hu:u.length≤80)(ha:∀x∈u,inB x.Amount 1 68719476736=true)(hs:u.Pairwise fun x y=>cU x y<0):f31 u=some true:=by
 unfold f31 f31n0 f31n1;have:=f31n2_at (u:=u) (by omega) u [] FUEL rfl (Qz (by omega)) ha hs;rw [show ((([]:List AU).length:Nat):Int)=0 from rfl] at this;rw [decide_eq_false (by omega),cond_false,this]; rfl
theorem f32w_eq(bg:List AA)(e:AU):∀(pre:List AA)(x:AA)(post:List AA)(k:Nat),(∀y∈pre,y.Name≠e.Asset)→x.Name=e.Asset→f32r1n2L bg e (pre++x::post) (k:Int)=some (.ret ((k+pre.length:Nat):Int))
 | [],x,post,k,_,hx=>by
  have e3:f33r1 x e=some ():=rfl;rw [List.nil_append,f32r1n2L,e3,bd_,seq_iff.2 hx]; rfl
 | y::pre,x,post,k,hp,hx=>by
  have e3:f33r1 y e=some ():=rfl;rw [List.cons_append,f32r1n2L,e3,bd_,seqF (hp y List.mem_cons_self),cond_false,show ((k:Int)+1)=((k+1:Nat):Int) by omega,f32w_eq bg e pre x post (k+1) (fun z hz=>hp z (List.mem_cons_of_mem _ hz)) hx,List.length_cons]
  congr 3; omega
theorem f34w_eq(bg:List AC)(e:AU):∀(pre:List AC)(x:AC)(post:List AC)(k:Nat),(∀y∈pre,y.Name≠e.Call)→x.Name=e.Call→f34r1n2L bg e (pre++x::post) (k:Int)=some (.ret ((k+pre.length:Nat):Int))
 | [],x,post,k,_,hx=>by
  have e3:f35r1 x e=some ():=rfl;rw [List.nil_append,f34r1n2L,e3,bd_,seq_iff.2 hx]; rfl
 | y::pre,x,post,k,hp,hx=>by
  have e3:f35r1 y e=some ():=rfl;rw [List.cons_append,f34r1n2L,e3,bd_,seqF (hp y List.mem_cons_self),cond_false,show ((k:Int)+1)=((k+1:Nat):Int) by omega,f34w_eq bg e pre x post (k+1) (fun z hz=>hp z (List.mem_cons_of_mem _ hz)) hx,List.length_cons]
  congr 3; omega
section
variable {l:List AA} {c:List AC}
theorem f32_eq(h:OkL l c){a:Nat}(ha:a<l.length){e:AU}(he:e.Asset=nmA (srt l) a):f32r1 (srt l) e=some (a:Int):=by
 have ha':a<(srt l).length:=by rw [srt_len]; exact ha
 have hlen:=h.len;have hsl:=srt_len l;have hsp:srt l=(srt l).take a++(srt l)[a]::(srt l).drop (a+1):=by rw [←List.drop_eq_getElem_cons ha',List.take_append_drop]
 have:=f32w_eq (srt l) e ((srt l).take a) (srt l)[a] ((srt l).drop (a+1)) 0 (fun y hy=>by
  obtain ⟨k,hk,rfl⟩:=List.getElem_of_mem hy;rw [List.length_take] at hk;rw [List.getElem_take,he,nmA_at (by omega)];intro q;have:=nmA_inj h (by omega) ha q;omega) (by rw [he,nmA_at ha'])
 rw [←hsp] at this;have this':f32r1n2L (srt l) e (srt l) 0=_:=this;unfold f32r1 f32r1n0 f32r1n1;rw [f32r1n2_run _ _ (Qaq (by omega)),this'];simp only [Option.bind_some,List.length_take,Nat.zero_add];rw [Nat.min_eq_left (by omega)]
theorem f34_eq(h:OkL l c){b:Nat}(hb:b<c.length){e:AU}(he:e.Call=nmC c b):f34r1 c e=some (b:Int):=by
 have hlen:=h.clen;have hsp:c=c.take b++c[b]::c.drop (b+1):=by rw [←List.drop_eq_getElem_cons hb,List.take_append_drop]
 have:=f34w_eq c e (c.take b) c[b] (c.drop (b+1)) 0 (fun y hy=>by
  obtain ⟨k,hk,rfl⟩:=List.getElem_of_mem hy;rw [List.length_take] at hk;rw [List.getElem_take,he,nmC_at (by omega)];intro q;have:=nmC_inj h (by omega) hb q;omega) (by rw [he,nmC_at hb])
 rw [←hsp] at this;have this':f34r1n2L c e c 0=_:=this;unfold f34r1 f34r1n0 f34r1n1;rw [f34r1n2_run _ _ (Qaq (by omega)),this'];simp only [Option.bind_some,List.length_take,Nat.zero_add];rw [Nat.min_eq_left (by omega)]
theorem f16w_eq(h:OkL l c){B:List Bool}(hB:B.length=80)(hmf:∀a b,a<l.length→b<c.length→gB B (a*8+b)=mP l c a b)(S0 N0:List Int)(bg:List AU):∀(u:List AU)(v:Int)(S N:List Int),S.length=l.length→N.length=c.length →
  (∀x∈u,∃a b,a<l.length∧b<c.length∧mP l c a b=true∧x.Asset=nmA (srt l) a∧x.Call=nmC c b∧0≤x.Amount∧x.Amount≤68719476736) →
  (∀a,a<l.length→-1125899906842624+68719476736*(u.length:Int)≤gI S a∧gI S a≤68719476736)→(∀b,b<c.length→-1125899906842624+68719476736*(u.length:Int)≤gI N b∧gI N b≤68719476736) →
  ∃S' N',f16n2L bg c (B,srt l,S0,N0) u v S N=some (.exit0 S' N')∧S'.length=l.length∧N'.length=c.length∧(∀a,a<l.length→gI S' a=gI S a-sA (nmA (srt l) a) u)∧∀b,b<c.length→gI N' b=gI N b-sC (nmC c b) u:=by
 intro u
 induction u with
 | nil =>
  intro v S N hS hN _ _ _;refine ⟨S,N,?_,hS,hN,fun a _=>?_,fun b _=>?_⟩
  ·rw [f16n2L]
  ·rw [sA]; omega
  ·rw [sC]; omega
 | cons x r ih =>
  intro v S N hS hN hk hsb hnb;have hl:=h.len;have hcl:=h.clen;obtain ⟨a,b,ha,hb,hab,h1,h2,h3,h4⟩:=hk x List.mem_cons_self;have ha2:=hsb a ha;have hb2:=hnb b hb;simp only [List.length_cons,Int.natCast_add,Int.natCast_one] at ha2 hb2;rw [f16n2L];dsimp only;rw [f32_eq h ha h1,bd_,f34_eq h hb h2,bd_,decide_eq_false (by omega),cond_false,decide_eq_false (by omega),cond_false,Qaf (Qbq (by omega)),Qaf (Qbq (by omega)),Int.toNat_natCast,Int.toNat_natCast,Nat.mul_one,gB_at (by omega),bd_,hmf a b ha hb,hab,cond_true,at_gI (by omega),bd_,at_gI (by omega),bd_,wrIn (n:=gI S a-x.Amount) (by omega) (by omega),wrIn (n:=gI N b-x.Amount) (by omega) (by omega)];obtain ⟨S',N',g1,g2,g3,g4,g5⟩:=ih (v+1) (S.set a (gI S a-x.Amount)) (N.set b (gI N b-x.Amount)) (by rw [List.length_set]; exact hS) (by rw [List.length_set]; exact hN) (fun y hy=>hk y (List.mem_cons_of_mem _ hy))
   (fun k hk'=>by
    have:=hsb k hk';simp only [List.length_cons,Int.natCast_add,Int.natCast_one] at this;rw [Qan _ _ (by omega)]
    by_cases e:k=a
    ·subst e; rw [if_pos rfl]; omega
    ·rw [if_neg e]; omega)
   (fun k hk'=>by
    have:=hnb k hk';simp only [List.length_cons,Int.natCast_add,Int.natCast_one] at this;rw [Qan _ _ (by omega)]
    by_cases e:k=b
    ·subst e; rw [if_pos rfl]; omega
    ·rw [if_neg e]; omega)
  refine ⟨S',N',g1,g2,g3,fun k hk'=>?_,fun k hk'=>?_⟩
  ·rw [g4 k hk',Qan _ _ (by omega),sA,h1]
   by_cases e:k=a
   ·subst e; rw [if_pos rfl,seq_refl,cond_true]; omega
   ·rw [if_neg e,seqF fun q=>e (nmA_inj h ha hk' q).symm,cond_false]; omega
  ·rw [g5 k hk',Qan _ _ (by omega),sC,h2]
   by_cases e:k=b
   ·subst e; rw [if_pos rfl,seq_refl,cond_true]; omega
   ·rw [if_neg e,seqF fun q=>e (nmC_inj h hb hk' q).symm,cond_false]; omega
theorem f38a_eq{S:List Int}(hS:S.length≤1000)(h:∀a,a<S.length→0≤gI S a):f38_36 S=some false:=by
 have hL:∀(r pre:List Int)(v:Int),S=pre++r→f51_36n2L S r v=some .exit0:=fun r=>by
  induction r with
  | nil=>intro pre v _; rfl
  | cons x r ih =>
   intro pre v hs;have hx:0≤x:=by
    have:=h pre.length (by rw [hs]; simp);have e:gI S pre.length=x:=by unfold gI; rw [List.getD_eq_getElem?_getD,hs]; simp
    rw [e] at this; exact this
   have e36:f36 x=some (decide (x<0)):=rfl;rw [f51_36n2L,e36,bd_,decide_eq_false (by omega),cond_false];exact ih (pre++[x]) _ (by rw [hs]; simp)
 unfold f38_36 f38_36n0 f51_36 f51_36n0 f51_36n1;rw [f51_36n2_run _ (Qaq (by omega)),hL S [] 0 rfl]; rfl
theorem f38b_eq{S:List Int}(hS:S.length≤1000)(h:∀a,a<S.length→gI S a=0):f38_37 S=some false:=by
 have hL:∀(r pre:List Int)(v:Int),S=pre++r→f51_37n2L S r v=some .exit0:=fun r=>by
  induction r with
  | nil=>intro pre v _; rfl
  | cons x r ih =>
   intro pre v hs;have hx:x=0:=by
    have:=h pre.length (by rw [hs]; simp);have e:gI S pre.length=x:=by unfold gI; rw [List.getD_eq_getElem?_getD,hs]; simp
    rw [e] at this; exact this
   have e37:f37 x=some (!(decide (x=0))):=rfl;rw [f51_37n2L,e37,bd_,decide_eq_true hx];exact ih (pre++[x]) _ (by rw [hs]; simp)
 unfold f38_37 f38_37n0 f51_37 f51_37n0 f51_37n1;rw [f51_37n2_run _ (Qaq (by omega)),hL S [] 0 rfl]; rfl
theorem covers_ch{F:Nat→Int}{G:List Gv}(hck:checkB l c=true)(hG:Cov l c F G)(hR:Rch l.length c.length (sP l) (dC c) (mP l c) F):f16 l c (chosen l c G)=some true:=by
 have h:=checkB_ok hck;have hl:=h.len;have hcl:=h.clen;have hPl:=srt_len l;have hs:=sP_bd h;have hd:=dC_bd h;obtain ⟨B,p1,p2,p3⟩:=posed_eq h;have hB:∀a b,a<l.length→b<c.length→gB B (a*8+b)=mP l c a b:=fun a b ha hb=>by
  rw [p3 a b (by omega) hb];unfold mP;rw [List.getElem?_eq_getElem (by omega:a<(srt l).length),List.getElem?_eq_getElem hb]
 have hlen:(chosen l c G).length≤80:=by rw [ch_perm.length_eq,List.length_map]; exact hG.len
 have hk:∀x∈chosen l c G,∃a b,a<l.length∧b<c.length∧mP l c a b=true∧x.Asset=nmA (srt l) a∧x.Call=nmC c b∧0≤x.Amount∧x.Amount≤68719476736:=fun x hx=>by
  obtain ⟨g,hg,rfl⟩:=ch_mem hx;obtain ⟨g1,g2,g3,g4,g5⟩:=hG.gm g hg;exact ⟨g.1,g.2.1,g1,g2,g3,rfl,rfl,by show 0≤g.2.2; omega,g5⟩
 obtain ⟨S',N',q1,q2,q3,q4,q5⟩:=f16w_eq h p2 hB ((srt l).map Qa.Amount) (c.map Qb.Need) (chosen l c G) (chosen l c G) 0 ((srt l).map Qa.Amount) (c.map Qb.Need) (by simp [hPl]) (by simp) hk
  (fun a ha=>by have:=hs a ha; unfold sP at this; omega) (fun b hb=>by have:=hd b hb; unfold dC at this; omega)
 have e1:f16n1 (chosen l c G) c (B,srt l,(srt l).map Qa.Amount,c.map Qb.Need)=some (.norm S' N'):=by
  unfold f16n1;rw [f16n2_run _ _ _ _ _ (Qaq (by omega))];rw [show f16n2L (chosen l c G) c (B,srt l,(srt l).map Qa.Amount,c.map Qb.Need) (chosen l c G) 0 (B,srt l,(srt l).map Qa.Amount,c.map Qb.Need).2.2.1 (B,srt l,(srt l).map Qa.Amount,c.map Qb.Need).2.2.2=_ from q1];rfl
 unfold f16 f16n0;rw [f13_eq,hck,bd_,cond_true,decide_eq_true rfl,cond_true,f31_eq hlen (fun x hx=>by
  obtain ⟨g,hg,rfl⟩:=ch_mem hx;exact (use_know h hG hg).1) (ch_sorted h hG),bd_,cond_true,p1,bd_,e1]
 simp only [Option.bind_some];rw [f38a_eq (by omega) fun a ha=>by
  rw [q4 a (by omega),sA_perm ch_perm,sA_use h (by omega) fun g hg=>(hG.gm g hg).1,hG.ga a (by omega)];have:=(hR.step (fun a ha=>(hs a ha).1) (by omega:a<l.length)).2;unfold sP at this;omega]
 simp only [Option.bind_some,cond_false];rw [f38b_eq (by omega) fun b hb=>by
  rw [q5 b (by omega),sC_perm ch_perm,sC_use h (by omega) fun g hg=>(hG.gm g hg).2.1,hG.gb b (by omega)];unfold dC;omega]
 rfl
end
end Go.Proofs.Ytinabbgjignkbaa
namespace Go.Proofs.Ytinabbgjignkbaa
set_option linter.unusedVariables false
set_option linter.unusedSimpArgs false
open Go.RowKit Flo
theorem shr_eq(s:Nat){j:Nat}(hj:j<8):shrK .i64 (s:Int) (Qs (j:Int))=((s / 2 ^ j:Nat):Int):=by
 have e:∀k:Nat,k<8→(2:Int) ^ (min (Qs (k:Int)).toNat IntKind.i64.bits)=((2 ^ k:Nat):Int):=by decide
 unfold shrK;rw [e j hj,Int.fdiv_eq_ediv_of_nonneg _ (Int.natCast_nonneg _)];rfl
theorem wru_nn{j:Nat}(hj:j≤8):0≤Qs (j:Int):=by
 have:∀k:Nat,k<9→0≤Qs (k:Int):=by decide
 exact this j (by omega)
theorem shl_eq{n:Nat}(hn:n≤8):shlK .i64 1 (Qs (n:Int))=((2 ^ n:Nat):Int):=by
 have:∀k:Nat,k<9→shlK .i64 1 (Qs (k:Int))=((2 ^ k:Nat):Int):=by decide
 exact this n (by omega)
def bitN(s j:Nat):Bool:=decide (s / 2 ^ j % 2=1)
theorem bitI_eq(s:Nat){j:Nat}(hj:j<8):decide (Int.tmod (shrK .i64 (s:Int) (Qs (j:Int))) 2=1)=bitN s j:=by
 rw [shr_eq s hj];unfold bitN;rw [decide_eq_decide,Int.tmod_eq_emod_of_nonneg (Int.natCast_nonneg _)];omega
theorem bit_set:∀(n:Nat)(T:Nat→Bool),∃s,s<2 ^ n∧∀j,j<n→bitN s j=T j
 | 0,T=>⟨0,by decide,fun j h=>absurd h (Nat.not_lt_zero _)⟩
 | n+1,T=>by
  obtain ⟨s,h1,h2⟩:=bit_set n T;cases hT:T n with
  | false =>
   refine ⟨s,by rw [Nat.pow_succ]; omega,fun j hj=>?_⟩
   by_cases e:j=n
   ·subst e;rw [hT];unfold bitN;rw [Nat.div_eq_of_lt h1]; rfl
   ·exact h2 j (by omega)
  | true =>
   refine ⟨2 ^ n+s,by rw [Nat.pow_succ]; omega,fun j hj=>?_⟩
   by_cases e:j=n
   ·subst e;rw [hT];unfold bitN;rw [Nat.add_div_left _ (Nat.two_pow_pos j),Nat.div_eq_of_lt h1]; rfl
   ·rw [←h2 j (by omega)];unfold bitN;have e1:2 ^ n=2 ^ j*(2*2 ^ (n-j-1)):=by
     rw [←Nat.mul_assoc,←Nat.pow_succ,←Nat.pow_add]
     congr 1; omega
    rw [e1,Nat.mul_add_div (Nat.two_pow_pos j),decide_eq_decide];omega

def sumC(T:Nat→Bool):Nat→List AC→Int
 | _,[]=>0
 | k,y::r=>(bif T k then y.Need else 0)+sumC T (k+1) r
def anyC(T:Nat→Bool)(q:ByteArray→Bool):Nat→List AC→Bool
 | _,[]=>false
 | k,y::r=>(T k&&q y.Name)||anyC T q (k+1) r
theorem sumC_sN(T:Nat→Bool):∀(c:List AC)(k:Nat),sumC T k c=sN c.length (fun j=>bif T (k+j) then dC c j else 0)
 | [],k=>rfl
 | y::r,k=>by
  rw [sumC,List.length_cons,sN_succ,sumC_sN T r (k+1)]
  congr 1
  refine Qaa fun j hj=>?_;rw [show k+(j+1)=k+1+j by omega]; rfl
theorem anyC_iff(T:Nat→Bool)(q:ByteArray→Bool):∀(c:List AC)(k:Nat),anyC T q k c=true↔∃j,∃h:j<c.length,T (k+j)=true∧q c[j].Name=true
 | [],k=>by
  constructor
  ·intro h; cases h
  ·rintro ⟨j,h,_⟩; exact absurd h (Nat.not_lt_zero _)
 | y::r,k=>by
  rw [anyC,Bool.or_eq_true,Bool.and_eq_true,anyC_iff T q r (k+1)]
  constructor
  ·rintro (⟨h1,h2⟩|⟨j,hj,h1,h2⟩)
   ·exact ⟨0,by simp,h1,h2⟩
   ·exact ⟨j+1,by simpa using hj,by rw [show k+(j+1)=k+1+j by omega]; exact h1,h2⟩
  ·rintro ⟨j,hj,h1,h2⟩
   cases j with
   | zero=>exact .inl ⟨h1,h2⟩
   | succ j=>exact .inr ⟨j,by simpa using hj,by rw [show k+1+j=k+(j+1) by omega]; exact h1,h2⟩
def tchX(c:List AC)(T:Nat→Bool)(a:AA):Bool:=a.For.any fun s=>anyC T (fun nm=>seq nm s) 0 c
def sumX(c:List AC)(T:Nat→Bool):List AA→Int
 | []=>0
 | a::r=>(bif tchX c T a then a.Amount else 0)+sumX c T r
theorem sumX_perm(c:List AC)(T:Nat→Bool){a b:List AA}(h:a.Perm b):sumX c T a=sumX c T b:=by
 induction h with
 | nil=>rfl
 | cons x _ ih=>rw [sumX,sumX,ih]
 | swap x y l=>simp only [sumX]; omega
 | trans _ _ i1 i2=>exact i1.trans i2
theorem sumX_sN(c:List AC)(T:Nat→Bool):∀P:List AA,sumX c T P=sN P.length (fun i=>match P[i]? with | some a=>(bif tchX c T a then a.Amount else 0) | none=>0)
 | []=>rfl
 | a::r=>by
  rw [sumX,List.length_cons,sN_succ,sumX_sN c T r];rfl
theorem tch_X{l:List AA}{c:List AC}(T:Nat→Bool){i:Nat}(hi:i<(srt l).length):tch c.length (mP l c) T i=tchX c T (srt l)[i]:=by
 have key:tch c.length (mP l c) T i=true↔tchX c T (srt l)[i]=true:=by
  rw [Qah];unfold tchX;rw [List.any_eq_true]
  constructor
  ·rintro ⟨j,hj,h1,h2⟩
   unfold mP at h2;rw [List.getElem?_eq_getElem hi,List.getElem?_eq_getElem hj] at h2;simp only at h2;unfold memN at h2;obtain ⟨s,s1,s2⟩:=List.any_eq_true.1 h2;exact ⟨s,s1,(anyC_iff T _ c 0).2 ⟨j,hj,by rw [Nat.zero_add]; exact h1,s2⟩⟩
  ·rintro ⟨s,s1,s2⟩
   obtain ⟨j,hj,h1,h2⟩:=(anyC_iff T _ c 0).1 s2;rw [Nat.zero_add] at h1;refine ⟨j,hj,h1,?_⟩;unfold mP;rw [List.getElem?_eq_getElem hi,List.getElem?_eq_getElem hj];exact List.any_eq_true.2 ⟨s,s1,h2⟩
 cases h1:tch c.length (mP l c) T i<;>cases h2:tchX c T (srt l)[i]<;>simp [h1,h2] at key ⊢
theorem cut_list(l:List AA)(c:List AC)(T:Nat→Bool):cut l.length c.length (sP l) (dC c) (mP l c) T=sN c.length (dC c)-sumC T 0 c+sumX c T l:=by
 unfold cut;have e1:sN c.length (fun j=>bif T j then 0 else dC c j)=sN c.length (dC c)-sumC T 0 c:=by
  rw [sumC_sN,←sN_sub];refine Qaa fun j hj=>?_;rw [Nat.zero_add];cases T j<;>simp
 have e2:sN l.length (fun i=>bif tch c.length (mP l c) T i then sP l i else 0)=sumX c T l:=by
  rw [←sumX_perm c T (srt_perm l),sumX_sN,srt_len];refine Qaa fun i hi=>?_;have hi':i<(srt l).length:=by rw [srt_len]; exact hi
  rw [tch_X T hi',List.getElem?_eq_getElem hi'];unfold sP;rw [gI_map _ hi']
 rw [e1,e2]
def Enough(l:List AA)(c:List AC):Prop:=∀T:Nat→Bool,sumC T 0 c≤sumX c T l
theorem enough_iff{l:List AA}{c:List AC}{F:Nat→Int}(hR:Rch l.length c.length (sP l) (dC c) (mP l c) F):Enough l c↔F l.length=sN c.length (dC c):=by
 constructor
 ·intro h;obtain ⟨⟨T,hT⟩,h2⟩:=hR l.length (Nat.le_refl _);have:=hR.le (Nat.le_refl _);rw [cut_list] at hT;have:=h T;omega
 ·intro h T;have:=(hR l.length (Nat.le_refl _)).2 T;rw [cut_list] at this;omega
section
variable {l:List AA} {c:List AC}
theorem f14n4L_eq'(hc:c.length≤8)(s:Nat):∀(r pre:List AC)(v:Int),c=pre++r→f14n4L l c (s:Int) r (wr64 v) ((pre.length:Nat):Int)=some (.exit2 (wr64 (v-sumC (bitN s) pre.length r)))
 | [],pre,v,_=>by rw [f14n4L,sumC,Int.sub_zero]
 | y::r,pre,v,h=>by
  have hp:pre.length<c.length:=by rw [h]; simp
  have ih:=fun v'=>f14n4L_eq' hc s r (pre++[y]) v' (by rw [h]; simp);simp only [List.length_append,List.length_cons,List.length_nil,Nat.zero_add] at ih;rw [f14n4L,Qaf (decide_eq_true (wru_nn (by omega))),bitI_eq s (by omega),sumC,show ((pre.length:Nat):Int)+1=((pre.length+1:Nat):Int) by omega];cases bitN s pre.length with
  | true=>rw [cond_true,wrLs,ih,cond_true]; congr 3; omega
  | false=>rw [cond_false,ih,cond_false,Int.zero_add]
theorem f14n9L_eq'(hc:c.length≤8)(s:Nat)(g4:Int){i k:Nat}{a:AA}{nm:ByteArray}(ha:at? l (i:Int)=some a)(hn:at? a.For (k:Int)=some nm):∀(r pre:List AC)(b:Bool),c=pre++r→f14n9L l c (s:Int) g4 (i:Int) (k:Int) r b ((pre.length:Nat):Int)=some (.exit8 (b||anyC (bitN s) (fun x=>seq x nm) pre.length r))
 | [],pre,b,_=>by simp [f14n9L,anyC]
 | y::r,pre,b,h=>by
  have hp:pre.length<c.length:=by rw [h]; simp
  have ih:=fun b'=>f14n9L_eq' hc s g4 ha hn r (pre++[y]) b' (by rw [h]; simp);simp only [List.length_append,List.length_cons,List.length_nil,Nat.zero_add] at ih;rw [f14n9L,anyC,show ((pre.length:Nat):Int)+1=((pre.length+1:Nat):Int) by omega];cases b with
  | true=>rw [cond_true,ih]; simp
  | false =>
   rw [cond_false,Qaf (decide_eq_true (wru_nn (by omega))),bitI_eq s (by omega)];cases bitN s pre.length with
   | true=>rw [cond_true,ha,bd_,hn,bd_,ih]; simp
   | false=>rw [cond_false,ih]; simp
theorem f14n10_at(hc:c.length≤8)(s:Nat)(g4:Int){i:Nat}{a:AA}(ha:at? l (i:Int)=some a)(hF:a.For.length≤1000):∀(r:List ByteArray)(f k:Nat)(b:Bool),a.For.drop k=r→r.length<f→f14n10 f l c (s:Int) g4 (i:Int) b (k:Int)=some (.exit6 (b||r.any fun nm=>anyC (bitN s) (fun x=>seq x nm) 0 c))
 | _,0,_,_,_,h=>absurd h (Nat.not_lt_zero _)
 | [],f+1,k,b,hd,_=>by
  have:=Qai hd;rw [f14n10,ha,bd_,decide_eq_false (by omega),cond_false]; simp
 | nm::r,f+1,k,b,hd,hf=>by
  obtain ⟨h1,h2,h3⟩:=dropAt hd;have e8:f14n8 l c (s:Int) g4 (i:Int) b (k:Int)=some (.norm (b||anyC (bitN s) (fun x=>seq x nm) 0 c)):=by
   unfold f14n8;have:=f14n9L_eq' hc s g4 ha h1 c [] b rfl;have this':f14n9L l c (s:Int) g4 (i:Int) (k:Int) c b 0=_:=this;rw [f14n9_run _ _ _ _ _ _ _ (Qaq (by omega)),this']; rfl
  rw [f14n10,ha,bd_,decide_eq_true (by omega),cond_true,e8];simp only [Option.bind_some];rw [Qcd (by omega),f14n10_at hc s g4 ha hF r f (k+1) _ h3 (by simpa using hf),List.any_cons,Bool.or_assoc]
theorem f14n11_at(hl:l.length≤1000)(hF:∀a∈l,a.For.length≤1000)(hc:c.length≤8)(s:Nat):∀(r:List AA)(f i:Nat)(v:Int),l.drop i=r→r.length<f→f14n11 f l c (s:Int) (wr64 v) (i:Int)=some (.exit4 (wr64 (v+sumX c (bitN s) r)))
 | _,0,_,_,_,h=>absurd h (Nat.not_lt_zero _)
 | [],f+1,i,v,hd,_=>by
  have:=Qai hd;rw [f14n11,decide_eq_false (by omega),cond_false,sumX,Int.add_zero]
 | a::r,f+1,i,v,hd,hf=>by
  obtain ⟨h1,h2,h3⟩:=dropAt hd;have haF:a.For.length≤1000:=hF a (List.mem_of_mem_drop (by rw [hd]; exact List.mem_cons_self));have e7:f14n7 l c (s:Int) (wr64 v) (i:Int)=some (.norm (tchX c (bitN s) a)):=by
   unfold f14n7;have:=f14n10_at hc s (wr64 v) h1 haF a.For FUEL 0 false List.drop_zero (Qz (by omega));rw [show ((0:Nat):Int)=0 from rfl] at this;rw [this]; rfl
  have e6:f14n6 l c (s:Int) (wr64 v) (i:Int)=some (.norm (wr64 (v+(bif tchX c (bitN s) a then a.Amount else 0)))):=by
   unfold f14n6;rw [e7];simp only [Option.bind_some];cases tchX c (bitN s) a with
   | true=>rw [cond_true,h1,bd_,wrL]; rfl
   | false=>rw [cond_false,cond_false,Int.add_zero]
  rw [f14n11,decide_eq_true (by omega),cond_true,e6];simp only [Option.bind_some];rw [Qcd (by omega),f14n11_at hl hF hc s r f (i+1) _ h3 (by simpa using hf),sumX,Int.add_assoc]
theorem sumC_bd(T:Nat→Bool):∀(c:List AC)(k:Nat),(∀y∈c,0≤y.Need∧y.Need≤68719476736)→0≤sumC T k c∧sumC T k c≤68719476736*c.length
 | [],k,_=>by simp [sumC]
 | y::r,k,h=>by
  have h1:=sumC_bd T r (k+1) fun z hz=>h z (List.mem_cons_of_mem _ hz);have h2:=h y List.mem_cons_self;rw [sumC,List.length_cons,Int.natCast_add,Int.mul_add];simp only [Int.natCast_one,Int.mul_one];cases T k<;>simp only [cond_true,cond_false]<;>omega
theorem sumX_bd(c:List AC)(T:Nat→Bool):∀(l:List AA),(∀y∈l,0≤y.Amount∧y.Amount≤68719476736)→0≤sumX c T l∧sumX c T l≤68719476736*l.length
 | [],_=>by simp [sumX]
 | y::r,h=>by
  have h1:=sumX_bd c T r fun z hz=>h z (List.mem_cons_of_mem _ hz);have h2:=h y List.mem_cons_self;rw [sumX,List.length_cons,Int.natCast_add,Int.mul_add];simp only [Int.natCast_one,Int.mul_one];cases tchX c T y<;>simp only [cond_true,cond_false]<;>omega
theorem f14n2_eq(h:OkL l c)(s:Nat):f14n2 l c (s:Int)=some (bif decide (sumC (bitN s) 0 c≤sumX c (bitN s) l) then .norm else .ret):=by
 have hl:=h.len;have hc:=h.clen;have b1:=sumC_bd (bitN s) c 0 fun y hy=>by have:=h.need y hy; omega
 have b2:=sumX_bd c (bitN s) l h.am;have e3:f14n3 l c (s:Int)=some (.norm (wr64 (0-sumC (bitN s) 0 c))):=by
  unfold f14n3;have:=f14n4L_eq' (l:=l) hc s c [] 0 rfl;have this':f14n4L l c (s:Int) c 0 0=_:=this;rw [f14n4_run _ _ _ _ (Qaq (by omega)),this']; rfl
 have e5:f14n5 l c (s:Int) (wr64 (0-sumC (bitN s) 0 c))=some (.norm (0-sumC (bitN s) 0 c+sumX c (bitN s) l)):=by
  unfold f14n5;have:=f14n11_at (l:=l) (by omega) (fun a ha=>by have:=h.flen a ha; omega) hc s l FUEL 0 (0-sumC (bitN s) 0 c) List.drop_zero (Qz (by omega));rw [show ((0:Nat):Int)=0 from rfl,wrIn (n:=0-sumC (bitN s) 0 c+sumX c (bitN s) l) (by omega) (by omega)] at this;rw [this]; rfl
 unfold f14n2;rw [e3];simp only [Option.bind_some];rw [e5];simp only [Option.bind_some]
 by_cases hle:sumC (bitN s) 0 c≤sumX c (bitN s) l
 ·rw [decide_eq_false (by omega),decide_eq_true hle]; rfl
 ·rw [decide_eq_true (by omega),decide_eq_false hle]; rfl
theorem f14n12_at(h:OkL l c):∀(r f s:Nat),s+r=2 ^ c.length→r<f→(f14n12 f l c (s:Int)=some .exit0∧∀t,s≤t→t<2 ^ c.length→sumC (bitN t) 0 c≤sumX c (bitN t) l)∨(f14n12 f l c (s:Int)=some .ret∧∃t,¬sumC (bitN t) 0 c≤sumX c (bitN t) l)
 | _,0,_,_,h=>absurd h (Nat.not_lt_zero _)
 | 0,f+1,s,hs,_=>by
  have hc:=h.clen;rw [f14n12,Qaf (decide_eq_true (wru_nn hc)),shl_eq hc,decide_eq_false (by omega),cond_false];exact .inl ⟨rfl,fun t h1 h2=>by omega⟩
 | r+1,f+1,s,hs,hf=>by
  have hc:=h.clen;have hp:2 ^ c.length≤256:=Nat.pow_le_pow_right (by decide) hc;rw [f14n12,Qaf (decide_eq_true (wru_nn hc)),shl_eq hc,decide_eq_true (by omega),cond_true,f14n2_eq h]
  by_cases hle:sumC (bitN s) 0 c≤sumX c (bitN s) l
  ·rw [decide_eq_true hle];simp only [cond_true,Option.bind_some];rw [Qcd (by omega)];rcases f14n12_at h r f (s+1) (by omega) (by omega) with ⟨k1,k2⟩|⟨k1,k2⟩
   ·refine .inl ⟨k1,fun t h1 h2=>?_⟩
    by_cases e:t=s
    ·subst e; exact hle
    ·exact k2 t (by omega) h2
   ·exact .inr ⟨k1,k2⟩
  ·rw [decide_eq_false hle];exact .inr ⟨rfl,s,hle⟩
theorem sumC_congr{T U:Nat→Bool} : ∀(c:List AC)(k:Nat),(∀j,j<c.length→T (k+j)=U (k+j))→sumC T k c=sumC U k c
 | [],_,_=>rfl
 | y::r,k,h=>by
  rw [sumC,sumC,sumC_congr (U:=U) r (k+1) fun j hj=>by rw [show k+1+j=k+(j+1) by omega]; exact h (j+1) (by simpa using hj)];have:=h 0 (by simp);rw [Nat.add_zero] at this;rw [this]
theorem anyC_congr{T U:Nat→Bool}{q:ByteArray→Bool} : ∀(c:List AC)(k:Nat),(∀j,j<c.length→T (k+j)=U (k+j))→anyC T q k c=anyC U q k c
 | [],_,_=>rfl
 | y::r,k,h=>by
  rw [anyC,anyC,anyC_congr (U:=U) r (k+1) fun j hj=>by rw [show k+1+j=k+(j+1) by omega]; exact h (j+1) (by simpa using hj)];have:=h 0 (by simp);rw [Nat.add_zero] at this;rw [this]
theorem sumX_congr{T U:Nat→Bool}(h:∀j,j<c.length→T j=U j):∀l:List AA,sumX c T l=sumX c U l
 | []=>rfl
 | a::r=>by
  have e:tchX c T a=tchX c U a:=by
   unfold tchX
   congr 1
   funext s
   exact anyC_congr c 0 fun j hj=>by rw [Nat.zero_add]; exact h j hj
  rw [sumX,sumX,sumX_congr h r,e]
theorem f14_eq(h:OkL l c):∃b,f14 l c=some b∧(b=true↔Enough l c):=by
 have hp:2 ^ c.length≤256:=Nat.pow_le_pow_right (by decide) h.clen;unfold f14 f14n0 f14n1;rcases f14n12_at h (2 ^ c.length) FUEL 0 (by omega) (Qz (by omega)) with ⟨k1,k2⟩|⟨k1,t,k2⟩
 ·rw [show ((0:Nat):Int)=0 from rfl] at k1;rw [k1];refine ⟨true,rfl,fun _ T=>?_,fun _=>rfl⟩;obtain ⟨s,s1,s2⟩:=bit_set c.length T;have:=k2 s (Nat.zero_le _) s1;rw [sumC_congr c 0 (U:=T) fun j hj=>by rw [Nat.zero_add]; exact s2 j hj,sumX_congr s2] at this;exact this
 ·rw [show ((0:Nat):Int)=0 from rfl] at k1;rw [k1];exact ⟨false,rfl,fun q=>(by cases q),fun q=>absurd (q _) k2⟩
end
theorem lawCovers(l:List Qa)(c:List Qb)(hm:l.length≤maxLen∧∀x∈l,Qa.ok x)(_:c.length≤maxLen∧∀x∈c,Qb.ok x):f3 l c=some true:=by
 unfold f3 f3n0;have e9:f9=some true:=rfl;obtain ⟨b,hb,hb2⟩:=f10_eq l c [] hm.1;rw [e9,bd_,hb,bd_];cases b with
 | true=>rfl
 | false =>
  obtain ⟨hl,hc,_,hF⟩:=hb2 rfl;rw [cond_false,cond_true,f12_eq (by omega) (fun x hx=>by have:=hF x hx; omega),bd_];cases hck:checkB l c with
  | false =>
   rw [cover_bad hck,bd_,f13_eq,hck,bd_]; rfl
  | true =>
   have h:=checkB_ok hck;have hcl:=h.clen;obtain ⟨F,hR,hcov⟩:=cover_eq hck;obtain ⟨b,h14,h14b⟩:=f14_eq h;rcases hcov with ⟨hlt,h11⟩|⟨heq,G,hG,h11⟩
   ·have hbf:b=false:=by
     cases hb:b with
     | false=>rfl
     | true =>
      have:=(enough_iff hR).1 (h14b.1 hb);omega
    rw [h11,bd_,f13_eq,hck,bd_,cond_true,decide_eq_true rfl,cond_true,decide_eq_false (by omega),cond_false,h14,bd_,hbf]; rfl
   ·have hbt:b=true:=h14b.2 ((enough_iff hR).2 heq);have hcv:=ch_cover h hG hR;have hlen:(chosen l c G).length≤80:=by rw [ch_perm.length_eq,List.length_map]; exact hG.len
    rw [h11,bd_,f13_eq,hck,bd_,cond_true,decide_eq_true rfl,cond_true,decide_eq_false (by omega),cond_false,h14,bd_,hbt,cond_true];show (bif decide ((0:Int)=0) then (f15 l c (chosen l c G)).bind _ else _).bind _=_;rw [decide_eq_true rfl,cond_true,f15_eq (by omega) (by omega) (fun a ha=>by have:=hF a ha; omega) (by omega),hcv,bd_,cond_true];show (((f16 l c (chosen l c G)).bind _).bind _)=_;rw [covers_ch hck hG hR]; rfl
end Go.Proofs.Ytinabbgjignkbaa
