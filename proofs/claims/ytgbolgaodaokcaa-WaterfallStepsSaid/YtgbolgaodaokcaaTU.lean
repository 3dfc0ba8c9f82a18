/- Several texts in one. No condition. -/
import Derived.Test.YtgbolgaodaokcaaTI
import Derived.Shelf.SlSortCmp.NoneTotal
import Derived.Test.YtgbolgaodaokcaaTM
namespace Go.Proofs.Ytgbolgaodaokcaa
set_option linter.unusedSimpArgs false
set_option linter.unusedVariables false
open Go.RowKit Go.Sort



end Go.Proofs.Ytgbolgaodaokcaa
namespace Go.Proofs.Ytgbolgaodaokcaa
set_option linter.unusedVariables false
open Go.Sort
theorem nblt{a b:Nat} : Nat.blt a b=true↔a<b:=by rw [Nat.blt_eq]
theorem nblt_f{a b:Nat} : Nat.blt a b=false↔b≤a:=by
 cases h:Nat.blt a b with
 | true=>simp only [reduceCtorEq,false_iff]; have:=nblt.1 h; omega
 | false =>
  simp only [true_iff];rcases Nat.lt_or_ge a b with k | k
  ·rw [nblt.2 k] at h; cases h
  ·exact k
theorem blt_irrefl:∀a:List UInt8,Qag a a=false
 | []=>rfl
 | x::a=>by simp [Qag,blt_irrefl a,nblt_f]
theorem blt_trans:∀{a b c:List UInt8},Qag a b=true→Qag b c=true→Qag a c=true
 | a,[],c,h,_=>by cases a<;>simp [Qag] at h
 | a,_::_,[],_,k=>by simp [Qag] at k
 | [],_::_,_::_,_,_=>by simp [Qag]
 | x::a,y::b,z::c,h,k=>by
  simp only [Qag,Bool.or_eq_true,Bool.and_eq_true,nblt,Nat.beq_eq] at h k ⊢;rcases h with h | ⟨h1,h2⟩<;>rcases k with k | ⟨k1,k2⟩
  ·exact .inl (by omega)
  ·exact .inl (by omega)
  ·exact .inl (by omega)
  ·exact .inr ⟨by omega,blt_trans h2 k2⟩
theorem blt_total:∀{a b:List UInt8},Qag a b=false→Qag b a=false→a=b
 | [],[],_,_=>rfl
 | [],_::_,h,_=>by simp [Qag] at h
 | _::_,[],_,k=>by simp [Qag] at k
 | x::a,y::b,h,k=>by
  simp only [Qag,Bool.or_eq_false_iff,nblt_f] at h k;have e:x=y:=UInt8.toNat_inj.1 (by omega);subst e;have hb:Nat.beq x.toNat x.toNat=true:=Nat.beq_refl _;rw [hb,Bool.true_and] at h k;rw [blt_total h.2 k.2]
theorem slt_irrefl(a:ByteArray):slt a a=false:=blt_irrefl _
theorem slt_trans{a b c:ByteArray}(h:slt a b=true)(k:slt b c=true):slt a c=true:=blt_trans h k
theorem slt_total{a b:ByteArray}(h:slt a b=false)(k:slt b a=false):a=b:=by
 have:=blt_total h k;cases a; cases b
 congr 1
 exact Array.ext' this
theorem seq_refl(a:ByteArray):seq a a=true:=by simp [seq]
theorem seq_iff{a b:ByteArray} : seq a b=true↔a=b:=⟨fun h=>bytes_eq (by simpa [seq] using h),fun h=>by subst h; exact seq_refl a⟩
def cmpB(a b:ByteArray):Int:=bif slt a b then -1 else bif slt a b||seq a b then 0 else 1
theorem cmpB_neg{a b:ByteArray} : cmpB a b<0↔slt a b=true:=by
 unfold cmpB;cases slt a b<;>cases seq a b<;>simp
theorem cmpB_zero{a b:ByteArray} : cmpB a b=0↔a=b:=by
 unfold cmpB;cases h:slt a b with
 | true=>simp; intro e; subst e; rw [slt_irrefl] at h; cases h
 | false=>cases k:seq a b with
  | true=>simp; exact seq_iff.1 k
  | false=>simp; intro e; subst e; rw [seq_refl] at k; cases k

end Go.Proofs.Ytgbolgaodaokcaa
namespace Go.Proofs.Ytgbolgaodaokcaa
set_option linter.unusedVariables false
set_option linter.unusedSimpArgs false
open Go.Sort
section
variable {α:Type} (lt:α→α→Bool)
structure SWo:Prop where
 irr:∀x,lt x x=false
 tr:∀{x y z},lt x y=true→lt y z=true→lt x z=true
 nt:∀{x y z},lt x y=false→lt y z=false→lt x z=false
def eqv(x y:α):Bool:=!(lt x y)&&!(lt y x)
abbrev Sd(l:List α):Prop:=l.Pairwise fun a b=>lt b a=false
def Cl(a b:List α):Prop:=b.Perm a∧∀k,b.filter (eqv lt k)=a.filter (eqv lt k)
def insS(x:α):List α→List α
 | []=>[x]
 | y::ys=>bif lt y x then y::insS x ys else x::y::ys
def Qaw:List α→List α
 | []=>[]
 | x::xs=>insS lt x (Qaw xs)
variable {lt}
theorem SWo.asym(h:SWo lt){x y:α}(k:lt x y=true):lt y x=false:=by
 cases e:lt y x with
 | false=>rfl
 | true=>have:=h.tr k e; rw [h.irr] at this; cases this
theorem SWo.lt_le(h:SWo lt){x y z:α}(k:lt x y=true)(e:lt z y=false):lt x z=true:=by
 cases u:lt x z with
 | true=>rfl
 | false=>rw [h.nt u e] at k; cases k
theorem SWo.le_lt(h:SWo lt){x y z:α}(k:lt y x=false)(e:lt y z=true):lt x z=true:=by
 cases u:lt x z with
 | true=>rfl
 | false=>rw [h.nt k u] at e; cases e
theorem eqv_iff{x y:α} : eqv lt x y=true↔lt x y=false∧lt y x=false:=by
 unfold eqv; cases lt x y<;>cases lt y x<;>simp
theorem eqv_refl(h:SWo lt)(x:α):eqv lt x x=true:=eqv_iff.2 ⟨h.irr x,h.irr x⟩
theorem eqv_symm{x y:α}(e:eqv lt x y=true):eqv lt y x=true:=eqv_iff.2 ⟨(eqv_iff.1 e).2,(eqv_iff.1 e).1⟩
theorem eqv_trans(h:SWo lt){x y z:α}(e:eqv lt x y=true)(f:eqv lt y z=true):eqv lt x z=true :=
 eqv_iff.2 ⟨h.nt (eqv_iff.1 e).1 (eqv_iff.1 f).1,h.nt (eqv_iff.1 f).2 (eqv_iff.1 e).2⟩
theorem Cl.refl(a:List α):Cl lt a a:=⟨List.Perm.refl _,fun _=>rfl⟩
theorem Cl.trans{a b c:List α}(h:Cl lt a b)(k:Cl lt b c):Cl lt a c:=⟨k.1.trans h.1,fun x=>(k.2 x).trans (h.2 x)⟩
theorem Cl.app{a b c d:List α}(h:Cl lt a b)(k:Cl lt c d):Cl lt (a++c) (b++d):=⟨h.1.append k.1,fun x=>by rw [List.filter_append,List.filter_append,h.2,k.2]⟩
theorem Cl.mem{a b:List α}(h:Cl lt a b){x:α} : x∈b↔x∈a:=h.1.mem_iff
theorem Cl.len{a b:List α}(h:Cl lt a b):b.length=a.length:=h.1.length_eq
theorem Cl.swap(o:SWo lt){u v:List α}(h:∀x∈u,∀y∈v,lt y x=true):Cl lt (u++v) (v++u):=by
 refine ⟨List.perm_append_comm,fun k=>?_⟩;rw [List.filter_append,List.filter_append]
 by_cases hu:∃x∈u,eqv lt k x=true
 ·obtain ⟨x,hx,ex⟩:=hu;have:v.filter (eqv lt k)=[]:=List.filter_eq_nil_iff.2 fun y hy e=>by
   have:=(eqv_iff.1 (eqv_trans o (eqv_symm e) ex)).1;rw [h x hx y hy] at this; cases this
  rw [this]; simp
 ·have:u.filter (eqv lt k)=[]:=List.filter_eq_nil_iff.2 fun x hx e=>hu ⟨x,hx,e⟩;rw [this]; simp
theorem sorted_one(o:SWo lt):∀{a b:List α},Sd lt a→Sd lt b→Cl lt a b→a=b
 | [],[],_,_,_=>rfl
 | [],y::b,_,_,h=>absurd h.1.length_eq (by simp)
 | x::a,[],_,_,h=>absurd h.1.length_eq (by simp)
 | x::a,y::b,sa,sb,h=>by
  have sa':=List.pairwise_cons.1 sa;have sb':=List.pairwise_cons.1 sb;have hxy:lt x y=false:=by
   rcases List.mem_cons.1 (h.1.mem_iff.2 List.mem_cons_self:x∈y::b) with e | e
   ·rw [e]; exact o.irr y
   ·exact sb'.1 x e
  have hyx:lt y x=false:=by
   rcases List.mem_cons.1 (h.1.mem_iff.1 List.mem_cons_self:y∈x::a) with e | e
   ·rw [e]; exact o.irr x
   ·exact sa'.1 y e
  have e1:=h.2 x;rw [List.filter_cons,List.filter_cons,eqv_iff.2 ⟨hxy,hyx⟩,eqv_refl o x] at e1;simp only [if_true] at e1;obtain ⟨e2,e3⟩:=List.cons.inj e1;subst e2
  congr 1
  refine sorted_one o sa'.2 sb'.2 ⟨(List.perm_cons _).1 h.1,fun k=>?_⟩;have:=h.2 k;rw [List.filter_cons,List.filter_cons] at this;cases e:eqv lt k y with
  | true=>rw [e] at this; simpa using this
  | false=>rw [e] at this; simpa using this
theorem insS_perm(x:α):∀l:List α,(insS lt x l).Perm (x::l)
 | []=>List.Perm.refl _
 | y::ys=>by
  rw [insS];cases lt y x with
  | true=>exact ((insS_perm x ys).cons y).trans (List.Perm.swap x y ys)
  | false=>exact List.Perm.refl _
theorem insS_cl(o:SWo lt)(x:α):∀l:List α,Cl lt (x::l) (insS lt x l)
 | []=>Cl.refl _
 | y::ys=>by
  refine ⟨insS_perm x _,fun k=>?_⟩;rw [insS];cases h:lt y x with
  | false=>rfl
  | true =>
   have ih:=(insS_cl o x ys).2 k;rw [cond_true,List.filter_cons,ih,List.filter_cons,List.filter_cons,List.filter_cons];cases e:eqv lt k x with
   | false=>cases eqv lt k y<;>simp
   | true =>
    have:eqv lt k y=false:=by
     cases f:eqv lt k y with
     | false=>rfl
     | true =>
      have:=(eqv_iff.1 (eqv_trans o (eqv_symm f) e)).1;rw [h] at this; cases this
    rw [this]; simp
theorem insS_sd(o:SWo lt)(x:α):∀{l:List α},Sd lt l→Sd lt (insS lt x l)
 | [],_=>by simp [insS]
 | y::ys,h=>by
  have h':=List.pairwise_cons.1 h;rw [insS];cases k:lt y x with
  | true =>
   refine List.pairwise_cons.2 ⟨fun z hz=>?_,insS_sd o x h'.2⟩;rcases List.mem_cons.1 ((insS_perm x ys).mem_iff.1 hz) with rfl | hz
   ·exact o.asym k
   ·exact h'.1 z hz
  | false =>
   refine List.pairwise_cons.2 ⟨fun z hz=>?_,h⟩;rcases List.mem_cons.1 hz with rfl | hz
   ·exact k
   ·exact o.nt (h'.1 z hz) k
theorem sortS_sd(o:SWo lt):∀l:List α,Sd lt (Qaw lt l)
 | []=>List.Pairwise.nil
 | x::xs=>insS_sd o x (sortS_sd o xs)
theorem Qbh(o:SWo lt):∀l:List α,Cl lt l (Qaw lt l)
 | []=>Cl.refl _
 | x::xs=>((Cl.refl [x]).app (Qbh o xs)).trans (insS_cl o x _)
theorem sortS_of(o:SWo lt){a b:List α}(h:Sd lt b)(k:Cl lt a b):b=Qaw lt a :=
 sorted_one o h (sortS_sd o a) ⟨(Qbh o a).1.trans k.1.symm,fun x=>((Qbh o a).2 x).trans (k.2 x).symm⟩
theorem sortS_len(o:SWo lt)(l:List α):(Qaw lt l).length=l.length:=(Qbh o l).len
theorem Sd.app{a b:List α}(ha:Sd lt a)(hb:Sd lt b)(h:∀x∈a,∀y∈b,lt y x=false):Sd lt (a++b):=List.pairwise_append.2 ⟨ha,hb,h⟩
theorem merge_cut(o:SWo lt){a1 a2 b1 b2:List α}(ha:Sd lt (a1++a2))(hb:Sd lt (b1++b2))(h1:∀x∈a1,∀y∈b2,lt y x=false)(h2:∀x∈a2,∀y∈b1,lt y x=true) :
  Qaw lt ((a1++a2)++(b1++b2))=Qaw lt (a1++b1)++Qaw lt (a2++b2):=by
 have ha':=List.pairwise_append.1 ha;have hb':=List.pairwise_append.1 hb;refine (sortS_of o ?_ ?_).symm
 ·refine Sd.app (sortS_sd o _) (sortS_sd o _) fun x hx y hy=>?_;rcases List.mem_append.1 ((Qbh o _).mem.1 hx) with hx | hx<;>rcases List.mem_append.1 ((Qbh o _).mem.1 hy) with hy | hy
  ·exact ha'.2.2 x hx y hy
  ·exact h1 x hx y hy
  ·exact o.asym (h2 y hy x hx)
  ·exact hb'.2.2 x hx y hy
 ·have e:Cl lt ((a1++a2)++(b1++b2)) ((a1++b1)++(a2++b2)):=by
   have:=(Cl.refl (lt:=lt) a1).app ((Cl.swap o h2).app (Cl.refl (lt:=lt) b2));simpa [List.append_assoc] using this
  exact e.trans ((Qbh o _).app (Qbh o _))

inductive Bl (lt:α→α→Bool) (s:Nat):List α→Prop
 | last {x:List α} (h:Sd lt x) (hl:x.length≤s):Bl lt s x
 | more {x r:List α} (h:Sd lt x) (hl:x.length=s) (hr:Bl lt s r):Bl lt s (x++r)
theorem Bl.whole{s:Nat}{l:List α}(h:Bl lt s l)(hl:l.length≤s)(h0:0<s):Sd lt l:=by
 cases h with
 | last h _=>exact h
 | @more x r h hx hr =>
  rw [List.length_append] at hl;have:r=[]:=List.eq_nil_of_length_eq_zero (by omega);subst this;simpa using h
theorem Bl.uncons{s:Nat}{l:List α}(h:Bl lt s l)(hl:s≤l.length):∃x r,l=x++r∧x.length=s∧Sd lt x∧Bl lt s r:=by
 cases h with
 | last h h1=>exact ⟨l,[],by simp,by omega,h,.last List.Pairwise.nil (by simp)⟩
 | more h hx hr=>exact ⟨_,_,rfl,hx,h,hr⟩
theorem Bl.snoc{s:Nat}{d x:List α}(h:Bl lt s d)(hm:d.length % s=0)(h0:0<s)(hx:Sd lt x)(hl:x.length≤s):Bl lt s (d++x):=by
 induction h with
 | @last y hy hyl =>
  have:y.length=0∨y.length=s:=by
   have h1:=Nat.div_add_mod y.length s;rw [hm] at h1;have h2:y.length / s≤1:=Nat.div_le_of_le_mul (by omega);rcases Nat.le_one_iff_eq_zero_or_eq_one.1 h2 with e | e
   ·rw [e] at h1; left; omega
   ·rw [e] at h1; right; omega
  rcases this with e | e
  ·rw [List.eq_nil_of_length_eq_zero e]; exact .last hx hl
  ·exact .more hy e (.last hx hl)
 | @more y r hy hyl hr ih =>
  rw [List.append_assoc];refine .more hy hyl (ih ?_);rw [List.length_append,hyl] at hm
  rwa [Nat.add_mod_left] at hm
end
end Go.Proofs.Ytgbolgaodaokcaa
namespace Go.Proofs.Ytgbolgaodaokcaa
set_option linter.unusedVariables false
set_option linter.unusedSimpArgs false
open Go.RowKit
theorem wrIn{n:Int}(h1:-9223372036854775808≤n)(h2:n≤9223372036854775807):wr64 n=n:=w64 rfl h1 h2
abbrev halfI(x:Int):Int:=wr64 (shrK .u64 (Qi (wr64 x)) 1)
theorem half_eq{n:Nat}(h:n≤1000000000):halfI ((n:Nat):Int)=((n / 2:Nat):Int):=by
 have h2:Qi ((n:Nat):Int)=((n:Nat):Int):=by
  show IntKind.u64.wrap _=_;rw [IntKind.wrap_u64]; omega
 unfold halfI;rw [wrIn (n:=((n:Nat):Int)) (by omega) (by omega),h2];have h3:shrK .u64 ((n:Nat):Int) 1=((n / 2:Nat):Int):=by
  show Int.fdiv _ (2 ^ (min (1:Int).toNat IntKind.u64.bits))=_;have:(2:Int) ^ (min (1:Int).toNat IntKind.u64.bits)=2:=by decide
  rw [this,Int.fdiv_eq_ediv_of_nonneg _ (by omega)];omega
 rw [h3,wrIn (by omega) (by omega)]
section
variable {α:Type}
theorem Qay{l:List α}{k:Nat}{x:α}{a b:List α}(h:l=a++x::b)(hk:k=a.length):at? l (k:Int)=some x:=by
 subst hk; rw [at_nat,h]; simp
theorem set_len{l:List α}{k:Nat}{x y:α}{a b:List α}(h:l=a++x::b)(hk:k=a.length):l.set k y=a++y::b:=by
 subst hk; rw [h,List.set_append_right _ _ (Nat.le_refl _)]; simp
theorem at_in{l:List α}{k:Nat}(h:k<l.length):at? l (k:Int)=some l[k]:=by
 rw [at_nat]; exact List.getElem?_eq_getElem h
def bsN(p:Nat→Bool):Nat→Nat→Nat→Option Nat
 | 0,_,_=>none
 | f+1,lo,hi=>bif decide (lo<hi) then bif p ((lo+hi) / 2) then bsN p f ((lo+hi) / 2+1) hi else bsN p f lo ((lo+hi) / 2) else some lo
theorem bsN_ok{p:Nat→Bool} : ∀(f lo hi:Nat),lo≤hi→hi-lo<f→(∀i j,lo≤i→i≤j→j<hi→p j=true→p i=true) →
  ∃r,bsN p f lo hi=some r∧lo≤r∧r≤hi∧(∀i,lo≤i→i<r→p i=true)∧(∀i,r≤i→i<hi→p i=false)
 | 0,lo,hi,_,h,_=>by omega
 | f+1,lo,hi,h1,h2,hm=>by
  rw [bsN]
  by_cases h:lo<hi
  ·rw [decide_eq_true h,cond_true];cases hp:p ((lo+hi) / 2) with
   | true =>
    rw [cond_true];obtain ⟨r,e,k1,k2,k3,k4⟩:=bsN_ok f ((lo+hi) / 2+1) hi (by omega) (by omega) fun i j a b c=>hm i j (by omega) b c;refine ⟨r,e,by omega,k2,fun i a b=>?_,k4⟩
    by_cases hi':(lo+hi) / 2+1≤i
    ·exact k3 i hi' b
    ·exact hm i ((lo+hi) / 2) a (by omega) (by omega) hp
   | false =>
    rw [cond_false];obtain ⟨r,e,k1,k2,k3,k4⟩:=bsN_ok f lo ((lo+hi) / 2) (by omega) (by omega) fun i j a b c=>hm i j a b (by omega);refine ⟨r,e,k1,by omega,k3,fun i a b=>?_⟩
    by_cases hi':i<(lo+hi) / 2
    ·exact k4 i a hi'
    ·cases hq:p i with
     | false=>rfl
     | true =>
      have:=hm ((lo+hi) / 2) i (by omega) (by omega) b hq;rw [hp] at this; cases this
  ·rw [decide_eq_false h,cond_false];exact ⟨lo,rfl,Nat.le_refl _,h1,fun i a b=>by omega,fun i a b=>by omega⟩
theorem get_len{l:List α}{k:Nat}{x:α}{a b:List α}(h:l=a++x::b)(hk:k=a.length):l[k]?=some x:=by
 subst hk; rw [h]; simp
def pq(q:α→Bool)(l:List α)(i:Nat):Bool:=match l[i]? with | some y=>q y | none=>false
theorem get_seg{X B R:List α}{i:Nat}(h1:X.length≤i)(h2:i<X.length+B.length):(X++(B++R))[i]?=B[i-X.length]?:=by
 rw [List.getElem?_append_right h1,List.getElem?_append_left (by omega)]
theorem pq_seg{q:α→Bool}{v:Bool}{X B R:List α} (h:∀i,X.length≤i→i<X.length+B.length→pq q (X++(B++R)) i=v):∀y∈B,q y=v:=fun y hy=>by
 obtain ⟨j,hj,e⟩:=List.getElem_of_mem hy;have:=h (X.length+j) (by omega) (by omega);unfold pq at this;rw [get_seg (by omega) (by omega),show X.length+j-X.length=j by omega,List.getElem?_eq_getElem hj] at this;rw [←e]; exact this
theorem pq_mono{q:α→Bool}{X B R:List α}(h:B.Pairwise fun u w=>q w=true→q u=true):∀i j,X.length≤i→i≤j→j<X.length+B.length→pq q (X++(B++R)) j=true→pq q (X++(B++R)) i=true:=fun i j h1 h2 h3 hp=>by
 rcases Nat.lt_or_ge i j with hlt | hge
 ·unfold pq at hp ⊢;rw [get_seg (by omega) (by omega),List.getElem?_eq_getElem (by omega)] at hp;rw [get_seg (by omega) (by omega),List.getElem?_eq_getElem (by omega)];exact List.pairwise_iff_getElem.1 h _ _ (by omega) (by omega) (by omega) hp
 ·have:i=j:=by omega
  subst this; exact hp
theorem cutL_{l:List α}{n:Nat}(h:n≤l.length):∃a b,l=a++b∧a.length=n:=⟨l.take n,l.drop n,(List.take_append_drop n l).symm,by rw [List.length_take]; omega⟩
theorem cutR_{l:List α}{n:Nat}(h:n≤l.length):∃a b,l=a++b∧b.length=n:=⟨l.take (l.length-n),l.drop (l.length-n),(List.take_append_drop _ l).symm,by rw [List.length_drop]; omega⟩
end
end Go.Proofs.Ytgbolgaodaokcaa
namespace Go.Proofs.Ytgbolgaodaokcaa
set_option linter.unusedVariables false
set_option linter.unusedSimpArgs false
open Go.RowKit
theorem wrL(a b:Int):wr64 (wr64 a+b)=wr64 (a+b):=by
 show IntKind.i64.wrap (IntKind.i64.wrap a+b)=IntKind.i64.wrap (a+b);simp only [IntKind.wrap_i64]; omega
theorem fitSmall{n b:Nat}(h:n≤1000000)(hb:b≤1000000):fit n b=true:=by
 unfold fit;have:n*b≤1000000*1000000:=Nat.mul_le_mul h hb;simp only [Bool.and_eq_true,Nat.ble_eq];omega
theorem ltNot(a b:Int):decide (a<b) = !decide (b≤a):=by
 by_cases h:a<b
 ·rw [decide_eq_true h,decide_eq_false (by omega)]; rfl
 ·rw [decide_eq_false h,decide_eq_true (by omega)]; rfl
theorem sltNe{a b:ByteArray}(h:slt a b=true):a≠b:=fun e=>by rw [e,slt_irrefl] at h; cases h
theorem sizeList(s:ByteArray):s.size=s.data.toList.length:=rfl
theorem wrSucc{k:Nat}(h:k≤1000000):wr64 ((k:Int)+1)=((k+1:Nat):Int):=by rw [wrIn (by omega) (by omega)]; omega
theorem dropAt{α:Type}{l:List α}{k:Nat}{x:α}{r:List α}(h:l.drop k=x::r):at? l (k:Int)=some x∧k<l.length∧l.drop (k+1)=r:=by
 obtain ⟨h1,h2,h3⟩:=Qbl h;exact ⟨by rw [at_nat]; exact h1,h2,h3⟩
theorem maxSmall{n:Nat}(h:n≤1000000):n≤maxLen:=Nat.le_trans h (by unfold maxLen; decide)
theorem fuelSmall{n:Nat}(h:n≤1000000):n<FUEL:=Qam (maxSmall h)

def ltrI(c:Int):Bool:=(decide (97≤c)&&decide (c≤122))||(decide (65≤c)&&decide (c≤90))
def othI(c:Int):Bool:=(decide (48≤c)&&decide (c≤57))||(decide (c=95)||decide (c=45))
def chB(b:UInt8):Bool:=ltrI b.toNat||othI b.toNat
def isNm(l:List UInt8):Bool:=match l with
 | []=>false
 | b::r=>decide (l.length≤40)&&(ltrI b.toNat&&r.all chB)
def nmB(s:ByteArray):Bool:=isNm s.data.toList
section
variable {K V:Type} {E:K→K→Bool} (hE:∀a b,E a b=true↔a=b)
include hE
theorem eRefl(a:K):E a a=true:=(hE a a).2 rfl
theorem mgetPut(z v:V)(k q:K):∀m:List (K×V),mGet E z q (mPut E k v m)=bif E q k then v else mGet E z q m
 | []=>by simp [mPut,mGet]
 | (a,w)::r=>by
  simp only [mPut,mGet];cases hk:E k a with
  | true =>
   have:=(hE _ _).1 hk; subst this;simp only [cond_true,mGet];cases E q k<;>rfl
  | false =>
   simp only [cond_false,mGet];cases hq:E q a with
   | true =>
    have:=(hE _ _).1 hq; subst this;simp only [cond_true];cases h:E q k with
    | true=>rw [(hE _ _).1 h,eRefl hE] at hk; cases hk
    | false=>rfl
   | false=>simp only [cond_false]; exact mgetPut z v k q r
end
def cmpI(a b:Int):Int:=bif decide (a<b) then -1 else bif decide (b<a) then 1 else 0
theorem cmpI_neg{a b:Int} : cmpI a b<0↔a<b:=by
 unfold cmpI
 by_cases h:a<b
 ·rw [decide_eq_true h]; simp [h]
 ·rw [decide_eq_false h];cases decide (b<a)<;>simp [h]
theorem cmpI_zero{a b:Int} : cmpI a b=0↔a=b:=by
 unfold cmpI
 by_cases h:a<b
 ·rw [decide_eq_true h]; simp; omega
 ·rw [decide_eq_false h]
  by_cases k:b<a
  ·rw [decide_eq_true k]; simp; omega
  ·rw [decide_eq_false k]; simp; omega
structure Cmp {α:Type} (c:α→α→Int):Prop where
 rf:∀x,c x x=0
 tr:∀{x y z},c x y<0→c y z<0→c x z<0
 zl:∀{x y z},c x y=0→c x z=c y z
 zr:∀{x y z},c x y=0→c z x=c z y
 tot:∀{x y},¬c x y<0→¬c y x<0→c x y=0
theorem Cmp.int{α:Type}(f:α→Int):Cmp fun x y=>cmpI (f x) (f y) where
 rf x:=cmpI_zero.2 rfl
 tr h k:=by rw [cmpI_neg] at *; omega
 zl h:=by rw [cmpI_zero] at h; rw [h]
 zr h:=by rw [cmpI_zero] at h; rw [h]
 tot h k:=by rw [cmpI_neg] at *; rw [cmpI_zero]; omega
theorem Cmp.str{α:Type}(f:α→ByteArray):Cmp fun x y=>cmpB (f x) (f y) where
 rf x:=cmpB_zero.2 rfl
 tr h k:=by rw [cmpB_neg] at *; exact slt_trans h k
 zl h:=by rw [cmpB_zero] at h; rw [h]
 zr h:=by rw [cmpB_zero] at h; rw [h]
 tot h k:=by
  rw [cmpB_neg,Bool.not_eq_true] at *;exact cmpB_zero.2 (slt_total h k)
def cmpOr(a b:Int):Int:=bif decide (a=0) then b else a
theorem Cmp.lex{α:Type}{c d:α→α→Int}(hc:Cmp c)(hd:Cmp d):Cmp fun x y=>cmpOr (c x y) (d x y) where
 rf x:=by unfold cmpOr; rw [hc.rf]; simp [hd.rf]
 tr {x y z} h k:=by
  unfold cmpOr at *
  by_cases h1:c x y=0
  ·rw [decide_eq_true h1,cond_true] at h;rw [hc.zl h1]
   by_cases h2:c y z=0
   ·rw [decide_eq_true h2,cond_true] at k ⊢;exact hd.tr h k
   ·rw [decide_eq_false h2,cond_false] at k ⊢;exact k
  ·rw [decide_eq_false h1,cond_false] at h
   by_cases h2:c y z=0
   ·rw [←hc.zr h2,decide_eq_false h1,cond_false]; exact h
   ·rw [decide_eq_false h2,cond_false] at k;have:=hc.tr h k;rw [decide_eq_false (by omega),cond_false]; exact this
 zl {x y z} h:=by
  unfold cmpOr at *
  by_cases h1:c x y=0
  ·rw [decide_eq_true h1,cond_true] at h;rw [hc.zl h1,hd.zl h]
  ·rw [decide_eq_false h1,cond_false] at h;exact absurd h h1
 zr {x y z} h:=by
  unfold cmpOr at *
  by_cases h1:c x y=0
  ·rw [decide_eq_true h1,cond_true] at h;rw [hc.zr h1,hd.zr h]
  ·rw [decide_eq_false h1,cond_false] at h;exact absurd h h1
 tot {x y} h k:=by
  unfold cmpOr at *
  by_cases h1:c x y=0
  ·have h2:c y x=0:=by have:=hc.zl (z:=x) h1; rw [hc.rf] at this; exact this.symm
   rw [decide_eq_true h1,cond_true] at h ⊢;rw [decide_eq_true h2,cond_true] at k;exact hd.tot h k
  ·by_cases h2:c y x=0
   ·have:=hc.zl (z:=y) h2; rw [hc.rf] at this; exact absurd this.symm h1
   ·rw [decide_eq_false h1,cond_false] at h ⊢;rw [decide_eq_false h2,cond_false] at k;exact absurd (hc.tot h k) h1
theorem Cmp.swo{α:Type}{c:α→α→Int}(h:Cmp c):SWo fun x y=>decide (c x y<0) where
 irr x:=by rw [h.rf]; rfl
 tr h1 h2:=by rw [decide_eq_true_eq] at *; exact h.tr h1 h2
 nt {x y z} h1 h2:=by
  rw [decide_eq_false_iff_not] at *;intro h3
  by_cases k1:c y x<0
  ·exact h2 (h.tr k1 h3)
  ·have e:=h.tot h1 k1;exact h2 (by rw [←h.zl e]; exact h3)
end Go.Proofs.Ytgbolgaodaokcaa
