/- Several texts in one. No condition. -/
import Derived.Test.YtfeklaffeigilaaDoorRe
import Derived.KernelRfl
namespace Go.Proofs.YtfeklaffeigilaaDoor
set_option linter.unusedVariables false
set_option linter.unusedSimpArgs false
set_option maxRecDepth 100000
open Go.RowKit
def exL(n:Int):List Qb:=[⟨str_Ann,Qan,n⟩,⟨str_Bob,Qan,0-n⟩]
def exJ:Qi:=⟨[⟨10,str_a,exL 5⟩,⟨12,Qy,exL (-2)⟩,⟨12,str_b,exL 1⟩]⟩
theorem ex_26:f26=some (exJ,true):=by kernel_rfl
theorem ex_Jk:Jk exJ:=by
 have h:∀r∈exJ.Records,r.Text.size≤1000000∧r.Lines.length≤1000000∧∀x∈r.Lines,x.Account.size≤1000000∧x.Ccy.size≤1000000:=by
  intro r hr;simp only [exJ,List.mem_cons,List.not_mem_nil,or_false] at hr;rcases hr with rfl | rfl | rfl<;>refine ⟨by decide,by decide,fun x hx=>?_⟩<;>simp only [exL,List.mem_cons,List.not_mem_nil,or_false] at hx<;>rcases hx with rfl | rfl<;>exact ⟨by decide,by decide⟩
 exact ⟨Qbk (by decide),fun r hr=>⟨Qbk (h r hr).1,Qbk (h r hr).2.1,fun x hx=>⟨Qbk ((h r hr).2.2 x hx).1,Qbk ((h r hr).2.2 x hx).2⟩⟩⟩
def exR(a b:Int):List RW:=[⟨str_Ann,Qan,a,b⟩,⟨str_Bob,Qan,b,a⟩]
theorem ex_1:betS exJ 10 11 1=(⟨10,11,1,exR 5 0⟩,0):=by kernel_rfl
theorem ex_3:betS exJ 10 11 3=(⟨10,11,3,exR 5 2⟩,0):=by kernel_rfl
theorem ex_show:f10 ⟨10,11,3,exR 5 2⟩=some (Qn,0):=by kernel_rfl
theorem alive_t:f17=some true:=by
 unfold f17 f17n0 f28 f28n0 f27 f27n0;rw [ex_26];simp only [Option.bind_some];rw [f21_eq ex_Jk (by decide),f21_eq ex_Jk (by decide),ex_1,ex_3];simp only [Option.bind_some,ex_show,cond_true]
 kernel_rfl
end Go.Proofs.YtfeklaffeigilaaDoor
namespace Go.Proofs.YtfeklaffeigilaaDoor
set_option linter.unusedVariables false
set_option linter.unusedSimpArgs false
open Go.RowKit
def sm(g:RW→Int):List RW→Int
 | []=>0
 | z::r=>g z+sm g r
theorem sm_app(g:RW→Int)(a b:List RW):sm g (a++b)=sm g a+sm g b:=by
 induction a with
 | nil=>simp [sm]
 | cons x r ih=>rw [List.cons_append,sm,sm,ih]; omega
theorem sm_zero{g:RW→Int} : ∀{l:List RW},(∀z∈l,g z=0)→sm g l=0
 | [],_=>rfl
 | z::r,h=>by rw [sm,h z List.mem_cons_self,sm_zero fun y hy=>h y (List.mem_cons_of_mem _ hy)]; rfl
theorem sm_nn{g:RW→Int} : ∀{l:List RW},(∀z∈l,0≤g z)→0≤sm g l
 | [],_=>Int.le_refl _
 | z::r,h=>by
  have h1:=h z List.mem_cons_self;have h2:=sm_nn fun y hy=>h y (List.mem_cons_of_mem _ hy);rw [sm]; omega
theorem sm_ge{g:RW→Int} : ∀{l:List RW},(∀z∈l,0≤g z)→∀x∈l,g x≤sm g l
 | z::r,h,x,hx=>by
  have h1:=h z List.mem_cons_self;have h2:=sm_nn fun y hy=>h y (List.mem_cons_of_mem _ hy);rw [sm];rcases List.mem_cons.1 hx with rfl | hx
  ·omega
  ·have:=sm_ge (fun y hy=>h y (List.mem_cons_of_mem _ hy)) x hx;omega
theorem sm_with{g:RW→Int}{x:RW} : ∀{l:List RW},(∀y∈l,sameR x y→g (addR x y)=g x+g y)→sm g (withR l x)=sm g l+g x
 | [],_=>by simp [withR,sm]
 | y::r,h=>by
  rw [withR];cases h1:ltR y x with
  | true =>
   have:=sm_with fun z hz=>h z (List.mem_cons_of_mem _ hz);rw [cond_true,sm,sm,this]; omega
  | false =>
   rw [cond_false];cases h2:ltR x y with
   | true=>rw [cond_true]; simp only [sm]; omega
   | false =>
    rw [cond_false,sm,sm,h y List.mem_cons_self (lt_tot h2 h1)]; omega
def Lin(g:RW→Int):Prop:=∀x y:RW,sameR x y→g ⟨x.Account,x.Ccy,x.In+y.In,x.Out+y.Out⟩=g x+g y
theorem lin_all{g:RW→Int}(hg:Lin g):∀(ls:List Qb){n:Nat}{m:TB_}{l:List RW},St_ n m l→n+ls.length≤4000→(∀x∈ls,okL x)→sm g (linW l ls)=sm g l+sm g (ls.map rowL)
 | [],_,_,_,_,_,_=>by simp [linW,sm]
 | x::r,n,m,l,S,h,ho=>by
  rw [List.length_cons] at h;have hx:=ho x List.mem_cons_self;have ih:=lin_all hg r (S.add (by omega) hx) (by omega) (fun y hy=>ho y (List.mem_cons_of_mem _ hy));show sm g (linW (withR l (rowL x)) r)=_;rw [ih,sm_with,List.map_cons,sm]
  ·omega
  ·intro y hy hs;have h1:=row_p hx.1 hx.2;have h2:=S.p y hy;rw [←hg _ _ hs];unfold addR Pz at *;rw [wrIn (n:=(rowL x).In+y.In) (by omega) (by omega),wrIn (n:=(rowL x).Out+y.Out) (by omega) (by omega)]

def kq(u c:ByteArray)(z:RW):Bool:=seq z.Account u&&seq z.Ccy c
def kI(u c:ByteArray)(z:RW):Int:=bif kq u c z then z.In else 0
def kO(u c:ByteArray)(z:RW):Int:=bif kq u c z then z.Out else 0
theorem kq_same{u c:ByteArray}{x y:RW}(h:sameR x y):kq u c x=kq u c y:=by unfold kq; rw [h.1,h.2]
theorem lin_I(u c:ByteArray):Lin (kI u c):=fun x y h=>by
 unfold kI;rw [←kq_same h];show (bif kq u c x then _ else _)=_;cases kq u c x<;>rfl
theorem lin_O(u c:ByteArray):Lin (kO u c):=fun x y h=>by
 unfold kO;rw [←kq_same h];show (bif kq u c x then _ else _)=_;cases kq u c x<;>rfl
theorem key_none{u c:ByteArray}{l:List RW}(h:∀z∈l,kq u c z=false):sm (kI u c) l=0∧sm (kO u c) l=0 :=
 ⟨sm_zero fun z hz=>by unfold kI; rw [h z hz]; rfl,sm_zero fun z hz=>by unfold kO; rw [h z hz]; rfl⟩

theorem rows_p{ls:List Qb}(h:∀x∈ls,okL x):∀z∈ls.map rowL,Pz 1125899906842624 z:=fun z hz=>by
 obtain ⟨x,hx,rfl⟩:=List.mem_map.1 hz;exact row_p (h x hx).1 (h x hx).2
theorem kI_nn{B:Int}{u c:ByteArray}{z:RW}(h:Pz B z):0≤kI u c z:=by
 unfold kI Pz at *; cases kq u c z with
 | true=>exact h.1
 | false=>exact Int.le_refl _
theorem kO_nn{B:Int}{u c:ByteArray}{z:RW}(h:Pz B z):0≤kO u c z:=by
 unfold kO Pz at *; cases kq u c z with
 | true=>exact h.2.2.1
 | false=>exact Int.le_refl _
theorem key_pos{B:Int}{u c:ByteArray}{l:List RW}(h:∀z∈l,Pz B z):(∃z∈l,kq u c z=true)↔0<sm (kI u c) l+sm (kO u c) l:=by
 constructor
 ·rintro ⟨z,hz,hk⟩
  have h1:=sm_ge (g:=kI u c) (fun z hz=>kI_nn (h z hz)) z hz;have h2:=sm_ge (g:=kO u c) (fun z hz=>kO_nn (h z hz)) z hz;have h3:=h z hz;unfold kI at h1;unfold kO at h2;unfold Pz at h3;simp only [hk,cond_true] at h1 h2;have e1:sm (fun z=>bif kq u c z then z.In else 0) l=sm (kI u c) l:=rfl;have e2:sm (fun z=>bif kq u c z then z.Out else 0) l=sm (kO u c) l:=rfl;omega
 ·intro hp;refine Classical.byContradiction fun hn=>?_;have:∀z∈l,kq u c z=false:=fun z hz=>by
   cases k:kq u c z with
   | false=>rfl
   | true=>exact absurd ⟨z,hz,k⟩ hn
  have:=key_none this;omega
theorem sel_sm{j:Qi}(hl:j.Records.length≤31)(ho:(Qbt j).1=true)(a b:Int)(q:Nat){g:RW→Int}(hg:Lin g):sm g (linW [] (selL a b (j.Records.take q)))=sm g ((selL a b (j.Records.take q)).map rowL):=by
 obtain ⟨S,h1,h2⟩:=st_take hl ho a b q;have:=lin_all hg (selL a b (j.Records.take q)) St_.nil (by omega) h2;rw [this];simp [sm]
end Go.Proofs.YtfeklaffeigilaaDoor
namespace Go.Proofs.YtfeklaffeigilaaDoor
set_option linter.unusedVariables false
set_option linter.unusedSimpArgs false
open Go.RowKit
noncomputable def sL(g:RW→Int)(a b:Int)(l:List Qa):Int:=sm g ((selL a b l).map rowL)
theorem selL_app(a b:Int):∀l k:List Qa,selL a b (l++k)=selL a b l++selL a b k
 | [],k=>rfl
 | r::l,k=>by rw [List.cons_append,selL,selL,selL_app a b l k,List.append_assoc]
theorem sL_app(g:RW→Int)(a b:Int)(l k:List Qa):sL g a b (l++k)=sL g a b l+sL g a b k:=by
 unfold sL; rw [selL_app,List.map_append,sm_app]
noncomputable def rwS(j:Qi)(a b:Int)(q:Nat):List RW:=linW [] (selL a b (j.Records.take q))
section
variable {j:Qi} (hl:j.Records.length≤31) (ho:(Qbt j).1=true) (a b:Int) (q:Nat)
include hl ho
theorem rw_sm{g:RW→Int}(hg:Lin g):sm g (rwS j a b q)=sL g a b (j.Records.take q):=sel_sm hl ho a b q hg
theorem rw_len:(rwS j a b q).length≤620:=by
 obtain ⟨S,h1,_⟩:=st_take hl ho a b q;have:=S.len;exact Nat.le_trans this h1
end
theorem openL_app:∀(l:List Qa)(r:Qa)(d m:Int)(b:Bal),openL (l++[r]) d m b=bif (openL l d m b).1 then addS r (openL l d m b).2.1 (openL l d m b).2.2.1 (openL l d m b).2.2.2 else openL l d m b
 | [],r,d,m,b=>by
  show (bif (addS r d m b).1 then _ else _)=addS r d m b;obtain ⟨x,y⟩:∃x,x=addS r d m b:=⟨_,rfl⟩;rw [←y];obtain ⟨p,q⟩:=x;cases p<;>rfl
 | x::l,r,d,m,b=>by
  rw [List.cons_append,openL,openL];cases (addS x d m b).1 with
  | true=>rw [cond_true,cond_true]; exact openL_app l r _ _ _
  | false=>rfl
theorem open_app{j:Qi}(hl:j.Records.length≤31)(ho:(Qbt j).1=true)(r:Qa):Qbt ⟨j.Records++[r]⟩=addS r (Qbt j).2.1 (Qbt j).2.2.1 (Qbt j).2.2.2:=by
 unfold Qbt at *;have hlen:(Qi.mk (j.Records++[r])).Records.length=j.Records.length+1:=by simp
 rw [hlen];rw [decide_eq_false (by omega:¬200<j.Records.length),cond_false] at ho ⊢;rw [decide_eq_false (by omega:¬200<j.Records.length+1),cond_false];rw [openL_app,ho]; rfl
end Go.Proofs.YtfeklaffeigilaaDoor
namespace Go.Proofs.YtfeklaffeigilaaDoor
set_option linter.unusedVariables false
set_option linter.unusedSimpArgs false
open Go.RowKit
theorem f44r1_eq{l:List Qb}(h:l.length≤1000):f44r1 l=some l:=by
 unfold f44r1 f44r1n0;cases l with
 | nil=>rfl
 | cons x r =>
  show (((bif false then _ else _):Option _).bind _)=_;rw [cond_false,req,fitSmall (by omega) (by omega)]; rfl
theorem f81r2n2L_at(bc:List Qb)(d k:Int)(b:Bal):∀(l:List Qb)(v:Int),(l.any (fun x=>!within (bal (acc x) b))=false∧f81r2n2L bc d k b l v=some .exit0)∨(l.any (fun x=>!within (bal (acc x) b))=true∧∃j,v≤j∧f81r2n2L bc d k b l v=some (.ret j))
 | [],v=>.inl ⟨rfl,rfl⟩
 | x::r,v=>by
  have e:f82r1 x d k b=some (!within (bal (acc x) b)):=by unfold f82r1 f82r1n0; rw [f64_eq]; rfl
  rw [f81r2n2L,e];simp only [Option.bind_some,List.any_cons];cases within (bal (acc x) b) with
  | false=>exact .inr ⟨rfl,v,Int.le_refl _,rfl⟩
  | true =>
   rcases f81r2n2L_at bc d k b r (v+1) with ⟨h1,h2⟩|⟨h1,j,h2,h3⟩
   ·exact .inl ⟨by simpa using h1,by simpa using h2⟩
   ·exact .inr ⟨by simpa using h1,j,by omega,by simpa using h3⟩
theorem f66r2_eq{l:List Qb}(h:l.length≤maxLen)(d:Int)(t:ByteArray)(k:Int)(b:Bal):f66r2 d t k l b=some (fitsM l b):=by
 unfold f66r2 f66r2n0 f65r2 f65r2n0 f81r2 f81r2n0 f81r2n1 fitsM;rw [f81r2n2_run _ _ _ _ h];rcases f81r2n2L_at l d k b l 0 with ⟨h1,h2⟩|⟨h1,j,h2,h3⟩
 ·rw [h2,h1]; rfl
 ·rw [h3,h1];simp only [Option.bind_some];rw [decide_eq_true h2]
theorem f48r3n2L_at(ls:List Qb)(a b c:Int)(t:ByteArray):∀(l:List Qb)(v:Int)(q:Bal),f48r3n2L ls a b c t l v q=some (.exit0 (postL l q))
 | [],v,q=>rfl
 | x::r,v,q=>by rw [f48r3n2L,f48r3n2L_at ls a b c t r]; rfl
theorem f48r3_eq{x:Int}{t:ByteArray}{ls:List Qb}(h:Rk ⟨x,t,ls⟩)(d m:Int)(b:Bal):f48r3 x t d m ls b=some (addS ⟨x,t,ls⟩ d m b):=by
 unfold f48r3 f48r3n0 f48r3n1 addS;rw [f46_eq h,f47_eq h.2.1,f48r3n2_run _ _ _ _ _ _ h.2.1,f48r3n2L_at];simp only [Option.bind_some,f66r2_eq h.2.1];cases decide (m=200)<;>cases formedB ⟨x,t,ls⟩<;>cases balB ⟨x,t,ls⟩<;>cases decide (x<d)<;>rfl
theorem f49r1n2L_at(bu:List Qa):∀(l:List Qa)(v:Int)(o:List Qa),(∀r∈l,r.Lines.length≤1000)→o.length+l.length≤1000→f49r1n2L bu l v o=some (.exit0 (o++l))
 | [],v,o,_,_=>by rw [f49r1n2L,List.append_nil]
 | x::r,v,o,h,hl=>by
  rw [List.length_cons] at hl;rw [f49r1n2L,f44r1_eq (h x List.mem_cons_self)];simp only [Option.bind_some];rw [req,fitSmall (by omega) (by omega),cond_true,f49r1n2L_at bu r _ _ (fun y hy=>h y (List.mem_cons_of_mem _ hy)) (by rw [List.length_append,List.length_singleton]; omega),List.append_assoc]; rfl
theorem f49r1_eq{l:List Qa}(h:∀r∈l,r.Lines.length≤1000)(hl:l.length≤1000):f49r1 l=some l:=by
 unfold f49r1 f49r1n0 f49r1n1;rw [f49r1n2_run l _ (Qbk (by omega)),f49r1n2L_at l l 0 [] h (by simpa using hl)]; rfl
theorem f20_at{j:Qi}(hj:Jk j)(hl:j.Records.length≤30)(hs:∀r∈j.Records,smR r){d:Int}{t:ByteArray}{ls:List Qb}(hr:Rk ⟨d,t,ls⟩)(hls:ls.length≤1000) :
  (∃k e,e≠0∧f20 j d t ls=some (k,e))∨(f20 j d t ls=some (⟨j.Records++[⟨d,t,ls⟩]⟩,0)∧(Qbt j).1=true∧(Qbt ⟨j.Records++[⟨d,t,ls⟩]⟩).1=true):=by
 unfold f20 f20n0;rw [f44r1_eq hls];simp only [Option.bind_some];rw [f45r1_eq hj];simp only [Option.bind_some];unfold f20n1 f20n2;cases ho:(Qbt j).1 with
 | false=>exact .inl ⟨_,8,by decide,rfl⟩
 | true =>
  rw [cond_true,f46_eq hr];simp only [Option.bind_some];cases hf:formedB ⟨d,t,ls⟩ with
  | false=>exact .inl ⟨_,2,by decide,rfl⟩
  | true =>
   rw [cond_true,f47_eq hr.2.1];simp only [Option.bind_some];cases hb:balB ⟨d,t,ls⟩ with
   | false=>exact .inl ⟨_,60,by decide,rfl⟩
   | true =>
    rw [cond_true];cases h1:decide (d<(Qbt j).2.1) with
    | true=>exact .inl ⟨_,40,by decide,rfl⟩
    | false =>
     rw [cond_false];cases h2:decide ((Qbt j).2.2.1=200) with
     | true=>exact .inl ⟨_,22,by decide,rfl⟩
     | false =>
      rw [cond_false,f48r3_eq hr];simp only [Option.bind_some];cases h3:(addS ⟨d,t,ls⟩ (Qbt j).2.1 (Qbt j).2.2.1 (Qbt j).2.2.2).1 with
      | false=>exact .inl ⟨_,14,by decide,rfl⟩
      | true =>
       refine .inr ⟨?_,by simp,?_⟩
       ·simp only [cond_true,Option.bind_some,decide_true];rw [f49r1_eq (fun r hr=>by have:=(hs r hr).1; omega) (by omega)];simp only [Option.bind_some];rw [req,fitSmall (by omega) (by omega)]; rfl
       ·rw [open_app (by omega) ho]; exact h3

theorem betS_ok{j:Qi}{a b kn:Int}(h:(betS j a b kn).2=0):(Qbt j).1=true∧0≤a∧a≤b∧b≤100000∧0≤kn∧kn≤j.Records.length∧betS j a b kn=(⟨a,b,kn,rwS j a b kn.toNat⟩,0):=by
 unfold betS at h ⊢;cases ho:(Qbt j).1 with
 | false=>rw [ho] at h; cases h
 | true =>
  rw [ho,cond_true] at h;rw [cond_true];cases h1:(decide (0≤a)&&(decide (a≤b)&&decide (b≤100000))) with
  | false=>rw [h1] at h; cases h
  | true =>
   rw [h1,cond_true] at h;rw [cond_true];cases h2:(decide (0≤kn)&&decide (kn≤(j.Records.length:Int))) with
   | false=>rw [h2] at h; cases h
   | true =>
    simp only [Bool.and_eq_true,decide_eq_true_eq] at h1 h2;exact ⟨rfl,h1.1,h1.2.1,h1.2.2,h2.1,h2.2,rfl⟩
theorem betS_mk{j:Qi}{a b kn:Int}(ho:(Qbt j).1=true)(h1:0≤a)(h2:a≤b)(h3:b≤100000)(h4:0≤kn)(h5:kn≤j.Records.length):betS j a b kn=(⟨a,b,kn,rwS j a b kn.toNat⟩,0):=by
 unfold betS;rw [ho,decide_eq_true h1,decide_eq_true h2,decide_eq_true h3,decide_eq_true h4,decide_eq_true h5]; rfl
theorem betS_bad{j:Qi}{a b kn:Int}(h:(betS j a b kn).2≠0):(betS j a b kn).1.Rows=[]:=by
 unfold betS at h ⊢;cases ho:(Qbt j).1 with
 | false=>rfl
 | true =>
  rw [ho,cond_true] at h;rw [cond_true];cases h1:(decide (0≤a)&&(decide (a≤b)&&decide (b≤100000))) with
  | false=>rfl
  | true =>
   rw [h1,cond_true] at h;rw [cond_true];cases h2:(decide (0≤kn)&&decide (kn≤(j.Records.length:Int))) with
   | false=>rfl
   | true=>rw [h2] at h; exact absurd rfl h
theorem bet_len{j:Qi}(hl:j.Records.length≤31)(a b kn:Int):(betS j a b kn).1.Rows.length≤620:=by
 by_cases h:(betS j a b kn).2=0
 ·obtain ⟨ho,_,_,_,_,_,e⟩:=betS_ok h;rw [e]; exact rw_len hl ho a b _
 ·rw [betS_bad h]; simp
theorem bet_old{j:Qi}(hl:j.Records.length≤30){r:Qa}(ho:(Qbt j).1=true)(hn:(Qbt ⟨j.Records++[r]⟩).1=true)(a b:Int){kn:Int}(hk:kn≤j.Records.length):betS ⟨j.Records++[r]⟩ a b kn=betS j a b kn:=by
 unfold betS;have hlen:((Qi.mk (j.Records++[r])).Records.length:Int)=j.Records.length+1:=by simp
 rw [ho,hn,hlen,decide_eq_true hk,decide_eq_true (by omega:kn≤(j.Records.length:Int)+1)];simp only [cond_true];cases decide (0≤a)&&(decide (a≤b)&&decide (b≤100000)) with
 | false=>rfl
 | true =>
  rw [cond_true,cond_true]
  by_cases h0:0≤kn
  ·rw [decide_eq_true h0];simp only [Bool.and_self,cond_true];have:(j.Records++[r]).take kn.toNat=j.Records.take kn.toNat:=List.take_append_of_le_length (by omega);rw [this]
  ·rw [decide_eq_false h0]; rfl
theorem req_refl(x:RW):Qc.eqb x x=true:=by unfold Qc.eqb; simp [seq_refl]
theorem req_iff{x y:RW} : Qc.eqb x y=true↔x=y:=by
 constructor
 ·intro h;unfold Qc.eqb at h;rw [Bool.and_eq_true,Bool.and_eq_true,Bool.and_eq_true,seq_iff,seq_iff,decide_eq_true_eq,decide_eq_true_eq] at h;obtain ⟨⟨⟨h1,h2⟩,h3⟩,h4⟩:=h;cases x; cases y;dsimp only at h1 h2 h3 h4;rw [h1,h2,h3,h4]
 ·rintro rfl; exact req_refl x
def rowsB:List RW→List RW→Bool
 | [],[]=>true
 | x::a,y::b=>Qc.eqb x y&&rowsB a b
 | _,_=>false
theorem rowsB_iff:∀{a b:List RW},rowsB a b=true↔a=b
 | [],[]=>by simp [rowsB]
 | [],y::b=>by simp [rowsB]
 | x::a,[]=>by simp [rowsB]
 | x::a,y::b=>by rw [rowsB,Bool.and_eq_true,req_iff,rowsB_iff,List.cons.injEq]
theorem rows_eqL(a b:List RW):∀(l:List RW)(v:Nat),a.drop v=l→a.length=b.length→f14n2L a b l (v:Int)=some (bif rowsB l (b.drop v) then .exit0 else .ret)
 | [],v,hd,hl=>by
  have:=Qao hd;have e:b.drop v=[]:=List.drop_eq_nil_of_le (by omega);rw [f14n2L,e]; rfl
 | x::r,v,hd,hl=>by
  obtain ⟨ha,hk,hd'⟩:=dropAt hd;have hv:v<b.length:=by omega
  have hb:b.drop v=b[v]::b.drop (v+1):=List.drop_eq_getElem_cons hv;have hat:at? b (v:Int)=some b[v]:=(dropAt hb).1;rw [f14n2L,hat];simp only [Option.bind_some];have ih:=rows_eqL a b r (v+1) hd' hl;rw [show ((v:Int)+1)=((v+1:Nat):Int) by omega,ih,hb,rowsB];cases Qc.eqb x b[v]<;>rfl
theorem f14_eq{a b:List RW}(h:a.length≤maxLen):f14 a b=some (rowsB a b):=by
 unfold f14 f14n0 f14n1
 by_cases hl:a.length=b.length
 ·have:=rows_eqL a b a 0 rfl hl;rw [show ((0:Nat):Int)=0 from rfl,List.drop_zero] at this;rw [decide_eq_true (by omega:(a.length:Int)=b.length),cond_true,f14n2_run _ _ h,this];cases rowsB a b<;>rfl
 ·have:rowsB a b=false:=by
   cases k:rowsB a b with
   | false=>rfl
   | true=>exact absurd (by rw [rowsB_iff.1 k]) hl
  rw [decide_eq_false (by omega:¬(a.length:Int)=b.length),this]; rfl
theorem linW_one(a b:Int)(l:List Qa)(r:Qa):linW [] (selL a b (l++[r]))=linW (linW [] (selL a b l)) (selR a b r):=by
 rw [selL_app,linW_app];show linW _ (selR a b r++[])=_;rw [List.append_nil]
theorem rows_same{j:Qi}(hl:j.Records.length≤30){r:Qa}(ho:(Qbt j).1=true)(hn:(Qbt ⟨j.Records++[r]⟩).1=true)(a b:Int):rwS j a b j.Records.length=rwS ⟨j.Records++[r]⟩ a b (j.Records.length+1)↔(dayR r<a∨b≤dayR r):=by
 have e1:j.Records.take j.Records.length=j.Records:=List.take_length;have e2:(j.Records++[r]).take (j.Records.length+1)=j.Records++[r]:=List.take_of_length_le (by simp)
 constructor
 ·intro h;refine Classical.byContradiction fun hc=>?_;have hs:selR a b r=r.Lines:=by
   unfold selR;rw [decide_eq_false (by omega),decide_eq_false (by omega)]; rfl
  have hf:=open_formed;have hlen:(Qi.mk (j.Records++[r])).Records.length=j.Records.length+1:=by simp
  have hfr:formedB r=true:=by
   unfold Qbt at hn;rw [hlen,decide_eq_false (by omega),cond_false] at hn;exact open_formed _ _ _ _ hn r (by simp)
  obtain ⟨_,_,_,h2,_,_⟩:=formed_small hfr;have hok:=formed_ok hfr
  match hm:r.Lines,h2 with
  | x::rest,_ =>
   have g1:=rw_sm (by omega) ho a b j.Records.length (lin_I x.Account x.Ccy);have g2:=rw_sm (j:=⟨j.Records++[r]⟩) (by rw [hlen]; omega) hn a b (j.Records.length+1) (lin_I x.Account x.Ccy);have g3:=rw_sm (by omega) ho a b j.Records.length (lin_O x.Account x.Ccy);have g4:=rw_sm (j:=⟨j.Records++[r]⟩) (by rw [hlen]; omega) hn a b (j.Records.length+1) (lin_O x.Account x.Ccy);rw [e1] at g1 g3;rw [show (Qi.mk (j.Records++[r])).Records=j.Records++[r] from rfl,e2,sL_app] at g2 g4;rw [h] at g1 g3;have p:=(key_pos (B:=1125899906842624) (u:=x.Account) (c:=x.Ccy) (l:=(selR a b r).map rowL) (rows_p (by rw [hs]; exact hok.2.2))).1 ⟨rowL x,by rw [hs,hm]; simp,by
    unfold kq rowL;cases decide (x.Amount<0)<;>simp [seq_refl]⟩
   have q1:sL (kI x.Account x.Ccy) a b [r]=sm (kI x.Account x.Ccy) ((selR a b r).map rowL):=by
    unfold sL; show sm _ ((selR a b r++[]).map rowL)=_; rw [List.append_nil]
   have q2:sL (kO x.Account x.Ccy) a b [r]=sm (kO x.Account x.Ccy) ((selR a b r).map rowL):=by
    unfold sL; show sm _ ((selR a b r++[]).map rowL)=_; rw [List.append_nil]
   omega
 ·intro h;unfold rwS;rw [e1,e2,linW_one];have hs:selR a b r=[]:=by
   unfold selR;rcases h with h | h
   ·rw [decide_eq_true h]; rfl
   ·by_cases k:dayR r<a
    ·rw [decide_eq_true k]; rfl
    ·rw [decide_eq_false k,decide_eq_true h]; rfl
  rw [hs]; rfl
theorem lawOld{P Q R:Prop}(j:Qi)(x:Qa)(a b kn:Int)(ok:Qi.ok j)(okx:Qa.ok x)(_:P)(_:Q)(_:R):f4 j x a b kn=some true:=by
 have hk:∀r:Qa,Qa.ok r→Rk r:=fun r this=>⟨this.2.1,this.2.2.1.1,fun y hy=>⟨(this.2.2.1.2 y hy).1,(this.2.2.1.2 y hy).2.1⟩⟩;have hj:Jk j:=⟨ok.1.1,fun r hr=>hk r (ok.1.2 r hr)⟩;have hx:=hk x okx;obtain ⟨g,e,hg⟩:=f18_at hj;obtain ⟨g2,e2,hg2⟩:=f19_at hx.2.1;unfold f4 f4n0;rw [alive_t,e,e2];simp only [Option.bind_some,cond_true];cases g with
 | true=>rfl
 | false =>
  obtain ⟨h30,hs⟩:=hg rfl;rw [cond_false]
  by_cases h3:300<(x.Text.size:Int)
  ·rw [decide_eq_true h3]; rfl
  ·rw [decide_eq_false h3,cond_false];cases g2 with
   | true=>rfl
   | false =>
    have hl40:=hg2 rfl;rw [cond_false];rcases f20_at hj h30 hs (d:=x.Day) (t:=x.Text) (ls:=x.Lines) hx (by omega) with ⟨k,e,he,hf⟩|⟨hf,ho,hn⟩
    ·rw [hf];simp only [Option.bind_some];rw [decide_eq_false he]; rfl
    ·rw [hf];simp only [Option.bind_some,decide_true,cond_true];have hj':Jk ⟨j.Records++[x]⟩:=⟨Qbk (by simp; omega),fun r hr=>by
      rcases List.mem_append.1 hr with h | h
      ·exact hj.2 r h
      ·rw [List.mem_singleton.1 h]; exact hx⟩
     have hlen:(Qi.mk (j.Records++[x])).Records.length=j.Records.length+1:=by simp
     rw [f21_eq hj (by omega),f21_eq hj' (by rw [hlen]; omega),f21_eq hj (by omega)];simp only [Option.bind_some];unfold f4n1 f4n2;rw [wrSucc (by omega)]
     by_cases h1:kn≤(j.Records.length:Int)
     ·rw [decide_eq_true h1,bet_old h30 ho hn a b h1,f22_self (Qbk (by have:=bet_len (j:=j) (by omega) a b kn; omega))];simp only [cond_true,decide_true,Option.bind_some,Bool.not_true,cond_false];rw [decide_eq_false (by omega:¬kn=((j.Records.length+1:Nat):Int))]; rfl
     ·rw [decide_eq_false h1];simp only [cond_false,Option.bind_some]
      by_cases h2:kn=((j.Records.length+1:Nat):Int)
      ·rw [decide_eq_true h2,cond_true]
       by_cases h4:(betS ⟨j.Records++[x]⟩ a b kn).2=0
       ·obtain ⟨_,q1,q2,q3,q4,q5,e5⟩:=betS_ok h4;rw [decide_eq_true h4,cond_true,f23_eq (by omega)];simp only [Option.bind_some];have e6:(betS j a b kn).2=2:=by
         unfold betS;rw [ho,decide_eq_true q1,decide_eq_true q2,decide_eq_true q3,decide_eq_false (by omega:¬kn≤(j.Records.length:Int)),Bool.and_false]; rfl
        rw [e6,betS_mk ho q1 q2 q3 (Int.natCast_nonneg _) (Int.le_refl _),e5];simp only [decide_true,cond_true,Option.bind_some];rw [f14_eq (Qbk (by
         have:=rw_len (j:=j) (by omega) ho a b (j.Records.length:Int).toNat;omega))]
        simp only [Option.bind_some];have hs:=rows_same h30 ho hn a b;rw [Int.toNat_natCast,h2,Int.toNat_natCast]
        by_cases hd:dayR x<a
        ·rw [decide_eq_true hd,rowsB_iff.2 (hs.2 (.inl hd))]; rfl
        ·rw [decide_eq_false hd,cond_false];have:rowsB (rwS j a b j.Records.length) (rwS ⟨j.Records++[x]⟩ a b (j.Records.length+1))=decide (b≤dayR x):=by
          rw [Bool.eq_iff_iff,rowsB_iff,decide_eq_true_eq,hs]; simp [hd]
         rw [this];cases decide (b≤dayR x)<;>rfl
       ·rw [decide_eq_false h4]; rfl
      ·rw [decide_eq_false h2,cond_false];have:(betS ⟨j.Records++[x]⟩ a b kn).2≠0:=fun h4=>by
        obtain ⟨_,_,_,_,_,q5,_⟩:=betS_ok h4;rw [hlen] at q5;omega
       rw [decide_eq_false this]; rfl
end Go.Proofs.YtfeklaffeigilaaDoor
