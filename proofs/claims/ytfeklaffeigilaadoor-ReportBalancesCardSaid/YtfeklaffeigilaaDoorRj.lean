/- Several texts in one. No condition. -/
import Derived.Test.YtfeklaffeigilaaDoorRe
import Derived.KernelRfl
namespace Go.Proofs.YtfeklaffeigilaaDoor
set_option linter.unusedVariables false
set_option linter.unusedSimpArgs false
set_option maxRecDepth 100000
open Go.RowKit
def exL(n:Int):List Qa:=[⟨str_Ann,Qam,n⟩,⟨str_Bob,Qam,0-n⟩]
def exJ:Qi:=⟨[⟨10,str_a,exL 5⟩,⟨12,Qy,exL (-2)⟩,⟨12,str_b,exL 1⟩]⟩
theorem ex_26:f26=some (exJ,true):=by kernel_rfl
theorem ex_Jk:Jk exJ:=by
 have h:∀r∈exJ.Records,r.Text.size≤1000000∧r.Lines.length≤1000000∧∀x∈r.Lines,x.Account.size≤1000000∧x.Ccy.size≤1000000:=by
  intro r hr;simp only [exJ,List.mem_cons,List.not_mem_nil,or_false] at hr;rcases hr with rfl | rfl | rfl<;>refine ⟨by decide,by decide,fun x hx=>?_⟩<;>simp only [exL,List.mem_cons,List.not_mem_nil,or_false] at hx<;>rcases hx with rfl | rfl<;>exact ⟨by decide,by decide⟩
 exact ⟨Qby (by decide),fun r hr=>⟨Qby (h r hr).1,Qby (h r hr).2.1,fun x hx=>⟨Qby ((h r hr).2.2 x hx).1,Qby ((h r hr).2.2 x hx).2⟩⟩⟩
def exR(a b:Int):List RW:=[⟨str_Ann,Qam,a,b⟩,⟨str_Bob,Qam,b,a⟩]
theorem ex_1:betS exJ 10 11 1=(⟨10,11,1,exR 5 0⟩,0):=by kernel_rfl
theorem ex_3:betS exJ 10 11 3=(⟨10,11,3,exR 5 2⟩,0):=by kernel_rfl
theorem ex_show:f10 ⟨10,11,3,exR 5 2⟩=some (Qn,0):=by kernel_rfl
theorem alive_t:f17=some true:=by
 unfold f17 f17n0 f28 f28n0 f27 f27n0;rw [ex_26];simp only [Option.bind_some];rw [f21_eq ex_Jk (by decide),f21_eq ex_Jk (by decide),ex_1,ex_3];simp only [Option.bind_some,ex_show,cond_true]
 kernel_rfl
end Go.Proofs.YtfeklaffeigilaaDoor
namespace Go.Proofs.YtfeklaffeigilaaDoor
set_option linter.unusedVariables false
set_option linter.unusedSimpArgs false
open Go.RowKit
def sm(g:RW→Int):List RW→Int
 | []=>0
 | z::r=>g z+sm g r
theorem sm_app(g:RW→Int)(a b:List RW):sm g (a++b)=sm g a+sm g b:=by
 induction a with
 | nil=>simp [sm]
 | cons x r ih=>rw [List.cons_append,sm,sm,ih]; omega
theorem sm_zero{g:RW→Int} : ∀{l:List RW},(∀z∈l,g z=0)→sm g l=0
 | [],_=>rfl
 | z::r,h=>by rw [sm,h z List.mem_cons_self,sm_zero fun y hy=>h y (List.mem_cons_of_mem _ hy)]; rfl
theorem sm_with{g:RW→Int}{x:RW} : ∀{l:List RW},(∀y∈l,sameR x y→g (addR x y)=g x+g y)→sm g (withR l x)=sm g l+g x
 | [],_=>by simp [withR,sm]
 | y::r,h=>by
  rw [withR];cases h1:ltR y x with
  | true =>
   have:=sm_with fun z hz=>h z (List.mem_cons_of_mem _ hz);rw [cond_true,sm,sm,this]; omega
  | false =>
   rw [cond_false];cases h2:ltR x y with
   | true=>rw [cond_true]; simp only [sm]; omega
   | false =>
    rw [cond_false,sm,sm,h y List.mem_cons_self (lt_tot h2 h1)]; omega
def Lin(g:RW→Int):Prop:=∀x y:RW,sameR x y→g ⟨x.Account,x.Ccy,x.In+y.In,x.Out+y.Out⟩=g x+g y
theorem lin_all{g:RW→Int}(hg:Lin g):∀(ls:List Qa){n:Nat}{m:TB_}{l:List RW},St_ n m l→n+ls.length≤4000→(∀x∈ls,okL x)→sm g (linW l ls)=sm g l+sm g (ls.map rowL)
 | [],_,_,_,_,_,_=>by simp [linW,sm]
 | x::r,n,m,l,S,h,ho=>by
  rw [List.length_cons] at h;have hx:=ho x List.mem_cons_self;have ih:=lin_all hg r (S.add (by omega) hx) (by omega) (fun y hy=>ho y (List.mem_cons_of_mem _ hy));show sm g (linW (withR l (rowL x)) r)=_;rw [ih,sm_with,List.map_cons,sm]
  ·omega
  ·intro y hy hs;have h1:=row_p hx.1 hx.2;have h2:=S.p y hy;rw [←hg _ _ hs];unfold addR Pz at *;rw [wrIn (n:=(rowL x).In+y.In) (by omega) (by omega),wrIn (n:=(rowL x).Out+y.Out) (by omega) (by omega)]

def kq(u c:ByteArray)(z:RW):Bool:=seq z.Account u&&seq z.Ccy c
theorem kq_iff{u c:ByteArray}{z:RW} : kq u c z=true↔z.Account=u∧z.Ccy=c:=by
 unfold kq; rw [Bool.and_eq_true,seq_iff,seq_iff]
def kI(u c:ByteArray)(z:RW):Int:=bif kq u c z then z.In else 0
def kO(u c:ByteArray)(z:RW):Int:=bif kq u c z then z.Out else 0
theorem kq_same{u c:ByteArray}{x y:RW}(h:sameR x y):kq u c x=kq u c y:=by unfold kq; rw [h.1,h.2]
theorem lin_I(u c:ByteArray):Lin (kI u c):=fun x y h=>by
 unfold kI;rw [←kq_same h];show (bif kq u c x then _ else _)=_;cases kq u c x<;>rfl
theorem lin_O(u c:ByteArray):Lin (kO u c):=fun x y h=>by
 unfold kO;rw [←kq_same h];show (bif kq u c x then _ else _)=_;cases kq u c x<;>rfl
def fnd(u c:ByteArray):List RW→RW
 | []=>zR
 | z::r=>bif kq u c z then z else fnd u c r
theorem fnd_or(u c:ByteArray):∀l:List RW,(fnd u c l∈l∧kq u c (fnd u c l)=true)∨(fnd u c l=zR∧∀z∈l,kq u c z=false)
 | []=>.inr ⟨rfl,by simp⟩
 | z::r=>by
  rw [fnd];cases h:kq u c z with
  | true=>exact .inl ⟨List.mem_cons_self,h⟩
  | false =>
   rw [cond_false];rcases fnd_or u c r with ⟨h1,h2⟩|⟨h1,h2⟩
   ·exact .inl ⟨List.mem_cons_of_mem _ h1,h2⟩
   ·refine .inr ⟨h1,fun y hy=>?_⟩;rcases List.mem_cons.1 hy with rfl | hy
    ·exact h
    ·exact h2 y hy
theorem key_one{u c:ByteArray} : ∀{l:List RW},RwS l→∀z∈l,kq u c z=true→sm (kI u c) l=z.In∧sm (kO u c) l=z.Out
 | x::r,h,z,hz,hk=>by
  have h':=List.pairwise_cons.1 h;rcases List.mem_cons.1 hz with rfl | hz
  ·have h0:∀y∈r,kq u c y=false:=fun y hy=>by
    cases k:kq u c y with
    | false=>rfl
    | true =>
     have a:=kq_iff.1 hk;have b:=kq_iff.1 k;have:=h'.1 y hy;rw [Qcc ⟨a.1.trans b.1.symm,a.2.trans b.2.symm⟩] at this; cases this
   rw [sm,sm,sm_zero fun y hy=>by unfold kI; rw [h0 y hy]; rfl,sm_zero fun y hy=>by unfold kO; rw [h0 y hy]; rfl];unfold kI kO;rw [hk]
   simp
  ·have hx:kq u c x=false:=by
    cases k:kq u c x with
    | false=>rfl
    | true =>
     have a:=kq_iff.1 hk;have b:=kq_iff.1 k;have:=h'.1 z hz;rw [Qcc ⟨b.1.trans a.1.symm,b.2.trans a.2.symm⟩] at this; cases this
   have ih:=key_one h'.2 z hz hk;rw [sm,sm,ih.1,ih.2];unfold kI kO;rw [hx]
   simp
theorem key_none{u c:ByteArray}{l:List RW}(h:∀z∈l,kq u c z=false):sm (kI u c) l=0∧sm (kO u c) l=0 :=
 ⟨sm_zero fun z hz=>by unfold kI; rw [h z hz]; rfl,sm_zero fun z hz=>by unfold kO; rw [h z hz]; rfl⟩
theorem fnd_sm{u c:ByteArray}{l:List RW}(h:RwS l):(fnd u c l).In=sm (kI u c) l∧(fnd u c l).Out=sm (kO u c) l:=by
 rcases fnd_or u c l with ⟨h1,h2⟩|⟨h1,h2⟩
 ·have:=key_one h _ h1 h2;exact ⟨this.1.symm,this.2.symm⟩
 ·have:=key_none h2;rw [h1,this.1,this.2]; exact ⟨rfl,rfl⟩

theorem sel_sm{j:Qi}(hl:j.Records.length≤31)(ho:(openS j).1=true)(a b:Int)(q:Nat){g:RW→Int}(hg:Lin g):sm g (linW [] (selL a b (j.Records.take q)))=sm g ((selL a b (j.Records.take q)).map rowL):=by
 obtain ⟨S,h1,h2⟩:=st_take hl ho a b q;have:=lin_all hg (selL a b (j.Records.take q)) St_.nil (by omega) h2;rw [this];simp [sm]
end Go.Proofs.YtfeklaffeigilaaDoor
namespace Go.Proofs.YtfeklaffeigilaaDoor
set_option linter.unusedVariables false
set_option linter.unusedSimpArgs false
open Go.RowKit
noncomputable def sL(g:RW→Int)(a b:Int)(l:List Qb):Int:=sm g ((selL a b l).map rowL)
noncomputable def rwS(j:Qi)(a b:Int)(q:Nat):List RW:=linW [] (selL a b (j.Records.take q))
section
variable {j:Qi} (hl:j.Records.length≤31) (ho:(openS j).1=true) (a b:Int) (q:Nat)
include hl ho
theorem rw_sm{g:RW→Int}(hg:Lin g):sm g (rwS j a b q)=sL g a b (j.Records.take q):=sel_sm hl ho a b q hg
theorem rw_tr:RwS (rwS j a b q):=(st_take hl ho a b q).1.tr.sr
theorem rw_len:(rwS j a b q).length≤620:=by
 obtain ⟨S,h1,_⟩:=st_take hl ho a b q;have:=S.len;exact Nat.le_trans this h1
end
end Go.Proofs.YtfeklaffeigilaaDoor
namespace Go.Proofs.YtfeklaffeigilaaDoor
set_option linter.unusedVariables false
set_option linter.unusedSimpArgs false
open Go.RowKit

theorem betS_mk{j:Qi}{a b kn:Int}(ho:(openS j).1=true)(h1:0≤a)(h2:a≤b)(h3:b≤100000)(h4:0≤kn)(h5:kn≤j.Records.length):betS j a b kn=(⟨a,b,kn,rwS j a b kn.toNat⟩,0):=by
 unfold betS;rw [ho,decide_eq_true h1,decide_eq_true h2,decide_eq_true h3,decide_eq_true h4,decide_eq_true h5]; rfl
end Go.Proofs.YtfeklaffeigilaaDoor
namespace Go.Proofs.YtfeklaffeigilaaDoor
set_option linter.unusedVariables false
set_option linter.unusedSimpArgs false
open Go.RowKit
theorem f24n2L_at(bk:List RW)(u c:ByteArray):∀(l:List RW)(v:Int),f24n2L bk u c l v=some (bif l.any (kq u c) then .ret (fnd u c l) else .exit0)
 | [],v=>rfl
 | x::r,v=>by
  rw [f24n2L,f24n2L_at bk u c r,List.any_cons,fnd];unfold kq;cases seq x.Account u<;>cases seq x.Ccy c<;>rfl
theorem f24_eq{l:List RW}(h:l.length≤maxLen)(u c:ByteArray):f24 l u c=some (fnd u c l):=by
 unfold f24 f24n0 f24n1;rw [f24n2_run l u c h,f24n2L_at];cases ha:l.any (kq u c) with
 | true=>rfl
 | false =>
  have:fnd u c l=zR:=by
   rcases fnd_or u c l with ⟨h1,h2⟩|⟨h1,_⟩
   ·rw [List.any_eq_false] at ha;exact absurd h2 (by simpa using ha _ h1)
   ·exact h1
  rw [this]; rfl

theorem f25_eq{j:Qi}(h:Jk j)(u c:ByteArray):f25 j u c=some (bif (openS j).1 then (bal ⟨u,c⟩ (openS j).2.2.2,0) else (0,8)):=by
 unfold f25 f25n0;rw [f45r1_eq h];simp only [Option.bind_some];cases (openS j).1<;>rfl
theorem openL_bal(u c:ByteArray):∀(l:List Qb)(d m:Int)(b:Bal),(openL l d m b).1=true→(∀a,wr64 (bal a b)=bal a b)→bal ⟨u,c⟩ (openL l d m b).2.2.2=wr64 (bal ⟨u,c⟩ b+sR u c l)
 | [],d,m,b,_,h=>by rw [openL,sR,Int.add_zero,h]
 | r::l,d,m,b,ho,h=>by
  rw [openL] at ho ⊢;cases ha:(addS r d m b).1 with
  | false=>rw [ha] at ho; cases ho
  | true =>
   have hs:=(add_true ha).2.2.2.2.2;rw [ha,cond_true] at ho;rw [cond_true];rw [hs] at ho ⊢;obtain ⟨p1,p2⟩:=post_get u c r.Lines b h;rw [openL_bal u c l _ _ _ ho p2,p1,wrL,sR,Int.add_assoc]
theorem open_bal{j:Qi}(hl:j.Records.length≤200)(ho:(openS j).1=true)(u c:ByteArray):bal ⟨u,c⟩ (openS j).2.2.2=wr64 (sR u c j.Records):=by
 unfold openS at ho ⊢;rw [decide_eq_false (by omega),cond_false] at ho ⊢;rw [openL_bal u c _ _ _ _ ho (fun _=>rfl)];show wr64 (0+_)=_;rw [Int.zero_add]
theorem lines_sA(u c:ByteArray):∀ls:List Qa,(∀x∈ls,okL x)→sm (kI u c) (ls.map rowL)-sm (kO u c) (ls.map rowL)=sA u c ls
 | [],_=>rfl
 | x::r,h=>by
  have ih:=lines_sA u c r fun y hy=>h y (List.mem_cons_of_mem _ hy);have hx:=(h x List.mem_cons_self).1;unfold within at hx;rw [Bool.and_eq_true,decide_eq_true_eq,decide_eq_true_eq] at hx;rw [List.map_cons,sm,sm,sA];have:kI u c (rowL x)-kO u c (rowL x)=bif seq x.Account u&&seq x.Ccy c then x.Amount else 0:=by
   unfold kI kO kq rowL;rw [wrIn (n:=0-x.Amount) (by omega) (by omega)]
   by_cases hn:x.Amount<0
   ·rw [decide_eq_true hn,cond_true];cases (seq x.Account u&&seq x.Ccy c) with
    | true=>simp only [cond_true]; omega
    | false=>rfl
   ·rw [decide_eq_false hn,cond_false];cases (seq x.Account u&&seq x.Ccy c) with
    | true=>simp only [cond_true]; omega
    | false=>rfl
  omega
theorem all_sA(u c:ByteArray){a b:Int} : ∀l:List Qb,(∀r∈l,okR r∧a≤dayR r∧dayR r<b)→sL (kI u c) a b l-sL (kO u c) a b l=sR u c l
 | [],_=>rfl
 | r::l,h=>by
  have ih:=all_sA u c l fun y hy=>h y (List.mem_cons_of_mem _ hy);obtain ⟨h1,h2,h3⟩:=h r List.mem_cons_self;have hs:selR a b r=r.Lines:=by
   unfold selR;rw [decide_eq_false (by omega),decide_eq_false (by omega)]; rfl
  have e:=lines_sA u c r.Lines h1.2.2;unfold sL at *;rw [selL,List.map_append,sm_app,sm_app,hs,sR];omega
theorem days_ok{j:Qi}(hl:j.Records.length≤31)(ho:(openS j).1=true):∀r∈j.Records,okR r∧0≤dayR r∧dayR r<100000:=fun r hr=>by
 have ho':=ho;unfold openS at ho';rw [decide_eq_false (by omega),cond_false] at ho';have hf:=open_formed _ _ _ _ ho' r hr;obtain ⟨f1,f2,f3,_⟩:=formed_small hf;have:=day_rng (r:=r) (by omega) f1;exact ⟨formed_ok hf,this.1,by omega⟩
theorem bal_row{j:Qi}(hl:j.Records.length≤31)(ho:(openS j).1=true)(u c:ByteArray){z:RW}(hz:z=fnd u c (rwS j 0 100000 j.Records.length)∨(z∈rwS j 0 100000 j.Records.length∧z.Account=u∧z.Ccy=c)):wr64 (z.In-z.Out)=bal ⟨u,c⟩ (openS j).2.2.2:=by
 have hz':z.In=sm (kI u c) (rwS j 0 100000 j.Records.length)∧z.Out=sm (kO u c) (rwS j 0 100000 j.Records.length):=by
  rcases hz with rfl | ⟨h1,h2,h3⟩
  ·exact fnd_sm (rw_tr hl ho _ _ _)
  ·have:=key_one (rw_tr hl ho 0 100000 j.Records.length) z h1 (kq_iff.2 ⟨h2,h3⟩);exact ⟨this.1.symm,this.2.symm⟩
 rw [hz'.1,hz'.2,rw_sm hl ho _ _ _ (lin_I u c),rw_sm hl ho _ _ _ (lin_O u c),List.take_length,all_sA u c _ (days_ok hl ho),open_bal (by omega) ho]
theorem f6n2L_at{j:Qi}(hj:Jk j)(ho:(openS j).1=true)(bi:Bool)(w:Qk×Int):∀(l:List RW)(v:Int),(∀z∈l,wr64 (z.In-z.Out)=bal ⟨z.Account,z.Ccy⟩ (openS j).2.2.2)→f6n2L bi j w l v=some .exit0
 | [],v,_=>rfl
 | x::r,v,h=>by
  rw [f6n2L,f25_eq hj,ho,cond_true];simp only [Option.bind_some];rw [h x List.mem_cons_self];simp only [decide_true,cond_true];exact f6n2L_at hj ho bi w r _ fun y hy=>h y (List.mem_cons_of_mem _ hy)
theorem ok_rk{r:Qb}(this:Qb.ok r):Rk r:=⟨this.2.1,this.2.2.1.1,fun y hy=>⟨(this.2.2.1.2 y hy).1,(this.2.2.1.2 y hy).2.1⟩⟩
theorem ok_jk{j:Qi}(ok:Qi.ok j):Jk j:=⟨ok.1.1,fun r hr=>ok_rk (ok.1.2 r hr)⟩
theorem bet_bad8{j:Qi}(ho:(openS j).1=false)(a b kn:Int):betS j a b kn=(⟨0,0,0,[]⟩,8):=by
 unfold betS; rw [ho]; rfl
theorem lawBalances{P Q:Prop}(j:Qi)(u c:ByteArray)(ok:Qi.ok j)(_:P)(_:Q):f6 j u c=some true:=by
 have hj:=ok_jk ok;obtain ⟨g,e,hg⟩:=f18_at hj;unfold f6 f6n0;rw [alive_t,e];simp only [Option.bind_some,cond_true];cases g with
 | true=>rfl
 | false =>
  obtain ⟨h30,hs⟩:=hg rfl;rw [cond_false]
  by_cases h1:300<(u.size:Int)
  ·rw [decide_eq_true h1]; rfl
  ·rw [decide_eq_false h1,cond_false]
   by_cases h2:300<(c.size:Int)
   ·rw [decide_eq_true h2]; rfl
   ·rw [decide_eq_false h2,cond_false,f21_eq hj (by omega),f25_eq hj];simp only [Option.bind_some];cases ho:(openS j).1 with
    | false=>rw [bet_bad8 ho]; rfl
    | true =>
     rw [betS_mk ho (by omega) (by omega) (by omega) (Int.natCast_nonneg _) (Int.le_refl _),Int.toNat_natCast];have hlen:=rw_len (j:=j) (by omega) ho 0 100000 j.Records.length;simp only [decide_true,cond_true];rw [f24_eq (Qby (by omega))];simp only [Option.bind_some,decide_true,cond_true];rw [bal_row (by omega) ho u c (.inl rfl)];simp only [decide_true,cond_true];unfold f6n1;rw [f6n2_run _ _ _ (Qby (by show (rwS j 0 100000 j.Records.length).length≤_; omega)),f6n2L_at hj ho _ _ _ _ fun z hz=>bal_row (by omega) ho _ _ (.inr ⟨hz,rfl,rfl⟩)];rfl
end Go.Proofs.YtfeklaffeigilaaDoor
