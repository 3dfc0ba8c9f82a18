/- Several texts in one. No condition. -/
import Derived.Test.YtfeklaffeigilaaDoorRe
import Derived.KernelRfl
namespace Go.Proofs.YtfeklaffeigilaaDoor
set_option linter.unusedVariables false
set_option linter.unusedSimpArgs false
set_option maxRecDepth 100000
open Go.RowKit
def exL(n:Int):List Qa:=[⟨str_Ann,Qao,n⟩,⟨str_Bob,Qao,0-n⟩]
def exJ:Qi:=⟨[⟨10,str_a,exL 5⟩,⟨12,Qy,exL (-2)⟩,⟨12,str_b,exL 1⟩]⟩
theorem ex_26:f26=some (exJ,true):=by kernel_rfl
theorem ex_Jk:Jk exJ:=by
 have h:∀r∈exJ.Records,r.Text.size≤1000000∧r.Lines.length≤1000000∧∀x∈r.Lines,x.Account.size≤1000000∧x.Ccy.size≤1000000:=by
  intro r hr;simp only [exJ,List.mem_cons,List.not_mem_nil,or_false] at hr;rcases hr with rfl | rfl | rfl<;>refine ⟨by decide,by decide,fun x hx=>?_⟩<;>simp only [exL,List.mem_cons,List.not_mem_nil,or_false] at hx<;>rcases hx with rfl | rfl<;>exact ⟨by decide,by decide⟩
 exact ⟨Qbq (by decide),fun r hr=>⟨Qbq (h r hr).1,Qbq (h r hr).2.1,fun x hx=>⟨Qbq ((h r hr).2.2 x hx).1,Qbq ((h r hr).2.2 x hx).2⟩⟩⟩
def exR(a b:Int):List RW:=[⟨str_Ann,Qao,a,b⟩,⟨str_Bob,Qao,b,a⟩]
theorem ex_1:betS exJ 10 11 1=(⟨10,11,1,exR 5 0⟩,0):=by kernel_rfl
theorem ex_3:betS exJ 10 11 3=(⟨10,11,3,exR 5 2⟩,0):=by kernel_rfl
theorem ex_show:f10 ⟨10,11,3,exR 5 2⟩=some (Qn,0):=by kernel_rfl
theorem alive_t:f17=some true:=by
 unfold f17 f17n0 f28 f28n0 f27 f27n0;rw [ex_26];simp only [Option.bind_some];rw [f21_eq ex_Jk (by decide),f21_eq ex_Jk (by decide),ex_1,ex_3];simp only [Option.bind_some,ex_show,cond_true]
 kernel_rfl
end Go.Proofs.YtfeklaffeigilaaDoor
namespace Go.Proofs.YtfeklaffeigilaaDoor
set_option linter.unusedVariables false
set_option linter.unusedSimpArgs false
open Go.RowKit
def sm(g:RW→Int):List RW→Int
 | []=>0
 | z::r=>g z+sm g r
theorem sm_app(g:RW→Int)(a b:List RW):sm g (a++b)=sm g a+sm g b:=by
 induction a with
 | nil=>simp [sm]
 | cons x r ih=>rw [List.cons_append,sm,sm,ih]; omega
theorem sm_zero{g:RW→Int} : ∀{l:List RW},(∀z∈l,g z=0)→sm g l=0
 | [],_=>rfl
 | z::r,h=>by rw [sm,h z List.mem_cons_self,sm_zero fun y hy=>h y (List.mem_cons_of_mem _ hy)]; rfl
theorem sm_nn{g:RW→Int} : ∀{l:List RW},(∀z∈l,0≤g z)→0≤sm g l
 | [],_=>Int.le_refl _
 | z::r,h=>by
  have h1:=h z List.mem_cons_self;have h2:=sm_nn fun y hy=>h y (List.mem_cons_of_mem _ hy);rw [sm]; omega
theorem sm_ge{g:RW→Int} : ∀{l:List RW},(∀z∈l,0≤g z)→∀x∈l,g x≤sm g l
 | z::r,h,x,hx=>by
  have h1:=h z List.mem_cons_self;have h2:=sm_nn fun y hy=>h y (List.mem_cons_of_mem _ hy);rw [sm];rcases List.mem_cons.1 hx with rfl | hx
  ·omega
  ·have:=sm_ge (fun y hy=>h y (List.mem_cons_of_mem _ hy)) x hx;omega
theorem sm_with{g:RW→Int}{x:RW} : ∀{l:List RW},(∀y∈l,sameR x y→g (addR x y)=g x+g y)→sm g (withR l x)=sm g l+g x
 | [],_=>by simp [withR,sm]
 | y::r,h=>by
  rw [withR];cases h1:ltR y x with
  | true =>
   have:=sm_with fun z hz=>h z (List.mem_cons_of_mem _ hz);rw [cond_true,sm,sm,this]; omega
  | false =>
   rw [cond_false];cases h2:ltR x y with
   | true=>rw [cond_true]; simp only [sm]; omega
   | false =>
    rw [cond_false,sm,sm,h y List.mem_cons_self (lt_tot h2 h1)]; omega
def Lin(g:RW→Int):Prop:=∀x y:RW,sameR x y→g ⟨x.Account,x.Ccy,x.In+y.In,x.Out+y.Out⟩=g x+g y
theorem lin_all{g:RW→Int}(hg:Lin g):∀(ls:List Qa){n:Nat}{m:TB_}{l:List RW},St_ n m l→n+ls.length≤4000→(∀x∈ls,okL x)→sm g (linW l ls)=sm g l+sm g (ls.map rowL)
 | [],_,_,_,_,_,_=>by simp [linW,sm]
 | x::r,n,m,l,S,h,ho=>by
  rw [List.length_cons] at h;have hx:=ho x List.mem_cons_self;have ih:=lin_all hg r (S.add (by omega) hx) (by omega) (fun y hy=>ho y (List.mem_cons_of_mem _ hy));show sm g (linW (withR l (rowL x)) r)=_;rw [ih,sm_with,List.map_cons,sm]
  ·omega
  ·intro y hy hs;have h1:=row_p hx.1 hx.2;have h2:=S.p y hy;rw [←hg _ _ hs];unfold addR Pz at *;rw [wrIn (n:=(rowL x).In+y.In) (by omega) (by omega),wrIn (n:=(rowL x).Out+y.Out) (by omega) (by omega)]

def kq(u c:ByteArray)(z:RW):Bool:=seq z.Account u&&seq z.Ccy c
theorem kq_iff{u c:ByteArray}{z:RW} : kq u c z=true↔z.Account=u∧z.Ccy=c:=by
 unfold kq; rw [Bool.and_eq_true,seq_iff,seq_iff]
def kI(u c:ByteArray)(z:RW):Int:=bif kq u c z then z.In else 0
def kO(u c:ByteArray)(z:RW):Int:=bif kq u c z then z.Out else 0
theorem kq_same{u c:ByteArray}{x y:RW}(h:sameR x y):kq u c x=kq u c y:=by unfold kq; rw [h.1,h.2]
theorem lin_I(u c:ByteArray):Lin (kI u c):=fun x y h=>by
 unfold kI;rw [←kq_same h];show (bif kq u c x then _ else _)=_;cases kq u c x<;>rfl
theorem lin_O(u c:ByteArray):Lin (kO u c):=fun x y h=>by
 unfold kO;rw [←kq_same h];show (bif kq u c x then _ else _)=_;cases kq u c x<;>rfl
def fnd(u c:ByteArray):List RW→RW
 | []=>zR
 | z::r=>bif kq u c z then z else fnd u c r
theorem fnd_or(u c:ByteArray):∀l:List RW,(fnd u c l∈l∧kq u c (fnd u c l)=true)∨(fnd u c l=zR∧∀z∈l,kq u c z=false)
 | []=>.inr ⟨rfl,by simp⟩
 | z::r=>by
  rw [fnd];cases h:kq u c z with
  | true=>exact .inl ⟨List.mem_cons_self,h⟩
  | false =>
   rw [cond_false];rcases fnd_or u c r with ⟨h1,h2⟩|⟨h1,h2⟩
   ·exact .inl ⟨List.mem_cons_of_mem _ h1,h2⟩
   ·refine .inr ⟨h1,fun y hy=>?_⟩;rcases List.mem_cons.1 hy with rfl | hy
    ·exact h
    ·exact h2 y hy
theorem key_one{u c:ByteArray} : ∀{l:List RW},RwS l→∀z∈l,kq u c z=true→sm (kI u c) l=z.In∧sm (kO u c) l=z.Out
 | x::r,h,z,hz,hk=>by
  have h':=List.pairwise_cons.1 h;rcases List.mem_cons.1 hz with rfl | hz
  ·have h0:∀y∈r,kq u c y=false:=fun y hy=>by
    cases k:kq u c y with
    | false=>rfl
    | true =>
     have a:=kq_iff.1 hk;have b:=kq_iff.1 k;have:=h'.1 y hy;rw [Qce ⟨a.1.trans b.1.symm,a.2.trans b.2.symm⟩] at this; cases this
   rw [sm,sm,sm_zero fun y hy=>by unfold kI; rw [h0 y hy]; rfl,sm_zero fun y hy=>by unfold kO; rw [h0 y hy]; rfl];unfold kI kO;rw [hk]
   simp
  ·have hx:kq u c x=false:=by
    cases k:kq u c x with
    | false=>rfl
    | true =>
     have a:=kq_iff.1 hk;have b:=kq_iff.1 k;have:=h'.1 z hz;rw [Qce ⟨b.1.trans a.1.symm,b.2.trans a.2.symm⟩] at this; cases this
   have ih:=key_one h'.2 z hz hk;rw [sm,sm,ih.1,ih.2];unfold kI kO;rw [hx]
   simp
theorem key_none{u c:ByteArray}{l:List RW}(h:∀z∈l,kq u c z=false):sm (kI u c) l=0∧sm (kO u c) l=0 :=
 ⟨sm_zero fun z hz=>by unfold kI; rw [h z hz]; rfl,sm_zero fun z hz=>by unfold kO; rw [h z hz]; rfl⟩
theorem fnd_sm{u c:ByteArray}{l:List RW}(h:RwS l):(fnd u c l).In=sm (kI u c) l∧(fnd u c l).Out=sm (kO u c) l:=by
 rcases fnd_or u c l with ⟨h1,h2⟩|⟨h1,h2⟩
 ·have:=key_one h _ h1 h2;exact ⟨this.1.symm,this.2.symm⟩
 ·have:=key_none h2;rw [h1,this.1,this.2]; exact ⟨rfl,rfl⟩

theorem rows_p{ls:List Qa}(h:∀x∈ls,okL x):∀z∈ls.map rowL,Pz 1125899906842624 z:=fun z hz=>by
 obtain ⟨x,hx,rfl⟩:=List.mem_map.1 hz;exact row_p (h x hx).1 (h x hx).2
theorem kI_nn{B:Int}{u c:ByteArray}{z:RW}(h:Pz B z):0≤kI u c z:=by
 unfold kI Pz at *; cases kq u c z with
 | true=>exact h.1
 | false=>exact Int.le_refl _
theorem kO_nn{B:Int}{u c:ByteArray}{z:RW}(h:Pz B z):0≤kO u c z:=by
 unfold kO Pz at *; cases kq u c z with
 | true=>exact h.2.2.1
 | false=>exact Int.le_refl _
theorem kI_nn'{B:Int}{u c:ByteArray}{l:List RW}(h:∀z∈l,Pz B z):0≤sm (kI u c) l:=sm_nn fun z hz=>kI_nn (h z hz)
theorem kO_nn'{B:Int}{u c:ByteArray}{l:List RW}(h:∀z∈l,Pz B z):0≤sm (kO u c) l:=sm_nn fun z hz=>kO_nn (h z hz)
theorem key_pos{B:Int}{u c:ByteArray}{l:List RW}(h:∀z∈l,Pz B z):(∃z∈l,kq u c z=true)↔0<sm (kI u c) l+sm (kO u c) l:=by
 constructor
 ·rintro ⟨z,hz,hk⟩
  have h1:=sm_ge (g:=kI u c) (fun z hz=>kI_nn (h z hz)) z hz;have h2:=sm_ge (g:=kO u c) (fun z hz=>kO_nn (h z hz)) z hz;have h3:=h z hz;unfold kI at h1;unfold kO at h2;unfold Pz at h3;simp only [hk,cond_true] at h1 h2;have e1:sm (fun z=>bif kq u c z then z.In else 0) l=sm (kI u c) l:=rfl;have e2:sm (fun z=>bif kq u c z then z.Out else 0) l=sm (kO u c) l:=rfl;omega
 ·intro hp;refine Classical.byContradiction fun hn=>?_;have:∀z∈l,kq u c z=false:=fun z hz=>by
   cases k:kq u c z with
   | false=>rfl
   | true=>exact absurd ⟨z,hz,k⟩ hn
  have:=key_none this;omega
theorem sel_sm{j:Qi}(hl:j.Records.length≤31)(ho:(openS j).1=true)(a b:Int)(q:Nat){g:RW→Int}(hg:Lin g):sm g (linW [] (selL a b (j.Records.take q)))=sm g ((selL a b (j.Records.take q)).map rowL):=by
 obtain ⟨S,h1,h2⟩:=st_take hl ho a b q;have:=lin_all hg (selL a b (j.Records.take q)) St_.nil (by omega) h2;rw [this];simp [sm]
end Go.Proofs.YtfeklaffeigilaaDoor
namespace Go.Proofs.YtfeklaffeigilaaDoor
set_option linter.unusedVariables false
set_option linter.unusedSimpArgs false
open Go.RowKit
noncomputable def sL(g:RW→Int)(a b:Int)(l:List Qc):Int:=sm g ((selL a b l).map rowL)
theorem sL_split(g:RW→Int){a b c:Int}(h1:a≤b)(h2:b≤c):∀l:List Qc,sL g a c l=sL g a b l+sL g b c l
 | []=>rfl
 | r::l=>by
  have ih:=sL_split g h1 h2 l;unfold sL at *;rw [selL,selL,selL,List.map_append,List.map_append,List.map_append,sm_app,sm_app,sm_app,ih];have:sm g ((selR a c r).map rowL)=sm g ((selR a b r).map rowL)+sm g ((selR b c r).map rowL):=by
   unfold selR
   by_cases k1:dayR r<a
   ·rw [decide_eq_true k1,decide_eq_true (by omega:dayR r<b)]; simp [sm]
   ·rw [decide_eq_false k1]
    by_cases k2:dayR r<b
    ·rw [decide_eq_true k2,decide_eq_false (by omega:¬b≤dayR r),decide_eq_false (by omega:¬c≤dayR r)]; simp [sm]
    ·rw [decide_eq_false k2,decide_eq_true (by omega:b≤dayR r)]; simp [sm]
  omega
noncomputable def rwS(j:Qi)(a b:Int)(q:Nat):List RW:=linW [] (selL a b (j.Records.take q))
section
variable {j:Qi} (hl:j.Records.length≤31) (ho:(openS j).1=true) (a b:Int) (q:Nat)
include hl ho
theorem rw_sm{g:RW→Int}(hg:Lin g):sm g (rwS j a b q)=sL g a b (j.Records.take q):=sel_sm hl ho a b q hg
theorem rw_tr:RwS (rwS j a b q):=(st_take hl ho a b q).1.tr.sr
theorem rw_p:∀z∈rwS j a b q,Pz 698058271126026880 z:=fun z hz=>by
 obtain ⟨S,h1,_⟩:=st_take hl ho a b q;have:=S.p z hz;unfold Pz at *; omega
theorem rw_len:(rwS j a b q).length≤620:=by
 obtain ⟨S,h1,_⟩:=st_take hl ho a b q;have:=S.len;exact Nat.le_trans this h1
theorem sl_p(l:List Qc)(hs:∀r∈l,r∈j.Records):∀z∈(selL a b l).map rowL,Pz 1125899906842624 z :=
 rows_p (sel_ok fun r hr=>open_ok (by omega) ho r (hs r hr)).2
theorem rw_get(u c:ByteArray):(fnd u c (rwS j a b q)).In=sL (kI u c) a b (j.Records.take q)∧(fnd u c (rwS j a b q)).Out=sL (kO u c) a b (j.Records.take q):=by
 have:=fnd_sm (u:=u) (c:=c) (rw_tr hl ho a b q);rw [this.1,this.2,rw_sm hl ho a b q (lin_I u c),rw_sm hl ho a b q (lin_O u c)];exact ⟨rfl,rfl⟩
theorem sl_nn(u c:ByteArray)(l:List Qc)(hs:∀r∈l,r∈j.Records):0≤sL (kI u c) a b l∧0≤sL (kO u c) a b l :=
 ⟨kI_nn' (sl_p hl ho a b l hs),kO_nn' (sl_p hl ho a b l hs)⟩
end
end Go.Proofs.YtfeklaffeigilaaDoor
namespace Go.Proofs.YtfeklaffeigilaaDoor
set_option linter.unusedVariables false
set_option linter.unusedSimpArgs false
open Go.RowKit

theorem betS_ok{j:Qi}{a b kn:Int}(h:(betS j a b kn).2=0):(openS j).1=true∧0≤a∧a≤b∧b≤100000∧0≤kn∧kn≤j.Records.length∧betS j a b kn=(⟨a,b,kn,rwS j a b kn.toNat⟩,0):=by
 unfold betS at h ⊢;cases ho:(openS j).1 with
 | false=>rw [ho] at h; cases h
 | true =>
  rw [ho,cond_true] at h;rw [cond_true];cases h1:(decide (0≤a)&&(decide (a≤b)&&decide (b≤100000))) with
  | false=>rw [h1] at h; cases h
  | true =>
   rw [h1,cond_true] at h;rw [cond_true];cases h2:(decide (0≤kn)&&decide (kn≤(j.Records.length:Int))) with
   | false=>rw [h2] at h; cases h
   | true =>
    simp only [Bool.and_eq_true,decide_eq_true_eq] at h1 h2;exact ⟨rfl,h1.1,h1.2.1,h1.2.2,h2.1,h2.2,rfl⟩
theorem betS_mk{j:Qi}{a b kn:Int}(ho:(openS j).1=true)(h1:0≤a)(h2:a≤b)(h3:b≤100000)(h4:0≤kn)(h5:kn≤j.Records.length):betS j a b kn=(⟨a,b,kn,rwS j a b kn.toNat⟩,0):=by
 unfold betS;rw [ho,decide_eq_true h1,decide_eq_true h2,decide_eq_true h3,decide_eq_true h4,decide_eq_true h5]; rfl
theorem betS_bad{j:Qi}{a b kn:Int}(h:(betS j a b kn).2≠0):(betS j a b kn).1.Rows=[]:=by
 unfold betS at h ⊢;cases ho:(openS j).1 with
 | false=>rfl
 | true =>
  rw [ho,cond_true] at h;rw [cond_true];cases h1:(decide (0≤a)&&(decide (a≤b)&&decide (b≤100000))) with
  | false=>rfl
  | true =>
   rw [h1,cond_true] at h;rw [cond_true];cases h2:(decide (0≤kn)&&decide (kn≤(j.Records.length:Int))) with
   | false=>rfl
   | true=>rw [h2] at h; exact absurd rfl h
theorem req_refl(x:RW):Qb.eqb x x=true:=by unfold Qb.eqb; simp [seq_refl]
theorem req_iff{x y:RW} : Qb.eqb x y=true↔x=y:=by
 constructor
 ·intro h;unfold Qb.eqb at h;rw [Bool.and_eq_true,Bool.and_eq_true,Bool.and_eq_true,seq_iff,seq_iff,decide_eq_true_eq,decide_eq_true_eq] at h;obtain ⟨⟨⟨h1,h2⟩,h3⟩,h4⟩:=h;cases x; cases y;dsimp only at h1 h2 h3 h4;rw [h1,h2,h3,h4]
 ·rintro rfl; exact req_refl x
end Go.Proofs.YtfeklaffeigilaaDoor
namespace Go.Proofs.YtfeklaffeigilaaDoor
set_option linter.unusedVariables false
set_option linter.unusedSimpArgs false
open Go.RowKit
theorem f24n2L_at(bk:List RW)(u c:ByteArray):∀(l:List RW)(v:Int),f24n2L bk u c l v=some (bif l.any (kq u c) then .ret (fnd u c l) else .exit0)
 | [],v=>rfl
 | x::r,v=>by
  rw [f24n2L,f24n2L_at bk u c r,List.any_cons,fnd];unfold kq;cases seq x.Account u<;>cases seq x.Ccy c<;>rfl
theorem f24_eq{l:List RW}(h:l.length≤maxLen)(u c:ByteArray):f24 l u c=some (fnd u c l):=by
 unfold f24 f24n0 f24n1;rw [f24n2_run l u c h,f24n2L_at];cases ha:l.any (kq u c) with
 | true=>rfl
 | false =>
  have:fnd u c l=zR:=by
   rcases fnd_or u c l with ⟨h1,h2⟩|⟨h1,_⟩
   ·rw [List.any_eq_false] at ha;exact absurd h2 (by simpa using ha _ h1)
   ·exact h1
  rw [this]; rfl

theorem ok_rk{r:Qc}(this:Qc.ok r):Rk r:=⟨this.2.1,this.2.2.1.1,fun y hy=>⟨(this.2.2.1.2 y hy).1,(this.2.2.1.2 y hy).2.1⟩⟩
theorem ok_jk{j:Qi}(ok:Qi.ok j):Jk j:=⟨ok.1.1,fun r hr=>ok_rk (ok.1.2 r hr)⟩
end Go.Proofs.YtfeklaffeigilaaDoor
namespace Go.Proofs.YtfeklaffeigilaaDoor
set_option linter.unusedVariables false
set_option linter.unusedSimpArgs false
open Go.RowKit
def gd1(p:Option RW)(i o:Int)(x:RW):Bool:=nmB x.Account&&(nmB x.Ccy&&((match p with | none=>true | some y=>decide (rwC y x<0))&&(decide (0≤x.In)&&(decide (0≤x.Out)&&(!(decide (x.In=0)&&decide (x.Out=0))&&(decide (x.In≤4503599627370496000-i)&&decide (x.Out≤4503599627370496000-o)))))))
def goodL:Option RW→Int→Int→List RW→Bool
 | _,_,_,[]=>true
 | p,i,o,x::r=>gd1 p i o x&&goodL (some x) (i+x.In) (o+x.Out) r
def AtP(rows:List RW)(v:Nat)(p:Option RW):Prop:=(v=0∧p=none)∨∃y,0<v∧at? rows ((v:Int)-1)=some y∧p=some y
theorem AtP.zero(rows:List RW):AtP rows 0 none:=.inl ⟨rfl,rfl⟩
theorem AtP.succ{rows:List RW}{v:Nat}{x:RW}(h:at? rows (v:Int)=some x):AtP rows (v+1) (some x):=.inr ⟨x,Nat.succ_pos _,by rw [show ((v+1:Nat):Int)-1=v by omega]; exact h,rfl⟩
theorem f15n4_eq{i o:Int}(hi:0≤i∧i≤4503599627370496000)(ho:0≤o∧o≤4503599627370496000){v:Nat}(hv:v≤1000000){a:Qj}{p:Option RW}(hp:AtP a.Rows v p)(g:List (ByteArray×Int))(x:RW):f15n4 i o (v:Int) a g x=some (.norm (!gd1 p i o x)):=by
 unfold f15n4 gd1;rw [f40_eq,f40_eq,wrIn (n:=4503599627370496000-i) (by omega) (by omega),wrIn (n:=4503599627370496000-o) (by omega) (by omega),ltNot x.In 0,ltNot x.Out 0,ltNot (4503599627370496000-i) x.In,ltNot (4503599627370496000-o) x.Out];simp only [Option.bind_some];cases nmB x.Account with
 | false=>rfl
 | true =>
  cases nmB x.Ccy with
  | false=>rfl
  | true =>
   rcases hp with ⟨rfl,rfl⟩|⟨y,h0,ha,rfl⟩
   ·rw [decide_eq_false (by omega:¬0<((0:Nat):Int))];cases decide (0≤x.In)<;>cases decide (0≤x.Out)<;>cases decide (x.In=0)<;>cases decide (x.Out=0)<;>cases decide (x.In≤4503599627370496000-i)<;>cases decide (x.Out≤4503599627370496000-o)<;>rfl
   ·rw [decide_eq_true (by omega:0<(v:Int)),wrIn (n:=(v:Int)-1) (by omega) (by omega),ha];simp only [Option.bind_some,f41_eq];rw [ltNot (rwC y x) 0];cases decide (0≤rwC y x)<;>cases decide (0≤x.In)<;>cases decide (0≤x.Out)<;>cases decide (x.In=0)<;>cases decide (x.Out=0)<;>cases decide (x.In≤4503599627370496000-i)<;>cases decide (x.Out≤4503599627370496000-o)<;>rfl
def tl(x:RW):Qa:=⟨x.Account,x.Ccy,wr64 (x.In-x.Out)⟩
theorem gd_in{p:Option RW}{i o:Int}{x:RW}(h:gd1 p i o x=true):0≤x.In∧x.In≤4503599627370496000-i∧0≤x.Out∧x.Out≤4503599627370496000-o:=by
 unfold gd1 at h;simp only [Bool.and_eq_true,decide_eq_true_eq] at h;exact ⟨h.2.2.2.1,h.2.2.2.2.2.2.1,h.2.2.2.2.1,h.2.2.2.2.2.2.2⟩
theorem f15n5_at{a:Qj}(ha:a.Rows.length≤900000):∀(l:List RW)(f v:Nat)(p:Option RW)(i o:Int)(m:List (ByteArray×Int)),a.Rows.drop v=l→l.length<f→AtP a.Rows v p→(0≤i∧i≤4503599627370496000)→(0≤o∧o≤4503599627370496000) →
  f15n5 f a i o (v:Int) m=some (bif goodL p i o l then .exit0 (sumsL (l.map tl) m) else .ret)
 | _,0,_,_,_,_,_,_,h,_,_,_=>absurd h (Nat.not_lt_zero _)
 | [],f+1,v,p,i,o,m,hd,_,_,_,_=>by
  have:=Qas hd;rw [f15n5,decide_eq_false (by omega),cond_false]; rfl
 | x::r,f+1,v,p,i,o,m,hd,hf,hp,hi,ho=>by
  obtain ⟨h1,h2,h3⟩:=dropAt hd;rw [List.length_cons] at hf;rw [f15n5,decide_eq_true (by omega),cond_true];unfold f15n2 f15n3;rw [h1];simp only [Option.bind_some];rw [f15n4_eq hi ho (by omega) hp,goodL];simp only [Option.bind_some];cases hg:gd1 p i o x with
  | false=>rfl
  | true =>
   have:=gd_in hg;simp only [Bool.not_true,cond_false,Option.bind_some,Bool.true_and];rw [wrIn (n:=i+x.In) (by omega) (by omega),wrIn (n:=o+x.Out) (by omega) (by omega),wrSucc (by omega)];rw [f15n5_at ha r f (v+1) (some x) _ _ _ h3 (by omega) (AtP.succ h1) (by omega) (by omega)];rfl
def zeroC(l:List RW):Bool:=balB ⟨0,⟨#[]⟩,l.map tl⟩
theorem f15n7_eq(be:List (ByteArray×Int)):∀l:List (ByteArray×Int),f15n7 be l=some (bif l.all (fun x=>decide (x.2=0)) then .exit2 else .ret)
 | []=>rfl
 | x::r=>by
  rw [f15n7,f15n7_eq be r,List.all_cons];cases decide (x.2=0)<;>rfl
def chkS(r:Qj):Int :=
 bif decide (0≤r.From)&&(decide (r.From≤r.To)&&decide (r.To≤100000)) then
  bif decide (0≤r.Known)&&decide (r.Known≤200) then
   bif goodL none 0 0 r.Rows then bif zeroC r.Rows then 0 else 60 else 8
  else 8
 else 8
theorem f15_eq{r:Qj}(h:r.Rows.length≤900000):f15 r=some (chkS r):=by
 unfold f15 f15n0 chkS;rw [f39_eq];simp only [Option.bind_some];cases decide (0≤r.From)&&(decide (r.From≤r.To)&&decide (r.To≤100000)) with
 | false=>rfl
 | true =>
  rw [cond_true,cond_true,ltNot r.Known 0,ltNot 200 r.Known];cases decide (0≤r.Known) with
  | false=>rfl
  | true =>
   cases decide (r.Known≤200) with
   | false=>rfl
   | true =>
    have e:=f15n5_at h r.Rows FUEL 0 none 0 0 [] rfl (fuelSmall (by omega)) (AtP.zero _) (by omega) (by omega);rw [show ((0:Nat):Int)=0 from rfl] at e;unfold f15n1;rw [e];simp only [Bool.not_true,cond_false,Bool.and_self,cond_true];cases goodL none 0 0 r.Rows with
    | false=>rfl
    | true =>
     simp only [cond_true,Option.bind_some];unfold f15n6;have hp:∀p,p.Perm (sumsL (r.Rows.map tl) [])→f15n7 (sumsL (r.Rows.map tl) []) p=some (bif zeroC r.Rows then .exit2 else .ret):=fun p hp=>by
      rw [f15n7_eq,hp.all_eq]; rfl
     rw [anyOrder_of hp];cases zeroC r.Rows<;>rfl

theorem good_of{B:Int} : ∀(l:List RW)(p:Option RW)(i o:Int),RwS l→(∀y,p=some y→∀x∈l,ltR y x=true)→(∀z∈l,Pz B z∧nmB z.Account=true∧nmB z.Ccy=true)→i+sm Qb.In l≤4503599627370496000→o+sm Qb.Out l≤4503599627370496000→goodL p i o l=true
 | [],_,_,_,_,_,_,_,_=>rfl
 | x::r,p,i,o,hs,hp,hz,hi,ho=>by
  have hs':=List.pairwise_cons.1 hs;obtain ⟨h1,h2,h3⟩:=hz x List.mem_cons_self;rw [sm] at hi ho;have n1:0≤sm Qb.In r:=sm_nn fun z hz'=>(hz z (List.mem_cons_of_mem _ hz')).1.1;have n2:0≤sm Qb.Out r:=sm_nn fun z hz'=>(hz z (List.mem_cons_of_mem _ hz')).1.2.2.1;have hi':i+(x.In+sm Qb.In r)≤4503599627370496000:=hi;have ho':o+(x.Out+sm Qb.Out r)≤4503599627370496000:=ho;rw [goodL,good_of r (some x) (i+x.In) (o+x.Out) hs'.2 (fun y e z hz'=>by rw [←Option.some.inj e]; exact hs'.1 z hz') (fun z hz'=>hz z (List.mem_cons_of_mem _ hz')) (by omega) (by omega),Bool.and_true];unfold gd1 Pz at *;rw [h2,h3,decide_eq_true (by omega:0≤x.In),decide_eq_true (by omega:0≤x.Out),decide_eq_true (by omega:x.In≤4503599627370496000-i),decide_eq_true (by omega:x.Out≤4503599627370496000-o)]
  by_cases hx:x.In=0
  ·rw [decide_eq_true hx,decide_eq_false (by omega:¬x.Out=0)];cases p with
   | none=>rfl
   | some y =>
    have hlt:decide (rwC y x<0)=true:=hp y rfl x List.mem_cons_self;show (true&&(true&&(decide (rwC y x<0)&&(true&&(true&&(!(true&&false)&&(true&&true)))))))=true;rw [hlt]; rfl
  ·rw [decide_eq_false hx];cases p with
   | none=>rfl
   | some y =>
    have hlt:decide (rwC y x<0)=true:=hp y rfl x List.mem_cons_self;show (true&&(true&&(decide (rwC y x<0)&&(true&&(true&&(!(false&&decide (x.Out=0))&&(true&&true)))))))=true;rw [hlt]; rfl
def pC(c:ByteArray)(z:RW):Int:=bif seq z.Ccy c then z.In-z.Out else 0
theorem lin_C(c:ByteArray):Lin (pC c):=fun x y h=>by
 unfold pC;rw [←h.2];show (bif seq x.Ccy c then _ else _)=_;cases seq x.Ccy c with
 | true=>simp only [cond_true]; omega
 | false=>rfl
theorem lin_In:Lin Qb.In:=fun x y h=>rfl
theorem lin_Out:Lin Qb.Out:=fun x y h=>rfl
theorem sC_rows(c:ByteArray):∀l:List RW,wr64 (sC c (l.map tl))=wr64 (sm (pC c) l)
 | []=>rfl
 | x::r=>by
  have ih:=sC_rows c r;rw [List.map_cons,sC,sm];have e:(bif seq (tl x).Ccy c then (tl x).Amount else 0)=bif seq x.Ccy c then wr64 (x.In-x.Out) else 0:=rfl;rw [e];unfold pC at *;cases seq x.Ccy c with
  | true =>
   rw [cond_true,cond_true,wrL,Int.add_comm,←wrL,ih,wrL,Int.add_comm]
  | false=>rw [cond_false,cond_false,Int.zero_add,Int.zero_add,ih]
theorem lines_sC(c:ByteArray):∀ls:List Qa,(∀x∈ls,okL x)→sm (pC c) (ls.map rowL)=sC c ls
 | [],_=>rfl
 | x::r,h=>by
  have ih:=lines_sC c r fun y hy=>h y (List.mem_cons_of_mem _ hy);have hx:=(h x List.mem_cons_self).1;unfold within at hx;rw [Bool.and_eq_true,decide_eq_true_eq,decide_eq_true_eq] at hx;rw [List.map_cons,sm,sC,ih]
  congr 1
  unfold pC rowL;rw [wrIn (n:=0-x.Amount) (by omega) (by omega)]
  by_cases hn:x.Amount<0
  ·rw [decide_eq_true hn,cond_true];cases seq x.Ccy c with
   | true=>simp only [cond_true]; omega
   | false=>rfl
  ·rw [decide_eq_false hn,cond_false];cases seq x.Ccy c with
   | true=>simp only [cond_true]; omega
   | false=>rfl
theorem sC_small(c:ByteArray):∀ls:List Qa,(∀x∈ls,okL x)→-(ls.length*1125899906842624:Int)≤sC c ls∧sC c ls≤ls.length*1125899906842624
 | [],_=>⟨Int.le_refl _,Int.le_refl _⟩
 | x::r,h=>by
  have ih:=sC_small c r fun y hy=>h y (List.mem_cons_of_mem _ hy);have hx:=(h x List.mem_cons_self).1;unfold within at hx;rw [Bool.and_eq_true,decide_eq_true_eq,decide_eq_true_eq] at hx;rw [sC,List.length_cons];cases seq x.Ccy c with
  | true=>rw [cond_true]; omega
  | false=>rw [cond_false]; omega
theorem sC_none(c:ByteArray):∀ls:List Qa,(∀x∈ls,x.Ccy≠c)→sC c ls=0
 | [],_=>rfl
 | x::r,h=>by
  rw [sC,sC_none c r fun y hy=>h y (List.mem_cons_of_mem _ hy),seqF (h x List.mem_cons_self)]; rfl
theorem open_bal2:∀(l:List Qc)(d m:Int)(b:Bal),(openL l d m b).1=true→∀r∈l,balB r=true
 | [],_,_,_,_=>by simp
 | r::l,d,m,b,h=>by
  rw [openL] at h;cases ha:(addS r d m b).1 with
  | false=>rw [ha] at h; cases h
  | true =>
   rw [ha,cond_true] at h;intro x hx;rcases List.mem_cons.1 hx with rfl | hx
   ·exact (add_true ha).2.2.1
   ·exact open_bal2 l _ _ _ h x hx
theorem rec_zero{r:Qc}(hf:okR r)(hb:balB r=true)(c:ByteArray):sC c r.Lines=0:=by
 by_cases h:∃x∈r.Lines,x.Ccy=c
 ·obtain ⟨x,hx,rfl⟩:=h;rw [bal_sum] at hb;have h1:=of_decide_eq_true (List.all_eq_true.1 hb x hx);have h2:=sC_small x.Ccy r.Lines hf.2.2;have h3:=hf.2.1
  rwa [wrIn (by omega) (by omega)] at h1
 ·exact sC_none c _ fun x hx e=>h ⟨x,hx,e⟩
theorem sel_zero(c:ByteArray)(a b:Int):∀l:List Qc,(∀r∈l,okR r∧balB r=true)→sL (pC c) a b l=0
 | [],_=>rfl
 | r::l,h=>by
  have ih:=sel_zero c a b l fun y hy=>h y (List.mem_cons_of_mem _ hy);obtain ⟨h1,h2⟩:=h r List.mem_cons_self;unfold sL at *;rw [selL,List.map_append,sm_app,ih];have:sm (pC c) ((selR a b r).map rowL)=0:=by
   unfold selR;cases decide (dayR r<a) with
   | true=>rfl
   | false =>
    cases decide (b≤dayR r) with
    | true=>rfl
    | false =>
     show sm (pC c) (r.Lines.map rowL)=0;rw [lines_sC c _ h1.2.2,rec_zero h1 h2]
  omega
theorem recs_ok{j:Qi}(hl:j.Records.length≤31)(ho:(openS j).1=true):∀r∈j.Records,okR r∧balB r=true∧formedB r=true:=fun r hr=>by
 have ho':=ho;unfold openS at ho';rw [decide_eq_false (by omega),cond_false] at ho';have hf:=open_formed _ _ _ _ ho' r hr;exact ⟨formed_ok hf,open_bal2 _ _ _ _ ho' r hr,hf⟩
theorem sm_le{g:RW→Int}{B:Int} : ∀{l:List RW},(∀z∈l,g z≤B)→0≤B→sm g l≤l.length*B
 | [],_,h=>by simp [sm]
 | z::r,h,h0=>by
  have h1:=h z List.mem_cons_self;have h2:=sm_le (fun y hy=>h y (List.mem_cons_of_mem _ hy)) h0;rw [sm,List.length_cons];have:((r.length+1:Nat):Int)*B=r.length*B+B:=by
   rw [Int.natCast_succ,Int.add_mul,Int.one_mul]
  omega
theorem sel_names{j:Qi}(hl:j.Records.length≤31)(ho:(openS j).1=true)(a b:Int):∀l:List Qc,(∀r∈l,r∈j.Records)→∀x∈selL a b l,nmB x.Account=true∧nmB x.Ccy=true
 | [],_,x,hx=>by cases hx
 | r::l,h,x,hx=>by
  rw [selL] at hx;rcases List.mem_append.1 hx with hx | hx
  ·have hx':x∈r.Lines:=by
    unfold selR at hx
    revert hx
    cases decide (dayR r<a) with
    | true=>intro hx; cases hx
    | false =>
     cases decide (b≤dayR r) with
     | true=>intro hx; cases hx
     | false=>exact fun hx=>hx
   have hf:=(recs_ok hl ho r (h r List.mem_cons_self)).2.2;obtain ⟨_,_,_,_,_,h3⟩:=formed_small hf;have:=List.any_eq_false.1 h3 x hx';unfold badL at this;simp only [Bool.or_eq_true,not_or,Bool.not_eq_true,Bool.not_eq_false',decide_eq_false_iff_not] at this;exact ⟨this.1,this.2.1⟩
  ·exact sel_names hl ho a b l (fun y hy=>h y (List.mem_cons_of_mem _ hy)) x hx
theorem rw_names{j:Qi}(hl:j.Records.length≤31)(ho:(openS j).1=true)(a b:Int)(q:Nat):∀z∈rwS j a b q,nmB z.Account=true∧nmB z.Ccy=true:=fun z hz=>by
 have h1:=(key_pos (u:=z.Account) (c:=z.Ccy) (rw_p hl ho a b q)).1 ⟨z,hz,kq_iff.2 ⟨rfl,rfl⟩⟩;rw [rw_sm hl ho a b q (lin_I _ _),rw_sm hl ho a b q (lin_O _ _)] at h1;have hm:∀r∈j.Records.take q,r∈j.Records:=fun r hr=>List.mem_of_mem_take hr;obtain ⟨y,hy,hk⟩:=(key_pos (sl_p hl ho a b _ hm)).2 h1;obtain ⟨x,hx,rfl⟩:=List.mem_map.1 hy;have hn:=sel_names hl ho a b _ hm x hx;have hk:=kq_iff.1 hk;have e:(rowL x).Account=x.Account∧(rowL x).Ccy=x.Ccy:=by
  unfold rowL;cases decide (x.Amount<0)<;>exact ⟨rfl,rfl⟩
 rw [←hk.1,←hk.2,e.1,e.2]; exact hn
theorem rw_small{j:Qi}(hl:j.Records.length≤31)(ho:(openS j).1=true)(a b:Int)(q:Nat):sm Qb.In (rwS j a b q)≤4503599627370496000∧sm Qb.Out (rwS j a b q)≤4503599627370496000:=by
 have hm:∀r∈j.Records.take q,r∈j.Records:=fun r hr=>List.mem_of_mem_take hr;have hp:=sl_p hl ho a b _ hm;obtain ⟨_,hn,_⟩:=st_take hl ho a b q;rw [rw_sm hl ho a b q lin_In,rw_sm hl ho a b q lin_Out];have h1:=sm_le (g:=Qb.In) (B:=1125899906842624) (fun z hz=>(hp z hz).2.1) (by omega);have h2:=sm_le (g:=Qb.Out) (B:=1125899906842624) (fun z hz=>(hp z hz).2.2.2.1) (by omega);rw [List.length_map] at h1 h2;unfold sL;omega
theorem chk_bet{j:Qi}(hl:j.Records.length≤31)(ho:(openS j).1=true){a b kn:Int}(h1:0≤a)(h2:a≤b)(h3:b≤100000)(h4:0≤kn)(h5:kn≤200)(q:Nat):chkS ⟨a,b,kn,rwS j a b q⟩=0:=by
 unfold chkS;have hg:goodL none 0 0 (rwS j a b q)=true:=by
  have:=rw_small hl ho a b q;exact good_of _ none 0 0 (rw_tr hl ho a b q) (fun y e=>by cases e) (fun z hz=>⟨rw_p hl ho a b q z hz,rw_names hl ho a b q z hz⟩) (by omega) (by omega)
 have hz:zeroC (rwS j a b q)=true:=by
  unfold zeroC;rw [bal_sum];unfold sumB;refine List.all_eq_true.2 fun x hx=>decide_eq_true ?_;show wr64 (sC x.Ccy ((rwS j a b q).map tl))=0;rw [sC_rows,rw_sm hl ho a b q (lin_C _),sel_zero _ _ _ _ fun r hr=>?_]
  ·rfl
  ·have:=recs_ok hl ho r (List.mem_of_mem_take hr);exact ⟨this.1,this.2.1⟩
 rw [decide_eq_true h1,decide_eq_true h2,decide_eq_true h3,decide_eq_true h4,decide_eq_true h5,hg,hz]; rfl
section
variable {j:Qi} (hl:j.Records.length≤31) (ho:(openS j).1=true)
include hl ho
theorem split_row{a b c:Int}(h1:a≤b)(h2:b≤c)(q:Nat){z:RW}(hz:z∈rwS j a c q):wr64 ((fnd z.Account z.Ccy (rwS j a b q)).In+(fnd z.Account z.Ccy (rwS j b c q)).In)=z.In∧wr64 ((fnd z.Account z.Ccy (rwS j a b q)).Out+(fnd z.Account z.Ccy (rwS j b c q)).Out)=z.Out:=by
 have k:=key_one (rw_tr hl ho a c q) z hz (kq_iff.2 ⟨rfl,rfl⟩);have p:=rw_p hl ho a c q z hz;have g1:=rw_get hl ho a b q z.Account z.Ccy;have g2:=rw_get hl ho b c q z.Account z.Ccy;rw [rw_sm hl ho a c q (lin_I _ _),rw_sm hl ho a c q (lin_O _ _),sL_split _ h1 h2,sL_split _ h1 h2] at k;rw [g1.1,g1.2,g2.1,g2.2,k.1,k.2];unfold Pz at p;exact ⟨wrIn (by omega) (by omega),wrIn (by omega) (by omega)⟩
theorem sub_row{a b c d:Int}(h1:c≤a)(h2:a≤b)(h3:b≤d)(q:Nat){z:RW}(hz:z∈rwS j a b q):Qb.eqb (fnd z.Account z.Ccy (rwS j c d q)) zR=false:=by
 have hm:∀r∈j.Records.take q,r∈j.Records:=fun r hr=>List.mem_of_mem_take hr;have k:=(key_pos (u:=z.Account) (c:=z.Ccy) (rw_p hl ho a b q)).1 ⟨z,hz,kq_iff.2 ⟨rfl,rfl⟩⟩;rw [rw_sm hl ho a b q (lin_I _ _),rw_sm hl ho a b q (lin_O _ _)] at k;have g:=rw_get hl ho c d q z.Account z.Ccy;have e1:=sL_split (kI z.Account z.Ccy) h1 (Int.le_trans h2 h3) (j.Records.take q);have e2:=sL_split (kO z.Account z.Ccy) h1 (Int.le_trans h2 h3) (j.Records.take q);have e3:=sL_split (kI z.Account z.Ccy) h2 h3 (j.Records.take q);have e4:=sL_split (kO z.Account z.Ccy) h2 h3 (j.Records.take q);have n1:=sl_nn hl ho c a z.Account z.Ccy _ hm;have n2:=sl_nn hl ho b d z.Account z.Ccy _ hm;cases he:Qb.eqb (fnd z.Account z.Ccy (rwS j c d q)) zR with
 | false=>rfl
 | true =>
  have:=req_iff.1 he;have i1:(fnd z.Account z.Ccy (rwS j c d q)).In=0:=by rw [this]; rfl
  have i2:(fnd z.Account z.Ccy (rwS j c d q)).Out=0:=by rw [this]; rfl
  rw [g.1] at i1;rw [g.2] at i2;omega
end
theorem f5n2L_at(bi:Bool)(x y z:Qj×Int)(hx:x.1.Rows.length≤maxLen)(hy:y.1.Rows.length≤maxLen):∀(l:List RW)(v:Int),(∀r∈l,wr64 ((fnd r.Account r.Ccy x.1.Rows).In+(fnd r.Account r.Ccy y.1.Rows).In)=r.In∧wr64 ((fnd r.Account r.Ccy x.1.Rows).Out+(fnd r.Account r.Ccy y.1.Rows).Out)=r.Out)→f5n2L bi x y z l v=some .exit0
 | [],v,_=>rfl
 | r::l,v,h=>by
  obtain ⟨h1,h2⟩:=h r List.mem_cons_self;rw [f5n2L,f24_eq hx,f24_eq hy];simp only [Option.bind_some,h1,h2,decide_true,cond_true];exact f5n2L_at bi x y z hx hy l _ fun q hq=>h q (List.mem_cons_of_mem _ hq)
theorem f5n5L_at(bi:Bool)(l0:List RW)(k:Int)(z x y:Qj×Int)(hz:z.1.Rows.length≤maxLen):∀(l:List RW)(v:Int),(∀r∈l,Qb.eqb (fnd r.Account r.Ccy z.1.Rows) zR=false)→f5n5L bi l0 k z x y l v=some .exit4
 | [],v,_=>rfl
 | r::l,v,h=>by
  rw [f5n5L,f24_eq hz];have h1:Qb.eqb (fnd r.Account r.Ccy z.1.Rows) (Qb.mk Qab Qab 0 0)=false:=h r List.mem_cons_self;simp only [Option.bind_some,h1,cond_false];exact f5n5L_at bi l0 k z x y hz l _ fun q hq=>h q (List.mem_cons_of_mem _ hq)
theorem lawSplits{P Q R S:Prop}(j:Qi)(a b c kn:Int)(ok:Qi.ok j)(_:P)(_:Q)(_:R)(_:S):f5 j a b c kn=some true:=by
 have hj:=ok_jk ok;obtain ⟨g,e,hg⟩:=f18_at hj;unfold f5 f5n0;rw [alive_t,e];simp only [Option.bind_some,cond_true];cases g with
 | true=>rfl
 | false =>
  obtain ⟨h30,hs⟩:=hg rfl;rw [cond_false,f21_eq hj (by omega),f21_eq hj (by omega),f21_eq hj (by omega)];simp only [Option.bind_some]
  by_cases h1:(betS j a b kn).2=0
  ·rw [decide_eq_true h1,cond_true]
   by_cases h2:(betS j b c kn).2=0
   ·rw [decide_eq_true h2,cond_true];obtain ⟨ho,a1,a2,a3,a4,a5,e1⟩:=betS_ok h1;obtain ⟨_,b1,b2,b3,_,_,e2⟩:=betS_ok h2;have e3:=betS_mk (b:=c) ho a1 (by omega) b3 a4 a5;rw [e1,e2,e3];have l1:=rw_len (j:=j) (by omega) ho a b kn.toNat;have l2:=rw_len (j:=j) (by omega) ho b c kn.toNat;have l3:=rw_len (j:=j) (by omega) ho a c kn.toNat;have c1:=chk_bet (j:=j) (by omega) ho a1 a2 a3 a4 (kn:=kn) (by omega) kn.toNat;have c2:=chk_bet (j:=j) (by omega) ho b1 b2 b3 a4 (kn:=kn) (by omega) kn.toNat;have c3:=chk_bet (j:=j) (by omega) ho a1 (Int.le_trans a2 b2) b3 a4 (kn:=kn) (by omega) kn.toNat;have hrow:∀z∈rwS j a c kn.toNat,wr64 ((fnd z.Account z.Ccy (rwS j a b kn.toNat)).In+(fnd z.Account z.Ccy (rwS j b c kn.toNat)).In)=z.In∧wr64 ((fnd z.Account z.Ccy (rwS j a b kn.toNat)).Out+(fnd z.Account z.Ccy (rwS j b c kn.toNat)).Out)=z.Out:=fun z hz=>split_row (by omega) ho a2 b2 _ hz
    have hs1:∀z∈rwS j a b kn.toNat,Qb.eqb (fnd z.Account z.Ccy (rwS j a c kn.toNat)) zR=false:=fun z hz=>sub_row (by omega) ho (Int.le_refl _) a2 b2 _ hz;have hs2:∀z∈rwS j b c kn.toNat,Qb.eqb (fnd z.Account z.Ccy (rwS j a c kn.toNat)) zR=false:=fun z hz=>sub_row (by omega) ho a2 b2 (Int.le_refl _) _ hz
    clear e1 e2 e3
    generalize rwS j a b kn.toNat=X at *;generalize rwS j b c kn.toNat=Y at *;generalize rwS j a c kn.toNat=Z at *;simp only [decide_true,cond_true];have m1:X.length≤maxLen:=Qbq (by omega);have m2:Y.length≤maxLen:=Qbq (by omega);have m3:Z.length≤maxLen:=Qbq (by omega);rw [f15_eq (r:=⟨a,b,kn,X⟩) (by show X.length≤_; omega),f15_eq (r:=⟨b,c,kn,Y⟩) (by show Y.length≤_; omega),f15_eq (r:=⟨a,c,kn,Z⟩) (by show Z.length≤_; omega),c1,c2,c3];simp only [Option.bind_some,decide_true,cond_true];unfold f5n1 f5n3;rw [f5n2_run _ _ _ _ m3,f5n2L_at _ (⟨a,b,kn,X⟩,0) (⟨b,c,kn,Y⟩,0) (⟨a,c,kn,Z⟩,0) m1 m2 Z _ hrow];simp only [Option.bind_some];obtain ⟨f,hf⟩:∃f,FUEL=f+3:=⟨FUEL-3,by have:=fuelSmall (n:=3) (by omega); omega⟩;have g1:f5n4 true 0 (⟨a,c,kn,Z⟩,0) (⟨a,b,kn,X⟩,0) (⟨b,c,kn,Y⟩,0)=some .norm:=by
     unfold f5n4;show ((f5n5 FUEL true X 0 _ _ _ 0).bind _)=_;rw [f5n5_run _ _ _ _ _ _ m1,f5n5L_at _ _ _ _ _ _ m3 X _ hs1];rfl
    have g2:f5n4 true 1 (⟨a,c,kn,Z⟩,0) (⟨a,b,kn,X⟩,0) (⟨b,c,kn,Y⟩,0)=some .norm:=by
     unfold f5n4;show ((f5n5 FUEL true Y 1 _ _ _ 0).bind _)=_;rw [f5n5_run _ _ _ _ _ _ m2,f5n5L_at _ _ _ _ _ _ m3 Y _ hs2];rfl
    rw [hf,f5n6,decide_eq_true (by omega),cond_true,g1];simp only [Option.bind_some];rw [f5n6,show wr64 (0+1)=1 from rfl,decide_eq_true (by omega),cond_true,g2];simp only [Option.bind_some];rw [f5n6,show wr64 (1+1)=2 from rfl,decide_eq_false (by omega),cond_false];rfl
   ·rw [decide_eq_false h2,cond_false,betS_bad h2]; rfl
  ·rw [decide_eq_false h1,cond_false,betS_bad h1];simp only [List.length_nil]
   by_cases h2:(betS j b c kn).2=0
   ·rw [decide_eq_true h2]; rfl
   ·rw [decide_eq_false h2,betS_bad h2]; rfl
end Go.Proofs.YtfeklaffeigilaaDoor
