/- Several texts in one. No condition. -/
import Derived.Test.YtfeklaffeigilaaDoorRe
import Derived.KernelRfl
namespace Go.Proofs.YtfeklaffeigilaaDoor
set_option linter.unusedVariables false
set_option linter.unusedSimpArgs false
set_option maxRecDepth 100000
open Go.RowKit
def exL(n:Int):List Qb:=[⟨str_Ann,Qap,n⟩,⟨str_Bob,Qap,0-n⟩]
def exJ:Qi:=⟨[⟨10,str_a,exL 5⟩,⟨12,Qaa,exL (-2)⟩,⟨12,str_b,exL 1⟩]⟩
theorem ex_26:f26=some (exJ,true):=by kernel_rfl
theorem ex_Jk:Jk exJ:=by
 have h:∀r∈exJ.Records,r.Text.size≤1000000∧r.Lines.length≤1000000∧∀x∈r.Lines,x.Account.size≤1000000∧x.Ccy.size≤1000000:=by
  intro r hr;simp only [exJ,List.mem_cons,List.not_mem_nil,or_false] at hr;rcases hr with rfl | rfl | rfl<;>refine ⟨by decide,by decide,fun x hx=>?_⟩<;>simp only [exL,List.mem_cons,List.not_mem_nil,or_false] at hx<;>rcases hx with rfl | rfl<;>exact ⟨by decide,by decide⟩
 exact ⟨Qaw (by decide),fun r hr=>⟨Qaw (h r hr).1,Qaw (h r hr).2.1,fun x hx=>⟨Qaw ((h r hr).2.2 x hx).1,Qaw ((h r hr).2.2 x hx).2⟩⟩⟩
def exR(a b:Int):List RW:=[⟨str_Ann,Qap,a,b⟩,⟨str_Bob,Qap,b,a⟩]
theorem ex_1:betS exJ 10 11 1=(⟨10,11,1,exR 5 0⟩,0):=by kernel_rfl
theorem ex_3:betS exJ 10 11 3=(⟨10,11,3,exR 5 2⟩,0):=by kernel_rfl
theorem ex_show:f10 ⟨10,11,3,exR 5 2⟩=some (Qp,0):=by kernel_rfl
theorem alive_t:f17=some true:=by
 unfold f17 f17n0 f28 f28n0 f27 f27n0;rw [ex_26];simp only [Option.bind_some];rw [f21_eq ex_Jk (by decide),f21_eq ex_Jk (by decide),ex_1,ex_3];simp only [Option.bind_some,ex_show,cond_true]
 kernel_rfl
end Go.Proofs.YtfeklaffeigilaaDoor
namespace Go.Proofs.YtfeklaffeigilaaDoor
set_option linter.unusedVariables false
set_option linter.unusedSimpArgs false
open Go.RowKit
def sm(g:RW→Int):List RW→Int
 | []=>0
 | z::r=>g z+sm g r
theorem sm_app(g:RW→Int)(a b:List RW):sm g (a++b)=sm g a+sm g b:=by
 induction a with
 | nil=>simp [sm]
 | cons x r ih=>rw [List.cons_append,sm,sm,ih]; omega
theorem sm_zero{g:RW→Int} : ∀{l:List RW},(∀z∈l,g z=0)→sm g l=0
 | [],_=>rfl
 | z::r,h=>by rw [sm,h z List.mem_cons_self,sm_zero fun y hy=>h y (List.mem_cons_of_mem _ hy)]; rfl
theorem sm_nn{g:RW→Int} : ∀{l:List RW},(∀z∈l,0≤g z)→0≤sm g l
 | [],_=>Int.le_refl _
 | z::r,h=>by
  have h1:=h z List.mem_cons_self;have h2:=sm_nn fun y hy=>h y (List.mem_cons_of_mem _ hy);rw [sm]; omega
theorem sm_ge{g:RW→Int} : ∀{l:List RW},(∀z∈l,0≤g z)→∀x∈l,g x≤sm g l
 | z::r,h,x,hx=>by
  have h1:=h z List.mem_cons_self;have h2:=sm_nn fun y hy=>h y (List.mem_cons_of_mem _ hy);rw [sm];rcases List.mem_cons.1 hx with rfl | hx
  ·omega
  ·have:=sm_ge (fun y hy=>h y (List.mem_cons_of_mem _ hy)) x hx;omega
theorem sm_with{g:RW→Int}{x:RW} : ∀{l:List RW},(∀y∈l,sameR x y→g (addR x y)=g x+g y)→sm g (Qca l x)=sm g l+g x
 | [],_=>by simp [Qca,sm]
 | y::r,h=>by
  rw [Qca];cases h1:ltR y x with
  | true =>
   have:=sm_with fun z hz=>h z (List.mem_cons_of_mem _ hz);rw [cond_true,sm,sm,this]; omega
  | false =>
   rw [cond_false];cases h2:ltR x y with
   | true=>rw [cond_true]; simp only [sm]; omega
   | false =>
    rw [cond_false,sm,sm,h y List.mem_cons_self (lt_tot h2 h1)]; omega
theorem sm_withM{g:RW→Int}{x:RW} : ∀{l:List RW},(∀y∈l,sameR x y→wr64 (g (addR x y))=wr64 (g x+g y))→wr64 (sm g (Qca l x))=wr64 (sm g l+g x)
 | [],_=>by simp [Qca,sm]
 | y::r,h=>by
  rw [Qca];cases h1:ltR y x with
  | true =>
   have:=sm_withM fun z hz=>h z (List.mem_cons_of_mem _ hz);rw [cond_true,sm,sm,Int.add_comm (g y),←wrL,this,wrL]
   congr 1; omega
  | false =>
   rw [cond_false];cases h2:ltR x y with
   | true=>rw [cond_true]; simp only [sm]; congr 1; omega
   | false =>
    rw [cond_false,sm,sm,←wrL,h y List.mem_cons_self (lt_tot h2 h1),wrL]
    congr 1; omega
def Lin(g:RW→Int):Prop:=∀x y:RW,sameR x y→g ⟨x.Account,x.Ccy,x.In+y.In,x.Out+y.Out⟩=g x+g y
theorem lin_all{g:RW→Int}(hg:Lin g):∀(ls:List Qb){n:Nat}{m:TB_}{l:List RW},St_ n m l→n+ls.length≤4000→(∀x∈ls,okL x)→sm g (linW l ls)=sm g l+sm g (ls.map rowL)
 | [],_,_,_,_,_,_=>by simp [linW,sm]
 | x::r,n,m,l,S,h,ho=>by
  rw [List.length_cons] at h;have hx:=ho x List.mem_cons_self;have ih:=lin_all hg r (S.add (by omega) hx) (by omega) (fun y hy=>ho y (List.mem_cons_of_mem _ hy));show sm g (linW (Qca l (rowL x)) r)=_;rw [ih,sm_with,List.map_cons,sm]
  ·omega
  ·intro y hy hs;have h1:=row_p hx.1 hx.2;have h2:=S.p y hy;rw [←hg _ _ hs];unfold addR Pz at *;rw [wrIn (n:=(rowL x).In+y.In) (by omega) (by omega),wrIn (n:=(rowL x).Out+y.Out) (by omega) (by omega)]

def kq(u c:ByteArray)(z:RW):Bool:=seq z.Account u&&seq z.Ccy c
theorem kq_iff{u c:ByteArray}{z:RW} : kq u c z=true↔z.Account=u∧z.Ccy=c:=by
 unfold kq; rw [Bool.and_eq_true,seq_iff,seq_iff]
def kI(u c:ByteArray)(z:RW):Int:=bif kq u c z then z.In else 0
def kO(u c:ByteArray)(z:RW):Int:=bif kq u c z then z.Out else 0
theorem kq_same{u c:ByteArray}{x y:RW}(h:sameR x y):kq u c x=kq u c y:=by unfold kq; rw [h.1,h.2]
theorem lin_I(u c:ByteArray):Lin (kI u c):=fun x y h=>by
 unfold kI;rw [←kq_same h];show (bif kq u c x then _ else _)=_;cases kq u c x<;>rfl
theorem lin_O(u c:ByteArray):Lin (kO u c):=fun x y h=>by
 unfold kO;rw [←kq_same h];show (bif kq u c x then _ else _)=_;cases kq u c x<;>rfl
def fnd(u c:ByteArray):List RW→RW
 | []=>zR
 | z::r=>bif kq u c z then z else fnd u c r
theorem fnd_or(u c:ByteArray):∀l:List RW,(fnd u c l∈l∧kq u c (fnd u c l)=true)∨(fnd u c l=zR∧∀z∈l,kq u c z=false)
 | []=>.inr ⟨rfl,by simp⟩
 | z::r=>by
  rw [fnd];cases h:kq u c z with
  | true=>exact .inl ⟨List.mem_cons_self,h⟩
  | false =>
   rw [cond_false];rcases fnd_or u c r with ⟨h1,h2⟩|⟨h1,h2⟩
   ·exact .inl ⟨List.mem_cons_of_mem _ h1,h2⟩
   ·refine .inr ⟨h1,fun y hy=>?_⟩;rcases List.mem_cons.1 hy with rfl | hy
    ·exact h
    ·exact h2 y hy
theorem key_one{u c:ByteArray} : ∀{l:List RW},RwS l→∀z∈l,kq u c z=true→sm (kI u c) l=z.In∧sm (kO u c) l=z.Out
 | x::r,h,z,hz,hk=>by
  have h':=List.pairwise_cons.1 h;rcases List.mem_cons.1 hz with rfl | hz
  ·have h0:∀y∈r,kq u c y=false:=fun y hy=>by
    cases k:kq u c y with
    | false=>rfl
    | true =>
     have a:=kq_iff.1 hk;have b:=kq_iff.1 k;have:=h'.1 y hy;rw [Qcf ⟨a.1.trans b.1.symm,a.2.trans b.2.symm⟩] at this; cases this
   rw [sm,sm,sm_zero fun y hy=>by unfold kI; rw [h0 y hy]; rfl,sm_zero fun y hy=>by unfold kO; rw [h0 y hy]; rfl];unfold kI kO;rw [hk]
   simp
  ·have hx:kq u c x=false:=by
    cases k:kq u c x with
    | false=>rfl
    | true =>
     have a:=kq_iff.1 hk;have b:=kq_iff.1 k;have:=h'.1 z hz;rw [Qcf ⟨b.1.trans a.1.symm,b.2.trans a.2.symm⟩] at this; cases this
   have ih:=key_one h'.2 z hz hk;rw [sm,sm,ih.1,ih.2];unfold kI kO;rw [hx]
   simp
theorem key_none{u c:ByteArray}{l:List RW}(h:∀z∈l,kq u c z=false):sm (kI u c) l=0∧sm (kO u c) l=0 :=
 ⟨sm_zero fun z hz=>by unfold kI; rw [h z hz]; rfl,sm_zero fun z hz=>by unfold kO; rw [h z hz]; rfl⟩
theorem fnd_sm{u c:ByteArray}{l:List RW}(h:RwS l):(fnd u c l).In=sm (kI u c) l∧(fnd u c l).Out=sm (kO u c) l:=by
 rcases fnd_or u c l with ⟨h1,h2⟩|⟨h1,h2⟩
 ·have:=key_one h _ h1 h2;exact ⟨this.1.symm,this.2.symm⟩
 ·have:=key_none h2;rw [h1,this.1,this.2]; exact ⟨rfl,rfl⟩

theorem rows_p{ls:List Qb}(h:∀x∈ls,okL x):∀z∈ls.map rowL,Pz 1125899906842624 z:=fun z hz=>by
 obtain ⟨x,hx,rfl⟩:=List.mem_map.1 hz;exact row_p (h x hx).1 (h x hx).2
theorem kI_nn{B:Int}{u c:ByteArray}{z:RW}(h:Pz B z):0≤kI u c z:=by
 unfold kI Pz at *; cases kq u c z with
 | true=>exact h.1
 | false=>exact Int.le_refl _
theorem kO_nn{B:Int}{u c:ByteArray}{z:RW}(h:Pz B z):0≤kO u c z:=by
 unfold kO Pz at *; cases kq u c z with
 | true=>exact h.2.2.1
 | false=>exact Int.le_refl _
theorem kI_nn'{B:Int}{u c:ByteArray}{l:List RW}(h:∀z∈l,Pz B z):0≤sm (kI u c) l:=sm_nn fun z hz=>kI_nn (h z hz)
theorem kO_nn'{B:Int}{u c:ByteArray}{l:List RW}(h:∀z∈l,Pz B z):0≤sm (kO u c) l:=sm_nn fun z hz=>kO_nn (h z hz)
theorem key_pos{B:Int}{u c:ByteArray}{l:List RW}(h:∀z∈l,Pz B z):(∃z∈l,kq u c z=true)↔0<sm (kI u c) l+sm (kO u c) l:=by
 constructor
 ·rintro ⟨z,hz,hk⟩
  have h1:=sm_ge (g:=kI u c) (fun z hz=>kI_nn (h z hz)) z hz;have h2:=sm_ge (g:=kO u c) (fun z hz=>kO_nn (h z hz)) z hz;have h3:=h z hz;unfold kI at h1;unfold kO at h2;unfold Pz at h3;simp only [hk,cond_true] at h1 h2;have e1:sm (fun z=>bif kq u c z then z.In else 0) l=sm (kI u c) l:=rfl;have e2:sm (fun z=>bif kq u c z then z.Out else 0) l=sm (kO u c) l:=rfl;omega
 ·intro hp;refine Classical.byContradiction fun hn=>?_;have:∀z∈l,kq u c z=false:=fun z hz=>by
   cases k:kq u c z with
   | false=>rfl
   | true=>exact absurd ⟨z,hz,k⟩ hn
  have:=key_none this;omega
theorem sel_sm{j:Qi}(hl:j.Records.length≤31)(ho:(openS j).1=true)(a b:Int)(q:Nat){g:RW→Int}(hg:Lin g):sm g (linW [] (selL a b (j.Records.take q)))=sm g ((selL a b (j.Records.take q)).map rowL):=by
 obtain ⟨S,h1,h2⟩:=st_take hl ho a b q;have:=lin_all hg (selL a b (j.Records.take q)) St_.nil (by omega) h2;rw [this];simp [sm]
end Go.Proofs.YtfeklaffeigilaaDoor
namespace Go.Proofs.YtfeklaffeigilaaDoor
set_option linter.unusedVariables false
set_option linter.unusedSimpArgs false
open Go.RowKit
noncomputable def sL(g:RW→Int)(a b:Int)(l:List Qc):Int:=sm g ((selL a b l).map rowL)
theorem selL_app(a b:Int):∀l k:List Qc,selL a b (l++k)=selL a b l++selL a b k
 | [],k=>rfl
 | r::l,k=>by rw [List.cons_append,selL,selL,selL_app a b l k,List.append_assoc]
theorem sL_app(g:RW→Int)(a b:Int)(l k:List Qc):sL g a b (l++k)=sL g a b l+sL g a b k:=by
 unfold sL; rw [selL_app,List.map_append,sm_app]
noncomputable def rwS(j:Qi)(a b:Int)(q:Nat):List RW:=linW [] (selL a b (j.Records.take q))
section
variable {j:Qi} (hl:j.Records.length≤31) (ho:(openS j).1=true) (a b:Int) (q:Nat)
include hl ho
theorem rw_sm{g:RW→Int}(hg:Lin g):sm g (rwS j a b q)=sL g a b (j.Records.take q):=sel_sm hl ho a b q hg
theorem rw_tr:RwS (rwS j a b q):=(st_take hl ho a b q).1.tr.sr
theorem rw_p:∀z∈rwS j a b q,Pz 698058271126026880 z:=fun z hz=>by
 obtain ⟨S,h1,_⟩:=st_take hl ho a b q;have:=S.p z hz;unfold Pz at *; omega
theorem rw_len:(rwS j a b q).length≤620:=by
 obtain ⟨S,h1,_⟩:=st_take hl ho a b q;have:=S.len;exact Nat.le_trans this h1
theorem sl_p(l:List Qc)(hs:∀r∈l,r∈j.Records):∀z∈(selL a b l).map rowL,Pz 1125899906842624 z :=
 rows_p (sel_ok fun r hr=>open_ok (by omega) ho r (hs r hr)).2
theorem sl_nn(u c:ByteArray)(l:List Qc)(hs:∀r∈l,r∈j.Records):0≤sL (kI u c) a b l∧0≤sL (kO u c) a b l :=
 ⟨kI_nn' (sl_p hl ho a b l hs),kO_nn' (sl_p hl ho a b l hs)⟩
end
end Go.Proofs.YtfeklaffeigilaaDoor
namespace Go.Proofs.YtfeklaffeigilaaDoor
set_option linter.unusedVariables false
set_option linter.unusedSimpArgs false
open Go.RowKit

theorem betS_ok{j:Qi}{a b kn:Int}(h:(betS j a b kn).2=0):(openS j).1=true∧0≤a∧a≤b∧b≤100000∧0≤kn∧kn≤j.Records.length∧betS j a b kn=(⟨a,b,kn,rwS j a b kn.toNat⟩,0):=by
 unfold betS at h ⊢;cases ho:(openS j).1 with
 | false=>rw [ho] at h; cases h
 | true =>
  rw [ho,cond_true] at h;rw [cond_true];cases h1:(decide (0≤a)&&(decide (a≤b)&&decide (b≤100000))) with
  | false=>rw [h1] at h; cases h
  | true =>
   rw [h1,cond_true] at h;rw [cond_true];cases h2:(decide (0≤kn)&&decide (kn≤(j.Records.length:Int))) with
   | false=>rw [h2] at h; cases h
   | true =>
    simp only [Bool.and_eq_true,decide_eq_true_eq] at h1 h2;exact ⟨rfl,h1.1,h1.2.1,h1.2.2,h2.1,h2.2,rfl⟩
theorem betS_bad{j:Qi}{a b kn:Int}(h:(betS j a b kn).2≠0):(betS j a b kn).1.Rows=[]:=by
 unfold betS at h ⊢;cases ho:(openS j).1 with
 | false=>rfl
 | true =>
  rw [ho,cond_true] at h;rw [cond_true];cases h1:(decide (0≤a)&&(decide (a≤b)&&decide (b≤100000))) with
  | false=>rfl
  | true =>
   rw [h1,cond_true] at h;rw [cond_true];cases h2:(decide (0≤kn)&&decide (kn≤(j.Records.length:Int))) with
   | false=>rfl
   | true=>rw [h2] at h; exact absurd rfl h
theorem req_refl(x:RW):Qa.eqb x x=true:=by unfold Qa.eqb; simp [seq_refl]
theorem req_iff{x y:RW} : Qa.eqb x y=true↔x=y:=by
 constructor
 ·intro h;unfold Qa.eqb at h;rw [Bool.and_eq_true,Bool.and_eq_true,Bool.and_eq_true,seq_iff,seq_iff,decide_eq_true_eq,decide_eq_true_eq] at h;obtain ⟨⟨⟨h1,h2⟩,h3⟩,h4⟩:=h;cases x; cases y;dsimp only at h1 h2 h3 h4;rw [h1,h2,h3,h4]
 ·rintro rfl; exact req_refl x
end Go.Proofs.YtfeklaffeigilaaDoor
namespace Go.Proofs.YtfeklaffeigilaaDoor
set_option linter.unusedVariables false
set_option linter.unusedSimpArgs false
open Go.RowKit
theorem f24n2L_at(bk:List RW)(u c:ByteArray):∀(l:List RW)(v:Int),f24n2L bk u c l v=some (bif l.any (kq u c) then .ret (fnd u c l) else .exit0)
 | [],v=>rfl
 | x::r,v=>by
  rw [f24n2L,f24n2L_at bk u c r,List.any_cons,fnd];unfold kq;cases seq x.Account u<;>cases seq x.Ccy c<;>rfl
theorem f24_eq{l:List RW}(h:l.length≤maxLen)(u c:ByteArray):f24 l u c=some (fnd u c l):=by
 unfold f24 f24n0 f24n1;rw [f24n2_run l u c h,f24n2L_at];cases ha:l.any (kq u c) with
 | true=>rfl
 | false =>
  have:fnd u c l=zR:=by
   rcases fnd_or u c l with ⟨h1,h2⟩|⟨h1,_⟩
   ·rw [List.any_eq_false] at ha;exact absurd h2 (by simpa using ha _ h1)
   ·exact h1
  rw [this]; rfl

theorem ok_rk{r:Qc}(this:Qc.ok r):Rk r:=⟨this.2.1,this.2.2.1.1,fun y hy=>⟨(this.2.2.1.2 y hy).1,(this.2.2.1.2 y hy).2.1⟩⟩
theorem ok_jk{j:Qi}(ok:Qi.ok j):Jk j:=⟨ok.1.1,fun r hr=>ok_rk (ok.1.2 r hr)⟩
end Go.Proofs.YtfeklaffeigilaaDoor
namespace Go.Proofs.YtfeklaffeigilaaDoor
set_option linter.unusedVariables false
set_option linter.unusedSimpArgs false
open Go.RowKit
def gd1(p:Option RW)(i o:Int)(x:RW):Bool:=nmB x.Account&&(nmB x.Ccy&&((match p with | none=>true | some y=>decide (rwC y x<0))&&(decide (0≤x.In)&&(decide (0≤x.Out)&&(!(decide (x.In=0)&&decide (x.Out=0))&&(decide (x.In≤4503599627370496000-i)&&decide (x.Out≤4503599627370496000-o)))))))
def goodL:Option RW→Int→Int→List RW→Bool
 | _,_,_,[]=>true
 | p,i,o,x::r=>gd1 p i o x&&goodL (some x) (i+x.In) (o+x.Out) r
def AtP(rows:List RW)(v:Nat)(p:Option RW):Prop:=(v=0∧p=none)∨∃y,0<v∧at? rows ((v:Int)-1)=some y∧p=some y
theorem AtP.zero(rows:List RW):AtP rows 0 none:=.inl ⟨rfl,rfl⟩
theorem AtP.succ{rows:List RW}{v:Nat}{x:RW}(h:at? rows (v:Int)=some x):AtP rows (v+1) (some x):=.inr ⟨x,Nat.succ_pos _,by rw [show ((v+1:Nat):Int)-1=v by omega]; exact h,rfl⟩
theorem f15n4_eq{i o:Int}(hi:0≤i∧i≤4503599627370496000)(ho:0≤o∧o≤4503599627370496000){v:Nat}(hv:v≤1000000){a:Qj}{p:Option RW}(hp:AtP a.Rows v p)(g:List (ByteArray×Int))(x:RW):f15n4 i o (v:Int) a g x=some (.norm (!gd1 p i o x)):=by
 unfold f15n4 gd1;rw [f40_eq,f40_eq,wrIn (n:=4503599627370496000-i) (by omega) (by omega),wrIn (n:=4503599627370496000-o) (by omega) (by omega),ltNot x.In 0,ltNot x.Out 0,ltNot (4503599627370496000-i) x.In,ltNot (4503599627370496000-o) x.Out];simp only [Option.bind_some];cases nmB x.Account with
 | false=>rfl
 | true =>
  cases nmB x.Ccy with
  | false=>rfl
  | true =>
   rcases hp with ⟨rfl,rfl⟩|⟨y,h0,ha,rfl⟩
   ·rw [decide_eq_false (by omega:¬0<((0:Nat):Int))];cases decide (0≤x.In)<;>cases decide (0≤x.Out)<;>cases decide (x.In=0)<;>cases decide (x.Out=0)<;>cases decide (x.In≤4503599627370496000-i)<;>cases decide (x.Out≤4503599627370496000-o)<;>rfl
   ·rw [decide_eq_true (by omega:0<(v:Int)),wrIn (n:=(v:Int)-1) (by omega) (by omega),ha];simp only [Option.bind_some,f41_eq];rw [ltNot (rwC y x) 0];cases decide (0≤rwC y x)<;>cases decide (0≤x.In)<;>cases decide (0≤x.Out)<;>cases decide (x.In=0)<;>cases decide (x.Out=0)<;>cases decide (x.In≤4503599627370496000-i)<;>cases decide (x.Out≤4503599627370496000-o)<;>rfl
def tl(x:RW):Qb:=⟨x.Account,x.Ccy,wr64 (x.In-x.Out)⟩
theorem gd_in{p:Option RW}{i o:Int}{x:RW}(h:gd1 p i o x=true):0≤x.In∧x.In≤4503599627370496000-i∧0≤x.Out∧x.Out≤4503599627370496000-o:=by
 unfold gd1 at h;simp only [Bool.and_eq_true,decide_eq_true_eq] at h;exact ⟨h.2.2.2.1,h.2.2.2.2.2.2.1,h.2.2.2.2.1,h.2.2.2.2.2.2.2⟩
theorem f15n5_at{a:Qj}(ha:a.Rows.length≤900000):∀(l:List RW)(f v:Nat)(p:Option RW)(i o:Int)(m:List (ByteArray×Int)),a.Rows.drop v=l→l.length<f→AtP a.Rows v p→(0≤i∧i≤4503599627370496000)→(0≤o∧o≤4503599627370496000) →
  f15n5 f a i o (v:Int) m=some (bif goodL p i o l then .exit0 (sumsL (l.map tl) m) else .ret)
 | _,0,_,_,_,_,_,_,h,_,_,_=>absurd h (Nat.not_lt_zero _)
 | [],f+1,v,p,i,o,m,hd,_,_,_,_=>by
  have:=Qak hd;rw [f15n5,decide_eq_false (by omega),cond_false]; rfl
 | x::r,f+1,v,p,i,o,m,hd,hf,hp,hi,ho=>by
  obtain ⟨h1,h2,h3⟩:=dropAt hd;rw [List.length_cons] at hf;rw [f15n5,decide_eq_true (by omega),cond_true];unfold f15n2 f15n3;rw [h1];simp only [Option.bind_some];rw [f15n4_eq hi ho (by omega) hp,goodL];simp only [Option.bind_some];cases hg:gd1 p i o x with
  | false=>rfl
  | true =>
   have:=gd_in hg;simp only [Bool.not_true,cond_false,Option.bind_some,Bool.true_and];rw [wrIn (n:=i+x.In) (by omega) (by omega),wrIn (n:=o+x.Out) (by omega) (by omega),wrSucc (by omega)];rw [f15n5_at ha r f (v+1) (some x) _ _ _ h3 (by omega) (AtP.succ h1) (by omega) (by omega)];rfl
def zeroC(l:List RW):Bool:=balB ⟨0,⟨#[]⟩,l.map tl⟩
theorem f15n7_eq(be:List (ByteArray×Int)):∀l:List (ByteArray×Int),f15n7 be l=some (bif l.all (fun x=>decide (x.2=0)) then .exit2 else .ret)
 | []=>rfl
 | x::r=>by
  rw [f15n7,f15n7_eq be r,List.all_cons];cases decide (x.2=0)<;>rfl
def chkS(r:Qj):Int :=
 bif decide (0≤r.From)&&(decide (r.From≤r.To)&&decide (r.To≤100000)) then
  bif decide (0≤r.Known)&&decide (r.Known≤200) then
   bif goodL none 0 0 r.Rows then bif zeroC r.Rows then 0 else 60 else 8
  else 8
 else 8
theorem f15_eq{r:Qj}(h:r.Rows.length≤900000):f15 r=some (chkS r):=by
 unfold f15 f15n0 chkS;rw [f39_eq];simp only [Option.bind_some];cases decide (0≤r.From)&&(decide (r.From≤r.To)&&decide (r.To≤100000)) with
 | false=>rfl
 | true =>
  rw [cond_true,cond_true,ltNot r.Known 0,ltNot 200 r.Known];cases decide (0≤r.Known) with
  | false=>rfl
  | true =>
   cases decide (r.Known≤200) with
   | false=>rfl
   | true =>
    have e:=f15n5_at h r.Rows FUEL 0 none 0 0 [] rfl (fuelSmall (by omega)) (AtP.zero _) (by omega) (by omega);rw [show ((0:Nat):Int)=0 from rfl] at e;unfold f15n1;rw [e];simp only [Bool.not_true,cond_false,Bool.and_self,cond_true];cases goodL none 0 0 r.Rows with
    | false=>rfl
    | true =>
     simp only [cond_true,Option.bind_some];unfold f15n6;have hp:∀p,p.Perm (sumsL (r.Rows.map tl) [])→f15n7 (sumsL (r.Rows.map tl) []) p=some (bif zeroC r.Rows then .exit2 else .ret):=fun p hp=>by
      rw [f15n7_eq,hp.all_eq]; rfl
     rw [anyOrder_of hp];cases zeroC r.Rows<;>rfl

theorem good_of{B:Int} : ∀(l:List RW)(p:Option RW)(i o:Int),RwS l→(∀y,p=some y→∀x∈l,ltR y x=true)→(∀z∈l,Pz B z∧nmB z.Account=true∧nmB z.Ccy=true)→i+sm Qa.In l≤4503599627370496000→o+sm Qa.Out l≤4503599627370496000→goodL p i o l=true
 | [],_,_,_,_,_,_,_,_=>rfl
 | x::r,p,i,o,hs,hp,hz,hi,ho=>by
  have hs':=List.pairwise_cons.1 hs;obtain ⟨h1,h2,h3⟩:=hz x List.mem_cons_self;rw [sm] at hi ho;have n1:0≤sm Qa.In r:=sm_nn fun z hz'=>(hz z (List.mem_cons_of_mem _ hz')).1.1;have n2:0≤sm Qa.Out r:=sm_nn fun z hz'=>(hz z (List.mem_cons_of_mem _ hz')).1.2.2.1;have hi':i+(x.In+sm Qa.In r)≤4503599627370496000:=hi;have ho':o+(x.Out+sm Qa.Out r)≤4503599627370496000:=ho;rw [goodL,good_of r (some x) (i+x.In) (o+x.Out) hs'.2 (fun y e z hz'=>by rw [←Option.some.inj e]; exact hs'.1 z hz') (fun z hz'=>hz z (List.mem_cons_of_mem _ hz')) (by omega) (by omega),Bool.and_true];unfold gd1 Pz at *;rw [h2,h3,decide_eq_true (by omega:0≤x.In),decide_eq_true (by omega:0≤x.Out),decide_eq_true (by omega:x.In≤4503599627370496000-i),decide_eq_true (by omega:x.Out≤4503599627370496000-o)]
  by_cases hx:x.In=0
  ·rw [decide_eq_true hx,decide_eq_false (by omega:¬x.Out=0)];cases p with
   | none=>rfl
   | some y =>
    have hlt:decide (rwC y x<0)=true:=hp y rfl x List.mem_cons_self;show (true&&(true&&(decide (rwC y x<0)&&(true&&(true&&(!(true&&false)&&(true&&true)))))))=true;rw [hlt]; rfl
  ·rw [decide_eq_false hx];cases p with
   | none=>rfl
   | some y =>
    have hlt:decide (rwC y x<0)=true:=hp y rfl x List.mem_cons_self;show (true&&(true&&(decide (rwC y x<0)&&(true&&(true&&(!(false&&decide (x.Out=0))&&(true&&true)))))))=true;rw [hlt]; rfl
def pC(c:ByteArray)(z:RW):Int:=bif seq z.Ccy c then z.In-z.Out else 0
theorem lin_C(c:ByteArray):Lin (pC c):=fun x y h=>by
 unfold pC;rw [←h.2];show (bif seq x.Ccy c then _ else _)=_;cases seq x.Ccy c with
 | true=>simp only [cond_true]; omega
 | false=>rfl
theorem lin_In:Lin Qa.In:=fun x y h=>rfl
theorem lin_Out:Lin Qa.Out:=fun x y h=>rfl
theorem sC_rows(c:ByteArray):∀l:List RW,wr64 (sC c (l.map tl))=wr64 (sm (pC c) l)
 | []=>rfl
 | x::r=>by
  have ih:=sC_rows c r;rw [List.map_cons,sC,sm];have e:(bif seq (tl x).Ccy c then (tl x).Amount else 0)=bif seq x.Ccy c then wr64 (x.In-x.Out) else 0:=rfl;rw [e];unfold pC at *;cases seq x.Ccy c with
  | true =>
   rw [cond_true,cond_true,wrL,Int.add_comm,←wrL,ih,wrL,Int.add_comm]
  | false=>rw [cond_false,cond_false,Int.zero_add,Int.zero_add,ih]
theorem lines_sC(c:ByteArray):∀ls:List Qb,(∀x∈ls,okL x)→sm (pC c) (ls.map rowL)=sC c ls
 | [],_=>rfl
 | x::r,h=>by
  have ih:=lines_sC c r fun y hy=>h y (List.mem_cons_of_mem _ hy);have hx:=(h x List.mem_cons_self).1;unfold within at hx;rw [Bool.and_eq_true,decide_eq_true_eq,decide_eq_true_eq] at hx;rw [List.map_cons,sm,sC,ih]
  congr 1
  unfold pC rowL;rw [wrIn (n:=0-x.Amount) (by omega) (by omega)]
  by_cases hn:x.Amount<0
  ·rw [decide_eq_true hn,cond_true];cases seq x.Ccy c with
   | true=>simp only [cond_true]; omega
   | false=>rfl
  ·rw [decide_eq_false hn,cond_false];cases seq x.Ccy c with
   | true=>simp only [cond_true]; omega
   | false=>rfl
theorem sC_small(c:ByteArray):∀ls:List Qb,(∀x∈ls,okL x)→-(ls.length*1125899906842624:Int)≤sC c ls∧sC c ls≤ls.length*1125899906842624
 | [],_=>⟨Int.le_refl _,Int.le_refl _⟩
 | x::r,h=>by
  have ih:=sC_small c r fun y hy=>h y (List.mem_cons_of_mem _ hy);have hx:=(h x List.mem_cons_self).1;unfold within at hx;rw [Bool.and_eq_true,decide_eq_true_eq,decide_eq_true_eq] at hx;rw [sC,List.length_cons];cases seq x.Ccy c with
  | true=>rw [cond_true]; omega
  | false=>rw [cond_false]; omega
theorem sC_none(c:ByteArray):∀ls:List Qb,(∀x∈ls,x.Ccy≠c)→sC c ls=0
 | [],_=>rfl
 | x::r,h=>by
  rw [sC,sC_none c r fun y hy=>h y (List.mem_cons_of_mem _ hy),seqF (h x List.mem_cons_self)]; rfl
theorem open_bal2:∀(l:List Qc)(d m:Int)(b:Bal),(openL l d m b).1=true→∀r∈l,balB r=true
 | [],_,_,_,_=>by simp
 | r::l,d,m,b,h=>by
  rw [openL] at h;cases ha:(addS r d m b).1 with
  | false=>rw [ha] at h; cases h
  | true =>
   rw [ha,cond_true] at h;intro x hx;rcases List.mem_cons.1 hx with rfl | hx
   ·exact (add_true ha).2.2.1
   ·exact open_bal2 l _ _ _ h x hx
theorem rec_zero{r:Qc}(hf:okR r)(hb:balB r=true)(c:ByteArray):sC c r.Lines=0:=by
 by_cases h:∃x∈r.Lines,x.Ccy=c
 ·obtain ⟨x,hx,rfl⟩:=h;rw [bal_sum] at hb;have h1:=of_decide_eq_true (List.all_eq_true.1 hb x hx);have h2:=sC_small x.Ccy r.Lines hf.2.2;have h3:=hf.2.1
  rwa [wrIn (by omega) (by omega)] at h1
 ·exact sC_none c _ fun x hx e=>h ⟨x,hx,e⟩
theorem sel_zero(c:ByteArray)(a b:Int):∀l:List Qc,(∀r∈l,okR r∧balB r=true)→sL (pC c) a b l=0
 | [],_=>rfl
 | r::l,h=>by
  have ih:=sel_zero c a b l fun y hy=>h y (List.mem_cons_of_mem _ hy);obtain ⟨h1,h2⟩:=h r List.mem_cons_self;unfold sL at *;rw [selL,List.map_append,sm_app,ih];have:sm (pC c) ((selR a b r).map rowL)=0:=by
   unfold selR;cases decide (dayR r<a) with
   | true=>rfl
   | false =>
    cases decide (b≤dayR r) with
    | true=>rfl
    | false =>
     show sm (pC c) (r.Lines.map rowL)=0;rw [lines_sC c _ h1.2.2,rec_zero h1 h2]
  omega
theorem recs_ok{j:Qi}(hl:j.Records.length≤31)(ho:(openS j).1=true):∀r∈j.Records,okR r∧balB r=true∧formedB r=true:=fun r hr=>by
 have ho':=ho;unfold openS at ho';rw [decide_eq_false (by omega),cond_false] at ho';have hf:=open_formed _ _ _ _ ho' r hr;exact ⟨formed_ok hf,open_bal2 _ _ _ _ ho' r hr,hf⟩
theorem sm_le{g:RW→Int}{B:Int} : ∀{l:List RW},(∀z∈l,g z≤B)→0≤B→sm g l≤l.length*B
 | [],_,h=>by simp [sm]
 | z::r,h,h0=>by
  have h1:=h z List.mem_cons_self;have h2:=sm_le (fun y hy=>h y (List.mem_cons_of_mem _ hy)) h0;rw [sm,List.length_cons];have:((r.length+1:Nat):Int)*B=r.length*B+B:=by
   rw [Int.natCast_succ,Int.add_mul,Int.one_mul]
  omega
theorem sel_names{j:Qi}(hl:j.Records.length≤31)(ho:(openS j).1=true)(a b:Int):∀l:List Qc,(∀r∈l,r∈j.Records)→∀x∈selL a b l,nmB x.Account=true∧nmB x.Ccy=true
 | [],_,x,hx=>by cases hx
 | r::l,h,x,hx=>by
  rw [selL] at hx;rcases List.mem_append.1 hx with hx | hx
  ·have hx':x∈r.Lines:=by
    unfold selR at hx
    revert hx
    cases decide (dayR r<a) with
    | true=>intro hx; cases hx
    | false =>
     cases decide (b≤dayR r) with
     | true=>intro hx; cases hx
     | false=>exact fun hx=>hx
   have hf:=(recs_ok hl ho r (h r List.mem_cons_self)).2.2;obtain ⟨_,_,_,_,_,h3⟩:=formed_small hf;have:=List.any_eq_false.1 h3 x hx';unfold badL at this;simp only [Bool.or_eq_true,not_or,Bool.not_eq_true,Bool.not_eq_false',decide_eq_false_iff_not] at this;exact ⟨this.1,this.2.1⟩
  ·exact sel_names hl ho a b l (fun y hy=>h y (List.mem_cons_of_mem _ hy)) x hx
theorem rw_names{j:Qi}(hl:j.Records.length≤31)(ho:(openS j).1=true)(a b:Int)(q:Nat):∀z∈rwS j a b q,nmB z.Account=true∧nmB z.Ccy=true:=fun z hz=>by
 have h1:=(key_pos (u:=z.Account) (c:=z.Ccy) (rw_p hl ho a b q)).1 ⟨z,hz,kq_iff.2 ⟨rfl,rfl⟩⟩;rw [rw_sm hl ho a b q (lin_I _ _),rw_sm hl ho a b q (lin_O _ _)] at h1;have hm:∀r∈j.Records.take q,r∈j.Records:=fun r hr=>List.mem_of_mem_take hr;obtain ⟨y,hy,hk⟩:=(key_pos (sl_p hl ho a b _ hm)).2 h1;obtain ⟨x,hx,rfl⟩:=List.mem_map.1 hy;have hn:=sel_names hl ho a b _ hm x hx;have hk:=kq_iff.1 hk;have e:(rowL x).Account=x.Account∧(rowL x).Ccy=x.Ccy:=by
  unfold rowL;cases decide (x.Amount<0)<;>exact ⟨rfl,rfl⟩
 rw [←hk.1,←hk.2,e.1,e.2]; exact hn
theorem rw_small{j:Qi}(hl:j.Records.length≤31)(ho:(openS j).1=true)(a b:Int)(q:Nat):sm Qa.In (rwS j a b q)≤4503599627370496000∧sm Qa.Out (rwS j a b q)≤4503599627370496000:=by
 have hm:∀r∈j.Records.take q,r∈j.Records:=fun r hr=>List.mem_of_mem_take hr;have hp:=sl_p hl ho a b _ hm;obtain ⟨_,hn,_⟩:=st_take hl ho a b q;rw [rw_sm hl ho a b q lin_In,rw_sm hl ho a b q lin_Out];have h1:=sm_le (g:=Qa.In) (B:=1125899906842624) (fun z hz=>(hp z hz).2.1) (by omega);have h2:=sm_le (g:=Qa.Out) (B:=1125899906842624) (fun z hz=>(hp z hz).2.2.2.1) (by omega);rw [List.length_map] at h1 h2;unfold sL;omega
theorem chk_bet{j:Qi}(hl:j.Records.length≤31)(ho:(openS j).1=true){a b kn:Int}(h1:0≤a)(h2:a≤b)(h3:b≤100000)(h4:0≤kn)(h5:kn≤200)(q:Nat):chkS ⟨a,b,kn,rwS j a b q⟩=0:=by
 unfold chkS;have hg:goodL none 0 0 (rwS j a b q)=true:=by
  have:=rw_small hl ho a b q;exact good_of _ none 0 0 (rw_tr hl ho a b q) (fun y e=>by cases e) (fun z hz=>⟨rw_p hl ho a b q z hz,rw_names hl ho a b q z hz⟩) (by omega) (by omega)
 have hz:zeroC (rwS j a b q)=true:=by
  unfold zeroC;rw [bal_sum];unfold sumB;refine List.all_eq_true.2 fun x hx=>decide_eq_true ?_;show wr64 (sC x.Ccy ((rwS j a b q).map tl))=0;rw [sC_rows,rw_sm hl ho a b q (lin_C _),sel_zero _ _ _ _ fun r hr=>?_]
  ·rfl
  ·have:=recs_ok hl ho r (List.mem_of_mem_take hr);exact ⟨this.1,this.2.1⟩
 rw [decide_eq_true h1,decide_eq_true h2,decide_eq_true h3,decide_eq_true h4,decide_eq_true h5,hg,hz]; rfl


end Go.Proofs.YtfeklaffeigilaaDoor
namespace Go.Proofs.YtfeklaffeigilaaDoor
set_option linter.unusedVariables false
set_option linter.unusedSimpArgs false
open Go.RowKit
def negR(x:RW):RW:=⟨x.Account,x.Ccy,wr64 (0-x.In),wr64 (0-x.Out)⟩
def allT(m:TB_)(l:List RW):TB_:=l.foldl addT m
def allW(m l:List RW):List RW:=l.foldl Qca m
def Rg64(z:RW):Prop:=-9223372036854775808≤z.In∧z.In≤9223372036854775807∧-9223372036854775808≤z.Out∧z.Out≤9223372036854775807
theorem TR.all:∀(xs:List RW){m:TB_}{l:List RW},TR m l→(∀x∈xs,Rg64 x)→TR (allT m xs) (allW l xs)
 | [],_,_,T,_=>T
 | x::r,m,l,T,h=>by
  obtain ⟨h1,h2,h3,h4⟩:=h x List.mem_cons_self;exact TR.all r (T.add ⟨h1,h2⟩ ⟨h3,h4⟩) fun y hy=>h y (List.mem_cons_of_mem _ hy)
theorem neg_rg(x:RW):Rg64 (negR x):=by
 have a:=wr_rng (0-x.In);have b:=wr_rng (0-x.Out);exact ⟨a.1,a.2,b.1,b.2⟩
theorem f12r1n2L_at(b a:Qj):∀(l:List RW)(v:Int)(m:TB_),f12r1n2L b a l v m=some (.exit0 (allT m l))
 | [],v,m=>rfl
 | x::r,v,m=>by
  rw [f12r1n2L,f36r2_eq];simp only [Option.bind_some];exact f12r1n2L_at b a r _ _
theorem f12r1n4L_at(a:Qj):∀(l:List RW)(v:Int)(m:TB_),f12r1n4L a l v m=some (.exit2 (allT m (l.map negR)))
 | [],v,m=>rfl
 | x::r,v,m=>by
  rw [f12r1n4L,f36r2_eq];simp only [Option.bind_some];exact f12r1n4L_at a r _ _
theorem f12r2n2L_at(a:Qj):∀(l:List RW)(v:Int)(m:TB_),f12r2n2L a l v m=some (.exit0 (allT m l))
 | [],v,m=>rfl
 | x::r,v,m=>by
  rw [f12r2n2L,f36r2_eq];simp only [Option.bind_some];exact f12r2n2L_at a r _ _
theorem f12r2n4L_at(a:Qj):∀(l:List RW)(v:Int)(m:TB_),f12r2n4L a l v m=some (.exit2 (allT m (l.map negR)))
 | [],v,m=>rfl
 | x::r,v,m=>by
  rw [f12r2n4L,f36r2_eq];simp only [Option.bind_some];exact f12r2n4L_at a r _ _
theorem f37r1n2_fl(m:TB_):∀(p:TB_)(out:List RW),out.length+p.length≤1000000→Qbh m p out=some (.exit0 (out++(p.map Prod.snd).filter nzR))
 | [],out,_=>by rw [Qbh,List.map_nil,List.filter_nil,List.append_nil]
 | x::p,out,hl=>by
  rw [List.length_cons] at hl;have ih:=f37r1n2_fl m p (out++[x.2]) (by rw [List.length_append,List.length_singleton]; omega);have ih2:=f37r1n2_fl m p out (by omega);rw [List.append_assoc] at ih;rw [Qbh,ih,ih2,req,fitSmall (by omega) (by omega),cond_true,List.map_cons,List.filter_cons];unfold nzR;cases decide (x.2.In=0)<;>cases decide (x.2.Out=0)<;>rfl
theorem f37r1_fl{m:TB_}{l:List RW}(T:TR m l)(hl:l.length≤1000000):f37r1 m=some (l.filter nzR):=by
 have hml:m.length=l.length:=by rw [←(tr_perm T).length_eq,List.length_map]
 have key:anyOrder m (fun p=>(f37r1n1 m p).bind fun o38=>match o38 with
   | .norm v40=>(so59_41 v40).bind fun x43=>some (.ret x43))=some (f37r1n0O.ret (l.filter nzR)):=by
  refine anyOrder_of fun p hp=>?_;have hpl:(p.map Prod.snd).Perm l:=(hp.map _).trans (tr_perm T);have hpf:((p.map Prod.snd).filter nzR).Perm (l.filter nzR):=hpl.filter _;have hlen:(l.filter nzR).length≤l.length:=List.length_filter_le _ _;unfold f37r1n1;rw [f37r1n2_fl m p [] (by rw [hp.length_eq,hml]; simpa using hl)];simp only [Option.bind_some,List.nil_append];rw [so59_41_val f41_eq rwC_cmp.SWO (by rw [hpf.length_eq]; omega)];have hperm:=(sortL_perm rwC_cmp.SWO ((p.map Prod.snd).filter nzR)).trans hpf;have hsd:Sd ltR (l.filter nzR):=(T.sr.filter _).imp fun {x y} k=>swoR.asym k;have hne:(l.filter nzR).Pairwise fun x y=>eqv ltR x y=false:=(T.sr.filter _).imp fun {x y} k=>by unfold eqv; rw [k]; rfl
  have:sortL rwC ((p.map Prod.snd).filter nzR)=l.filter nzR:=(sorted_one swoR hsd (sortL_sorted rwC_cmp.SWO _) (Cl.of_perm hperm hne swoR)).symm;rw [this]; rfl
 unfold f37r1 f37r1n0;rw [key]; rfl
theorem allW_len:∀(xs l:List RW),(allW l xs).length≤l.length+xs.length
 | [],l=>Nat.le_refl _
 | x::r,l=>by
  have h1:=allW_len r (Qca l x);have h2:=with_len l x;show (allW (Qca l x) r).length≤_;rw [List.length_cons]; omega
def chgS(a b:List RW):List RW:=(allW (allW [] b) (a.map negR)).filter nzR
def chaS(a b:Qj):Int×List RW :=
 bif decide (chkS a=0) then bif decide (chkS b=0) then
  bif decide (a.From=b.From)&&decide (a.To=b.To) then (0,chgS a.Rows b.Rows) else (2,[])
 else (chkS b,[]) else (chkS a,[])
theorem chg_tr{a b:List RW}(hb:∀z∈b,Rg64 z):TR (allT (allT [] b) (a.map negR)) (allW (allW [] b) (a.map negR)) :=
 (TR.nil.all b hb).all _ fun x hx=>by
  obtain ⟨y,_,rfl⟩:=List.mem_map.1 hx;exact neg_rg y
theorem chg_fl{a b:List RW}(hb:∀z∈b,Rg64 z)(ha:a.length≤400000)(hb2:b.length≤400000):f37r1 (allT (allT [] b) (a.map negR))=some (chgS a b):=by
 refine f37r1_fl (chg_tr hb) ?_;have h1:=allW_len (a.map negR) (allW [] b);have h2:=allW_len b [];rw [List.length_map] at h1;simp only [List.length_nil] at h2;omega
theorem f12r1_eq{a b:Qj}(ha:a.Rows.length≤400000)(hb:b.Rows.length≤400000)(hr:∀z∈b.Rows,Rg64 z):f12r1 a b=some (chaS a b):=by
 unfold f12r1 f12r1n0 chaS;rw [f15_eq (by omega),f15_eq (by omega)];simp only [Option.bind_some];cases decide (chkS a=0) with
 | false=>rfl
 | true =>
  cases decide (chkS b=0) with
  | false=>rfl
  | true =>
   cases decide (a.From=b.From) with
   | false=>rfl
   | true =>
    cases decide (a.To=b.To) with
    | false=>rfl
    | true =>
     simp only [cond_true];unfold f12r1n1 f12r1n3;rw [f12r1n2_run _ _ _ (Qaw (by omega)),f12r1n2L_at];simp only [Option.bind_some];rw [f12r1n4_run _ _ (Qaw (by omega)),f12r1n4L_at];simp only [Option.bind_some];rw [chg_fl hr ha hb]; rfl
theorem f12r2_eq{a:Qj}(ha:a.Rows.length≤400000)(hr:∀z∈a.Rows,Rg64 z):f12r2 a=some (chaS a a):=by
 unfold f12r2 f12r2n0 chaS;rw [f15_eq (by omega)];simp only [Option.bind_some,decide_true];cases decide (chkS a=0) with
 | false=>rfl
 | true =>
  simp only [cond_true];unfold f12r2n1 f12r2n3;rw [f12r2n2_run _ _ (Qaw (by omega)),f12r2n2L_at];simp only [Option.bind_some];rw [f12r2n4_run _ _ (Qaw (by omega)),f12r2n4L_at];simp only [Option.bind_some];rw [chg_fl hr ha ha]; rfl

theorem with_end{x:RW} : ∀{l:List RW},(∀y∈l,ltR y x=true)→Qca l x=l++[x]
 | [],_=>rfl
 | y::r,h=>by
  rw [Qca,h y List.mem_cons_self,cond_true,with_end fun z hz=>h z (List.mem_cons_of_mem _ hz)]; rfl
theorem all_srt:∀(l pre:List RW),RwS (pre++l)→allW pre l=pre++l
 | [],pre,_=>by rw [List.append_nil]; rfl
 | x::r,pre,h=>by
  show allW (Qca pre x) r=_;have h0:=List.pairwise_append.1 h;rw [with_end fun y hy=>h0.2.2 y hy x List.mem_cons_self];have e:pre++x::r=pre++[x]++r:=by simp
  rw [e] at h ⊢;exact all_srt r (pre++[x]) h
theorem all_id{l:List RW}(h:RwS l):allW [] l=l:=all_srt l [] h
theorem all_sr:∀(xs l:List RW),RwS l→RwS (allW l xs)
 | [],_,h=>h
 | x::r,l,h=>all_sr r (Qca l x) (with_sr h)
theorem wrK{a:Int} : wr64 (wr64 a)=wr64 a:=wr_wr a
theorem all_smI(u c:ByteArray):∀(xs l:List RW),wr64 (sm (kI u c) (allW l xs))=wr64 (sm (kI u c) l+sm (kI u c) xs)
 | [],l=>by show wr64 (sm _ l)=_; rw [sm,Int.add_zero]
 | x::r,l=>by
  show wr64 (sm _ (allW (Qca l x) r))=_;rw [all_smI u c r (Qca l x),←wrL,sm_withM,wrL,sm]
  ·congr 1; omega
  ·intro y _ hs;unfold kI;rw [kq_same (u:=u) (c:=c) (add_same x y),←kq_same hs];cases kq u c x with
   | true=>exact wrK
   | false=>rfl
theorem all_smO(u c:ByteArray):∀(xs l:List RW),wr64 (sm (kO u c) (allW l xs))=wr64 (sm (kO u c) l+sm (kO u c) xs)
 | [],l=>by show wr64 (sm _ l)=_; rw [sm,Int.add_zero]
 | x::r,l=>by
  show wr64 (sm _ (allW (Qca l x) r))=_;rw [all_smO u c r (Qca l x),←wrL,sm_withM,wrL,sm]
  ·congr 1; omega
  ·intro y _ hs;unfold kO;rw [kq_same (u:=u) (c:=c) (add_same x y),←kq_same hs];cases kq u c x with
   | true=>exact wrK
   | false=>rfl
theorem neg_sm{B:Int}(hB:B≤9000000000000000000)(u c:ByteArray):∀l:List RW,(∀z∈l,Pz B z)→sm (kI u c) (l.map negR) = - sm (kI u c) l∧sm (kO u c) (l.map negR) = - sm (kO u c) l
 | [],_=>⟨rfl,rfl⟩
 | x::r,h=>by
  obtain ⟨h1,h2⟩:=neg_sm hB u c r fun y hy=>h y (List.mem_cons_of_mem _ hy);have hx:=h x List.mem_cons_self;unfold Pz at hx;have e1:kI u c (negR x) = - kI u c x:=by
   unfold kI;rw [show kq u c (negR x)=kq u c x from rfl];cases kq u c x with
   | true=>show wr64 (0-x.In) = -x.In; rw [wrIn (by omega) (by omega)]; omega
   | false=>rfl
  have e2:kO u c (negR x) = - kO u c x:=by
   unfold kO;rw [show kq u c (negR x)=kq u c x from rfl];cases kq u c x with
   | true=>show wr64 (0-x.Out) = -x.Out; rw [wrIn (by omega) (by omega)]; omega
   | false=>rfl
  rw [List.map_cons,sm,sm,sm,sm,h1,h2,e1,e2]
  constructor<;>omega
theorem sm_fl{g:RW→Int} : ∀l:List RW,(∀z∈l,nzR z=false→g z=0)→sm g (l.filter nzR)=sm g l
 | [],_=>rfl
 | x::r,h=>by
  have ih:=sm_fl r fun y hy=>h y (List.mem_cons_of_mem _ hy);rw [List.filter_cons,sm];cases hx:nzR x with
  | true=>rw [if_pos rfl,sm,ih]
  | false=>rw [if_neg (by simp),ih,h x List.mem_cons_self hx]; omega
theorem nz_false{z:RW}(h:nzR z=false):z.In=0∧z.Out=0:=by
 unfold nzR at h;simp only [Bool.not_eq_false',Bool.and_eq_true,decide_eq_true_eq] at h;exact h
theorem nz_true{z:RW}(h:nzR z=true):z.In≠0∨z.Out≠0:=by
 unfold nzR at h;simp only [Bool.not_eq_true',Bool.and_eq_false_iff,decide_eq_false_iff_not] at h;exact h
theorem chg_sr{A B:List RW} : RwS (chgS A B):=(all_sr _ _ (all_sr _ _ List.Pairwise.nil)).filter _
section
variable {A B:List RW} (hA:∀z∈A,Pz 698058271126026880 z) (hB:∀z∈B,Pz 698058271126026880 z) (sA_:RwS A) (sB:RwS B)
theorem pz_rg{z:RW}(h:Pz 698058271126026880 z):Rg64 z:=by unfold Pz at h; unfold Rg64; omega
theorem key_small{l:List RW}(h:∀z∈l,Pz 698058271126026880 z)(hs:RwS l)(u c:ByteArray):0≤sm (kI u c) l∧sm (kI u c) l≤698058271126026880∧0≤sm (kO u c) l∧sm (kO u c) l≤698058271126026880:=by
 have:=fnd_sm (u:=u) (c:=c) hs;rw [←this.1,←this.2];rcases fnd_or u c l with ⟨h1,_⟩|⟨h1,_⟩
 ·have:=h _ h1;unfold Pz at this; omega
 ·rw [h1]; exact ⟨Int.le_refl _,by decide,Int.le_refl _,by decide⟩
include hA hB sA_ sB
theorem chg_sm(u c:ByteArray):sm (kI u c) (chgS A B)=sm (kI u c) B-sm (kI u c) A∧sm (kO u c) (chgS A B)=sm (kO u c) B-sm (kO u c) A:=by
 have T:=chg_tr (a:=A) (b:=B) fun z hz=>pz_rg (hB z hz);have e1:=all_smI u c (A.map negR) (allW [] B);have e2:=all_smO u c (A.map negR) (allW [] B);have n:=neg_sm (by decide) u c A hA;rw [all_id sB] at e1 e2;rw [n.1] at e1;rw [n.2] at e2;have a:=key_small hA sA_ u c;have b:=key_small hB sB u c;have hr:∀D:List RW,RwS D→(∀z∈D,Rg64 z)→wr64 (sm (kI u c) D)=sm (kI u c) D∧wr64 (sm (kO u c) D)=sm (kO u c) D:=fun D hs hD=>by
  have:=fnd_sm (u:=u) (c:=c) hs;rw [←this.1,←this.2];rcases fnd_or u c D with ⟨h1,_⟩|⟨h1,_⟩
  ·obtain ⟨q1,q2,q3,q4⟩:=hD _ h1;exact ⟨wrIn q1 q2,wrIn q3 q4⟩
  ·rw [h1]; exact ⟨rfl,rfl⟩
 have r:=hr _ T.sr fun z hz=>T.rng z hz;rw [all_id sB] at r;unfold chgS;rw [all_id sB,sm_fl _ fun z _ h=>by unfold kI; rw [(nz_false h).1]; cases kq u c z<;>rfl,sm_fl _ fun z _ h=>by unfold kO; rw [(nz_false h).2]; cases kq u c z<;>rfl];rw [←r.1,←r.2,e1,e2,wrIn (n:=_ + -_) (by omega) (by omega),wrIn (n:=_ + -_) (by omega) (by omega)]
 constructor<;>omega
theorem chg_get(u c:ByteArray):(fnd u c (chgS A B)).In=sm (kI u c) B-sm (kI u c) A∧(fnd u c (chgS A B)).Out=sm (kO u c) B-sm (kO u c) A:=by
 have:=fnd_sm (u:=u) (c:=c) (chg_sr (A:=A) (B:=B));have k:=chg_sm hA hB sA_ sB u c;rw [this.1,this.2]; exact k
theorem chg_row{z:RW}(hz:z∈chgS A B):z.In=sm (kI z.Account z.Ccy) B-sm (kI z.Account z.Ccy) A∧z.Out=sm (kO z.Account z.Ccy) B-sm (kO z.Account z.Ccy) A∧nzR z=true:=by
 have k:=key_one chg_sr z hz (kq_iff.2 ⟨rfl,rfl⟩);have g:=chg_sm hA hB sA_ sB z.Account z.Ccy;rw [k.1,k.2] at g;exact ⟨g.1,g.2,(List.mem_filter.1 hz).2⟩
end
theorem chg_none{A:List RW}(hA:∀z∈A,Pz 698058271126026880 z)(hs:RwS A):chgS A A=[]:=by
 refine List.eq_nil_iff_forall_not_mem.2 fun z hz=>?_;obtain ⟨h1,h2,h3⟩:=chg_row hA hA hs hs hz;rcases nz_true h3 with h | h
 ·omega
 ·omega

theorem nz_key{C:List RW}(h:∀z∈C,nzR z=true)(u c:ByteArray):Qa.eqb (fnd u c C) zR = !(C.any (kq u c)):=by
 rcases fnd_or u c C with ⟨h1,h2⟩|⟨h1,h2⟩
 ·have ha:C.any (kq u c)=true:=List.any_eq_true.2 ⟨_,h1,h2⟩;rw [ha];cases he:Qa.eqb (fnd u c C) zR with
  | false=>rfl
  | true =>
   have e:=req_iff.1 he;have:=h _ h1;rw [e] at this;cases this
 ·have ha:C.any (kq u c)=false:=List.any_eq_false.2 fun z hz=>by rw [h2 z hz]; simp
  rw [ha,h1,req_refl]; rfl
theorem sub_count{B C:List RW}(hB:RwS B)(hC:RwS C)(hk:∀z∈C,∃x∈B,sameR x z):(B.filter (fun x=>C.any (kq x.Account x.Ccy))).length=C.length:=by
 have hf:∀x∈B.filter (fun x=>C.any (kq x.Account x.Ccy)),fnd x.Account x.Ccy C∈C∧sameR (fnd x.Account x.Ccy C) x:=fun x hx=>by
  obtain ⟨y,hy,hky⟩:=List.any_eq_true.1 (List.mem_filter.1 hx).2;rcases fnd_or x.Account x.Ccy C with ⟨h1,h2⟩|⟨_,h2⟩
  ·exact ⟨h1,(kq_iff.1 h2).1,(kq_iff.1 h2).2⟩
  ·rw [h2 y hy] at hky; cases hky
 have h1:RwS ((B.filter (fun x=>C.any (kq x.Account x.Ccy))).map fun x=>fnd x.Account x.Ccy C):=by
  refine List.pairwise_map.2 ((hB.filter _).imp_of_mem fun {x y} hx hy h=>?_);have a:=(hf x hx).2;have b:=(hf y hy).2;rw [lt_same_l a,lt_same_r b]; exact h
 have:(B.filter (fun x=>C.any (kq x.Account x.Ccy))).map (fun x=>fnd x.Account x.Ccy C)=C:=by
  refine srt_uniq swoR h1 hC fun z=>?_;rw [List.mem_map]
  constructor
  ·rintro ⟨x,hx,rfl⟩; exact (hf x hx).1
  ·intro hz;obtain ⟨x,hx,hs⟩:=hk z hz;have hx':x∈B.filter (fun x=>C.any (kq x.Account x.Ccy)):=List.mem_filter.2 ⟨hx,List.any_eq_true.2 ⟨z,hz,kq_iff.2 ⟨hs.1.symm,hs.2.symm⟩⟩⟩;refine ⟨x,hx',?_⟩;have a:=hf x hx';refine Classical.byContradiction fun hne=>?_
   -- two elements of C with the same key
   have hkey:sameR (fnd x.Account x.Ccy C) z:=⟨a.2.1.trans hs.1,a.2.2.trans hs.2⟩;have k1:=key_one hC _ a.1 (kq_iff (u:=z.Account) (c:=z.Ccy).2 hkey);have k2:=key_one hC z hz (kq_iff.2 ⟨rfl,rfl⟩)
   apply hne
   have e1:(fnd x.Account x.Ccy C).In=z.In:=by rw [←k1.1,k2.1]
   have e2:(fnd x.Account x.Ccy C).Out=z.Out:=by rw [←k1.2,k2.2]
   have e3:=hkey.1;have e4:=hkey.2
   revert e1 e2 e3 e4
   generalize fnd x.Account x.Ccy C=w;intro e1 e2 e3 e4;cases w; cases z;simp only at e1 e2 e3 e4;rw [e1,e2,e3,e4]
 have hl:=congrArg List.length this;rw [List.length_map] at hl;exact hl

theorem f8n4_at{bi:Bool}{w1 w2:Qj×Int}{c:Int}{C:List RW}(hc:C.length≤900000)(hs:RwS C)(hz:∀z∈C,0≤z.In∧0≤z.Out∧nzR z=true):∀(l:List RW)(f v:Nat),C.drop v=l→l.length<f→f8n4 f bi w1 w2 (c,C) (v:Int)=some .exit0
 | _,0,_,_,h=>absurd h (Nat.not_lt_zero _)
 | [],f+1,v,hd,_=>by
  have:=Qak hd;rw [f8n4,decide_eq_false (by show ¬(v:Int)<(C.length:Int); omega),cond_false]
 | x::r,f+1,v,hd,hf=>by
  obtain ⟨h1,h2,h3⟩:=dropAt hd;rw [List.length_cons] at hf;have hx:x∈C:=List.mem_of_mem_drop (i:=v) (by rw [hd]; exact List.mem_cons_self);obtain ⟨q1,q2,q3⟩:=hz x hx;have e:f8n3 bi (v:Int) w1 w2 (c,C)=some (.norm false):=by
   unfold f8n3;show ((at? C (v:Int)).bind _)=_;rw [h1];simp only [Option.bind_some];rw [decide_eq_false (by omega:¬x.In<0),decide_eq_false (by omega:¬x.Out<0),cond_false,cond_false];have hprev:(bif decide (0<(v:Int)) then (at? C (wr64 ((v:Int)-1))).bind fun x204=>(f29 x204 x).bind fun x206=>some (f8n3O.norm (!x206)) else some (f8n3O.norm false))=some (f8n3O.norm false):=by
    by_cases hv:0<v
    ·obtain ⟨k,rfl⟩:∃k,v=k+1:=⟨v-1,by omega⟩;have hk:k<C.length:=by omega
     have ha:at? C (k:Int)=some C[k]:=(dropAt (List.drop_eq_getElem_cons hk)).1;have hx':C[k+1]'(by omega)=x:=by
      have:=List.drop_eq_getElem_cons (l:=C) (i:=k+1) (by omega);rw [hd] at this;exact (List.cons.inj this).1.symm
     have hlt:ltR C[k] x=true:=by
      rw [←hx'];exact List.pairwise_iff_getElem.1 hs k (k+1) hk (by omega) (by omega)
     rw [decide_eq_true (by omega:0<((k+1:Nat):Int)),cond_true,wrIn (n:=((k+1:Nat):Int)-1) (by omega) (by omega),show ((k+1:Nat):Int)-1=k by omega,ha];simp only [Option.bind_some,f29_eq,hlt]; rfl
    ·rw [decide_eq_false (by omega:¬0<(v:Int))]; rfl
   have hb:(bif decide (0<(v:Int)) then (at? C (wr64 ((v:Int)-1))).bind fun x199=>(f29 x199 x).bind fun x201=>some (f8n3O.norm (!x201)) else some (f8n3O.norm false))=some (f8n3O.norm false):=hprev;rcases nz_true q3 with h | h
   ·rw [decide_eq_false h,cond_false]; exact hprev
   ·cases decide (x.In=0) with
    | true=>rw [cond_true,decide_eq_false h,cond_false]; exact hb
    | false=>rw [cond_false]; exact hprev
  rw [f8n4,decide_eq_true (by show (v:Int)<(C.length:Int); omega),cond_true];unfold f8n2;rw [e];simp only [Option.bind_some,cond_false];rw [wrSucc (by omega)];exact f8n4_at hc hs hz r f (v+1) h3 (by omega)
theorem f8n6L_at{bi:Bool}{w1 w2:Qj×Int}{c:Int}{C:List RW}(hA:w1.1.Rows.length≤maxLen)(hC:C.length≤maxLen)(hz:∀z∈C,nzR z=true):∀(l:List RW)(n:Nat)(v:Int),n+l.length≤900000 →
  (∀x∈l,wr64 ((fnd x.Account x.Ccy w1.1.Rows).In+(fnd x.Account x.Ccy C).In)=x.In∧wr64 ((fnd x.Account x.Ccy w1.1.Rows).Out+(fnd x.Account x.Ccy C).Out)=x.Out) →
  f8n6L bi w1 w2 (c,C) l (n:Int) v=some (.exit2 ((n+(l.filter (fun x=>C.any (kq x.Account x.Ccy))).length:Nat):Int))
 | [],n,v,_,_=>rfl
 | x::r,n,v,hn,h=>by
  obtain ⟨h1,h2⟩:=h x List.mem_cons_self;rw [List.length_cons] at hn;have hr:=fun y hy=>h y (List.mem_cons_of_mem x hy);have e:Qa.eqb (fnd x.Account x.Ccy C) (Qa.mk Qs Qs 0 0) = !(C.any (kq x.Account x.Ccy)):=nz_key hz _ _;rw [f8n6L,f24_eq hA,show ((c,C).2:List RW)=C from rfl,f24_eq hC];simp only [Option.bind_some,h1,h2,decide_true,cond_true,e];rw [List.filter_cons];cases C.any (kq x.Account x.Ccy) with
  | true =>
   rw [Bool.not_true,cond_false,wrSucc (by omega),f8n6L_at hA hC hz r (n+1) _ (by omega) hr,if_pos rfl,List.length_cons]
   congr 2; omega
  | false=>rw [Bool.not_false,cond_true,f8n6L_at hA hC hz r n _ (by omega) hr,if_neg (by simp)]
theorem take_more(l:List Qc){p q:Nat}(h:p≤q):l.take q=l.take p++(l.take q).drop p:=by
 have:=(List.take_append_drop p (l.take q)).symm
 rwa [List.take_take,Nat.min_eq_left h] at this
theorem lawKnown{P Q R S:Prop}(j:Qi)(a b few many:Int)(ok:Qi.ok j)(_:P)(_:Q)(_:R)(_:S):f8 j a b few many=some true:=by
 have hj:=ok_jk ok;obtain ⟨g,e,hg⟩:=f18_at hj;unfold f8 f8n0;rw [alive_t,e];simp only [Option.bind_some,cond_true];cases g with
 | true=>rfl
 | false =>
  obtain ⟨h30,hs⟩:=hg rfl;rw [cond_false]
  by_cases hfm:many<few
  ·rw [decide_eq_true hfm]; rfl
  ·rw [decide_eq_false hfm,cond_false,f21_eq hj (by omega),f21_eq hj (by omega)];simp only [Option.bind_some]
   by_cases h1:(betS j a b few).2=0
   ·rw [decide_eq_true h1,cond_true]
    by_cases h2:(betS j a b many).2=0
    ·rw [decide_eq_true h2,cond_true];obtain ⟨ho,a1,a2,a3,a4,a5,e1⟩:=betS_ok h1;obtain ⟨_,_,_,_,b4,b5,e2⟩:=betS_ok h2;rw [e1,e2];have hl:j.Records.length≤31:=by omega
     have l1:=rw_len hl ho a b few.toNat;have l2:=rw_len hl ho a b many.toNat;have pA:=rw_p hl ho a b few.toNat;have pB:=rw_p hl ho a b many.toNat;have sA_:=rw_tr hl ho a b few.toNat;have sB:=rw_tr hl ho a b many.toNat
     -- more records, more amounts
     have hm:∀r∈(j.Records.take many.toNat).drop few.toNat,r∈j.Records:=fun r hr=>List.mem_of_mem_take (List.mem_of_mem_drop hr);have hgrow:∀u c,sm (kI u c) (rwS j a b few.toNat)≤sm (kI u c) (rwS j a b many.toNat)∧sm (kO u c) (rwS j a b few.toNat)≤sm (kO u c) (rwS j a b many.toNat):=fun u c=>by
      have n:=sl_nn hl ho a b u c _ hm;rw [rw_sm hl ho _ _ _ (lin_I u c),rw_sm hl ho _ _ _ (lin_O u c),rw_sm hl ho _ _ _ (lin_I u c),rw_sm hl ho _ _ _ (lin_O u c),take_more j.Records (p:=few.toNat) (q:=many.toNat) (by omega),sL_app,sL_app];omega
     generalize hA:rwS j a b few.toNat=A at *;generalize hB:rwS j a b many.toNat=B at *;have c1:chkS ⟨a,b,few,A⟩=0:=by rw [←hA]; exact chk_bet hl ho a1 a2 a3 a4 (by omega) _
     have c2:chkS ⟨a,b,many,B⟩=0:=by rw [←hB]; exact chk_bet hl ho a1 a2 a3 b4 (by omega) _
     rw [f12r1_eq (by show A.length≤_; omega) (by show B.length≤_; omega) (fun z hz=>pz_rg (pB z hz)),f12r2_eq (by show B.length≤_; omega) (fun z hz=>pz_rg (pB z hz))];unfold chaS;rw [c1,c2];simp only [decide_true,cond_true,Bool.and_self,Option.bind_some];rw [chg_none pB sB];simp only [List.length_nil];rw [decide_eq_true (by omega),cond_true];have hsr:=chg_sr (A:=A) (B:=B);have hlenC:(chgS A B).length≤5000:=by
      unfold chgS;have h1:=List.length_filter_le nzR (allW (allW [] B) (A.map negR));have h2:=allW_len (A.map negR) (allW [] B);have h3:=allW_len B [];rw [List.length_map] at h2;simp only [List.length_nil] at h3;omega
     have hnz:∀z∈chgS A B,0≤z.In∧0≤z.Out∧nzR z=true:=fun z hz=>by
      obtain ⟨r1,r2,r3⟩:=chg_row pA pB sA_ sB hz;have:=hgrow z.Account z.Ccy;exact ⟨by omega,by omega,r3⟩
     have hcnt:(B.filter (fun x=>(chgS A B).any (kq x.Account x.Ccy))).length=(chgS A B).length:=sub_count sB hsr fun z hz=>by
      obtain ⟨r1,r2,r3⟩:=chg_row pA pB sA_ sB hz;have k:=key_small pA sA_ z.Account z.Ccy;have g:=hgrow z.Account z.Ccy;obtain ⟨y,hy,hk⟩:=(key_pos (u:=z.Account) (c:=z.Ccy) pB).2 (by
       rcases nz_true r3 with h | h<;>omega)
      exact ⟨y,hy,kq_iff.1 hk⟩
     have hcnt2:A.length≤B.length:=by
      have:=sub_count (B:=B) (C:=A) sB sA_ fun z hz=>by
       have p:=(key_pos (u:=z.Account) (c:=z.Ccy) pA).1 ⟨z,hz,kq_iff.2 ⟨rfl,rfl⟩⟩;have g:=hgrow z.Account z.Ccy;obtain ⟨y,hy,hk⟩:=(key_pos (u:=z.Account) (c:=z.Ccy) pB).2 (by omega);exact ⟨y,hy,kq_iff.1 hk⟩
      rw [←this]; exact List.length_filter_le _ _
     unfold f8n1 f8n5;have e3:=f8n4_at (bi:=true) (w1:=(⟨a,b,few,A⟩,0)) (w2:=(⟨a,b,many,B⟩,0)) (c:=0) (by omega) hsr hnz (chgS A B) FUEL 0 rfl (fuelSmall (by omega));rw [show ((0:Nat):Int)=0 from rfl] at e3;rw [e3];simp only [Option.bind_some];have e4:=f8n6L_at (bi:=true) (w1:=(⟨a,b,few,A⟩,0)) (w2:=(⟨a,b,many,B⟩,0)) (c:=0) (C:=chgS A B) (Qaw (by show A.length≤_; omega)) (Qaw (by omega)) (fun z hz=>(hnz z hz).2.2) B 0 0 (by omega) fun x hx=>by
      have gA:=fnd_sm (u:=x.Account) (c:=x.Ccy) sA_;have gC:=chg_get pA pB sA_ sB x.Account x.Ccy;have k:=key_one sB x hx (kq_iff.2 ⟨rfl,rfl⟩);have p:=pB x hx;unfold Pz at p;show wr64 ((fnd x.Account x.Ccy A).In+_)=_∧wr64 ((fnd x.Account x.Ccy A).Out+_)=_;rw [gA.1,gA.2,gC.1,gC.2,k.1,k.2];exact ⟨by rw [wrIn (by omega) (by omega)]; omega,by rw [wrIn (by omega) (by omega)]; omega⟩
     rw [show ((0:Nat):Int)=0 from rfl] at e4;rw [f8n6_run _ _ _ _ _ (Qaw (by show B.length≤_; omega)),e4];simp only [Option.bind_some,Nat.zero_add];rw [hcnt,decide_eq_true rfl,cond_true,decide_eq_true (by omega)]; rfl
    ·rw [decide_eq_false h2,cond_false,betS_bad h2]; rfl
   ·rw [decide_eq_false h1,cond_false,betS_bad h1];simp only [List.length_nil]
    by_cases h2:(betS j a b many).2=0
    ·rw [decide_eq_true h2]; rfl
    ·rw [decide_eq_false h2,betS_bad h2]; rfl
end Go.Proofs.YtfeklaffeigilaaDoor
