/- Several texts in one. No condition. -/
import Derived.Test.YtfeklaffeigilaaDoorRe
import Derived.KernelRfl
namespace Go.Proofs.YtfeklaffeigilaaDoor
set_option linter.unusedVariables false
set_option linter.unusedSimpArgs false
set_option maxRecDepth 100000
open Go.RowKit
end Go.Proofs.YtfeklaffeigilaaDoor
namespace Go.Proofs.YtfeklaffeigilaaDoor
set_option linter.unusedVariables false
set_option linter.unusedSimpArgs false
open Go.RowKit
def sm(g:RW→Int):List RW→Int
 | []=>0
 | z::r=>g z+sm g r

def kq(u c:ByteArray)(z:RW):Bool:=seq z.Account u&&seq z.Ccy c

end Go.Proofs.YtfeklaffeigilaaDoor
namespace Go.Proofs.YtfeklaffeigilaaDoor
set_option linter.unusedVariables false
set_option linter.unusedSimpArgs false
open Go.RowKit


end Go.Proofs.YtfeklaffeigilaaDoor
namespace Go.Proofs.YtfeklaffeigilaaDoor
set_option linter.unusedVariables false
set_option linter.unusedSimpArgs false
open Go.RowKit

theorem req_refl(x:RW):Qa.eqb x x=true:=by unfold Qa.eqb; simp [seq_refl]
theorem req_iff{x y:RW} : Qa.eqb x y=true↔x=y:=by
 constructor
 ·intro h;unfold Qa.eqb at h;rw [Bool.and_eq_true,Bool.and_eq_true,Bool.and_eq_true,seq_iff,seq_iff,decide_eq_true_eq,decide_eq_true_eq] at h;obtain ⟨⟨⟨h1,h2⟩,h3⟩,h4⟩:=h;cases x; cases y;dsimp only at h1 h2 h3 h4;rw [h1,h2,h3,h4]
 ·rintro rfl; exact req_refl x
def rowsB:List RW→List RW→Bool
 | [],[]=>true
 | x::a,y::b=>Qa.eqb x y&&rowsB a b
 | _,_=>false
theorem rowsB_iff:∀{a b:List RW},rowsB a b=true↔a=b
 | [],[]=>by simp [rowsB]
 | [],y::b=>by simp [rowsB]
 | x::a,[]=>by simp [rowsB]
 | x::a,y::b=>by rw [rowsB,Bool.and_eq_true,req_iff,rowsB_iff,List.cons.injEq]
theorem rows_eqL(a b:List RW):∀(l:List RW)(v:Nat),a.drop v=l→a.length=b.length→f14n2L a b l (v:Int)=some (bif rowsB l (b.drop v) then .exit0 else .ret)
 | [],v,hd,hl=>by
  have:=Qah hd;have e:b.drop v=[]:=List.drop_eq_nil_of_le (by omega);rw [f14n2L,e]; rfl
 | x::r,v,hd,hl=>by
  obtain ⟨ha,hk,hd'⟩:=dropAt hd;have hv:v<b.length:=by omega
  have hb:b.drop v=b[v]::b.drop (v+1):=List.drop_eq_getElem_cons hv;have hat:at? b (v:Int)=some b[v]:=(dropAt hb).1;rw [f14n2L,hat];simp only [Option.bind_some];have ih:=rows_eqL a b r (v+1) hd' hl;rw [show ((v:Int)+1)=((v+1:Nat):Int) by omega,ih,hb,rowsB];cases Qa.eqb x b[v]<;>rfl
theorem f14_eq{a b:List RW}(h:a.length≤maxLen):f14 a b=some (rowsB a b):=by
 unfold f14 f14n0 f14n1
 by_cases hl:a.length=b.length
 ·have:=rows_eqL a b a 0 rfl hl;rw [show ((0:Nat):Int)=0 from rfl,List.drop_zero] at this;rw [decide_eq_true (by omega:(a.length:Int)=b.length),cond_true,f14n2_run _ _ h,this];cases rowsB a b<;>rfl
 ·have:rowsB a b=false:=by
   cases k:rowsB a b with
   | false=>rfl
   | true=>exact absurd (by rw [rowsB_iff.1 k]) hl
  rw [decide_eq_false (by omega:¬(a.length:Int)=b.length),this]; rfl
end Go.Proofs.YtfeklaffeigilaaDoor
namespace Go.Proofs.YtfeklaffeigilaaDoor
set_option linter.unusedVariables false
set_option linter.unusedSimpArgs false
open Go.RowKit

end Go.Proofs.YtfeklaffeigilaaDoor
namespace Go.Proofs.YtfeklaffeigilaaDoor
set_option linter.unusedVariables false
set_option linter.unusedSimpArgs false
open Go.RowKit
def gd1(p:Option RW)(i o:Int)(x:RW):Bool:=nmB x.Account&&(nmB x.Ccy&&((match p with | none=>true | some y=>decide (rwC y x<0))&&(decide (0≤x.In)&&(decide (0≤x.Out)&&(!(decide (x.In=0)&&decide (x.Out=0))&&(decide (x.In≤4503599627370496000-i)&&decide (x.Out≤4503599627370496000-o)))))))
def goodL:Option RW→Int→Int→List RW→Bool
 | _,_,_,[]=>true
 | p,i,o,x::r=>gd1 p i o x&&goodL (some x) (i+x.In) (o+x.Out) r
def AtP(rows:List RW)(v:Nat)(p:Option RW):Prop:=(v=0∧p=none)∨∃y,0<v∧at? rows ((v:Int)-1)=some y∧p=some y
theorem AtP.zero(rows:List RW):AtP rows 0 none:=.inl ⟨rfl,rfl⟩
theorem AtP.succ{rows:List RW}{v:Nat}{x:RW}(h:at? rows (v:Int)=some x):AtP rows (v+1) (some x):=.inr ⟨x,Nat.succ_pos _,by rw [show ((v+1:Nat):Int)-1=v by omega]; exact h,rfl⟩
theorem f15n4_eq{i o:Int}(hi:0≤i∧i≤4503599627370496000)(ho:0≤o∧o≤4503599627370496000){v:Nat}(hv:v≤1000000){a:Qd}{p:Option RW}(hp:AtP a.Rows v p)(g:List (ByteArray×Int))(x:RW):f15n4 i o (v:Int) a g x=some (.norm (!gd1 p i o x)):=by
 unfold f15n4 gd1;rw [f40_eq,f40_eq,wrIn (n:=4503599627370496000-i) (by omega) (by omega),wrIn (n:=4503599627370496000-o) (by omega) (by omega),ltNot x.In 0,ltNot x.Out 0,ltNot (4503599627370496000-i) x.In,ltNot (4503599627370496000-o) x.Out];simp only [Option.bind_some];cases nmB x.Account with
 | false=>rfl
 | true =>
  cases nmB x.Ccy with
  | false=>rfl
  | true =>
   rcases hp with ⟨rfl,rfl⟩|⟨y,h0,ha,rfl⟩
   ·rw [decide_eq_false (by omega:¬0<((0:Nat):Int))];cases decide (0≤x.In)<;>cases decide (0≤x.Out)<;>cases decide (x.In=0)<;>cases decide (x.Out=0)<;>cases decide (x.In≤4503599627370496000-i)<;>cases decide (x.Out≤4503599627370496000-o)<;>rfl
   ·rw [decide_eq_true (by omega:0<(v:Int)),wrIn (n:=(v:Int)-1) (by omega) (by omega),ha];simp only [Option.bind_some,f41_eq];rw [ltNot (rwC y x) 0];cases decide (0≤rwC y x)<;>cases decide (0≤x.In)<;>cases decide (0≤x.Out)<;>cases decide (x.In=0)<;>cases decide (x.Out=0)<;>cases decide (x.In≤4503599627370496000-i)<;>cases decide (x.Out≤4503599627370496000-o)<;>rfl
def tl(x:RW):Qh:=⟨x.Account,x.Ccy,wr64 (x.In-x.Out)⟩
theorem gd_in{p:Option RW}{i o:Int}{x:RW}(h:gd1 p i o x=true):0≤x.In∧x.In≤4503599627370496000-i∧0≤x.Out∧x.Out≤4503599627370496000-o:=by
 unfold gd1 at h;simp only [Bool.and_eq_true,decide_eq_true_eq] at h;exact ⟨h.2.2.2.1,h.2.2.2.2.2.2.1,h.2.2.2.2.1,h.2.2.2.2.2.2.2⟩
theorem f15n5_at{a:Qd}(ha:a.Rows.length≤900000):∀(l:List RW)(f v:Nat)(p:Option RW)(i o:Int)(m:List (ByteArray×Int)),a.Rows.drop v=l→l.length<f→AtP a.Rows v p→(0≤i∧i≤4503599627370496000)→(0≤o∧o≤4503599627370496000) →
  f15n5 f a i o (v:Int) m=some (bif goodL p i o l then .exit0 (sumsL (l.map tl) m) else .ret)
 | _,0,_,_,_,_,_,_,h,_,_,_=>absurd h (Nat.not_lt_zero _)
 | [],f+1,v,p,i,o,m,hd,_,_,_,_=>by
  have:=Qah hd;rw [f15n5,decide_eq_false (by omega),cond_false]; rfl
 | x::r,f+1,v,p,i,o,m,hd,hf,hp,hi,ho=>by
  obtain ⟨h1,h2,h3⟩:=dropAt hd;rw [List.length_cons] at hf;rw [f15n5,decide_eq_true (by omega),cond_true];unfold f15n2 f15n3;rw [h1];simp only [Option.bind_some];rw [f15n4_eq hi ho (by omega) hp,goodL];simp only [Option.bind_some];cases hg:gd1 p i o x with
  | false=>rfl
  | true =>
   have:=gd_in hg;simp only [Bool.not_true,cond_false,Option.bind_some,Bool.true_and];rw [wrIn (n:=i+x.In) (by omega) (by omega),wrIn (n:=o+x.Out) (by omega) (by omega),wrSucc (by omega)];rw [f15n5_at ha r f (v+1) (some x) _ _ _ h3 (by omega) (AtP.succ h1) (by omega) (by omega)];rfl
def zeroC(l:List RW):Bool:=balB ⟨0,⟨#[]⟩,l.map tl⟩
theorem f15n7_eq(be:List (ByteArray×Int)):∀l:List (ByteArray×Int),f15n7 be l=some (bif l.all (fun x=>decide (x.2=0)) then .exit2 else .ret)
 | []=>rfl
 | x::r=>by
  rw [f15n7,f15n7_eq be r,List.all_cons];cases decide (x.2=0)<;>rfl
def chkS(r:Qd):Int :=
 bif decide (0≤r.From)&&(decide (r.From≤r.To)&&decide (r.To≤100000)) then
  bif decide (0≤r.Known)&&decide (r.Known≤200) then
   bif goodL none 0 0 r.Rows then bif zeroC r.Rows then 0 else 60 else 8
  else 8
 else 8
theorem f15_eq{r:Qd}(h:r.Rows.length≤900000):f15 r=some (chkS r):=by
 unfold f15 f15n0 chkS;rw [f39_eq];simp only [Option.bind_some];cases decide (0≤r.From)&&(decide (r.From≤r.To)&&decide (r.To≤100000)) with
 | false=>rfl
 | true =>
  rw [cond_true,cond_true,ltNot r.Known 0,ltNot 200 r.Known];cases decide (0≤r.Known) with
  | false=>rfl
  | true =>
   cases decide (r.Known≤200) with
   | false=>rfl
   | true =>
    have e:=f15n5_at h r.Rows FUEL 0 none 0 0 [] rfl (Qaw (by omega)) (AtP.zero _) (by omega) (by omega);rw [show ((0:Nat):Int)=0 from rfl] at e;unfold f15n1;rw [e];simp only [Bool.not_true,cond_false,Bool.and_self,cond_true];cases goodL none 0 0 r.Rows with
    | false=>rfl
    | true =>
     simp only [cond_true,Option.bind_some];unfold f15n6;have hp:∀p,p.Perm (sumsL (r.Rows.map tl) [])→f15n7 (sumsL (r.Rows.map tl) []) p=some (bif zeroC r.Rows then .exit2 else .ret):=fun p hp=>by
      rw [f15n7_eq,hp.all_eq]; rfl
     rw [anyOrder_of hp];cases zeroC r.Rows<;>rfl

def pC(c:ByteArray)(z:RW):Int:=bif seq z.Ccy c then z.In-z.Out else 0
theorem sC_rows(c:ByteArray):∀l:List RW,wr64 (sC c (l.map tl))=wr64 (sm (pC c) l)
 | []=>rfl
 | x::r=>by
  have ih:=sC_rows c r;rw [List.map_cons,sC,sm];have e:(bif seq (tl x).Ccy c then (tl x).Amount else 0)=bif seq x.Ccy c then wr64 (x.In-x.Out) else 0:=rfl;rw [e];unfold pC at *;cases seq x.Ccy c with
  | true =>
   rw [cond_true,cond_true,wrL,Int.add_comm,←wrL,ih,wrL,Int.add_comm]
  | false=>rw [cond_false,cond_false,Int.zero_add,Int.zero_add,ih]


end Go.Proofs.YtfeklaffeigilaaDoor
namespace Go.Proofs.YtfeklaffeigilaaDoor
set_option linter.unusedVariables false
set_option linter.unusedSimpArgs false
open Go.RowKit
def negR(x:RW):RW:=⟨x.Account,x.Ccy,wr64 (0-x.In),wr64 (0-x.Out)⟩
def allT(m:TB_)(l:List RW):TB_:=l.foldl addT m
def allW(m l:List RW):List RW:=l.foldl withR m
def Rg64(z:RW):Prop:=-9223372036854775808≤z.In∧z.In≤9223372036854775807∧-9223372036854775808≤z.Out∧z.Out≤9223372036854775807
theorem TR.all:∀(xs:List RW){m:TB_}{l:List RW},TR m l→(∀x∈xs,Rg64 x)→TR (allT m xs) (allW l xs)
 | [],_,_,T,_=>T
 | x::r,m,l,T,h=>by
  obtain ⟨h1,h2,h3,h4⟩:=h x List.mem_cons_self;exact TR.all r (T.add ⟨h1,h2⟩ ⟨h3,h4⟩) fun y hy=>h y (List.mem_cons_of_mem _ hy)
theorem neg_rg(x:RW):Rg64 (negR x):=by
 have a:=wr_rng (0-x.In);have b:=wr_rng (0-x.Out);exact ⟨a.1,a.2,b.1,b.2⟩
theorem f12r1n2L_at(b a:Qd):∀(l:List RW)(v:Int)(m:TB_),f12r1n2L b a l v m=some (.exit0 (allT m l))
 | [],v,m=>rfl
 | x::r,v,m=>by
  rw [f12r1n2L,f36r2_eq];simp only [Option.bind_some];exact f12r1n2L_at b a r _ _
theorem f12r1n4L_at(a:Qd):∀(l:List RW)(v:Int)(m:TB_),f12r1n4L a l v m=some (.exit2 (allT m (l.map negR)))
 | [],v,m=>rfl
 | x::r,v,m=>by
  rw [f12r1n4L,f36r2_eq];simp only [Option.bind_some];exact f12r1n4L_at a r _ _
theorem f37r1n2_fl(m:TB_):∀(p:TB_)(out:List RW),out.length+p.length≤1000000→Qbx m p out=some (.exit0 (out++(p.map Prod.snd).filter nzR))
 | [],out,_=>by rw [Qbx,List.map_nil,List.filter_nil,List.append_nil]
 | x::p,out,hl=>by
  rw [List.length_cons] at hl;have ih:=f37r1n2_fl m p (out++[x.2]) (by rw [List.length_append,List.length_singleton]; omega);have ih2:=f37r1n2_fl m p out (by omega);rw [List.append_assoc] at ih;rw [Qbx,ih,ih2,req,Qas (by omega) (by omega),cond_true,List.map_cons,List.filter_cons];unfold nzR;cases decide (x.2.In=0)<;>cases decide (x.2.Out=0)<;>rfl
theorem f37r1_fl{m:TB_}{l:List RW}(T:TR m l)(hl:l.length≤1000000):f37r1 m=some (l.filter nzR):=by
 have hml:m.length=l.length:=by rw [←(tr_perm T).length_eq,List.length_map]
 have key:anyOrder m (fun p=>(f37r1n1 m p).bind fun o38=>match o38 with
   | .norm v40=>(so59_41 v40).bind fun x43=>some (.ret x43))=some (f37r1n0O.ret (l.filter nzR)):=by
  refine anyOrder_of fun p hp=>?_;have hpl:(p.map Prod.snd).Perm l:=(hp.map _).trans (tr_perm T);have hpf:((p.map Prod.snd).filter nzR).Perm (l.filter nzR):=hpl.filter _;have hlen:(l.filter nzR).length≤l.length:=List.length_filter_le _ _;unfold f37r1n1;rw [f37r1n2_fl m p [] (by rw [hp.length_eq,hml]; simpa using hl)];simp only [Option.bind_some,List.nil_append];rw [so59_41_val f41_eq rwC_cmp.SWO (by rw [hpf.length_eq]; omega)];have hperm:=(sortL_perm rwC_cmp.SWO ((p.map Prod.snd).filter nzR)).trans hpf;have hsd:Sd ltR (l.filter nzR):=(T.sr.filter _).imp fun {x y} k=>swoR.asym k;have hne:(l.filter nzR).Pairwise fun x y=>eqv ltR x y=false:=(T.sr.filter _).imp fun {x y} k=>by unfold eqv; rw [k]; rfl
  have:sortL rwC ((p.map Prod.snd).filter nzR)=l.filter nzR:=(sorted_one swoR hsd (sortL_sorted rwC_cmp.SWO _) (Cl.of_perm hperm hne swoR)).symm;rw [this]; rfl
 unfold f37r1 f37r1n0;rw [key]; rfl
theorem allW_len:∀(xs l:List RW),(allW l xs).length≤l.length+xs.length
 | [],l=>Nat.le_refl _
 | x::r,l=>by
  have h1:=allW_len r (withR l x);have h2:=with_len l x;show (allW (withR l x) r).length≤_;rw [List.length_cons]; omega
def chgS(a b:List RW):List RW:=(allW (allW [] b) (a.map negR)).filter nzR
def chaS(a b:Qd):Int×List RW :=
 bif decide (chkS a=0) then bif decide (chkS b=0) then
  bif decide (a.From=b.From)&&decide (a.To=b.To) then (0,chgS a.Rows b.Rows) else (2,[])
 else (chkS b,[]) else (chkS a,[])
theorem chg_tr{a b:List RW}(hb:∀z∈b,Rg64 z):TR (allT (allT [] b) (a.map negR)) (allW (allW [] b) (a.map negR)) :=
 (TR.nil.all b hb).all _ fun x hx=>by
  obtain ⟨y,_,rfl⟩:=List.mem_map.1 hx;exact neg_rg y
theorem chg_fl{a b:List RW}(hb:∀z∈b,Rg64 z)(ha:a.length≤400000)(hb2:b.length≤400000):f37r1 (allT (allT [] b) (a.map negR))=some (chgS a b):=by
 refine f37r1_fl (chg_tr hb) ?_;have h1:=allW_len (a.map negR) (allW [] b);have h2:=allW_len b [];rw [List.length_map] at h1;simp only [List.length_nil] at h2;omega
theorem f12r1_eq{a b:Qd}(ha:a.Rows.length≤400000)(hb:b.Rows.length≤400000)(hr:∀z∈b.Rows,Rg64 z):f12r1 a b=some (chaS a b):=by
 unfold f12r1 f12r1n0 chaS;rw [f15_eq (by omega),f15_eq (by omega)];simp only [Option.bind_some];cases decide (chkS a=0) with
 | false=>rfl
 | true =>
  cases decide (chkS b=0) with
  | false=>rfl
  | true =>
   cases decide (a.From=b.From) with
   | false=>rfl
   | true =>
    cases decide (a.To=b.To) with
    | false=>rfl
    | true =>
     simp only [cond_true];unfold f12r1n1 f12r1n3;rw [f12r1n2_run _ _ _ (Qbi (by omega)),f12r1n2L_at];simp only [Option.bind_some];rw [f12r1n4_run _ _ (Qbi (by omega)),f12r1n4L_at];simp only [Option.bind_some];rw [chg_fl hr ha hb]; rfl

theorem with_end{x:RW} : ∀{l:List RW},(∀y∈l,ltR y x=true)→withR l x=l++[x]
 | [],_=>rfl
 | y::r,h=>by
  rw [withR,h y List.mem_cons_self,cond_true,with_end fun z hz=>h z (List.mem_cons_of_mem _ hz)]; rfl
theorem all_srt:∀(l pre:List RW),RwS (pre++l)→allW pre l=pre++l
 | [],pre,_=>by rw [List.append_nil]; rfl
 | x::r,pre,h=>by
  show allW (withR pre x) r=_;have h0:=List.pairwise_append.1 h;rw [with_end fun y hy=>h0.2.2 y hy x List.mem_cons_self];have e:pre++x::r=pre++[x]++r:=by simp
  rw [e] at h ⊢;exact all_srt r (pre++[x]) h
theorem all_id{l:List RW}(h:RwS l):allW [] l=l:=all_srt l [] h





end Go.Proofs.YtfeklaffeigilaaDoor
namespace Go.Proofs.YtfeklaffeigilaaDoor
set_option linter.unusedVariables false
set_option linter.unusedSimpArgs false
open Go.RowKit
theorem f42n2_eq{s:ByteArray}{k:Int}{b:UInt8}(h:at? s.data.toList k=some b):f42n2 s k=some (bif ltrI b.toNat||(othI b.toNat&&!(decide (k=0))) then .norm else .ret):=by
 have h3:f42n3 s k b=some (.norm (ltrI b.toNat)):=by
  unfold f42n3 ltrI;cases decide ((97:Int)≤(b.toNat:Int))<;>cases decide ((b.toNat:Int)≤122)<;>cases decide ((65:Int)≤(b.toNat:Int))<;>cases decide ((b.toNat:Int)≤90)<;>rfl
 have h4:f42n4 s k b (ltrI b.toNat)=some (.norm (othI b.toNat)):=by
  unfold f42n4 othI;cases decide ((48:Int)≤(b.toNat:Int))<;>cases decide ((b.toNat:Int)≤57)<;>cases decide ((b.toNat:Int)=95)<;>cases decide ((b.toNat:Int)=45)<;>rfl
 unfold f42n2;rw [h];simp only [Option.bind_some,h3,h4];unfold f42n5;cases ltrI b.toNat<;>cases othI b.toNat<;>cases decide (k=0)<;>rfl
theorem f42n6_at(s:ByteArray)(hs:s.data.toList.length≤1000):∀(r:List UInt8)(f k:Nat),1≤k→s.data.toList.drop k=r→r.length<f→f42n6 f s (k:Int)=some (bif r.all chB then .exit0 else .ret)
 | _,0,_,_,_,h=>absurd h (Nat.not_lt_zero _)
 | [],f+1,k,_,hd,_=>by
  have:=Qah hd;rw [f42n6,sizeList,decide_eq_false (by omega),cond_false]; rfl
 | b::r,f+1,k,h1k,hd,hf=>by
  obtain ⟨h1,h2,h3⟩:=dropAt hd;rw [f42n6,sizeList,decide_eq_true (by omega),cond_true,f42n2_eq h1,List.all_cons,decide_eq_false (by omega:¬((k:Int)=0)),Bool.not_false,Bool.and_true];show _=some (bif chB b&&r.all chB then _ else _);unfold chB;cases ltrI b.toNat||othI b.toNat with
  | false=>rfl
  | true =>
   simp only [cond_true,Option.bind_some,Bool.true_and];rw [wrSucc (by omega)];exact f42n6_at s hs r f (k+1) (by omega) h3 (by simpa using hf)
theorem f42_eq(s:ByteArray):f42 s=some (nmB s):=by
 unfold f42 f42n0 nmB;rw [sizeList]
 by_cases hs:s.data.toList.length≤40
 ·cases hl:s.data.toList with
  | nil=>rfl
  | cons b r =>
   rw [hl] at hs;have h1:f42n1 s=some (bif ltrI b.toNat&&r.all chB then .norm else .ret):=by
    unfold f42n1;obtain ⟨g,hg⟩:∃g,FUEL=g+1:=⟨FUEL-1,by have:=Qaw (n:=1) (by omega); omega⟩;have hlt:r.length<g:=by
     have:=Qaw (n:=50) (by omega);simp only [List.length_cons] at hs;omega
    have h0:at? s.data.toList 0=some b:=by rw [hl]; rfl
    rw [hg,f42n6,sizeList,hl,decide_eq_true (by simp),cond_true,f42n2_eq h0];cases hb:ltrI b.toNat with
    | false=>cases othI b.toNat<;>rfl
    | true =>
     have:=f42n6_at s (by rw [hl]; omega) r g 1 (by omega) (by rw [hl]; rfl) hlt;rw [show wr64 (0+1)=((1:Nat):Int) from by rw [wrIn (by omega) (by omega)]; rfl,this];cases r.all chB<;>rfl
   rw [decide_eq_false (by simp; omega:¬(((b::r).length:Nat):Int)=0),decide_eq_false (by omega:¬(40:Int)<(((b::r).length:Nat):Int)),h1];simp only [cond_false,Option.bind_some,isNm,decide_eq_true hs,Bool.true_and];cases ltrI b.toNat&&r.all chB<;>rfl
 ·rw [decide_eq_false (by omega:¬((s.data.toList.length:Nat):Int)=0),decide_eq_true (by omega:(40:Int)<((s.data.toList.length:Nat):Int))];have:isNm s.data.toList=false:=by
   generalize s.data.toList=l at hs;cases l with
   | nil=>rfl
   | cons b r=>simp only [isNm,decide_eq_false hs,Bool.false_and]
  rw [this]; rfl

def prvB(x:RW):Option RW→Bool
 | none=>true
 | some y=>decide (rwC y x<0)
theorem gd1_prv(p:Option RW)(i o:Int)(x:RW):gd1 p i o x=(nmB x.Account&&(nmB x.Ccy&&(prvB x p&&(decide (0≤x.In)&&(decide (0≤x.Out)&&(!(decide (x.In=0)&&decide (x.Out=0))&&(decide (x.In≤4503599627370496000-i)&&decide (x.Out≤4503599627370496000-o)))))))):=by
 cases p<;>rfl
theorem f16n2_eq{i o:Int}(hi:0≤i∧i≤4503599627370496000)(ho:0≤o∧o≤4503599627370496000){v:Nat}(hv:v≤1000000){a:Qd}{p:Option RW}(hp:AtP a.Rows v p){x:RW}(hx:at? a.Rows (v:Int)=some x):f16n2 i o (v:Int) a=some (bif gd1 p i o x then .norm (wr64 (i+x.In)) (wr64 (o+x.Out)) else .ret):=by
 have h4:f16n4 i o (v:Int) a x=some (.norm (!(nmB x.Account&&(nmB x.Ccy&&(decide (0≤x.In)&&(decide (0≤x.Out)&&!(decide (x.In=0)&&decide (x.Out=0)))))))):=by
  unfold f16n4;rw [f42_eq,f42_eq,ltNot x.In 0,ltNot x.Out 0];cases nmB x.Account<;>cases nmB x.Ccy<;>cases decide (0≤x.In)<;>cases decide (0≤x.Out)<;>cases decide (x.In=0)<;>cases decide (x.Out=0)<;>rfl
 have h6:f16n6 i o (v:Int) a x=some (.norm (!(prvB x p))):=by
  unfold f16n6;rcases hp with ⟨rfl,rfl⟩|⟨y,h0,ha,rfl⟩
  ·rw [decide_eq_false (by omega:¬0<((0:Nat):Int))]; rfl
  ·rw [decide_eq_true (by omega:0<(v:Int)),wrIn (n:=(v:Int)-1) (by omega) (by omega),ha];simp only [Option.bind_some,f29_eq,cond_true]; rfl
 unfold f16n2;rw [hx];simp only [Option.bind_some];unfold f16n3 f16n5;rw [h4,h6,wrIn (n:=4503599627370496000-i) (by omega) (by omega),wrIn (n:=4503599627370496000-o) (by omega) (by omega),ltNot (4503599627370496000-i) x.In,ltNot (4503599627370496000-o) x.Out];rw [gd1_prv];generalize prvB x p=g;cases nmB x.Account with
 | false=>rfl
 | true =>
  cases nmB x.Ccy with
  | false=>cases g<;>rfl
  | true =>
   cases g<;>cases decide (0≤x.In)<;>cases decide (0≤x.Out)<;>cases decide (x.In=0)<;>cases decide (x.Out=0)<;>cases decide (x.In≤4503599627370496000-i)<;>cases decide (x.Out≤4503599627370496000-o)<;>rfl
theorem f16n7_at{a:Qd}(ha:a.Rows.length≤900000):∀(l:List RW)(f v:Nat)(p:Option RW)(i o:Int),a.Rows.drop v=l→l.length<f→AtP a.Rows v p→(0≤i∧i≤4503599627370496000)→(0≤o∧o≤4503599627370496000) →
  f16n7 f a i o (v:Int)=some (bif goodL p i o l then .exit0 else .ret)
 | _,0,_,_,_,_,_,h,_,_,_=>absurd h (Nat.not_lt_zero _)
 | [],f+1,v,p,i,o,hd,_,_,_,_=>by
  have:=Qah hd;rw [f16n7,decide_eq_false (by omega),cond_false]; rfl
 | x::r,f+1,v,p,i,o,hd,hf,hp,hi,ho=>by
  obtain ⟨h1,h2,h3⟩:=dropAt hd;rw [List.length_cons] at hf;rw [f16n7,decide_eq_true (by omega),cond_true,f16n2_eq hi ho (by omega) hp h1,goodL];simp only [Option.bind_some];cases hg:gd1 p i o x with
  | false=>rfl
  | true =>
   have:=gd_in hg;simp only [cond_true,Bool.true_and];rw [wrIn (n:=i+x.In) (by omega) (by omega),wrIn (n:=o+x.Out) (by omega) (by omega),wrSucc (by omega)];exact f16n7_at ha r f (v+1) (some x) _ _ h3 (by omega) (AtP.succ h1) (by omega) (by omega)
theorem f16n11L_at{a:Qd}{k:Int}{y:RW}(hy:at? a.Rows k=some y):∀(l:List RW)(s v:Int),wr64 s=s→f16n11L k a l s v=some (.exit4 (wr64 (s+sm (pC y.Ccy) l)))
 | [],s,v,h=>by rw [f16n11L,sm,Int.add_zero,h]
 | x::r,s,v,h=>by
  rw [f16n11L,hy];simp only [Option.bind_some];rw [sm];unfold pC;cases seq x.Ccy y.Ccy with
  | true =>
   rw [cond_true,cond_true,f16n11L_at hy r _ _ (wr_wr _)];unfold pC;rw [wrL,Int.sub_eq_add_neg,Int.add_assoc,wrL]
   congr 3; omega
  | false =>
   rw [cond_false,cond_false,f16n11L_at hy r _ _ h];unfold pC;rw [Int.zero_add]
theorem f16n9_eq{a:Qd}(ha:a.Rows.length≤900000){k:Int}{y:RW}(hy:at? a.Rows k=some y):f16n9 k a=some (bif decide (wr64 (sm (pC y.Ccy) a.Rows)=0) then .norm else .ret):=by
 unfold f16n9 f16n10;rw [f16n11_run _ _ _ (Qbi (by omega)),f16n11L_at hy _ _ _ rfl,Int.zero_add];simp only [Option.bind_some];cases decide (wr64 (sm (pC y.Ccy) a.Rows)=0)<;>rfl
theorem f16n12_at{a:Qd}(ha:a.Rows.length≤900000):∀(l:List RW)(f v:Nat),a.Rows.drop v=l→l.length<f→f16n12 f a (v:Int)=some (bif l.all (fun x=>decide (wr64 (sm (pC x.Ccy) a.Rows)=0)) then .exit2 else .ret)
 | _,0,_,_,h=>absurd h (Nat.not_lt_zero _)
 | [],f+1,v,hd,_=>by
  have:=Qah hd;rw [f16n12,decide_eq_false (by omega),cond_false]; rfl
 | x::r,f+1,v,hd,hf=>by
  obtain ⟨h1,h2,h3⟩:=dropAt hd;rw [List.length_cons] at hf;rw [f16n12,decide_eq_true (by omega),cond_true,f16n9_eq ha h1,List.all_cons];cases decide (wr64 (sm (pC x.Ccy) a.Rows)=0) with
  | false=>rfl
  | true =>
   simp only [cond_true,Option.bind_some,Bool.true_and];rw [wrSucc (by omega)];exact f16n12_at ha r f (v+1) h3 (by omega)
theorem zero_all(l:List RW):zeroC l=l.all fun x=>decide (wr64 (sm (pC x.Ccy) l)=0):=by
 unfold zeroC;rw [bal_sum];unfold sumB;show (l.map tl).all _=_;rw [List.all_map]
 congr 1
 funext x
 show decide (wr64 (sC x.Ccy (l.map tl))=0)=_;rw [sC_rows]
theorem f16_eq{r:Qd}(h:r.Rows.length≤900000):f16 r=some (chkS r):=by
 unfold f16 f16n0 chkS;rw [ltNot r.From 0,ltNot r.To r.From,ltNot 100000 r.To,ltNot r.Known 0,ltNot 200 r.Known];cases decide (0≤r.From) with
 | false=>rfl
 | true =>
  cases decide (r.From≤r.To) with
  | false=>rfl
  | true =>
   cases decide (r.To≤100000) with
   | false=>rfl
   | true =>
    cases decide (0≤r.Known) with
    | false=>rfl
    | true =>
     cases decide (r.Known≤200) with
     | false=>rfl
     | true =>
      have e:=f16n7_at h r.Rows FUEL 0 none 0 0 rfl (Qaw (by omega)) (AtP.zero _) (by omega) (by omega);have e2:=f16n12_at h r.Rows FUEL 0 rfl (Qaw (by omega));rw [show ((0:Nat):Int)=0 from rfl] at e e2;unfold f16n1 f16n8;rw [e,e2,←zero_all];cases goodL none 0 0 r.Rows with
      | false=>rfl
      | true=>cases zeroC r.Rows<;>rfl

theorem f13n3L_at(a:Qd):∀(l m:List RW)(v:Int),RwS m→m.length+l.length≤400000→f13n3L a l m v=some (.exit0 (allW m (l.map negR)))
 | [],m,v,_,_=>rfl
 | x::r,m,v,hs,hl=>by
  rw [List.length_cons] at hl;rw [f13n3L,show Qa.mk x.Account x.Ccy (wr64 (0-x.In)) (wr64 (0-x.Out))=negR x from rfl,f38_eq hs (by omega)];simp only [Option.bind_some];have:=with_len m (negR x);exact f13n3L_at a r _ _ (with_sr hs) (by omega)
theorem f13n5L_at(bk:List RW):∀(l:List RW)(v:Int)(o:List RW),o.length+l.length≤900000→f13n5L bk l v o=some (.exit2 (o++l.filter nzR))
 | [],v,o,_=>by rw [f13n5L,List.filter_nil,List.append_nil]
 | x::r,v,o,hl=>by
  rw [List.length_cons] at hl;rw [f13n5L,f13n5L_at bk r _ o (by omega),f13n5L_at bk r _ (o++[x]) (by rw [List.length_append,List.length_singleton]; omega),req,Qas (by omega) (by omega),cond_true,List.filter_cons,List.append_assoc];unfold nzR;cases decide (x.In=0)<;>cases decide (x.Out=0)<;>rfl
theorem chk_sr{r:Qd}(h:chkS r=0):RwS r.Rows∧(∀z∈r.Rows,Rg64 z)∧0≤r.From∧r.From≤r.To∧r.To≤100000∧0≤r.Known∧r.Known≤200∧goodL none 0 0 r.Rows=true:=by
 unfold chkS at h;cases h1:(decide (0≤r.From)&&(decide (r.From≤r.To)&&decide (r.To≤100000))) with
 | false=>rw [h1] at h; cases h
 | true =>
  rw [h1,cond_true] at h;cases h2:(decide (0≤r.Known)&&decide (r.Known≤200)) with
  | false=>rw [h2] at h; cases h
  | true =>
   rw [h2,cond_true] at h;cases h3:goodL none 0 0 r.Rows with
   | false=>rw [h3] at h; cases h
   | true =>
    have hall:∀(l:List RW)(p:Option RW)(i o:Int),0≤i→0≤o→goodL p i o l=true→(∀y,p=some y→∀x∈l,ltR y x=true)∧RwS l∧∀z∈l,Rg64 z:=by
     intro l
     induction l with
     | nil=>intro p i o _ _ _; exact ⟨by simp,by simp,by simp⟩
     | cons x l ih =>
      intro p i o hi ho hg;rw [goodL,Bool.and_eq_true] at hg;have hin:=gd_in hg.1;obtain ⟨q1,q2,q3⟩:=ih (some x) _ _ (by omega) (by omega) hg.2;refine ⟨fun y e z hz=>?_,List.pairwise_cons.2 ⟨q1 x rfl,q2⟩,fun z hz=>?_⟩
      ·have hyx:ltR y x=true:=by
        have:=hg.1;unfold gd1 at this;rw [e] at this;simp only [Bool.and_eq_true] at this;exact this.2.2.1
       rcases List.mem_cons.1 hz with rfl | hz
       ·exact hyx
       ·exact swoR.tr hyx (q1 x rfl z hz)
      ·rcases List.mem_cons.1 hz with rfl | hz
       ·unfold Rg64; omega
       ·exact q3 z hz
    simp only [Bool.and_eq_true,decide_eq_true_eq] at h1 h2;obtain ⟨_,r2,r3⟩:=hall r.Rows none 0 0 (by omega) (by omega) h3;exact ⟨r2,r3,h1.1,h1.2.1,h1.2.2,h2.1,h2.2,rfl⟩
theorem f13_eq{a b:Qd}(ha:a.Rows.length≤100000)(hb:b.Rows.length≤100000):f13 a b=some ((chaS a b).2,(chaS a b).1):=by
 unfold f13 f13n0 chaS;rw [f16_eq (by omega),f16_eq (by omega)];simp only [Option.bind_some]
 by_cases h1:chkS a=0
 ·rw [decide_eq_true h1]
  by_cases h2:chkS b=0
  ·rw [decide_eq_true h2];cases decide (a.From=b.From) with
   | false=>rfl
   | true =>
    cases decide (a.To=b.To) with
    | false=>rfl
    | true =>
     have hs:=(chk_sr h2).1;have e1:f13n1 a b=some (.norm b.Rows):=by
      unfold f13n1;cases hb':b.Rows with
      | nil=>rfl
      | cons x r =>
       rw [hb'] at hb;show (bif false then _ else _)=_;rw [cond_false,req,Qas (by omega) (by omega)]; rfl
     have e2:f13n2 a b.Rows=some (.norm (allW b.Rows (a.Rows.map negR))):=by
      unfold f13n2;rw [f13n3_run _ _ (Qbi (by omega)),f13n3L_at a _ _ _ hs (by omega)]; rfl
     have hlen:=allW_len (a.Rows.map negR) b.Rows;rw [List.length_map] at hlen;have e3:f13n4 (allW b.Rows (a.Rows.map negR))=some (.norm (chgS a.Rows b.Rows)):=by
      unfold f13n4 chgS;rw [f13n5_run _ _ (Qbi (by omega)),f13n5L_at _ _ _ _ (by simp only [List.length_nil]; omega),all_id hs]; rfl
     simp only [cond_true];rw [e1];simp only [Option.bind_some];rw [e2];simp only [Option.bind_some];rw [e3]; rfl
  ·rw [decide_eq_false h2]; rfl
 ·rw [decide_eq_false h1]; rfl
end Go.Proofs.YtfeklaffeigilaaDoor
namespace Go.Proofs.YtfeklaffeigilaaDoor
set_option linter.unusedVariables false
set_option linter.unusedSimpArgs false
open Go.RowKit
def dvI:List Int→Int
 | []=>0
 | d::r=>d+10*dvI r
def dgs(l:List Int):Prop:=∀d∈l,0≤d∧d≤9
def Qce:List Int→List Int
 | []=>[]
 | d::r=>bif (Qce r).isEmpty&&decide (d=0) then [] else d::Qce r
theorem trim_snoc:∀(a:List Int)(x:Int),Qce (a++[x])=bif decide (x=0) then Qce a else a++[x]
 | [],x=>by
  show (bif true&&decide (x=0) then [] else [x])=_;cases decide (x=0)<;>rfl
 | d::r,x=>by
  rw [List.cons_append,Qce,trim_snoc r x];cases decide (x=0) with
  | true=>rfl
  | false =>
   rw [cond_false,cond_false];have:(r++[x]).isEmpty=false:=by cases r<;>rfl
   rw [this]; rfl
theorem trim_pre:∀l:List Int,Qce l=l.take (Qce l).length
 | []=>rfl
 | d::r=>by
  rw [Qce];cases (Qce r).isEmpty&&decide (d=0) with
  | true=>rfl
  | false=>rw [cond_false,List.length_cons,List.take_succ_cons,←trim_pre r]
theorem trim_len:∀l:List Int,(Qce l).length≤l.length
 | []=>Nat.le_refl _
 | d::r=>by
  have:=trim_len r;rw [Qce];cases (Qce r).isEmpty&&decide (d=0) with
  | true=>simp
  | false=>rw [cond_false,List.length_cons,List.length_cons]; omega
theorem trim_dv:∀l:List Int,dvI (Qce l)=dvI l
 | []=>rfl
 | d::r=>by
  have ih:=trim_dv r;rw [Qce];cases h:(Qce r).isEmpty&&decide (d=0) with
  | true =>
   rw [Bool.and_eq_true,decide_eq_true_eq] at h;have:Qce r=[]:=by simpa using h.1
   rw [this] at ih;rw [cond_true,dvI,dvI,←ih,h.2]; rfl
  | false=>rw [cond_false,dvI,dvI,ih]
def lst(l:List Int):Prop:=∀a x,l=a++[x]→x≠0
theorem trim_lst:∀l:List Int,lst (Qce l)
 | []=>fun a x h=>by cases a<;>cases h
 | d::r=>fun a x h=>by
  rw [Qce] at h;cases hc:(Qce r).isEmpty&&decide (d=0) with
  | true=>rw [hc] at h; cases a<;>cases h
  | false =>
   rw [hc,cond_false] at h;cases a with
   | nil =>
    obtain ⟨rfl,h2⟩:=List.cons.inj h;rw [show Qce r=[] from h2] at hc;simp at hc;exact hc
   | cons y a =>
    obtain ⟨_,h2⟩:=List.cons.inj h;exact trim_lst r a x h2
theorem dgs_take{l:List Int}(h:dgs l)(k:Nat):dgs (l.take k):=fun d hd=>h d (List.mem_of_mem_take hd)
theorem lst_pos:∀{l:List Int},dgs l→lst l→l≠[]→0<dvI l
 | [],_,_,h=>absurd rfl h
 | [d],h,k,_=>by
  have h1:=h d List.mem_cons_self;have h2:=k [] d rfl;show 0<d+10*0; omega
 | d::e::r,h,k,_=>by
  have h1:=h d List.mem_cons_self;have:=lst_pos (l:=e::r) (fun x hx=>h x (List.mem_cons_of_mem _ hx)) (fun a x hx=>k (d::a) x (by rw [hx]; rfl)) (by simp);rw [dvI]; omega
def chr(d:Int):UInt8:=UInt8.ofNat (48+d.toNat)
theorem dec_rev:∀{l:List Int},dgs l→lst l→l≠[]→Lib.decDigits (dvI l).toNat=l.reverse.map chr
 | [],_,_,h=>absurd rfl h
 | [d],h,k,_=>by
  have h1:=h d List.mem_cons_self;have e:dvI [d]=d:=by show d+10*0=d; omega
  rw [e,Lib.decDigits,dif_pos (by omega)]; rfl
 | d::e::r,h,k,_=>by
  have h1:=h d List.mem_cons_self;have hd:=fun x hx=>h x (List.mem_cons_of_mem d hx);have hk:lst (e::r):=fun a x hx=>k (d::a) x (by rw [hx]; rfl);have ih:=dec_rev (l:=e::r) hd hk (by simp);have hp:=lst_pos (l:=e::r) hd hk (by simp);rw [dvI,Lib.decDigits,dif_neg (by omega),show (d+10*dvI (e::r)).toNat / 10=(dvI (e::r)).toNat by omega,ih,show (d+10*dvI (e::r)).toNat % 10=d.toNat by omega,List.reverse_cons (a:=d),List.map_append];rfl
theorem at_get{l:List Int}{k:Nat}(h:k<l.length):at? l (k:Int)=some l[k]:=(dropAt (List.drop_eq_getElem_cons h)).1

theorem f75n1_at{l:List Int}(hl:l.length≤1000)(neg:Bool):∀(k f:Nat),k≤l.length→k<f→f75n1 f l neg (k:Int)=some (.exit0 ((Qce (l.take k)).length:Int))
 | _,0,_,h=>absurd h (Nat.not_lt_zero _)
 | 0,f+1,_,_=>by rw [f75n1,decide_eq_false (by omega:¬0<((0:Nat):Int)),cond_false]; rfl
 | k+1,f+1,hk,hf=>by
  have hk':k<l.length:=by omega
  have e:((k+1:Nat):Int)-1=(k:Int):=by omega
  rw [f75n1,decide_eq_true (by omega),cond_true,e,wrIn (n:=(k:Int)) (by omega) (by omega),at_get hk'];simp only [Option.bind_some];rw [f75n1_at hl neg k f (by omega) (by omega),List.take_succ_eq_append_getElem hk',trim_snoc];cases decide (l[k]=0) with
  | true=>rfl
  | false =>
   rw [cond_false,cond_false,List.length_append,List.length_take,List.length_singleton,Nat.min_eq_left (by omega)]
theorem g_chr{d:Int}(h:0≤d∧d≤9):wru8 (wr64 (48+d))=48+d:=by
 rw [wrIn (n:=48+d) (by omega) (by omega)];show IntKind.u8.wrap _=_;rw [IntKind.wrap_u8]; omega
theorem f75n4_at{l:List Int}(hd:dgs l):∀(k f:Nat)(out:List Int),k≤l.length→k<f→out.length+k≤5000→f75n4 f l ((k:Int)-1) out=some (.exit2 (out++(l.take k).reverse.map (48 + ·)))
 | _,0,_,_,h,_=>absurd h (Nat.not_lt_zero _)
 | 0,f+1,out,_,_,_=>by
  rw [f75n4,decide_eq_false (by omega),cond_false]; simp
 | k+1,f+1,out,hk,hf,hl=>by
  have hk':k<l.length:=by omega
  have e:((k+1:Nat):Int)-1=(k:Int):=by omega
  rw [f75n4,e,decide_eq_true (by omega),cond_true,at_get hk'];simp only [Option.bind_some];rw [req,Qas (by omega) (by omega),cond_true,g_chr (hd _ (List.getElem_mem hk')),wrIn (n:=(k:Int)-1) (by omega) (by omega),f75n4_at hd k f _ (by omega) (by omega) (by rw [List.length_append,List.length_singleton]; omega),List.take_succ_eq_append_getElem hk',List.reverse_append,List.map_append,List.append_assoc];rfl
theorem f75n1_neg(l:List Int)(neg:Bool)(k:Int):f75n2 l neg k=some (.norm (bif neg then [45] else [])):=by
 unfold f75n2; cases neg<;>rfl
theorem s_chr(pre l:List Int)(hd:dgs l):sOf (pre++l.reverse.map (48 + ·))=⟨(toB pre++l.reverse.map chr).toArray⟩:=by
 unfold sOf toB;rw [List.map_append,List.map_map]
 congr 3
 refine List.map_congr_left fun d hx=>?_;have:=hd d (List.mem_reverse.1 hx);show UInt8.ofNat (48+d).toNat=UInt8.ofNat (48+d.toNat)
 congr 1; omega
def txt(neg:Bool)(n:Int):ByteArray:=bif decide (n=0) then str_0 else ⟨((bif neg then [45] else [])++Lib.decDigits n.toNat).toArray⟩
theorem f75_eq{l:List Int}(hl:l.length≤1000)(hd:dgs l)(neg:Bool):f75 l neg=some (txt neg (dvI l)):=by
 unfold f75 f75n0;have e1:=f75n1_at hl neg l.length FUEL (Nat.le_refl _) (Qaw (by omega));rw [List.take_length] at e1;rw [e1];simp only [Option.bind_some];have hlen:=trim_len l;have hpre:=trim_pre l;have hdt:dgs (Qce l):=by rw [hpre]; exact dgs_take hd _
 unfold txt;rw [←trim_dv l]
 by_cases h0:Qce l=[]
 ·rw [h0]; rfl
 ·have hp:=lst_pos hdt (trim_lst l) h0;have hlp:0<(Qce l).length:=List.length_pos_iff.2 h0;rw [decide_eq_false (by omega:¬((Qce l).length:Int)=0),decide_eq_false (by omega:¬dvI (Qce l)=0),cond_false,cond_false,f75n1_neg];simp only [Option.bind_some];unfold f75n3;rw [wrIn (n:=((Qce l).length:Int)-1) (by omega) (by omega),f75n4_at hd _ FUEL _ hlen (Qaw (by omega)) (by cases neg<;>simp<;>omega),←hpre];simp only [Option.bind_some];rw [s_chr _ _ hdt,dec_rev hdt (trim_lst l) h0];cases neg<;>rfl

def digL:Nat→Nat→List Int
 | 0,_=>[]
 | k+1,n=>bif decide (n=0) then [] else ((n % 10:Nat):Int)::digL k (n / 10)
theorem dig_dv:∀(k n:Nat),n<10 ^ k→dvI (digL k n)=n∧dgs (digL k n)∧(digL k n).length≤k
 | 0,n,h=>by
  have:n=0:=by simpa using h
  subst this;exact ⟨rfl,fun d hd=>(by cases hd),Nat.le_refl _⟩
 | k+1,n,h=>by
  rw [Nat.pow_succ] at h;rw [digL]
  by_cases h0:n=0
  ·rw [decide_eq_true h0,cond_true];exact ⟨by rw [h0]; rfl,fun d hd=>(by cases hd),Nat.zero_le _⟩
  ·rw [decide_eq_false h0,cond_false];obtain ⟨h1,h2,h3⟩:=dig_dv k (n / 10) (by omega);refine ⟨by rw [dvI,h1]; omega,fun d hd=>?_,by rw [List.length_cons]; omega⟩;rcases List.mem_cons.1 hd with rfl | hd
   ·omega
   ·exact h2 d hd
theorem f73n1_at:∀(k n f:Nat)(out:List Int),n<10 ^ k→k<f→out.length+k≤1000→n≤9223372036854775807→f73n1 f (n:Int) out=some (.exit0 (out++digL k n))
 | _,_,0,_,_,h,_,_=>absurd h (Nat.not_lt_zero _)
 | 0,n,f+1,out,h,_,_,_=>by
  have:n=0:=by simpa using h
  subst this;rw [f73n1,decide_eq_false (by omega),cond_false,digL,List.append_nil]
 | k+1,n,f+1,out,h,hf,hl,hn=>by
  rw [Nat.pow_succ] at h;rw [f73n1,digL]
  by_cases h0:n=0
  ·rw [decide_eq_true h0,decide_eq_false (by omega),cond_false,cond_true,List.append_nil]
  ·rw [decide_eq_false h0,decide_eq_true (by omega),cond_true,cond_false,req,Qas (by omega) (by omega),cond_true];have e1:Int.tdiv (n:Int) 10=((n / 10:Nat):Int):=by rw [Int.tdiv_eq_ediv_of_nonneg (by omega)]; omega
   have e2:Int.tmod (n:Int) 10=((n % 10:Nat):Int):=by rw [Int.tmod_eq_emod_of_nonneg (by omega)]; omega
   rw [e1,e2,wrIn (n:=((n / 10:Nat):Int)) (by omega) (by omega),f73n1_at k (n / 10) f _ (by omega) (by omega) (by rw [List.length_append,List.length_singleton]; omega) (by omega),List.append_assoc];rfl
theorem pow25:(9223372036854775809:Nat)<10 ^ 25:=by decide
theorem f73_eq{n:Nat}(hn:n≤9223372036854775807):f73 (n:Int)=some (txt false n):=by
 have hp:=pow25;obtain ⟨h1,h2,h3⟩:=dig_dv 25 n (by omega);unfold f73 f73n0;rw [f73n1_at 25 n FUEL [] (by omega) (Qaw (by omega)) (by simp) hn,List.nil_append];simp only [Option.bind_some];rw [f75_eq (by omega) h2,h1];rfl

theorem chr_nat{d:Int}(h:0≤d∧d≤9):((chr d).toNat:Int)=48+d:=by
 unfold chr;rw [UInt8.toNat_ofNat'];omega
theorem f92n6_at{s:ByteArray}{l:List Int}(hs:s.data.toList=l.reverse.map chr)(hd:dgs l)(hl:l.length≤1000)(neg:Bool):∀(k f:Nat),k≤l.length→k<f→f92n6 f s neg ((k:Int)-1) (l.take (l.length-k))=some (.exit0 l)
 | _,0,_,h=>absurd h (Nat.not_lt_zero _)
 | 0,f+1,_,_=>by
  rw [f92n6,decide_eq_false (by omega),cond_false,Nat.sub_zero,List.take_length]
 | k+1,f+1,hk,hf=>by
  have e:((k+1:Nat):Int)-1=(k:Int):=by omega
  have hk2:l.length-(k+1)<l.length:=by omega
  have hx:at? s.data.toList (k:Int)=some (chr l[l.length-(k+1)]):=by
   have hlen:k<s.data.toList.length:=by rw [hs]; simp; omega
   have h1:=(dropAt (List.drop_eq_getElem_cons hlen)).1;rw [h1]
   congr 1
   have:s.data.toList[k]=(l.reverse.map chr)[k]'(by simp; omega):=by congr 1
   rw [this,List.getElem_map,List.getElem_reverse]
   congr 2
   omega
  have hr:=hd _ (List.getElem_mem hk2);have hc:=chr_nat hr;rw [f92n6,e,decide_eq_true (by omega),cond_true,hx];simp only [Option.bind_some];rw [hc,decide_eq_false (by omega),decide_eq_false (by omega),cond_false,cond_false,req,Qas (by rw [List.length_take]; omega) (by omega),cond_true];have e8:wr64 (wru8 (48+l[l.length-(k+1)]-48))=l[l.length-(k+1)]:=by
   rw [show 48+l[l.length-(k+1)]-48=l[l.length-(k+1)] by omega];have:wru8 l[l.length-(k+1)]=l[l.length-(k+1)]:=by
    show IntKind.u8.wrap _=_;rw [IntKind.wrap_u8]; omega
   rw [this,wrIn (by omega) (by omega)]
  rw [e8,wrIn (n:=(k:Int)-1) (by omega) (by omega)];have ih:=f92n6_at hs hd hl neg k f (by omega) (by omega);have et:l.take (l.length-k)=l.take (l.length-(k+1))++[l[l.length-(k+1)]]:=by
   rw [←List.take_succ_eq_append_getElem hk2]
   congr 1; omega
  rw [←et]; exact ih
theorem f92_eq{l:List Int}(hd:dgs l)(hl:l.length≤1000)(h0:l≠[])(hz:lst l∨l.length=1):f92 ⟨(l.reverse.map chr).toArray⟩=some (l,false,true):=by
 obtain ⟨a,x,hax⟩:∃a x,l=a++[x]:=⟨l.dropLast,l.getLast h0,(List.dropLast_concat_getLast h0).symm⟩;have hr:l.reverse.map chr=chr x::a.reverse.map chr:=by rw [hax]; simp
 have hx:=hd x (by rw [hax]; simp);have hc:=chr_nat hx;have hlen:(l.reverse.map chr).length=l.length:=by simp
 have hsz:(⟨(l.reverse.map chr).toArray⟩:ByteArray).size=l.length:=by show (l.reverse.map chr).length=_; exact hlen
 have hpos:0<l.length:=List.length_pos_iff.2 h0;have hat:at? (⟨(l.reverse.map chr).toArray⟩:ByteArray).data.toList 0=some (chr x):=by
  show at? (l.reverse.map chr) 0=_;rw [hr]; rfl
 have e1:f92n1 ⟨(l.reverse.map chr).toArray⟩=some (.norm false):=by
  unfold f92n1;rw [hsz,decide_eq_true (by omega),cond_true,hat];simp only [Option.bind_some];rw [hc,decide_eq_false (by omega)]
 have e2:f92n2 ⟨(l.reverse.map chr).toArray⟩ false=some (.norm ⟨(l.reverse.map chr).toArray⟩):=rfl;have e4:f92n4 ⟨(l.reverse.map chr).toArray⟩ false=some (.norm false):=by
  unfold f92n4;rw [hsz,decide_eq_false (by omega),cond_false,hat];simp only [Option.bind_some];rw [hc]
  by_cases hx0:x=0
  ·rw [decide_eq_true (by omega),cond_true];rcases hz with hz | hz
   ·exact absurd hx0 (hz a x hax)
   ·rw [hz]; rfl
  ·rw [decide_eq_false (by omega)]; rfl
 have e6:=f92n6_at (s:=⟨(l.reverse.map chr).toArray⟩) (l:=l) rfl hd hl false l.length FUEL (Nat.le_refl _) (Qaw (by omega));rw [Nat.sub_self,List.take_zero] at e6;unfold f92 f92n0;rw [e1];simp only [Option.bind_some];rw [e2];simp only [Option.bind_some];unfold f92n3 f92n5;rw [e4,hsz,wrIn (n:=(l.length:Int)-1) (by omega) (by omega),e6];rfl

def incL:Int→List Int→List Int
 | c,[]=>[c]
 | c,d::r=>((d+c) % 10)::incL ((d+c) / 10) r
theorem inc_dv:∀(l:List Int)(c:Int),dgs l→0≤c∧c≤1→dvI (incL c l)=dvI l+c∧dgs (incL c l)∧(incL c l).length=l.length+1
 | [],c,_,hc=>⟨by show c+10*0=0+c; omega,fun d hd=>by rw [List.mem_singleton.1 hd]; omega,rfl⟩
 | d::r,c,h,hc=>by
  have h1:=h d List.mem_cons_self;obtain ⟨i1,i2,i3⟩:=inc_dv r ((d+c) / 10) (fun x hx=>h x (List.mem_cons_of_mem _ hx)) (by omega);refine ⟨by rw [incL,dvI,dvI,i1]; omega,fun y hy=>?_,by rw [incL,List.length_cons,i3,List.length_cons]⟩;rcases List.mem_cons.1 hy with rfl | hy
  ·omega
  ·exact i2 y hy
theorem f93_in{l:List Int}{k:Nat}(h:k<l.length):f93 l (k:Int)=some l[k]:=by
 unfold f93 f93n0;rw [decide_eq_true (by omega),cond_true,at_get h]; rfl
theorem f93_out{l:List Int}{k:Nat}(h:l.length≤k):f93 l (k:Int)=some 0:=by
 unfold f93 f93n0;rw [decide_eq_false (by omega)]; rfl
theorem mx_len{l:List Int}(h:1≤l.length):mxI (l.length:Int) (([1]:List Int).length:Int)=l.length:=mxI_ge (by simp; omega)
theorem f76n2_at{l:List Int}(hl:1≤l.length)(hl2:l.length≤1000)(hd:dgs l):∀(r:List Int)(f k:Nat)(c:Int)(out:List Int),l.drop k=r→r.length+1<f→1≤k→k≤l.length→(0≤c∧c≤1)→out.length+r.length≤2000→f76n2 f l [1] c (k:Int) out=some (.exit0 (out++incL c r))
 | _,0,_,_,_,_,h,_,_,_,_=>absurd h (Nat.not_lt_zero _)
 | [],f+1,k,c,out,hdr,hf,h1,hk,hc,ho=>by
  have:=Qah hdr;have ek:k=l.length:=by omega
  simp only [List.length_nil] at hf ho;obtain ⟨f,rfl⟩:∃g,f=g+1:=⟨f-1,by omega⟩;rw [f76n2,mx_len hl,decide_eq_true (by omega),cond_true,f93_out (by omega),f93_out (l:=[1]) (by simpa using h1)];simp only [Option.bind_some];rw [req,Qas (by omega) (by omega),cond_true,f76n2,mx_len hl,wrSucc (by omega),decide_eq_false (by omega),cond_false];have e:Int.tmod (wr64 (wr64 (0+0)+c)) 10=c:=by
   rw [show wr64 (0+0)=0 from rfl,Int.zero_add,wrIn (by omega) (by omega),Int.tmod_eq_emod_of_nonneg (by omega)]; omega
  rw [e]; rfl
 | d::r,f+1,k,c,out,hdr,hf,h1,hk,hc,ho=>by
  obtain ⟨ha,hk',hd'⟩:=dropAt hdr;rw [List.length_cons] at hf ho;have hdd:l[k]=d:=by
   have:=List.drop_eq_getElem_cons hk';rw [hdr] at this;exact (List.cons.inj this).1.symm
  have hr:=hd d (by rw [←hdd]; exact List.getElem_mem hk');rw [f76n2,mx_len hl,decide_eq_true (by omega),cond_true,f93_in hk',f93_out (l:=[1]) (by simpa using h1),hdd];simp only [Option.bind_some];have e:wr64 (wr64 (d+0)+c)=d+c:=by
   rw [Int.add_zero,wrIn (n:=d) (by omega) (by omega),wrIn (by omega) (by omega)]
  rw [e,Int.tdiv_eq_ediv_of_nonneg (by omega),Int.tmod_eq_emod_of_nonneg (by omega),req,Qas (by omega) (by omega),cond_true,wrSucc (by omega),wrIn (n:=(d+c) / 10) (by omega) (by omega)];rw [f76n2_at hl hl2 hd r f (k+1) _ _ hd' (by omega) (by omega) (by omega) (by omega) (by rw [List.length_append,List.length_singleton]; omega),List.append_assoc];rfl
theorem f76_eq{l:List Int}(hl:1≤l.length)(hl2:l.length≤1000)(hd:dgs l):f76 l [1]=some (incL 1 l):=by
 match l,hl with
 | d::r,_ =>
  have hr:=hd d List.mem_cons_self;obtain ⟨f,hf⟩:∃f,FUEL=f+1:=⟨FUEL-1,by have:=Qaw (n:=1) (by omega); omega⟩;rw [List.length_cons] at hl2;have hff:r.length+1<f:=by have:=Qaw (n:=r.length+2) (by omega); omega
  unfold f76 f76n0 f76n1;rw [hf,f76n2,mx_len (by simp),decide_eq_true (by omega),cond_true];have e1:f93 (d::r) 0=some d:=by have:=f93_in (l:=d::r) (k:=0) (by simp); exact this
  have e2:f93 [1] 0=some 1:=by have:=f93_in (l:=[1]) (k:=0) (by simp); exact this
  rw [e1,e2];simp only [Option.bind_some];have e:wr64 (wr64 (d+1)+0)=d+1:=by
   rw [Int.add_zero,wrIn (n:=d+1) (by omega) (by omega),wrIn (by omega) (by omega)]
  rw [e,Int.tdiv_eq_ediv_of_nonneg (by omega),Int.tmod_eq_emod_of_nonneg (by omega),req,Qas (by simp) (by omega),cond_true,show wr64 (0+1)=((1:Nat):Int) from rfl,wrIn (n:=(d+1) / 10) (by omega) (by omega)];rw [f76n2_at (l:=d::r) (by simp) (by simp; omega) hd r f 1 _ _ rfl hff (Nat.le_refl _) (by simp) (by omega) (by simp; omega)];rfl

theorem txt_nat{n:Nat} : txt false n=⟨(Lib.decDigits n).toArray⟩:=by
 unfold txt
 by_cases h:n=0
 ·subst h;have:Lib.decDigits 0=[48]:=by rw [Lib.decDigits,dif_pos (by decide)]; rfl
  rw [this]; rfl
 ·rw [decide_eq_false (by omega),cond_false,Int.toNat_natCast]; rfl
theorem txt_digs{n:Nat}(hn:n≤9223372036854775808):∃l,dgs l∧l.length≤25∧l≠[]∧(lst l∨l.length=1)∧dvI l=n∧txt false n=⟨(l.reverse.map chr).toArray⟩:=by
 have hp:=pow25;obtain ⟨h1,h2,h3⟩:=dig_dv 25 n (by omega)
 by_cases h:n=0
 ·subst h;exact ⟨[0],fun d hd=>by rw [List.mem_singleton.1 hd]; omega,by simp,by simp,.inr rfl,rfl,rfl⟩
 ·have hne:Qce (digL 25 n)≠[]:=fun e=>by
   have:=trim_dv (digL 25 n);rw [e,h1] at this;have:(0:Int)=n:=this;omega
  have hd:dgs (Qce (digL 25 n)):=by rw [trim_pre]; exact dgs_take h2 _
  have hv:dvI (Qce (digL 25 n))=n:=by rw [trim_dv,h1]
  refine ⟨Qce (digL 25 n),hd,Nat.le_trans (trim_len _) h3,hne,.inl (trim_lst _),hv,?_⟩;have:=dec_rev hd (trim_lst _) hne;rw [hv,Int.toNat_natCast] at this;rw [txt_nat,this]
theorem f58_eq{n:Int}(h0:-9223372036854775808≤n)(h1:n≤9223372036854775807):f58 n=some (Qz n):=by
 unfold f58 f58n0 Qz Lib.itoa
 by_cases hn:0≤n
 ·obtain ⟨k,rfl⟩:∃k:Nat,n=k:=⟨n.toNat,by omega⟩;rw [decide_eq_true hn,cond_true,f73_eq (by omega),if_neg (by omega),txt_nat,Int.toNat_natCast];rfl
 ·obtain ⟨k,hk⟩:∃k:Nat,n+1 = -(k:Int):=⟨(-(n+1)).toNat,by omega⟩;have hkb:k≤9223372036854775807:=by omega
  rw [decide_eq_false hn,cond_false,if_pos (by omega),wrIn (n:=n+1) (by omega) (by omega),hk,show (0:Int) - -(k:Int)=k by omega,wrIn (n:=(k:Int)) (by omega) (by omega),f73_eq hkb];simp only [Option.bind_some];obtain ⟨l,d1,d2,d3,d4,d5,d6⟩:=txt_digs (n:=k) (by omega);have hlp:1≤l.length:=List.length_pos_iff.2 d3;unfold f77 f77n0;rw [d6,f92_eq d1 (by omega) d3 d4];simp only [Option.bind_some];rw [f76_eq hlp (by omega) d1];obtain ⟨i1,i2,i3⟩:=inc_dv l 1 d1 (by omega);simp only [Option.bind_some];rw [f75_eq (by omega) i2,i1,d5];simp only [Option.bind_some];obtain ⟨q,e1,e2,e3,e4,e5,e6⟩:=txt_digs (n:=k+1) (by omega);have ek:(k:Int)+1=((k+1:Nat):Int):=by omega
  unfold f74 f74n0;rw [ek,e6,f92_eq e1 (by omega) e3 e4];simp only [Option.bind_some];rw [f75_eq (by omega) e1,e5];simp only [Option.bind_some];unfold txt;rw [decide_eq_false (by omega:¬((k+1:Nat):Int)=0),Int.toNat_natCast,show n.natAbs=k+1 by omega];rfl
theorem f35_eq{n:Int}(h0:-9223372036854775808≤n)(h1:n≤9223372036854775807):f35 n=some (Qz n):=by
 unfold f35 f35n0;rw [f58_eq h0 h1]; rfl
theorem Qbj{n:Int}(h0:-9223372036854775808≤n)(h1:n≤9223372036854775807):(Qz n).size≤30:=by
 have h:∀k:Nat,k≤9223372036854775808→(Lib.decDigits k).length≤25:=fun k hk=>by
  obtain ⟨l,_,d2,_,_,_,d6⟩:=txt_digs (n:=k) hk;have:=congrArg (fun s:ByteArray=>s.data.toList.length) d6;rw [txt_nat] at this;have e:(Lib.decDigits k).length=(l.reverse.map chr).length:=this;rw [e]; simpa using d2
 show (Lib.itoa n).length≤30;unfold Lib.itoa
 by_cases hn:n<0
 ·rw [if_pos hn,List.length_cons];have:=h n.natAbs (by omega);omega
 ·rw [if_neg hn];have:=h n.toNat (by omega);omega
end Go.Proofs.YtfeklaffeigilaaDoor
namespace Go.Proofs.YtfeklaffeigilaaDoor
set_option linter.unusedVariables false
set_option linter.unusedSimpArgs false
open Go.RowKit
theorem Qav(a b:ByteArray):(scat a b).size=a.size+b.size:=by
 show (a.data.toList++b.data.toList).length=_;rw [List.length_append]; rfl
theorem ba_ext{a b:ByteArray}(h:a.data.toList=b.data.toList):a=b:=by
 cases a; cases b
 congr 1
 exact Array.toList_inj.1 h
theorem scat_assoc(a b c:ByteArray):scat (scat a b) c=scat a (scat b c):=by
 refine ba_ext ?_;show (a.data.toList++b.data.toList)++c.data.toList=a.data.toList++(b.data.toList++c.data.toList);rw [List.append_assoc]
theorem scat_nil(a:ByteArray):scat ⟨#[]⟩ a=a:=ba_ext rfl

def tot:List ByteArray→Nat
 | []=>0
 | x::r=>x.size+tot r
def jn(acc:ByteArray):List ByteArray→ByteArray
 | []=>acc
 | y::r=>jn (scat (scat acc Ql) y) r
theorem jn_size:∀(l:List ByteArray)(acc:ByteArray),(jn acc l).size=acc.size+tot l+l.length
 | [],acc=>rfl
 | y::r,acc=>by
  rw [jn,jn_size r,Qav,Qav,tot,List.length_cons];have:Ql.size=1:=rfl;omega
theorem wm_eq{a b:ByteArray}(h:a.size+b.size≤10000000):wm32 a b=some (scat a b):=by
 unfold wm32;rw [decide_eq_true (by omega)]; rfl
theorem f33n5L_at(bh:List ByteArray):∀(l:List ByteArray)(v:Int)(acc:ByteArray),acc.size+tot l+l.length≤1000000→f33n5L Ql bh l v acc=some (.exit3 (jn acc l))
 | [],v,acc,_=>rfl
 | y::r,v,acc,h=>by
  have h1:Ql.size=1:=rfl;rw [tot,List.length_cons] at h;rw [f33n5L,wm_eq (by omega)];simp only [Option.bind_some];rw [wm_eq (by rw [Qav]; omega)];simp only [Option.bind_some];rw [f33n5L_at bh r _ _ (by rw [Qav,Qav]; omega)]; rfl
theorem f33n3L_at(bh:List ByteArray):∀(l:List ByteArray)(s v:Int),0≤s→s+tot l≤10000000→f33n3L bh Ql l s v=some (.exit1 (s+tot l))
 | [],s,v,_,_=>by rw [f33n3L,tot]; simp
 | y::r,s,v,h0,h=>by
  rw [tot] at h;rw [f33n3L,wrIn (n:=9223372036854775807-s) (by omega) (by omega),decide_eq_false (by omega),cond_false,wrIn (n:=s+(y.size:Int)) (by omega) (by omega),f33n3L_at bh r _ _ (by omega) (by omega),tot]
  congr 2; omega
theorem f33_eq{x y:ByteArray}{r:List ByteArray}(h:tot (x::y::r)+r.length≤500000):f33 (x::y::r) Ql=some (jn x (y::r)):=by
 have h1:Ql.size=1:=rfl;have hlen:((x::y::r).length:Int)=r.length+2:=by simp; omega
 unfold f33 f33n0;rw [hlen,decide_eq_false (by omega),decide_eq_false (by omega),cond_false,cond_false];have e1:f33n1 (x::y::r) Ql=some (.norm (r.length+1)):=by
  unfold f33n1;rw [hlen,h1,show (r.length:Int)+2-1=r.length+1 by omega,wrIn (n:=(r.length:Int)+1) (by omega) (by omega),decide_eq_true (by omega:(0:Int)<((1:Nat):Int)),cond_true,req,decide_eq_false (by omega),Bool.not_false,cond_true,Int.tdiv_eq_ediv_of_nonneg (by omega)];have hd:9223372036854775807 / ((r.length:Int)+1)≥1000000:=by
   rw [ge_iff_le,Int.le_ediv_iff_mul_le (by omega)]; omega
  have hd2:9223372036854775807 / ((r.length:Int)+1)≤9223372036854775807:=Int.ediv_le_self _ (by omega);rw [wrIn (n:=9223372036854775807 / ((r.length:Int)+1)) (by omega) (by omega),decide_eq_false (by omega),cond_false];have:((1:Nat):Int)*((r.length:Int)+1)=r.length+1:=by omega
  rw [this,wrIn (n:=(r.length:Int)+1) (by omega) (by omega),Int.zero_add,wrIn (by omega) (by omega)]
 have e2:f33n2 (x::y::r) Ql (r.length+1)=some (.norm (r.length+1+tot (x::y::r))):=by
  unfold f33n2;rw [f33n3_run _ _ _ (Qbi (by simp; omega)),f33n3L_at _ _ _ _ (by omega) (by omega)]; rfl
 rw [e1];simp only [Option.bind_some];rw [e2];simp only [Option.bind_some];have e3:wr57 (r.length+1+tot (x::y::r))=some ⟨#[]⟩:=by
  unfold wr57;rw [decide_eq_true (by omega),decide_eq_true (by omega)]; rfl
 rw [e3];have ht:tot (x::y::r)=x.size+tot (y::r):=rfl;have hy:tot (y::r)=y.size+tot r:=rfl;simp only [Option.bind_some];have e0:at? (x::y::r) 0=some x:=rfl;rw [e0];simp only [Option.bind_some];rw [wm_eq (by show 0+x.size≤_; omega),scat_nil];simp only [Option.bind_some];have e4:f33n4 (x::y::r) Ql x=some (.norm (jn x (y::r))):=by
  unfold f33n4;have hc:cutB 1 ((x::y::r).length:Int) (x::y::r).length=true:=by
   simp only [cutB,decide_eq_true_eq,List.length_cons]; omega
  rw [hc,req,cond_true,f33n5_run _ _ _ (Qbi (by show (y::r).length≤_; rw [List.length_cons]; omega))];show ((f33n5L Ql (x::y::r) (y::r) 0 x).bind _)=_;rw [f33n5L_at _ _ _ _ (by rw [List.length_cons]; omega)]; rfl
 rw [e4];simp only [Option.bind_some];have e5:wg34 (jn x (y::r))=some (jn x (y::r)):=by
  unfold wg34;rw [decide_eq_true (by rw [jn_size,List.length_cons]; omega)]; rfl
 rw [e5]; rfl

theorem ita_eq{n:Int}(h:-9223372036854775808≤n∧n≤9223372036854775807):ita31 n=some (Qz n):=by
 unfold ita31;rw [decide_eq_true h.1,decide_eq_true h.2]; rfl
theorem f30r1n2L_at(bf:List Int):∀(l:List Int)(v:Int)(o:List ByteArray),(∀n∈l,-9223372036854775808≤n∧n≤9223372036854775807)→o.length+l.length≤1000→f30r1n2L bf l v o=some (.exit0 (o++l.map Qz))
 | [],v,o,_,_=>by rw [f30r1n2L,List.map_nil,List.append_nil]
 | n::r,v,o,h,hl=>by
  rw [List.length_cons] at hl;rw [f30r1n2L,ita_eq (h n List.mem_cons_self)];simp only [Option.bind_some];rw [req,Qas (by omega) (by omega),cond_true,f30r1n2L_at bf r _ _ (fun m hm=>h m (List.mem_cons_of_mem _ hm)) (by rw [List.length_append,List.length_singleton]; omega),List.append_assoc]; rfl
theorem f30r2n2L_at(bf:List Int)(bb:ByteArray):∀(l:List Int)(v:Int)(o:List ByteArray),(∀n∈l,-9223372036854775808≤n∧n≤9223372036854775807)→o.length+l.length≤1000→f30r2n2L bf bb l v o=some (.exit0 (o++l.map Qz))
 | [],v,o,_,_=>by rw [f30r2n2L,List.map_nil,List.append_nil]
 | n::r,v,o,h,hl=>by
  rw [List.length_cons] at hl;rw [f30r2n2L,ita_eq (h n List.mem_cons_self)];simp only [Option.bind_some];rw [req,Qas (by omega) (by omega),cond_true,f30r2n2L_at bf bb r _ _ (fun m hm=>h m (List.mem_cons_of_mem _ hm)) (by rw [List.length_append,List.length_singleton]; omega),List.append_assoc]; rfl
def i64(n:Int):Prop:=-9223372036854775808≤n∧n≤9223372036854775807
def hdS(a b c:Int):ByteArray:=scat (jn Qao [Qz a,Qz b,Qz c]) Qbh
def rwT(x:RW):ByteArray:=scat (jn x.Account [x.Ccy,Qz x.In,Qz x.Out,Qz (wr64 (x.In-x.Out))]) Qbh
theorem f30r1_eq{a b c:Int}(ha:i64 a)(hb:i64 b)(hc:i64 c):f30r1 [Qao] [a,b,c]=some (hdS a b c):=by
 have la:=Qbj ha.1 ha.2;have lb:=Qbj hb.1 hb.2;have lc:=Qbj hc.1 hc.2;have hr:Qao.size=6:=rfl;have hn:Qbh.size=1:=rfl;unfold f30r1 f30r1n0 f30r1n1;rw [f30r1n2_run _ _ (Qbi (by simp)),f30r1n2L_at _ _ _ _ (fun n hm=>by
  simp only [List.mem_cons,List.not_mem_nil,or_false] at hm;rcases hm with rfl | rfl | rfl
  ·exact ha
  ·exact hb
  ·exact hc) (by simp)]
 simp only [Option.bind_some];have ht:tot [Qao,Qz a,Qz b,Qz c]=6+((Qz a).size+((Qz b).size+((Qz c).size+0))):=rfl;have hj:(jn Qao [Qz a,Qz b,Qz c]).size=6+((Qz a).size+((Qz b).size+((Qz c).size+0)))+3:=by
  rw [jn_size,hr]; rfl
 show ((f33 [Qao,Qz a,Qz b,Qz c] Ql).bind _).bind _=_;rw [f33_eq (by rw [ht]; simp only [List.length_cons,List.length_nil]; omega)];simp only [Option.bind_some];rw [req,decide_eq_true (by omega),cond_true];have e:wn32 (scat (jn Qao [Qz a,Qz b,Qz c]) Qbh)=some (scat (jn Qao [Qz a,Qz b,Qz c]) Qbh):=by
  unfold wn32;rw [Qav,decide_eq_true (by omega),decide_eq_true (by omega)]; rfl
 rw [e]; rfl
theorem row_len{x:RW}(h:Rg64 x)(ha:x.Account.size≤300)(hc:x.Ccy.size≤300):(rwT x).size≤700∧tot [x.Account,x.Ccy,Qz x.In,Qz x.Out,Qz (wr64 (x.In-x.Out))]≤695∧(jn x.Account [x.Ccy,Qz x.In,Qz x.Out,Qz (wr64 (x.In-x.Out))]).size≤699:=by
 have hd:=wr_rng (x.In-x.Out);have l1:=Qbj h.1 h.2.1;have l2:=Qbj h.2.2.1 h.2.2.2;have l3:=Qbj hd.1 hd.2;have hn:Qbh.size=1:=rfl;have ht:tot [x.Account,x.Ccy,Qz x.In,Qz x.Out,Qz (wr64 (x.In-x.Out))]=x.Account.size+(x.Ccy.size+((Qz x.In).size+((Qz x.Out).size+((Qz (wr64 (x.In-x.Out))).size+0)))):=rfl;have ht2:tot [x.Ccy,Qz x.In,Qz x.Out,Qz (wr64 (x.In-x.Out))]=x.Ccy.size+((Qz x.In).size+((Qz x.Out).size+((Qz (wr64 (x.In-x.Out))).size+0))):=rfl;have hj:(jn x.Account [x.Ccy,Qz x.In,Qz x.Out,Qz (wr64 (x.In-x.Out))]).size=x.Account.size+tot [x.Ccy,Qz x.In,Qz x.Out,Qz (wr64 (x.In-x.Out))]+4:=by
  rw [jn_size]; rfl
 refine ⟨?_,by rw [ht]; omega,by rw [hj,ht2]; omega⟩;unfold rwT;rw [Qav,hj,ht2,hn]; omega
theorem f30r2_eq{x:RW}(h:Rg64 x)(ha:x.Account.size≤300)(hc:x.Ccy.size≤300){b:ByteArray}(hb:b.size≤1000000):f30r2 [x.Account,x.Ccy] [x.In,x.Out,wr64 (x.In-x.Out)] b=some (scat b (rwT x)):=by
 have hd:=wr_rng (x.In-x.Out);obtain ⟨q1,q2,q3⟩:=row_len h ha hc;have hn:Qbh.size=1:=rfl;unfold f30r2 f30r2n0 f30r2n1;rw [f30r2n2_run _ _ _ (Qbi (by simp)),f30r2n2L_at _ _ _ _ _ (fun n hm=>by
  simp only [List.mem_cons,List.not_mem_nil,or_false] at hm;rcases hm with rfl | rfl | rfl
  ·exact ⟨h.1,h.2.1⟩
  ·exact ⟨h.2.2.1,h.2.2.2⟩
  ·exact hd) (by simp)]
 simp only [Option.bind_some];show ((f33 [x.Account,x.Ccy,Qz x.In,Qz x.Out,Qz (wr64 (x.In-x.Out))] Ql).bind _).bind _=_;rw [f33_eq (by simp only [List.length_cons,List.length_nil]; omega)];simp only [Option.bind_some];rw [req,decide_eq_true (by omega),cond_true,wm_eq (by rw [Qav]; omega)]; rfl

def Sz(x:RW):Prop:=Rg64 x∧x.Account.size≤300∧x.Ccy.size≤300
def rwsT(b:ByteArray):List RW→ByteArray
 | []=>b
 | x::r=>rwsT (scat b (rwT x)) r
theorem f10n2L_at(a:Qd):∀(l:List RW)(v:Int)(b:ByteArray),(∀x∈l,Sz x)→b.size+700*l.length≤1000000→f10n2L a l v b=some (.exit0 (rwsT b l))
 | [],v,b,_,_=>rfl
 | x::r,v,b,h,hl=>by
  rw [List.length_cons] at hl;obtain ⟨h1,h2,h3⟩:=h x List.mem_cons_self;have hx:=(row_len h1 h2 h3).1;rw [f10n2L,f30r2_eq h1 h2 h3 (by omega)];simp only [Option.bind_some];exact f10n2L_at a r _ _ (fun y hy=>h y (List.mem_cons_of_mem _ hy)) (by rw [Qav]; omega)
theorem row_same(b:ByteArray)(x:RW):scat b (rwT x)=scat (scat (scat (scat (scat (scat (scat (scat (scat (scat b x.Account) Ql) x.Ccy) Ql) (Qz x.In)) Ql) (Qz x.Out)) Ql) (Qz (wr64 (x.In-x.Out)))) (sOf [10]):=by
 unfold rwT;have:sOf [10]=Qbh:=rfl;rw [this];simp only [jn,scat_assoc]
theorem f11n2L_at(a:Qd):∀(l:List RW)(v:Int)(b:ByteArray),(∀x∈l,Sz x)→b.size+700*l.length≤1000000→f11n2L a l b v=some (.exit0 (rwsT b l))
 | [],v,b,_,_=>rfl
 | x::r,v,b,h,hl=>by
  rw [List.length_cons] at hl;obtain ⟨h1,h2,h3⟩:=h x List.mem_cons_self;have hx:=(row_len h1 h2 h3).1;have hd:=wr_rng (x.In-x.Out);have l1:=Qbj h1.1 h1.2.1;have l2:=Qbj h1.2.2.1 h1.2.2.2;have l3:=Qbj hd.1 hd.2;have s1:Ql.size=1:=rfl;have s2:(sOf [10]).size=1:=rfl;rw [f11n2L,f35_eq h1.1 h1.2.1,f35_eq h1.2.2.1 h1.2.2.2,f35_eq hd.1 hd.2];simp only [Option.bind_some,req,Qav,s1,s2];rw [decide_eq_true (by omega),decide_eq_true (by omega),decide_eq_true (by omega),decide_eq_true (by omega),decide_eq_true (by omega),decide_eq_true (by omega),decide_eq_true (by omega),decide_eq_true (by omega),decide_eq_true (by omega),decide_eq_true (by omega)];simp only [cond_true];rw [←row_same];exact f11n2L_at a r _ _ (fun y hy=>h y (List.mem_cons_of_mem _ hy)) (by rw [Qav]; omega)
def shoS(r:Qd):ByteArray×Int:=bif decide (chkS r=0) then (rwsT (hdS r.From r.To r.Known) r.Rows,0) else (Qae,chkS r)
theorem hd_len{a b c:Int}(ha:i64 a)(hb:i64 b)(hc:i64 c):(hdS a b c).size≤200∧1≤(hdS a b c).size:=by
 have la:=Qbj ha.1 ha.2;have lb:=Qbj hb.1 hb.2;have lc:=Qbj hc.1 hc.2;have hr:Qao.size=6:=rfl;have hn:Qbh.size=1:=rfl;unfold hdS;rw [Qav,jn_size];have:tot [Qz a,Qz b,Qz c]=(Qz a).size+((Qz b).size+((Qz c).size+0)):=rfl;rw [this];simp only [List.length_cons,List.length_nil];omega
theorem rws_size:∀(l:List RW)(b:ByteArray),b.size≤(rwsT b l).size
 | [],b=>Nat.le_refl _
 | x::r,b=>by
  have:=rws_size r (scat b (rwT x));rw [Qav] at this;rw [rwsT]; omega
theorem f10_eq{r:Qd}(hl:r.Rows.length≤100)(hs:∀x∈r.Rows,Sz x)(h1:i64 r.From)(h2:i64 r.To)(h3:i64 r.Known):f10 r=some (shoS r):=by
 unfold f10 f10n0 shoS;rw [f15_eq (by omega)];simp only [Option.bind_some];cases decide (chkS r=0) with
 | false=>rfl
 | true =>
  have hh:=hd_len h1 h2 h3;rw [cond_true,cond_true,f30r1_eq h1 h2 h3];simp only [Option.bind_some];unfold f10n1;rw [f10n2_run _ _ (Qbi (by omega)),f10n2L_at _ _ _ _ hs (by omega)];simp only [Option.bind_some];have e:wg34 (rwsT (hdS r.From r.To r.Known) r.Rows)=some (rwsT (hdS r.From r.To r.Known) r.Rows):=by
   unfold wg34;have:=rws_size r.Rows (hdS r.From r.To r.Known);rw [decide_eq_true (by omega)]; rfl
  rw [e]; rfl
theorem hd_same(a b c:ByteArray):scat (jn Qao [a,b,c]) Qbh=scat (scat (scat (scat (scat (scat Qq a) Ql) b) Ql) c) (sOf [10]):=by
 have h1:sOf [10]=Qbh:=rfl;have h2:Qq=scat Qao Ql:=by decide
 rw [h1,h2];simp only [jn,scat_assoc]
theorem f11_eq{r:Qd}(hl:r.Rows.length≤100)(hs:∀x∈r.Rows,Sz x)(h1:i64 r.From)(h2:i64 r.To)(h3:i64 r.Known):f11 r=some (shoS r):=by
 unfold f11 f11n0 shoS;rw [f16_eq (by omega)];simp only [Option.bind_some];cases decide (chkS r=0) with
 | false=>rfl
 | true =>
  have hh:=hd_len h1 h2 h3;have la:=Qbj h1.1 h1.2;have lb:=Qbj h2.1 h2.2;have lc:=Qbj h3.1 h3.2;have s1:Ql.size=1:=rfl;have s2:(sOf [10]).size=1:=rfl;have s3:Qq.size=7:=rfl;rw [cond_true,cond_true,f35_eq h1.1 h1.2,f35_eq h2.1 h2.2,f35_eq h3.1 h3.2];simp only [Option.bind_some,req,Qav,s1,s2,s3];rw [decide_eq_true (by omega),decide_eq_true (by omega),decide_eq_true (by omega),decide_eq_true (by omega),decide_eq_true (by omega),decide_eq_true (by omega)];simp only [cond_true];unfold f11n1;rw [←hd_same,f11n2_run _ _ (Qbi (by omega))];show (((f11n2L r r.Rows (hdS r.From r.To r.Known) 0).bind _).bind _).bind _=_;rw [f11n2L_at _ _ _ _ hs (by omega)]; rfl

theorem f9n2L_at(a:Qd):∀(l:List RW)(v:Int),(f9n2L a l v=some .exit0∧∀x∈l,x.Account.size≤300∧x.Ccy.size≤300)∨f9n2L a l v=some .ret
 | [],v=>.inl ⟨rfl,by simp⟩
 | x::r,v=>by
  rw [f9n2L]
  by_cases h1:300<(x.Account.size:Int)
  ·rw [decide_eq_true h1]; exact .inr rfl
  ·by_cases h2:300<(x.Ccy.size:Int)
   ·rw [decide_eq_false h1,decide_eq_true h2]; exact .inr rfl
   ·rw [decide_eq_false h1,decide_eq_false h2];rcases f9n2L_at a r (v+1) with ⟨e,k⟩ | e
    ·refine .inl ⟨e,fun y hy=>?_⟩;rcases List.mem_cons.1 hy with rfl | hy
     ·omega
     ·exact k y hy
    ·exact .inr e
theorem f9_at{a:Qd}(h:a.Rows.length≤maxLen):f9 a=some true∨(f9 a=some false∧a.Rows.length≤100∧∀x∈a.Rows,x.Account.size≤300∧x.Ccy.size≤300):=by
 unfold f9 f9n0
 by_cases h1:100<(a.Rows.length:Int)
 ·rw [decide_eq_true h1]; exact .inl rfl
 ·rw [decide_eq_false h1,cond_false];unfold f9n1;rw [f9n2_run _ h];rcases f9n2L_at a a.Rows 0 with ⟨e,k⟩ | e
  ·rw [e]; exact .inr ⟨rfl,by omega,k⟩
  ·rw [e]; exact .inl rfl
theorem f3n4_at(bi:Bool)(a:Qd)(bk:List RW):∀(m f k:Nat)(l:List RW),l.length=k+m→m<f→k+m≤100000→f3n4 f bi a bk (k:Int) l=some .exit0
 | _,0,_,_,_,h,_=>absurd h (Nat.not_lt_zero _)
 | 0,f+1,k,l,hl,_,_=>by
  rw [f3n4,decide_eq_false (by omega)]; rfl
 | m+1,f+1,k,l,hl,hf,hk=>by
  have hlt:k<l.length:=by omega
  rw [f3n4,decide_eq_true (by omega),cond_true,(dropAt (List.drop_eq_getElem_cons hlt)).1];simp only [Option.bind_some];rw [wrSucc (by omega)];exact f3n4_at bi a bk m f (k+1) _ (by rw [List.length_set]; omega) (by omega) (by omega)
theorem okI{n:Int}(h:okInt .i64 n):i64 n:=okInt.i64 h
theorem cha_len{a b:Qd}(ha:a.Rows.length≤100)(hb:b.Rows.length≤100):(chaS a b).2.length≤200:=by
 unfold chaS;cases decide (chkS a=0) with
 | false=>simp
 | true =>
  cases decide (chkS b=0) with
  | false=>simp
  | true =>
   cases decide (a.From=b.From)&&decide (a.To=b.To) with
   | false=>simp
   | true =>
    show (chgS a.Rows b.Rows).length≤200;unfold chgS;have h1:=List.length_filter_le nzR (allW (allW [] b.Rows) (a.Rows.map negR));have h2:=allW_len (a.Rows.map negR) (allW [] b.Rows);have h3:=allW_len b.Rows [];rw [List.length_map] at h2;simp only [List.length_nil] at h3;omega
theorem lawShows(a b:Qd)(oka:Qd.ok a)(okb:Qd.ok b):f3 a b=some true:=by
 unfold f3 f3n0;rcases f9_at oka.2.2.2.1.1 with e | ⟨e,la,na⟩
 ·rw [e]; rfl
 ·rw [e];simp only [Option.bind_some,cond_false];rcases f9_at okb.2.2.2.1.1 with e | ⟨e,lb,nb⟩
  ·rw [e]; rfl
  ·rw [e];simp only [Option.bind_some,cond_false];have e1:f3n1 a b=some (.norm b.Rows):=by
    unfold f3n1;cases hb':b.Rows with
    | nil=>rfl
    | cons x r =>
     rw [hb'] at lb;show (bif false then _ else _)=_;rw [cond_false,req,Qas (by omega) (by omega)]; rfl
   have sa:∀x∈a.Rows,Sz x:=fun x hx=>by
    have:=oka.2.2.2.1.2 x hx;exact ⟨⟨(okI this.2.2.1).1,(okI this.2.2.1).2,(okI this.2.2.2.1).1,(okI this.2.2.2.1).2⟩,na x hx⟩
   have rb:∀x∈b.Rows,Rg64 x:=fun x hx=>by
    have:=okb.2.2.2.1.2 x hx;exact ⟨(okI this.2.2.1).1,(okI this.2.2.1).2,(okI this.2.2.2.1).1,(okI this.2.2.2.1).2⟩
   rw [e1];simp only [Option.bind_some];rw [f10_eq la sa (okI oka.1) (okI oka.2.1) (okI oka.2.2.1),f11_eq la sa (okI oka.1) (okI oka.2.1) (okI oka.2.2.1),f12r1_eq (by omega) (by omega) rb,f13_eq (by omega) (by omega)];simp only [Option.bind_some];have hcl:=cha_len (a:=a) (b:=b) la lb;have e2:f3n2 (shoS a) (shoS a) (chaS a b) ((chaS a b).2,(chaS a b).1) a b b.Rows=some (.norm true):=by
    unfold f3n2;rw [seq_refl,f14_eq (Qbi (by omega)),rowsB_iff.2 rfl,f15_eq (by omega),f16_eq (by omega)]
    simp
   rw [e2];simp only [Option.bind_some];unfold f3n3;have e3:=f3n4_at true b b.Rows (chaS a b).2.length FUEL 0 (chaS a b).2 (by omega) (Qaw (by omega)) (by omega);rw [show ((0:Nat):Int)=0 from rfl] at e3;rw [e3];simp only [Option.bind_some,cond_true];rw [f14_eq (Qbi (by omega)),rowsB_iff.2 rfl]; rfl
end Go.Proofs.YtfeklaffeigilaaDoor
