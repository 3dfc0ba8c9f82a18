/- Several texts in one. No condition. -/
import Derived.Test.YtfeklaffeigilaaDoorReN
import Derived.KernelRfl
namespace Go.Proofs.YtfeklaffeigilaaDoor
set_option linter.unusedVariables false
set_option linter.unusedSimpArgs false
set_option maxRecDepth 100000
open Go.RowKit
def exL(n:Int):List Qc:=[⟨str_Ann,Qaw,n⟩,⟨str_Bob,Qaw,0-n⟩]
def exJ:Qj:=⟨[⟨10,Qay,exL 5⟩,⟨12,Qk,exL (-2)⟩,⟨12,Qcp,exL 1⟩]⟩
theorem ex_26:f26=some (exJ,true):=by kernel_rfl
theorem ex_Jk:Jk exJ:=by
 have h:∀r∈exJ.Records,r.Text.size≤1000000∧r.Lines.length≤1000000∧∀x∈r.Lines,x.Account.size≤1000000∧x.Ccy.size≤1000000:=by
  intro r hr;simp only [exJ,List.mem_cons,List.not_mem_nil,or_false] at hr;rcases hr with rfl | rfl | rfl<;>refine ⟨by decide,by decide,fun x hx=>?_⟩<;>simp only [exL,List.mem_cons,List.not_mem_nil,or_false] at hx<;>rcases hx with rfl | rfl<;>exact ⟨by decide,by decide⟩
 exact ⟨Qbr (by decide),fun r hr=>⟨Qbr (h r hr).1,Qbr (h r hr).2.1,fun x hx=>⟨Qbr ((h r hr).2.2 x hx).1,Qbr ((h r hr).2.2 x hx).2⟩⟩⟩
def exR(a b:Int):List RW:=[⟨str_Ann,Qaw,a,b⟩,⟨str_Bob,Qaw,b,a⟩]
theorem ex_1:betS exJ 10 11 1=(⟨10,11,1,exR 5 0⟩,0):=by kernel_rfl
theorem ex_3:betS exJ 10 11 3=(⟨10,11,3,exR 5 2⟩,0):=by kernel_rfl
theorem ex_show:f10 ⟨10,11,3,exR 5 2⟩=some (Qu,0):=by kernel_rfl
theorem alive_t:f17=some true:=by
 unfold f17 f17n0 f28 f28n0 f27 f27n0;rw [ex_26];simp only [Option.bind_some];rw [f21_eq ex_Jk (by decide),f21_eq ex_Jk (by decide),ex_1,ex_3];simp only [Option.bind_some,ex_show,cond_true]
 kernel_rfl
end Go.Proofs.YtfeklaffeigilaaDoor
namespace Go.Proofs.YtfeklaffeigilaaDoor
set_option linter.unusedVariables false
set_option linter.unusedSimpArgs false
open Go.RowKit
def gd1(p:Option RW)(i o:Int)(x:RW):Bool:=nmB x.Account&&(nmB x.Ccy&&((match p with | none=>true | some y=>decide (rwC y x<0))&&(decide (0≤x.In)&&(decide (0≤x.Out)&&(!(decide (x.In=0)&&decide (x.Out=0))&&(decide (x.In≤4503599627370496000-i)&&decide (x.Out≤4503599627370496000-o)))))))
def goodL:Option RW→Int→Int→List RW→Bool
 | _,_,_,[]=>true
 | p,i,o,x::r=>gd1 p i o x&&goodL (some x) (i+x.In) (o+x.Out) r
def AtP(rows:List RW)(v:Nat)(p:Option RW):Prop:=(v=0∧p=none)∨∃y,0<v∧at? rows ((v:Int)-1)=some y∧p=some y
theorem AtP.zero(rows:List RW):AtP rows 0 none:=.inl ⟨rfl,rfl⟩
theorem AtP.succ{rows:List RW}{v:Nat}{x:RW}(h:at? rows (v:Int)=some x):AtP rows (v+1) (some x):=.inr ⟨x,Nat.succ_pos _,by rw [show ((v+1:Nat):Int)-1=v by omega]; exact h,rfl⟩
theorem f15n4_eq{i o:Int}(hi:0≤i∧i≤4503599627370496000)(ho:0≤o∧o≤4503599627370496000){v:Nat}(hv:v≤1000000){a:Qh}{p:Option RW}(hp:AtP a.Rows v p)(g:List (ByteArray×Int))(x:RW):f15n4 i o (v:Int) a g x=some (.norm (!gd1 p i o x)):=by
 unfold f15n4 gd1;rw [f40_eq,f40_eq,wrIn (n:=4503599627370496000-i) (by omega) (by omega),wrIn (n:=4503599627370496000-o) (by omega) (by omega),ltNot x.In 0,ltNot x.Out 0,ltNot (4503599627370496000-i) x.In,ltNot (4503599627370496000-o) x.Out];simp only [Option.bind_some];cases nmB x.Account with
 | false=>rfl
 | true =>
  cases nmB x.Ccy with
  | false=>rfl
  | true =>
   rcases hp with ⟨rfl,rfl⟩|⟨y,h0,ha,rfl⟩
   ·rw [decide_eq_false (by omega:¬0<((0:Nat):Int))];cases decide (0≤x.In)<;>cases decide (0≤x.Out)<;>cases decide (x.In=0)<;>cases decide (x.Out=0)<;>cases decide (x.In≤4503599627370496000-i)<;>cases decide (x.Out≤4503599627370496000-o)<;>rfl
   ·rw [decide_eq_true (by omega:0<(v:Int)),wrIn (n:=(v:Int)-1) (by omega) (by omega),ha];simp only [Option.bind_some,f41_eq];rw [ltNot (rwC y x) 0];cases decide (0≤rwC y x)<;>cases decide (0≤x.In)<;>cases decide (0≤x.Out)<;>cases decide (x.In=0)<;>cases decide (x.Out=0)<;>cases decide (x.In≤4503599627370496000-i)<;>cases decide (x.Out≤4503599627370496000-o)<;>rfl
def tl(x:RW):Qc:=⟨x.Account,x.Ccy,wr64 (x.In-x.Out)⟩
theorem gd_in{p:Option RW}{i o:Int}{x:RW}(h:gd1 p i o x=true):0≤x.In∧x.In≤4503599627370496000-i∧0≤x.Out∧x.Out≤4503599627370496000-o:=by
 unfold gd1 at h;simp only [Bool.and_eq_true,decide_eq_true_eq] at h;exact ⟨h.2.2.2.1,h.2.2.2.2.2.2.1,h.2.2.2.2.1,h.2.2.2.2.2.2.2⟩
theorem f15n5_at{a:Qh}(ha:a.Rows.length≤900000):∀(l:List RW)(f v:Nat)(p:Option RW)(i o:Int)(m:List (ByteArray×Int)),a.Rows.drop v=l→l.length<f→AtP a.Rows v p→(0≤i∧i≤4503599627370496000)→(0≤o∧o≤4503599627370496000) →
  f15n5 f a i o (v:Int) m=some (bif goodL p i o l then .exit0 (sumsL (l.map tl) m) else .ret)
 | _,0,_,_,_,_,_,_,h,_,_,_=>absurd h (Nat.not_lt_zero _)
 | [],f+1,v,p,i,o,m,hd,_,_,_,_=>by
  have:=Qbj hd;rw [f15n5,decide_eq_false (by omega),cond_false]; rfl
 | x::r,f+1,v,p,i,o,m,hd,hf,hp,hi,ho=>by
  obtain ⟨h1,h2,h3⟩:=dropAt hd;rw [List.length_cons] at hf;rw [f15n5,decide_eq_true (by omega),cond_true];unfold f15n2 f15n3;rw [h1];simp only [Option.bind_some];rw [f15n4_eq hi ho (by omega) hp,goodL];simp only [Option.bind_some];cases hg:gd1 p i o x with
  | false=>rfl
  | true =>
   have:=gd_in hg;simp only [Bool.not_true,cond_false,Option.bind_some,Bool.true_and];rw [wrIn (n:=i+x.In) (by omega) (by omega),wrIn (n:=o+x.Out) (by omega) (by omega),wrSucc (by omega)];rw [f15n5_at ha r f (v+1) (some x) _ _ _ h3 (by omega) (AtP.succ h1) (by omega) (by omega)];rfl
def zeroC(l:List RW):Bool:=balB ⟨0,⟨#[]⟩,l.map tl⟩
theorem f15n7_eq(be:List (ByteArray×Int)):∀l:List (ByteArray×Int),f15n7 be l=some (bif l.all (fun x=>decide (x.2=0)) then .exit2 else .ret)
 | []=>rfl
 | x::r=>by
  rw [f15n7,f15n7_eq be r,List.all_cons];cases decide (x.2=0)<;>rfl
def chkS(r:Qh):Int :=
 bif decide (0≤r.From)&&(decide (r.From≤r.To)&&decide (r.To≤100000)) then
  bif decide (0≤r.Known)&&decide (r.Known≤200) then
   bif goodL none 0 0 r.Rows then bif zeroC r.Rows then 0 else 60 else 8
  else 8
 else 8
theorem f15_eq{r:Qh}(h:r.Rows.length≤900000):f15 r=some (chkS r):=by
 unfold f15 f15n0 chkS;rw [f39_eq];simp only [Option.bind_some];cases decide (0≤r.From)&&(decide (r.From≤r.To)&&decide (r.To≤100000)) with
 | false=>rfl
 | true =>
  rw [cond_true,cond_true,ltNot r.Known 0,ltNot 200 r.Known];cases decide (0≤r.Known) with
  | false=>rfl
  | true =>
   cases decide (r.Known≤200) with
   | false=>rfl
   | true =>
    have e:=f15n5_at h r.Rows FUEL 0 none 0 0 [] rfl (fuelSmall (by omega)) (AtP.zero _) (by omega) (by omega);rw [show ((0:Nat):Int)=0 from rfl] at e;unfold f15n1;rw [e];simp only [Bool.not_true,cond_false,Bool.and_self,cond_true];cases goodL none 0 0 r.Rows with
    | false=>rfl
    | true =>
     simp only [cond_true,Option.bind_some];unfold f15n6;have hp:∀p,p.Perm (sumsL (r.Rows.map tl) [])→f15n7 (sumsL (r.Rows.map tl) []) p=some (bif zeroC r.Rows then .exit2 else .ret):=fun p hp=>by
      rw [f15n7_eq,hp.all_eq]; rfl
     rw [anyOrder_of hp];cases zeroC r.Rows<;>rfl
end Go.Proofs.YtfeklaffeigilaaDoor
namespace Go.Proofs.YtfeklaffeigilaaDoor
set_option linter.unusedVariables false
set_option linter.unusedSimpArgs false
open Go.RowKit
def negR(x:RW):RW:=⟨x.Account,x.Ccy,wr64 (0-x.In),wr64 (0-x.Out)⟩
def allT(m:TB_)(l:List RW):TB_:=l.foldl addT m
def allW(m l:List RW):List RW:=l.foldl withR m
def Rg64(z:RW):Prop:=-9223372036854775808≤z.In∧z.In≤9223372036854775807∧-9223372036854775808≤z.Out∧z.Out≤9223372036854775807
theorem TR.all:∀(xs:List RW){m:TB_}{l:List RW},TR m l→(∀x∈xs,Rg64 x)→TR (allT m xs) (allW l xs)
 | [],_,_,T,_=>T
 | x::r,m,l,T,h=>by
  obtain ⟨h1,h2,h3,h4⟩:=h x List.mem_cons_self;exact TR.all r (T.add ⟨h1,h2⟩ ⟨h3,h4⟩) fun y hy=>h y (List.mem_cons_of_mem _ hy)
theorem neg_rg(x:RW):Rg64 (negR x):=by
 have a:=wr_rng (0-x.In);have b:=wr_rng (0-x.Out);exact ⟨a.1,a.2,b.1,b.2⟩
theorem f37r1n2_fl(m:TB_):∀(p:TB_)(out:List RW),out.length+p.length≤1000000→Qbs m p out=some (.exit0 (out++(p.map Prod.snd).filter nzR))
 | [],out,_=>by rw [Qbs,List.map_nil,List.filter_nil,List.append_nil]
 | x::p,out,hl=>by
  rw [List.length_cons] at hl;have ih:=f37r1n2_fl m p (out++[x.2]) (by rw [List.length_append,List.length_singleton]; omega);have ih2:=f37r1n2_fl m p out (by omega);rw [List.append_assoc] at ih;rw [Qbs,ih,ih2,req,fitSmall (by omega) (by omega),cond_true,List.map_cons,List.filter_cons];unfold nzR;cases decide (x.2.In=0)<;>cases decide (x.2.Out=0)<;>rfl
theorem f37r1_fl{m:TB_}{l:List RW}(T:TR m l)(hl:l.length≤1000000):f37r1 m=some (l.filter nzR):=by
 have hml:m.length=l.length:=by rw [←(tr_perm T).length_eq,List.length_map]
 have key:anyOrder m (fun p=>(f37r1n1 m p).bind fun o38=>match o38 with
   | .norm v40=>(so59_41 v40).bind fun x43=>some (.ret x43))=some (f37r1n0O.ret (l.filter nzR)):=by
  refine anyOrder_of fun p hp=>?_;have hpl:(p.map Prod.snd).Perm l:=(hp.map _).trans (tr_perm T);have hpf:((p.map Prod.snd).filter nzR).Perm (l.filter nzR):=hpl.filter _;have hlen:(l.filter nzR).length≤l.length:=List.length_filter_le _ _;unfold f37r1n1;rw [f37r1n2_fl m p [] (by rw [hp.length_eq,hml]; simpa using hl)];simp only [Option.bind_some,List.nil_append];rw [so59_41_val f41_eq rwC_cmp.SWO (by rw [hpf.length_eq]; omega)];have hperm:=(sortL_perm rwC_cmp.SWO ((p.map Prod.snd).filter nzR)).trans hpf;have hsd:Sd ltR (l.filter nzR):=(T.sr.filter _).imp fun {x y} k=>swoR.asym k;have hne:(l.filter nzR).Pairwise fun x y=>eqv ltR x y=false:=(T.sr.filter _).imp fun {x y} k=>by unfold eqv; rw [k]; rfl
  have:sortL rwC ((p.map Prod.snd).filter nzR)=l.filter nzR:=(sorted_one swoR hsd (sortL_sorted rwC_cmp.SWO _) (Cl.of_perm hperm hne swoR)).symm;rw [this]; rfl
 unfold f37r1 f37r1n0;rw [key]; rfl
theorem allW_len:∀(xs l:List RW),(allW l xs).length≤l.length+xs.length
 | [],l=>Nat.le_refl _
 | x::r,l=>by
  have h1:=allW_len r (withR l x);have h2:=with_len l x;show (allW (withR l x) r).length≤_;rw [List.length_cons]; omega
def chgS(a b:List RW):List RW:=(allW (allW [] b) (a.map negR)).filter nzR
def chaS(a b:Qh):Int×List RW :=
 bif decide (chkS a=0) then bif decide (chkS b=0) then
  bif decide (a.From=b.From)&&decide (a.To=b.To) then (0,chgS a.Rows b.Rows) else (2,[])
 else (chkS b,[]) else (chkS a,[])
theorem chg_tr{a b:List RW}(hb:∀z∈b,Rg64 z):TR (allT (allT [] b) (a.map negR)) (allW (allW [] b) (a.map negR)) :=
 (TR.nil.all b hb).all _ fun x hx=>by
  obtain ⟨y,_,rfl⟩:=List.mem_map.1 hx;exact neg_rg y
theorem chg_fl{a b:List RW}(hb:∀z∈b,Rg64 z)(ha:a.length≤400000)(hb2:b.length≤400000):f37r1 (allT (allT [] b) (a.map negR))=some (chgS a b):=by
 refine f37r1_fl (chg_tr hb) ?_;have h1:=allW_len (a.map negR) (allW [] b);have h2:=allW_len b [];rw [List.length_map] at h1;simp only [List.length_nil] at h2;omega

theorem f12r2n2L_at(b a:Qh):∀(l:List RW)(v:Int)(m:TB_),f12r2n2L b a l v m=some (.exit0 (allT m l))
 | [],v,m=>rfl
 | x::r,v,m=>by
  rw [f12r2n2L,f36r2_eq];simp only [Option.bind_some];exact f12r2n2L_at b a r _ _
theorem f12r2n4L_at(a:Qh):∀(l:List RW)(v:Int)(m:TB_),f12r2n4L a l v m=some (.exit2 (allT m (l.map negR)))
 | [],v,m=>rfl
 | x::r,v,m=>by
  rw [f12r2n4L,f36r2_eq];simp only [Option.bind_some];exact f12r2n4L_at a r _ _
theorem f12r2_eq{a b:Qh}(ha:a.Rows.length≤400000)(hb:b.Rows.length≤400000)(hr:∀z∈b.Rows,Rg64 z):f12r2 a b=some (chaS a b):=by
 unfold f12r2 f12r2n0 chaS;rw [f15_eq (by omega),f15_eq (by omega)];simp only [Option.bind_some];cases decide (chkS a=0) with
 | false=>rfl
 | true =>
  cases decide (chkS b=0) with
  | false=>rfl
  | true =>
   cases decide (a.From=b.From) with
   | false=>rfl
   | true =>
    cases decide (a.To=b.To) with
    | false=>rfl
    | true =>
     simp only [cond_true];unfold f12r2n1 f12r2n3;rw [f12r2n2_run _ _ _ (Qbr (by omega)),f12r2n2L_at];simp only [Option.bind_some];rw [f12r2n4_run _ _ (Qbr (by omega)),f12r2n4L_at];simp only [Option.bind_some];rw [chg_fl hr ha hb]; rfl
end Go.Proofs.YtfeklaffeigilaaDoor
namespace Go.Proofs.YtfeklaffeigilaaDoor
set_option linter.unusedVariables false
set_option linter.unusedSimpArgs false
set_option maxRecDepth 100000
open Go.RowKit
theorem n_1:betS exJ 11 10 0=(⟨0,0,0,[]⟩,2):=by kernel_rfl
theorem n_2:betS exJ (-1) 10 0=(⟨0,0,0,[]⟩,2):=by kernel_rfl
theorem n_3:betS exJ 0 100001 0=(⟨0,0,0,[]⟩,2):=by kernel_rfl
theorem n_4:betS exJ 0 1 4=(⟨0,0,0,[]⟩,2):=by kernel_rfl
theorem n_5:betS exJ 0 1 (-1)=(⟨0,0,0,[]⟩,2):=by kernel_rfl
def exZ:Qj:=⟨[⟨0,Qy,[]⟩]⟩
theorem exZ_Jk:Jk exZ:=by
 refine ⟨Qbr (by decide),fun r hr=>?_⟩;rw [List.mem_singleton.1 hr];exact ⟨Qbr (by decide),Qbr (by decide),fun x hx=>by cases hx⟩
theorem n_6:betS exZ (-1) 0 0=(⟨0,0,0,[]⟩,8):=by kernel_rfl
theorem n_7:betS exJ 0 100000 2=(⟨0,100000,2,exR 5 2⟩,0):=by kernel_rfl
theorem n_8:betS exJ 0 100000 3=(⟨0,100000,3,exR 6 2⟩,0):=by kernel_rfl
theorem n_9:betS exJ 12 13 3=(⟨12,13,3,exR 1 0⟩,0):=by kernel_rfl
theorem n_10:betS exJ 11 12 3=(⟨11,12,3,[]⟩,0):=by kernel_rfl
theorem n_11:chaS ⟨0,100000,2,exR 5 2⟩ ⟨0,100000,3,exR 6 2⟩=(0,exR 1 0):=by kernel_rfl
theorem n_12:chaS ⟨0,100000,3,exR 6 2⟩ ⟨0,100000,2,exR 5 2⟩=(0,exR (-1) 0):=by kernel_rfl
theorem days(a b c d e f:Qh×Int)(g:Qj×Bool):f7n1 a b c d e f g=some (.norm true):=by kernel_rfl
theorem bad8{r:Qh}(hl:r.Rows.length≤100)(h:chkS r=8):f10 r=some (Qy,8)∧f12r1 0 r=some (8,[])∧f15 r=some 8:=by
 have e:=f15_eq (r:=r) (by omega);rw [h] at e;have e0:f15 ⟨0,0,0,[]⟩=some 0:=by
  rw [f15_eq (by decide)]; rfl
 refine ⟨?_,?_,e⟩
 ·unfold f10 f10n0; rw [e]; rfl
 ·unfold f12r1 f12r1n0; rw [e0,e]; rfl
def badR:List Qh:=[(Qh.mk 1 0 0 []),(Qh.mk (-1) 1 0 []),(Qh.mk 0 100001 0 []),(Qh.mk 0 0 201 []),(Qh.mk 0 0 (-1) []),(Qh.mk 0 0 0 [(Qa.mk Qay Qao 0 0)]),(Qh.mk 0 0 0 [(Qa.mk Qay Qao (-1) 1)]),(Qh.mk 0 0 0 [(Qa.mk Qcp Qao 1 0),(Qa.mk Qay Qao 0 1)]),(Qh.mk 0 0 0 [(Qa.mk Qy Qao 1 1)]),(Qh.mk 0 0 0 [(Qa.mk Qay Qao 4503599627370496001 1)]),(Qh.mk 0 0 0 [(Qa.mk Qay Qao 4503599627370496000 1),(Qa.mk Qcp Qao 1 4503599627370496000)])]
theorem badR_len:(badR.all fun r=>Nat.ble r.Rows.length 100)=true:=by kernel_rfl
theorem badR_chk:(badR.all fun r=>decide (chkS r=8))=true:=by kernel_rfl
theorem f7n3_at(a b c d e f:Qh×Int)(g:Bool)(h:Qj×Bool):∀(l:List Qh)(u v:Nat),badR.drop v=l→l.length<u→f7n3 u a b c d e f g h true (v:Int)=some (.exit0 true)
 | _,0,_,_,k=>absurd k (Nat.not_lt_zero _)
 | [],u+1,v,hd,_=>by
  have:=Qbj hd;have hn:badR.length=11:=rfl;rw [f7n3,decide_eq_false (by omega),cond_false]
 | x::r,u+1,v,hd,hf=>by
  obtain ⟨h1,h2,h3⟩:=dropAt hd;have hn:badR.length=11:=rfl;have hx:x∈badR:=List.mem_of_mem_drop (i:=v) (by rw [hd]; exact List.mem_cons_self);obtain ⟨e1,e2,e3⟩:=bad8 (Nat.le_of_ble_eq_true (List.all_eq_true.1 badR_len x hx)) (of_decide_eq_true (List.all_eq_true.1 badR_chk x hx));rw [List.length_cons] at hf;rw [f7n3,decide_eq_true (by omega),cond_true];show ((at? badR (v:Int)).bind _)=_;rw [h1];simp only [Option.bind_some];rw [e1,e2,e3];simp only [Option.bind_some,decide_true,cond_true];rw [wrSucc (by omega)];exact f7n3_at a b c d e f g h r u (v+1) h3 (by omega)
theorem n_13:f12r3 0 1 2=some (2,[]):=by
 have e1:f15 ⟨0,1,0,[]⟩=some 0:=by rw [f15_eq (by decide)]; rfl
 have e2:f15 ⟨0,2,0,[]⟩=some 0:=by rw [f15_eq (by decide)]; rfl
 unfold f12r3 f12r3n0; rw [e1,e2]; rfl
theorem n_14:f10 ⟨0,0,0,[]⟩=some (Qbk,0):=by kernel_rfl
theorem n_15:f15 ⟨0,0,0,[⟨Qay,Qao,2,0⟩,⟨Qcp,str_F,0,2⟩]⟩=some 60:=by
 rw [f15_eq (by decide)]; kernel_rfl
theorem rg_ex{a b:Int}(h:-100≤a∧a≤100∧-100≤b∧b≤100):∀z∈exR a b,Rg64 z:=fun z hz=>by
 unfold exR at hz;simp only [List.mem_cons,List.not_mem_nil,or_false] at hz;unfold Rg64;rcases hz with rfl | rfl
 ·show -9223372036854775808≤a∧a≤9223372036854775807∧-9223372036854775808≤b∧b≤9223372036854775807;omega
 ·show -9223372036854775808≤b∧b≤9223372036854775807∧-9223372036854775808≤a∧a≤9223372036854775807;omega
theorem n_16:f12r2 ⟨0,100000,2,exR 5 2⟩ ⟨0,100000,3,exR 6 2⟩=some (0,exR 1 0):=by
 rw [f12r2_eq (by decide) (by decide) (rg_ex (by omega)),n_11]
theorem n_17:f12r2 ⟨0,100000,3,exR 6 2⟩ ⟨0,100000,2,exR 5 2⟩=some (0,exR (-1) 0):=by
 rw [f12r2_eq (by decide) (by decide) (rg_ex (by omega)),n_12]
theorem n_18:f27 1 0=some (exR 1 0):=by kernel_rfl
theorem n_19:f27 (-1) 0=some (exR (-1) 0):=by kernel_rfl
theorem n_20:f14 (exR 1 0) (exR 1 0)=some true:=by kernel_rfl
theorem n_21:f14 (exR (-1) 0) (exR (-1) 0)=some true:=by kernel_rfl
theorem n_22:f28 exJ 12 13 3 (exR 1 0)=some true:=by
 unfold f28 f28n0;rw [f21_eq ex_Jk (by decide),n_9]
 kernel_rfl
theorem n_23:f28 exJ 11 12 3 []=some true:=by
 unfold f28 f28n0;rw [f21_eq ex_Jk (by decide),n_10]
 kernel_rfl
theorem n_24(a b c d e f:Qh×Int)(g:Bool)(h:Qj×Bool):f7n2 a b c d e f g h=some (.norm true):=by
 unfold f7n2;have:=f7n3_at a b c d e f g h badR FUEL 0 rfl (fuelSmall (by decide));rw [show ((0:Nat):Int)=0 from rfl] at this;rw [this]; rfl
theorem lawNames:f7=some true:=by
 unfold f7 f7n0;rw [ex_26];simp only [Option.bind_some];rw [f21_eq ex_Jk (by decide),f21_eq ex_Jk (by decide),f21_eq ex_Jk (by decide),f21_eq ex_Jk (by decide),f21_eq ex_Jk (by decide),f21_eq ex_Jk (by decide),f21_eq ex_Jk (by decide),n_1,n_2,n_3,n_4,n_5,n_7,n_8];simp only [Option.bind_some];have e6:=f21_eq exZ_Jk (by decide) (-1) 0 0;rw [n_6] at e6;unfold exZ at e6;rw [e6];simp only [Option.bind_some,days,n_24,n_13,n_14,n_15,n_16,n_17,n_18,n_19,n_20,n_21,n_22,n_23,alive_t,decide_true,cond_true,seq_refl]
end Go.Proofs.YtfeklaffeigilaaDoor
