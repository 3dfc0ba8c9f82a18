/- Report: Between, and the law Tells. No condition. -/
import Derived.Test.YtfeklaffeigilaaRd
namespace Go.Proofs.Ytfeklaffeigilaa
set_option linter.unusedVariables false
set_option linter.unusedSimpArgs false
open Go.RowKit
theorem f21n2L_at(bc:List Qc):∀(l:List Qc)(v:Int),f21n2L bc l v=some .exit0∨f21n2L bc l v=some .ret
 | [],v=>.inl rfl
 | x::l,v=>by
  rw [f21n2L];cases decide (v≤40) with
  | false=>exact .inl rfl
  | true =>
   cases decide (300<(x.Account.size:Int)) with
   | true=>exact .inr rfl
   | false=>cases decide (300<(x.Ccy.size:Int)) with
    | true=>exact .inr rfl
    | false=>exact f21n2L_at bc l (v+1)
theorem f21_at{l:List Qc}(h:l.length≤maxLen):∃b,f21 l=some b∧(b=false→l.length≤40):=by
 unfold f21 f21n0 f21n1;rw [f21n2_run _ h];rcases f21n2L_at l l 0 with e | e<;>rw [e]
 ·exact ⟨decide (40<(l.length:Int)),rfl,fun h=>by have:=of_decide_eq_false h; omega⟩
 ·exact ⟨true,rfl,fun h=>by cases h⟩
def smR(r:Qa):Prop:=r.Lines.length≤40∧r.Text.size≤300
theorem f10n2L_at(j:Qj):∀(l:List Qa)(v:Nat),v+l.length≤30→(∀r∈l,Rk r)→(f10n2L j l v=some .exit0∧∀r∈l,smR r)∨f10n2L j l v=some .ret
 | [],v,_,_=>.inl ⟨rfl,by simp⟩
 | x::l,v,h,hk=>by
  rw [List.length_cons] at h;obtain ⟨b,e,hb⟩:=f21_at (hk x List.mem_cons_self).2.1;rw [f10n2L,decide_eq_true (by omega:(v:Int)≤220),cond_true,e];simp only [Option.bind_some];cases b with
  | true=>exact .inr rfl
  | false =>
   rw [cond_false]
   by_cases h3:300<(x.Text.size:Int)
   ·rw [decide_eq_true h3]; exact .inr rfl
   ·rw [decide_eq_false h3,cond_false];rcases f10n2L_at j l (v+1) (by omega) (fun r hr=>hk r (List.mem_cons_of_mem _ hr)) with ⟨k1,k2⟩ | k
    ·refine .inl ⟨k1,fun r hr=>?_⟩;rcases List.mem_cons.1 hr with rfl | hr
     ·exact ⟨hb rfl,by omega⟩
     ·exact k2 r hr
    ·exact .inr k
theorem f4_at{j:Qj}(h:Jk j):∃b,f4 j=some b∧(b=false→j.Records.length≤30∧∀r∈j.Records,smR r):=by
 unfold f4 f4n0
 by_cases h3:30<(j.Records.length:Int)
 ·rw [decide_eq_true h3]; exact ⟨true,rfl,fun h=>by cases h⟩
 ·rw [decide_eq_false h3,cond_false];unfold f10 f10n0 f10n1;rw [f10n2_run _ h.1];rcases f10n2L_at j j.Records 0 (by omega) h.2 with ⟨e,hs⟩ | e
  ·rw [show ((0:Nat):Int)=0 from rfl] at e;rw [e];refine ⟨false,?_,fun _=>⟨by omega,hs⟩⟩;simp only [Option.bind_some];rw [decide_eq_false (by omega:¬(220:Int)<(j.Records.length:Int))]
  ·rw [show ((0:Nat):Int)=0 from rfl] at e;rw [e];exact ⟨true,rfl,fun h=>by cases h⟩

theorem f61_eq(a:ByteArray):f61 a=some false:=by unfold f61 f61n0; simp [seq_refl]
theorem f37_eq(a b:ByteArray):f37 a b=some (cmpB a b):=by
 unfold f37 f37n0 cmpB;rw [f61_eq,f61_eq];simp only [Option.bind_some,cond_false];cases slt a b<;>cases seq a b<;>rfl
theorem f36_eq(x y:Int):f36 [x,y]=some (cmpOr x y):=by
 unfold f36 f36n0 f36n1 cmpOr;rw [f36n2_run [x,y] (maxSmall (by simp))]
 by_cases hx:x=0
 ·by_cases hy:y=0
  ·subst hx hy; rfl
  ·subst hx; simp only [f36n2L,decide_eq_false hy,decide_true,cond_true,cond_false,Option.bind_some]
 ·simp only [f36n2L,decide_eq_false hx,cond_false,Option.bind_some]
theorem f24_eq(a b:RW):f24 a b=some (rwC a b):=by
 unfold f24 f24n0;rw [f37_eq,f37_eq];simp only [Option.bind_some,f36_eq];rfl
theorem f28_eq(a b:RW):f28 a b=some (ltR a b):=by
 rw [←bef_lt];unfold f28 f28n0 befR;cases seq a.Account b.Account<;>rfl

theorem ltR_asym{a b:RW}(h:ltR a b=true):ltR b a=false:=swoR.asym h
theorem f16n2_done{bo:List RW}{k:Int}{z:RW}(hk:at? bo k=some z){y:RW}(hy:ltR y z=true){out:List RW}(hl:out.length≤999999):f16n2 bo true k y out=some (.norm true y (out++[z])):=by
 unfold f16n2 f16n3 f16n4 f16n5;rw [hk];simp only [cond_true,cond_false,Option.bind_some,f28_eq,hy,ltR_asym hy,req,fitSmall (show out.length+1≤1000000 by omega) (show 48≤1000000 by omega)]
theorem f16n2_lt{bo:List RW}{k:Int}{z:RW}(hk:at? bo k=some z){x:RW}(hx:ltR z x=true){out:List RW}(hl:out.length≤999999):f16n2 bo false k x out=some (.norm false x (out++[z])):=by
 unfold f16n2 f16n3 f16n4 f16n5;rw [hk];simp only [cond_true,cond_false,Option.bind_some,f28_eq,hx,req,fitSmall (show out.length+1≤1000000 by omega) (show 48≤1000000 by omega),Bool.not_true]
theorem f16n2_gt{bo:List RW}{k:Int}{z:RW}(hk:at? bo k=some z){x:RW}(hx:ltR x z=true){out:List RW}(hl:out.length≤999998):f16n2 bo false k x out=some (.norm true x (out++[x]++[z])):=by
 unfold f16n2 f16n3 f16n4 f16n5;rw [hk];simp only [cond_true,cond_false,Option.bind_some,f28_eq,hx,ltR_asym hx,req,fitSmall (show out.length+1≤1000000 by omega) (show 48≤1000000 by omega),Bool.not_false,List.length_append,List.length_singleton,fitSmall (show out.length+1+1≤1000000 by omega) (show 48≤1000000 by omega)]
theorem f16n2_eq{bo:List RW}{k:Int}{z:RW}(hk:at? bo k=some z){x:RW}(h1:ltR z x=false)(h2:ltR x z=false){out:List RW}(hl:out.length≤999998):f16n2 bo false k x out=some (.norm true (addR x z) (out++[addR x z])):=by
 have hs:=lt_tot h2 h1;have e1:ltR z (addR x z)=false:=by rw [lt_same_r (add_same x z)]; exact h1
 have e2:ltR (addR x z) z=false:=by rw [lt_same_l (add_same x z)]; exact h2
 unfold addR at *;unfold f16n2 f16n3 f16n4 f16n5;rw [hk];simp only [cond_true,cond_false,Option.bind_some,f28_eq,h1,h2,e1,e2,req,fitSmall (show out.length+1≤1000000 by omega) (show 48≤1000000 by omega),Bool.not_false]
theorem f16n6_done{bo:List RW}(hb:bo.length≤500000):∀(rest:List RW)(f k:Nat)(y:RW)(out:List RW),bo.drop k=rest→rest.length<f→(∀z∈rest,ltR y z=true)→out.length+rest.length≤999999→f16n6 f bo true (k:Int) y out=some (.exit0 true y (out++rest))
 | _,0,_,_,_,_,h,_,_=>absurd h (Nat.not_lt_zero _)
 | [],f+1,k,y,out,hd,_,_,_=>by
  have:=Qab hd;rw [f16n6,decide_eq_false (by omega),cond_false,List.append_nil]
 | z::r,f+1,k,y,out,hd,hf,hz,hl=>by
  obtain ⟨ha,hk,hd'⟩:=dropAt hd;rw [List.length_cons] at hl hf;rw [f16n6,decide_eq_true (by omega),cond_true,f16n2_done ha (hz z List.mem_cons_self) (by omega)];simp only [Option.bind_some];rw [wrSucc (by omega),f16n6_done hb r f (k+1) y _ hd' (by omega) (fun w hw=>hz w (List.mem_cons_of_mem _ hw)) (by rw [List.length_append,List.length_singleton]; omega),List.append_assoc]; rfl
theorem f16n6_at{bo:List RW}(hb:bo.length≤400000){x:RW} : ∀(rest:List RW)(f k:Nat)(out:List RW),bo.drop k=rest→rest.length<f→RwS rest→out.length+rest.length≤900000→∃d y o,f16n6 f bo false (k:Int) x out=some (.exit0 d y o)∧((d=true∧o=out++withR rest x)∨(d=false∧y=x∧o=out++rest∧withR rest x=rest++[x]))
 | _,0,_,_,_,h,_,_=>absurd h (Nat.not_lt_zero _)
 | [],f+1,k,out,hd,_,_,_=>by
  have:=Qab hd;rw [f16n6,decide_eq_false (by omega),cond_false];exact ⟨_,_,_,rfl,.inr ⟨rfl,rfl,by simp,rfl⟩⟩
 | z::r,f+1,k,out,hd,hf,hs,hl=>by
  obtain ⟨ha,hk,hd'⟩:=dropAt hd;have hs':=List.pairwise_cons.1 hs;rw [List.length_cons] at hl hf;rw [f16n6,decide_eq_true (by omega),cond_true,withR];cases h1:ltR z x with
  | true =>
   rw [f16n2_lt ha h1 (by omega)];simp only [Option.bind_some,cond_true];rw [wrSucc (by omega)];obtain ⟨d,y,o,e,h⟩:=f16n6_at (x:=x) hb r f (k+1) (out++[z]) hd' (by omega) hs'.2 (by rw [List.length_append,List.length_singleton]; omega);refine ⟨d,y,o,e,?_⟩;rcases h with ⟨h,k⟩|⟨h,k1,k2,k3⟩
   ·exact .inl ⟨h,by rw [k,List.append_assoc]; rfl⟩
   ·exact .inr ⟨h,k1,by rw [k2,List.append_assoc]; rfl,by rw [k3]; rfl⟩
  | false =>
   rw [cond_false];cases h2:ltR x z with
   | true =>
    rw [f16n2_gt ha h2 (by omega)];simp only [Option.bind_some,cond_true];rw [wrSucc (by omega),f16n6_done (by omega) r f (k+1) x _ hd' (by omega) (fun w hw=>swoR.tr h2 (hs'.1 w hw)) (by simp only [List.length_append,List.length_singleton]; omega)];exact ⟨_,_,_,rfl,.inl ⟨rfl,by simp⟩⟩
   | false =>
    rw [f16n2_eq ha h1 h2 (by omega)];simp only [Option.bind_some,cond_false];have hsm:=lt_tot h2 h1;rw [wrSucc (by omega),f16n6_done (by omega) r f (k+1) (addR x z) _ hd' (by omega) (fun w hw=>by
     rw [lt_same_l (add_same x z),lt_same_l hsm]; exact hs'.1 w hw) (by simp only [List.length_append,List.length_singleton]; omega)]
    exact ⟨_,_,_,rfl,.inl ⟨rfl,by simp⟩⟩
theorem f16_eq{l:List RW}(hs:RwS l)(hl:l.length≤400000)(x:RW):f16 l x=some (withR l x):=by
 obtain ⟨d,y,o,e,h⟩:=f16n6_at (x:=x) hl l FUEL 0 [] rfl (Qar (by omega)) hs (by simp; omega);rw [show ((0:Nat):Int)=0 from rfl] at e;unfold f16 f16n0 f16n1;rw [e];rcases h with ⟨hd,ho⟩|⟨hd,hy,ho,k⟩<;>rw [hd,ho]
 ·rfl
 ·simp only [Option.bind_some,cond_false,List.nil_append,req];rw [fitSmall (by omega) (by omega),cond_true,k,hy]; rfl

def nzR(x:RW):Bool:=!(decide (x.In=0)&&decide (x.Out=0))
theorem f14r1n2_at(m:TB_):∀(p:TB_)(out:List RW),(∀x∈p,nzR x.2=true)→out.length+p.length≤1000000→Qbr m p out=some (.exit0 (out++p.map Prod.snd))
 | [],out,_,_=>by rw [Qbr,List.map_nil,List.append_nil]
 | x::p,out,h,hl=>by
  rw [List.length_cons] at hl;have hx:=h x List.mem_cons_self;have ih:=f14r1n2_at m p (out++[x.2]) (fun y hy=>h y (List.mem_cons_of_mem _ hy)) (by rw [List.length_append,List.length_singleton]; omega);rw [List.append_assoc] at ih;unfold nzR at hx;rw [Qbr,ih,req,fitSmall (by omega) (by omega),cond_true]
  revert hx
  cases decide (x.2.In=0)<;>cases decide (x.2.Out=0)<;>intro hx<;>first | rfl | cases hx
theorem tr_perm{m:TB_}{l:List RW}(T:TR m l):(m.map Prod.snd).Perm l:=by
 refine (List.perm_ext_iff_of_nodup ?_ ?_).2 fun z=>?_
 ·refine List.pairwise_map.2 (T.nd.imp_of_mem fun {a b} ha hb h e=>h ?_);rw [T.key a ha,T.key b hb,e]
 ·exact T.sr.imp fun {a b} h e=>by rw [e,swoR.irr] at h; cases h
 ·rw [T.mem z,List.mem_map]
  constructor
  ·rintro ⟨q,hq,rfl⟩; exact ⟨q.1,hq⟩
  ·rintro ⟨k,hk⟩; exact ⟨(k,z),hk,rfl⟩
theorem f14r1_eq{m:TB_}{l:List RW}(T:TR m l)(hn:∀x∈l,nzR x=true)(hl:l.length≤1000000):f14r1 m=some l:=by
 have hml:m.length=l.length:=by rw [←(tr_perm T).length_eq,List.length_map]
 have key:anyOrder m (fun p=>(f14r1n1 m p).bind fun o38=>match o38 with
   | .norm v40=>(so23_24 v40).bind fun x43=>some (.ret x43))=some (f14r1n0O.ret l):=by
  refine anyOrder_of fun p hp=>?_;have hpl:(p.map Prod.snd).Perm l:=(hp.map _).trans (tr_perm T);unfold f14r1n1;rw [f14r1n2_at m p [] (fun x hx=>hn _ ((hpl.mem_iff).1 (List.mem_map_of_mem hx))) (by rw [hp.length_eq,hml]; simpa using hl)];simp only [Option.bind_some,List.nil_append];rw [so23_24_val f24_eq rwC_cmp.SWO (by rw [hpl.length_eq]; omega)];have hperm:=(sortL_perm rwC_cmp.SWO (p.map Prod.snd)).trans hpl;have hsd:Sd ltR l:=T.sr.imp fun {x y} k=>swoR.asym k;have hne:l.Pairwise fun x y=>eqv ltR x y=false:=T.sr.imp fun {x y} k=>by unfold eqv; rw [k]; rfl
  have:sortL rwC (p.map Prod.snd)=l:=(sorted_one swoR hsd (sortL_sorted rwC_cmp.SWO _) (Cl.of_perm hperm hne swoR)).symm;rw [this]; rfl
 unfold f14r1 f14r1n0;rw [key]; rfl

def rowL(x:Qc):RW:=bif decide (x.Amount<0) then ⟨x.Account,x.Ccy,0,wr64 (0-x.Amount)⟩ else ⟨x.Account,x.Ccy,x.Amount,0⟩
theorem mxI_le{a b:Int}(h:a≤b):mxI a b=b:=by
 unfold mxI
 by_cases k:a<b
 ·rw [decide_eq_true k]; rfl
 ·rw [decide_eq_false k,cond_false]; omega
theorem mxI_ge{a b:Int}(h:b≤a):mxI a b=a:=by
 unfold mxI;rw [decide_eq_false (by omega)]; rfl
theorem row_tab{x:Qc}(h:Qby x.Amount=true):(⟨x.Account,x.Ccy,mxI x.Amount 0,mxI (wr64 (0-x.Amount)) 0⟩:RW)=rowL x:=by
 unfold Qby at h;rw [Bool.and_eq_true,decide_eq_true_eq,decide_eq_true_eq] at h;unfold rowL;rw [wrIn (n:=0-x.Amount) (by omega) (by omega)]
 by_cases hn:x.Amount<0
 ·rw [decide_eq_true hn,cond_true,mxI_le (by omega),mxI_ge (by omega)]
 ·rw [decide_eq_false hn,cond_false,mxI_ge (by omega),mxI_le (by omega)]
def Pz(B:Int)(z:RW):Prop:=0≤z.In∧z.In≤B∧0≤z.Out∧z.Out≤B∧0<z.In+z.Out
theorem row_p{x:Qc}(h:Qby x.Amount=true)(h0:x.Amount≠0):Pz 1125899906842624 (rowL x):=by
 unfold Qby at h;rw [Bool.and_eq_true,decide_eq_true_eq,decide_eq_true_eq] at h;unfold rowL Pz;rw [wrIn (n:=0-x.Amount) (by omega) (by omega)]
 by_cases hn:x.Amount<0
 ·rw [decide_eq_true hn,cond_true]; simp only []; omega
 ·rw [decide_eq_false hn,cond_false]; simp only []; omega
def okL(x:Qc):Prop:=Qby x.Amount=true∧x.Amount≠0
theorem with_p{B:Int}(hB:B≤4611686018427387904){x:RW}(hx:Pz 1125899906842624 x){l:List RW}(hs:RwS l)(hl:∀z∈l,Pz B z)(h0:0≤B):∀z∈withR l x,Pz (B+1125899906842624) z:=by
 intro z hz;rcases (with_mem hs z).1 hz with ⟨k,_⟩ | rfl
 ·have:=hl z k;unfold Pz at *; omega
 ·unfold getR
  split
  ·rename_i y hy;have:=hl y (List.mem_of_find?_eq_some hy);unfold Pz addR at *;rw [wrIn (n:=x.In+y.In) (by omega) (by omega),wrIn (n:=x.Out+y.Out) (by omega) (by omega)];simp only []; omega
  ·unfold Pz at *; omega
theorem with_len(l:List RW)(x:RW):(withR l x).length≤l.length+1:=by
 induction l with
 | nil=>simp [withR]
 | cons y r ih =>
  rw [withR];cases ltR y x with
  | true=>rw [cond_true,List.length_cons,List.length_cons]; omega
  | false =>
   rw [cond_false];cases ltR x y<;>simp
structure St_ (n:Nat) (m:TB_) (l:List RW):Prop where
 tr:TR m l
 p:∀z∈l,Pz (n*1125899906842624) z
 len:l.length≤n
theorem St_.nil:St_ 0 [] []:=⟨TR.nil,by simp,Nat.le_refl _⟩
theorem St_.add{n:Nat}{m:TB_}{l:List RW}(S:St_ n m l)(hn:n≤4000){x:Qc}(h:okL x):St_ (n+1) (addT m (rowL x)) (withR l (rowL x)):=by
 have hp:=row_p h.1 h.2;refine ⟨S.tr.add ?_ ?_,fun z hz=>?_,?_⟩
 ·unfold Pz at hp; omega
 ·unfold Pz at hp; omega
 ·have:=with_p (B:=n*1125899906842624) (by omega) hp S.tr.sr S.p (by omega) z hz;have e:((n+1:Nat):Int)*1125899906842624=n*1125899906842624+1125899906842624:=by omega
  rw [e]; exact this
 ·have:=with_len l (rowL x);have:=S.len;omega
def linT(m:TB_)(ls:List Qc):TB_:=ls.foldl (fun m x=>addT m (rowL x)) m
def linW(l:List RW)(ls:List Qc):List RW:=ls.foldl (fun l x=>withR l (rowL x)) l
theorem St_.lines:∀(ls:List Qc){n:Nat}{m:TB_}{l:List RW},St_ n m l→n+ls.length≤4000→(∀x∈ls,okL x)→St_ (n+ls.length) (linT m ls) (linW l ls)
 | [],_,_,_,S,_,_=>S
 | x::r,n,m,l,S,h,ho=>by
  rw [List.length_cons] at h;have:=St_.lines r (S.add (by omega) (ho x List.mem_cons_self)) (by omega) (fun y hy=>ho y (List.mem_cons_of_mem _ hy));rw [List.length_cons,show n+(r.length+1)=n+1+r.length by omega];exact this
theorem linT_app(m:TB_)(a b:List Qc):linT m (a++b)=linT (linT m a) b:=List.foldl_append
theorem linW_app(l:List RW)(a b:List Qc):linW l (a++b)=linW (linW l a) b:=List.foldl_append
theorem f13r2_eq(a b:ByteArray)(c d:Int)(m:TB_):f13r2 a b c d m=some ():=rfl
theorem f5n3L_at(from_ to_ kn:Int)(j:Qj)(i:Int)(r:Qa):∀(ls:List Qc)(v:Int)(m:TB_),(∀x∈ls,okL x)→f5n3L from_ to_ kn j i r ls v m=some (.exit2 (linT m ls))
 | [],_,_,_=>rfl
 | x::ls,v,m,h=>by
  rw [f5n3L,f13r2_eq];simp only [Option.bind_some];rw [f5n3L_at from_ to_ kn j i r ls _ _ (fun y hy=>h y (List.mem_cons_of_mem _ hy))];show some (f5n3O.exit2 (linT (addT m ⟨x.Account,x.Ccy,mxI x.Amount 0,mxI (wr64 (0-x.Amount)) 0⟩) ls))=some (.exit2 (linT (addT m (rowL x)) ls));rw [row_tab (h x List.mem_cons_self).1]
theorem f6n3_at{from_ to_ kn i:Int}{j:Qj}{r:Qa}(hr:at? j.Records i=some r)(hl:r.Lines.length≤1000):∀(ls:List Qc)(f k n:Nat)(m:TB_)(rep:Qm),r.Lines.drop k=ls→ls.length<f→St_ n m rep.Rows→n+ls.length≤4000→(∀x∈ls,okL x)→f6n3 f from_ to_ kn i j (k:Int) rep=some (.exit2 ⟨rep.From,rep.To,rep.Known,linW rep.Rows ls⟩)
 | _,0,_,_,_,_,_,h,_,_,_=>absurd h (Nat.not_lt_zero _)
 | [],f+1,k,n,m,rep,hd,_,_,_,_=>by
  have:=Qab hd;rw [f6n3,hr];simp only [Option.bind_some];rw [decide_eq_false (by omega),cond_false]; rfl
 | x::ls,f+1,k,n,m,rep,hd,hf,S,hn,ho=>by
  obtain ⟨ha,hk,hd'⟩:=dropAt hd;rw [List.length_cons] at hn hf;have hx:=ho x List.mem_cons_self;have ih:=f6n3_at (from_:=from_) (to_:=to_) (kn:=kn) hr hl ls f (k+1) (n+1) (addT m (rowL x)) ⟨rep.From,rep.To,rep.Known,withR rep.Rows (rowL x)⟩ hd' (by omega) (S.add (by omega) hx) (by omega) (fun y hy=>ho y (List.mem_cons_of_mem _ hy));have hlen:=S.len;rw [f6n3,hr];simp only [Option.bind_some];rw [decide_eq_true (by omega),cond_true,ha];simp only [Option.bind_some];rw [f16_eq S.tr.sr (by omega),f16_eq S.tr.sr (by omega)];simp only [Option.bind_some];rw [wrSucc (by omega)];show _=some (f6n3O.exit2 ⟨rep.From,rep.To,rep.Known,linW (withR rep.Rows (rowL x)) ls⟩);rw [←ih];unfold rowL;cases decide (x.Amount<0)<;>rfl

noncomputable def dayR(r:Qa):Int:=(f9 r).getD 0
theorem f9_eq{r:Qa}(h:r.Text.size≤1000):f9 r=some (dayR r):=by
 obtain ⟨d,_,e⟩:=day_eq h;unfold dayR; rw [e]; rfl
theorem f8_eq{r:Qa}(h:r.Text.size≤1000):f8 r=some (dayR r):=by
 obtain ⟨d,e1,e⟩:=day_eq h;unfold dayR; rw [e,e1]; rfl
noncomputable def selR(a b:Int)(r:Qa):List Qc:=bif decide (dayR r<a) then [] else bif decide (b≤dayR r) then [] else r.Lines
noncomputable def selL(a b:Int):List Qa→List Qc
 | []=>[]
 | r::l=>selR a b r++selL a b l
def okR(r:Qa):Prop:=r.Text.size≤300∧r.Lines.length≤20∧∀x∈r.Lines,okL x
theorem selR_ok{a b:Int}{r:Qa}(h:okR r):(selR a b r).length≤20∧∀x∈selR a b r,okL x:=by
 unfold selR;cases decide (dayR r<a) with
 | true=>simp
 | false=>cases decide (b≤dayR r) with
  | true=>simp
  | false=>exact ⟨h.2.1,h.2.2⟩
theorem f5n2_eq{a b kn i:Int}{j:Qj}{r:Qa} (hr:at? ((j.Records.take (Int.toNat kn)).drop 0) i=some r) (ho:okR r) (m:TB_):f5n2 a b kn j i m=some (.norm (linT m (selR a b r))):=by
 unfold f5n2 selR;rw [hr];simp only [Option.bind_some];rw [f8_eq (by have:=ho.1; omega)];simp only [Option.bind_some];rw [f5n3_run _ _ _ _ _ _ _ (maxSmall (by have:=ho.2.1; omega)),f5n3L_at a b kn j i r r.Lines 0 m ho.2.2];cases decide (dayR r<a) with
 | true=>rfl
 | false=>cases decide (b≤dayR r)<;>rfl
theorem f6n2_eq{a b kn i:Int}{j:Qj}{r:Qa}(hr:at? j.Records i=some r)(ho:okR r){n:Nat}{m:TB_}{rep:Qm}(S:St_ n m rep.Rows)(hn:n≤3000):f6n2 a b kn i j rep=some (.norm ⟨rep.From,rep.To,rep.Known,linW rep.Rows (selR a b r)⟩):=by
 unfold f6n2 selR;rw [hr];simp only [Option.bind_some];rw [f9_eq (by have:=ho.1; omega)];simp only [Option.bind_some];have:=f6n3_at (from_:=a) (to_:=b) (kn:=kn) hr (by have:=ho.2.1; omega) r.Lines FUEL 0 n m rep rfl (Qar (by have:=ho.2.1; omega)) S (by have:=ho.2.1; omega) ho.2.2;rw [show ((0:Nat):Int)=0 from rfl] at this;rw [this];cases decide (dayR r<a) with
 | true=>rfl
 | false=>cases decide (b≤dayR r)<;>rfl
theorem f5n4_at{a b:Int}{q:Nat}{j:Qj}(hq:j.Records.length≤1000):∀(l:List Qa)(f k:Nat)(m:TB_),(j.Records.take q).drop k=l→l.length<f→(∀r∈l,okR r)→f5n4 f a b (q:Int) j (k:Int) m=some (.exit0 (linT m (selL a b l)))
 | _,0,_,_,_,h,_=>absurd h (Nat.not_lt_zero _)
 | [],f+1,k,m,hd,_,_=>by
  have:=Qab hd;rw [f5n4,List.drop_zero,Int.toNat_natCast,decide_eq_false (by omega),cond_false]; rfl
 | r::l,f+1,k,m,hd,hf,ho=>by
  obtain ⟨ha,hk,hd'⟩:=dropAt hd;rw [List.length_cons] at hf;have hlen:(j.Records.take q).length≤1000:=by rw [List.length_take]; omega
  rw [f5n4,List.drop_zero,Int.toNat_natCast,decide_eq_true (by omega),cond_true,f5n2_eq (r:=r) (by rw [List.drop_zero,Int.toNat_natCast]; exact ha) (ho r List.mem_cons_self)];simp only [Option.bind_some];rw [wrSucc (by omega),f5n4_at hq l f (k+1) _ hd' (by omega) (fun y hy=>ho y (List.mem_cons_of_mem _ hy)),selL,linT_app]
theorem f6n4_at{a b:Int}{q:Nat}{j:Qj}(hq:j.Records.length≤1000)(hql:q≤j.Records.length):∀(l:List Qa)(f k n:Nat)(m:TB_)(rep:Qm),(j.Records.take q).drop k=l→l.length<f→k≤q→(∀r∈l,okR r)→St_ n m rep.Rows→n+20*l.length≤3000→f6n4 f a b (q:Int) j (k:Int) rep=some (.exit0 ⟨rep.From,rep.To,rep.Known,linW rep.Rows (selL a b l)⟩)
 | _,0,_,_,_,_,_,h,_,_,_,_=>absurd h (Nat.not_lt_zero _)
 | [],f+1,k,n,m,rep,hd,_,hkq,_,_,_=>by
  have:=Qab hd;rw [List.length_take] at this;rw [f6n4,decide_eq_false (by omega),cond_false]; rfl
 | r::l,f+1,k,n,m,rep,hd,hf,hkq,ho,S,hn=>by
  obtain ⟨ha,hk,hd'⟩:=dropAt hd;rw [List.length_cons] at hf hn;rw [List.length_take] at hk;have ha':at? j.Records (k:Int)=some r:=by
   rw [Qbt,List.getElem?_take] at ha;rw [Qbt,←ha,if_pos (by omega)]
  have hr:=ho r List.mem_cons_self;have hsel:=selR_ok (a:=a) (b:=b) hr;rw [f6n4,decide_eq_true (by omega),cond_true,f6n2_eq ha' hr S (by omega)];simp only [Option.bind_some];rw [wrSucc (by omega),f6n4_at hq hql l f (k+1) _ _ ⟨rep.From,rep.To,rep.Known,linW rep.Rows (selR a b r)⟩ hd' (by omega) (by omega) (fun y hy=>ho y (List.mem_cons_of_mem _ hy)) (S.lines (selR a b r) (by omega) hsel.2) (by omega),selL,linW_app]
theorem sel_ok{a b:Int} : ∀{l:List Qa},(∀r∈l,okR r)→(selL a b l).length≤20*l.length∧∀x∈selL a b l,okL x
 | [],_=>by simp [selL]
 | r::l,h=>by
  have h1:=selR_ok (a:=a) (b:=b) (h r List.mem_cons_self);have h2:=sel_ok (a:=a) (b:=b) (l:=l) fun y hy=>h y (List.mem_cons_of_mem _ hy);rw [selL,List.length_append,List.length_cons];refine ⟨by omega,fun x hx=>?_⟩;rcases List.mem_append.1 hx with k | k
  ·exact h1.2 x k
  ·exact h2.2 x k
theorem open_formed:∀(l:List Qa)(d m:Int)(b:Bal),(openL l d m b).1=true→∀r∈l,formedB r=true
 | [],_,_,_,_=>by simp
 | r::l,d,m,b,h=>by
  rw [openL] at h;cases ha:(addS r d m b).1 with
  | false=>rw [ha] at h; cases h
  | true =>
   rw [ha,cond_true] at h;intro x hx;rcases List.mem_cons.1 hx with rfl | hx
   ·exact (add_true ha).2.1
   ·exact open_formed l _ _ _ h x hx
theorem formed_ok{r:Qa}(h:formedB r=true):okR r:=by
 obtain ⟨_,_,h1,_,h2,h3⟩:=formed_small h;refine ⟨by omega,h2,fun x hx=>?_⟩;have:=List.any_eq_false.1 h3 x hx;unfold badL at this;simp only [Bool.or_eq_true,not_or,Bool.not_eq_true,Bool.not_eq_false',decide_eq_false_iff_not] at this;exact ⟨this.2.2.2,this.2.2.1⟩

theorem f17n2L_at(b2:List RW):∀(l:List RW)(v:Nat),b2.drop v=l→f17n2L b2 b2 l (v:Int)=some .exit0
 | [],_,_=>rfl
 | x::r,v,hd=>by
  obtain ⟨ha,hk,hd'⟩:=dropAt hd;have:Qb.eqb x x=true:=by unfold Qb.eqb; simp [seq_refl]
  rw [f17n2L,ha];simp only [Option.bind_some,this,cond_true];exact f17n2L_at b2 r (v+1) hd'
theorem f7_self{r:Qm}(h:r.Rows.length≤maxLen):f7 r r=some true:=by
 unfold f7 f7n0 f17 f17n0 f17n1;rw [f17n2_run _ _ h];have:=f17n2L_at r.Rows r.Rows 0 rfl;rw [show ((0:Nat):Int)=0 from rfl] at this;rw [this]
 simp

theorem f12_eq(a b:Int):f12 a b=some (decide (0≤a)&&(decide (a≤b)&&decide (b≤100000))):=by
 unfold f12 f12n0;cases decide (0≤a)<;>cases decide (a≤b)<;>rfl
theorem between_eq{j:Qj}(hj:Jk j)(hl:j.Records.length≤30)(hs:∀r∈j.Records,smR r)(a b kn:Int):∃rep e,f5 j a b kn=some (rep,e)∧f6 j a b kn=some (rep,e)∧rep.Rows.length≤1000000:=by
 unfold f5 f5n0 f6 f6n0;rw [f11_eq hj,f15_eq hj hl (fun r hr=>by have:=(hs r hr).1; omega),f12_eq,ltNot a 0,ltNot b a,ltNot 100000 b];cases ho:(openS j).1 with
 | false=>exact ⟨_,_,rfl,rfl,by simp⟩
 | true =>
  simp only [cond_true,Option.bind_some,decide_true];cases decide (0≤a) with
  | false=>exact ⟨_,_,rfl,rfl,by simp⟩
  | true =>
   cases decide (a≤b) with
   | false=>exact ⟨_,_,rfl,rfl,by simp⟩
   | true =>
    cases decide (b≤100000) with
    | false=>exact ⟨_,_,rfl,rfl,by simp⟩
    | true =>
     simp only [Bool.and_self,cond_true,Bool.not_true,cond_false]
     by_cases h0:kn<0
     ·rw [decide_eq_true h0]; exact ⟨_,_,rfl,rfl,by simp⟩
     ·rw [decide_eq_false h0,cond_false,cond_false]
      by_cases h1:(j.Records.length:Int)<kn
      ·rw [decide_eq_true h1]; exact ⟨_,_,rfl,rfl,by simp⟩
      ·rw [decide_eq_false h1,cond_false,cond_false];obtain ⟨q,rfl⟩:∃q:Nat,kn=(q:Int):=⟨kn.toNat,by omega⟩;have hok:∀r∈j.Records,okR r:=fun r hr=>by
        unfold openS at ho;rw [decide_eq_false (by omega:¬200<j.Records.length),cond_false] at ho;exact formed_ok (open_formed _ _ _ _ ho r hr)
       have hokq:∀r∈j.Records.take q,okR r:=fun r hr=>hok r (List.mem_of_mem_take hr);have hql:(j.Records.take q).length≤30:=by rw [List.length_take]; omega
       have e5:=f5n4_at (a:=a) (b:=b) (q:=q) (j:=j) (by omega) (j.Records.take q) FUEL 0 [] rfl (Qar (by omega)) hokq;have e6:=f6n4_at (a:=a) (b:=b) (q:=q) (j:=j) (by omega) (by omega) (j.Records.take q) FUEL 0 0 [] ⟨a,b,q,[]⟩ rfl (Qar (by omega)) (by omega) hokq St_.nil (by omega);have hsel:=sel_ok (a:=a) (b:=b) hokq;have S:=St_.nil.lines (selL a b (j.Records.take q)) (by omega) hsel.2;rw [show ((0:Nat):Int)=0 from rfl] at e5 e6;have hc:cutB 0 (q:Int) j.Records.length=true:=by simp only [cutB,decide_eq_true_eq]; omega
       unfold f5n1 f6n1;rw [hc,req,cond_true,e5,e6];simp only [Option.bind_some];have hlen:=S.len;rw [f14r1_eq S.tr (fun x hx=>by
        have:=S.p x hx;unfold Pz at this;unfold nzR
        by_cases hi:x.In=0
        ·rw [decide_eq_true hi,decide_eq_false (by omega)]; rfl
        ·rw [decide_eq_false hi]; rfl) (by omega)]
       exact ⟨_,_,rfl,rfl,by show (linW [] _).length≤_; omega⟩
theorem lawTells{P Q R:Prop}(j:Qj)(a b kn:Int)(x:Qa)(ok:Qj.ok j)(_:P)(_:Q)(_:R)(_:Qa.ok x):f3 j a b kn x=some true:=by
 have hj:Jk j:=⟨ok.1.1,fun r hr=>by
  have:=ok.1.2 r hr;exact ⟨this.2.1,this.2.2.1.1,fun y hy=>⟨(this.2.2.1.2 y hy).1,(this.2.2.1.2 y hy).2.1⟩⟩⟩
 obtain ⟨g,e,hg⟩:=f4_at hj;unfold f3 f3n0;rw [e];simp only [Option.bind_some];cases g with
 | true=>rfl
 | false =>
  obtain ⟨h30,hs⟩:=hg rfl;rw [cond_false]
  by_cases h3:300<(x.Text.size:Int)
  ·rw [decide_eq_true h3]; rfl
  ·rw [decide_eq_false h3,cond_false];obtain ⟨rep,er,e5,e6,hl⟩:=between_eq hj h30 hs a b kn;rw [e5,e6];simp only [Option.bind_some];rw [f7_self (maxSmall hl),f8_eq (by omega),f9_eq (by omega)]
   simp
end Go.Proofs.Ytfeklaffeigilaa
